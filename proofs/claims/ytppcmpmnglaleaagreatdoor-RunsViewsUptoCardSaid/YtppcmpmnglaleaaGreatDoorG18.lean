/- Texts that stand one behind the other: Pm0, Pm1, Pm2, Pm3, Pm4, Pm5, Pm6, Pm7, Pm8. -/
import Derived.Test.YtppcmpmnglaleaaGreatDoorG17
set_option linter.unusedVariables false
set_option linter.unusedSimpArgs false
namespace Go.Proofs.YtppcmpmnglaleaaGreatDoor.A.P
open Go Go.RowKit
def I6:Value→Bool
 | .bool _| .int _ _| .string _| .pointer _| .slice _ _ _| .map _| .nilFunc| .nilIface=>true
 |_=>false
inductive PV where
 |v (x:Value)
 |ref (b o t:Nat)
 |sl (sz b o n c:Nat)
 |mp (b:Nat)
 |fs (sz:Nat) (rows:List (List PV))
 |fp (cells:List PV)
 |agg (cs:List PV)
 |fJ (cs:List PV)
 |fn (f:Nat) (first cap:List PV)
 |pK (t:Nat) (p:PV)
 |any
inductive PB where
 |cells (z:Nat) (cs:List PV)
 |map (es:List (Value×PV))
 |dead
abbrev PH:=List PB
structure Cx where
 F:Nat→Prop
 H:AH
 φ:Nat→Nat
 h:PH
mutual
inductive RF (F:Nat→Prop) (H:AH):PV→Value→Prop
 |v (x:Value):RF F H (.v x) x
 |fs {sz:Nat} {rows:List (List PV)} {a:Option Addr} {c:Nat} {rs:List (List Value)}:Rows H sz (.slice a rows.length c) rs→rows.length≤c→(∀d,a=some d→(d.spot=none∨c=0)∧(rows.length=0∨(F d.block∧H.jm d.block sz=true)))→jB F H rows rs→RF F H (.fs sz rows) (.slice a rows.length c)
inductive fN (F:Nat→Prop) (H:AH):List PV→List Value→Prop
 |nil:fN F H [] []
 |cons {p:PV} {x:Value} {ps:List PV} {xs:List Value}:RF F H p x→fN F H ps xs→fN F H (p::ps) (x::xs)
inductive jB (F:Nat→Prop) (H:AH):List (List PV)→List (List Value)→Prop
 |nil:jB F H [] []
 |cons {p:List PV} {x:List Value} {ps:List (List PV)} {xs:List (List Value)}:fN F H p x→jB F H ps xs→jB F H (p::ps) (x::xs)
end
def At (h:PH) (b t:Nat):Prop:=∃z cs,h[b]?=some (.cells z cs)∧cs.length=t
def Le (h:PH) (b t:Nat):Prop:=∀z cs,h[b]?=some (.cells z cs)→t≤cs.length
def jk (h:PH) (b:Nat):Prop:=∃es,h[b]?=some (.map es)
def bo (h:PH) (b:Nat):Prop:=jk h b∨∃t,At h b (t+1)
def slV (a sz o n c:Nat) (x:Value):Prop:=(c=0∧n=0∧∃d:Option Addr,x= .slice d 0 0∧∀e,d=some e→e.spot=none)∨(0<c∧x= .slice (some ⟨a,o*sz,none⟩) n c)
def Wg (n:Nat) (x:Value):Prop:=∃a c,x= .slice a n c
theorem Wg.sm {n:Nat} {x:Value} (h:Wg n x):I6 x=true:=by
 obtain ⟨_,_,rfl⟩:=h
 rfl
mutual
inductive RV (C:Cx):PV→Value→Prop
 |v (x:Value):RV C (.v x) x
 |ref {b o t:Nat} {x:Value}:I6 x=true→b<C.h.length→Le C.h b t→(At C.h b t→x= .pointer (some ⟨C.φ b,o,none⟩))→RV C (.ref b o t) x
 |sl {sz b o n c:Nat} {x:Value}:Wg n x→b<C.h.length→Le C.h b ((o+c)*sz)→(At C.h b ((o+c)*sz)→slV (C.φ b) sz o n c x)→RV C (.sl sz b o n c) x
 |mp {b:Nat} {x:Value}:I6 x=true→b<C.h.length→(jk C.h b→x= .map (some (C.φ b)))→RV C (.mp b) x
 |fs {sz:Nat} {rows:List (List PV)} {x:Value}:RF C.F C.H (.fs sz rows) x→RV C (.fs sz rows) x
 |fp {cells:List PV} {b o:Nat} {vs:List Value}:C.F b→C.H.ldn ⟨b,o,none⟩ cells.length=some vs→fN C.F C.H cells vs→RV C (.fp cells) (.pointer (some ⟨b,o,none⟩))
 |agg {cs:List PV} {xs:List Value}:cx C cs xs→RV C (.agg cs) (.agg xs.toArray)
 |fJ {cs:List PV} {xs:List Value}:cx C cs xs→RV C (.fJ cs) (.tuple xs.toArray)
 |fn {f:Nat} {a b:List PV} {xs ys:List Value}:cx C a xs→cx C b ys→RV C (.fn f a b) (.func (.func f) xs.toArray ys.toArray)
 |pK {t:Nat} {p:PV} {x:Value}:RV C p x→RV C (.pK t p) (.iface t x)
 |any (x:Value):RV C .any x
inductive cx (C:Cx):List PV→List Value→Prop
 |nil:cx C [] []
 |cons {p:PV} {x:Value} {ps:List PV} {xs:List Value}:RV C p x→cx C ps xs→cx C (p::ps) (x::xs)
end
theorem cx.length {C:Cx}:∀{ps:List PV} {xs:List Value},cx C ps xs→ps.length=xs.length
 |_,_,.nil=>rfl
 |_,_,.cons _ h=>by simp [cx.length h]
theorem fN.length {F:Nat→Prop} {H:AH}:∀{ps:List PV} {xs:List Value},fN F H ps xs→ps.length=xs.length
 |_,_,.nil=>rfl
 |_,_,.cons _ h=>by simp [fN.length h]
theorem jB.length {F:Nat→Prop} {H:AH}:∀{ps:List (List PV)} {xs:List (List Value)},jB F H ps xs→ps.length=xs.length
 |_,_,.nil=>rfl
 |_,_,.cons _ h=>by simp [jB.length h]
structure dx (C:Cx):Prop where
 wf:C.H.n0≤C.H.nx
 fz:∀x,C.F x→x<C.H.nx
 inj:∀b b',bo C.h b→bo C.h b'→C.φ b=C.φ b'→b=b'
 aN:∀b z cs,C.h[b]?=some (.cells z cs)→cs≠[]→∃vs,C.H.get (C.φ b)=some (.cells z vs)∧cx C cs vs∧C.H.n0≤C.φ b∧¬ C.F (C.φ b)
 x7:∀b es,C.h[b]?=some (.map es)→∃ys,C.H.get (C.φ b)=some (.map ys)∧es.map (·.1)=ys.map (·.1)∧cx C (es.map (·.2)) (ys.map (·.2))∧C.H.n0≤C.φ b∧¬ C.F (C.φ b)
def im (C:Cx) (W:Nat→Prop) (x:Nat):Prop:=∃b,W b∧bo C.h b∧C.φ b=x
structure cH (n:Nat) (W:Nat→Prop) (C D:Cx):Prop where
 n0:D.H.n0=C.H.n0
 nx:C.H.nx≤D.H.nx
 fz:∀x,C.F x→D.F x∧D.H.get x=C.H.get x
 fo:∀x,x<C.H.nx→¬ im C (fun _=>True) x→D.F x→C.F x
 out:∀x,x<C.H.nx→¬ im C W x→D.H.get x=C.H.get x
 loc:∀b,bo D.h b→C.H.nx≤D.φ b∨(bo C.h b∧D.φ b=C.φ b)
 len:n≤C.h.length→n≤D.h.length
 le:∀b,b<n→b<C.h.length→∀t,Le C.h b t→Le D.h b t
 uE:∀b,b<n→b<C.h.length→∀t,Le C.h b t→At D.h b t→At C.h b t∧D.φ b=C.φ b
 vV:∀b,b<n→b<C.h.length→jk D.h b→jk C.h b∧D.φ b=C.φ b
theorem cH.mono {n m:Nat} {W V:Nat→Prop} {C D:Cx} (h:cH n W C D) (hm:m≤n) (hV:∀b,W b→V b) (hl:m≤C.h.length→m≤D.h.length):cH m V C D where
 n0:=h.n0
 nx:=h.nx
 fz:=h.fz
 fo:=h.fo
 out:=fun x hx k=>h.out x hx fun⟨b,hb,q⟩=>k ⟨b,hV b hb,q⟩
 loc:=h.loc
 len:=hl
 le:=fun b hb=>h.le b (Nat.lt_of_lt_of_le hb hm)
 uE:=fun b hb=>h.uE b (Nat.lt_of_lt_of_le hb hm)
 vV:=fun b hb=>h.vV b (Nat.lt_of_lt_of_le hb hm)
theorem im.lt {C:Cx} (S:dx C) {W:Nat→Prop} {x:Nat} (h:im C W x):x<C.H.nx:=by
 obtain ⟨b,_,hs,rfl⟩:=h
 rcases hs with⟨es,he⟩|⟨t,z,cs,he,ht⟩
 ·obtain ⟨_,hg,_⟩:=S.x7 b es he
  exact AH.aL hg
 ·obtain ⟨_,hg,_⟩:=S.aN b z cs he (by intro e;subst e;simp at ht)
  exact AH.aL hg
theorem cH.refl (n:Nat) (W:Nat→Prop) (C:Cx):cH n W C C where
 n0:=rfl
 nx:=alR _
 fz:=fun x hx=>⟨hx,rfl⟩
 fo:=fun _ _ _ h=>h
 out:=fun _ _ _=>rfl
 loc:=fun b hb=>.inr ⟨hb,rfl⟩
 len:=id
 le:=fun _ _ _ _ h=>h
 uE:=fun _ _ _ _ _ h=>⟨h,rfl⟩
 vV:=fun _ _ _ h=>⟨h,rfl⟩
theorem cH.trans {n:Nat} {V W U:Nat→Prop} {C D X:Cx} (h:cH n V C D) (k:cH n W D X) (hn:n≤C.h.length) (hV:∀b,V b→U b) (hW:∀b,W b→U b):cH n U C X where
 n0:=k.n0.trans h.n0
 nx:=Nat.le_trans h.nx k.nx
 fz:=fun x hx=>by
  obtain ⟨a,b⟩:=h.fz x hx
  obtain ⟨c,d⟩:=k.fz x a
  exact ⟨c,d.trans b⟩
 fo:=fun x hx hi hd=>by
  refine h.fo x hx hi (k.fo x (Nat.lt_of_lt_of_le hx h.nx) ?_ hd)
  rintro ⟨b,_,hs,rfl⟩
  rcases h.loc b hs with q|⟨q,e⟩
  ·omega
  ·exact hi ⟨b,trivial,q,e.symm⟩
 out:=fun x hx hi=>by
  have e:=h.out x hx fun⟨b,hb,q⟩=>hi ⟨b,hV b hb,q⟩
  rw [←e]
  refine k.out x (Nat.lt_of_lt_of_le hx h.nx) ?_
  rintro ⟨b,hb,hs,rfl⟩
  rcases h.loc b hs with q|⟨q,e⟩
  ·omega
  ·exact hi ⟨b,hW b hb,q,e.symm⟩
 loc:=fun b hb=>by
  rcases k.loc b hb with q|⟨hs,e⟩
  ·exact .inl (Nat.le_trans h.nx q)
  ·rcases h.loc b hs with q|⟨uy,e'⟩
   ·exact .inl (by omega)
   ·exact .inr ⟨uy,e.trans e'⟩
 len:=fun hl=>k.len (h.len hl)
 le:=fun b hb hl t ht=>k.le b hb (Nat.lt_of_lt_of_le hb (h.len hn)) t (h.le b hb hl t ht)
 uE:=fun b hb hl t ht ha=>by
  obtain ⟨a1,a2⟩:=k.uE b hb (Nat.lt_of_lt_of_le hb (h.len hn)) t (h.le b hb hl t ht) ha
  obtain ⟨c1,c2⟩:=h.uE b hb hl t ht a1
  exact ⟨c1,a2.trans c2⟩
 vV:=fun b hb hl ha=>by
  obtain ⟨a1,a2⟩:=k.vV b hb (Nat.lt_of_lt_of_le hb (h.len hn)) ha
  obtain ⟨c1,c2⟩:=h.vV b hb hl a1
  exact ⟨c1,a2.trans c2⟩
theorem ER {H H':AH} {b sz:Nat} (h:H'.get b=H.get b):H'.jm b sz=H.jm b sz:=by unfold AH.jm;rw [h]
section
variable{F F':Nat→Prop} {H H':AH} (n0:H'.n0=H.n0) (hF:∀x,F x→F' x∧H'.get x=H.get x)
theorem Rows.fz {sz:Nat} {a:Option Addr} {n c:Nat} {rs:List (List Value)} (n0:H'.n0=H.n0) (hF:∀x,F x→F' x∧H'.get x=H.get x) (h:Rows H sz (.slice a n c) rs) (k:∀d,a=some d→(d.spot=none∨c=0)∧(n=0∨(F d.block∧H.jm d.block sz=true))):Rows H' sz (.slice a n c) rs∧(∀d,a=some d→(d.spot=none∨c=0)∧(n=0∨(F' d.block∧H'.jm d.block sz=true))):=by
 obtain ⟨a',c',e,q⟩:=h.is
 cases e
 refine ⟨⟨_,_,rfl,fun i r hi=>?_⟩,fun d hd=>?_⟩
 ·obtain ⟨b,o,rfl,hl⟩:=q i r hi
  refine ⟨b,o,rfl,?_⟩
  rcases (k _ rfl).2 with h0|⟨hf,_⟩
  ·have:=(alT.1 hi).1;omega
  ·rw [←hl]
   exact dT (hF b hf).2 n0
 ·refine ⟨(k d hd).1,?_⟩
  rcases (k d hd).2 with h0|⟨hf,hz⟩
  ·exact .inl h0
  ·exact .inr ⟨(hF _ hf).1,by rw [ER (hF _ hf).2];exact hz⟩
mutual
theorem RF.mono (n0:H'.n0=H.n0) (hF:∀x,F x→F' x∧H'.get x=H.get x):∀{p:PV} {x:Value},RF F H p x→RF F' H' p x
 |_,_,.v x=>.v x
 |_,_,.fs hr hl hk qU=>let q:=Rows.fz n0 hF hr hk; .fs q.1 hl q.2 (jB.mono n0 hF qU)
theorem fN.mono (n0:H'.n0=H.n0) (hF:∀x,F x→F' x∧H'.get x=H.get x):∀{p:List PV} {x:List Value},fN F H p x→fN F' H' p x
 |_,_,.nil=>.nil
 |_,_,.cons a b=>.cons (RF.mono n0 hF a) (fN.mono n0 hF b)
theorem jB.mono (n0:H'.n0=H.n0) (hF:∀x,F x→F' x∧H'.get x=H.get x):∀{p:List (List PV)} {x:List (List Value)},jB F H p x→jB F' H' p x
 |_,_,.nil=>.nil
 |_,_,.cons a b=>.cons (fN.mono n0 hF a) (jB.mono n0 hF b)
end
end
mutual
theorem RV.step {W:Nat→Prop} {C D:Cx} (h:cH C.h.length W C D):∀{p:PV} {x:Value},RV C p x→RV D p x
 |_,_, .v x=> .v x
 |_,_, .ref h1 hb hl k=> .ref h1 (Nat.lt_of_lt_of_le hb (h.len (alR _))) (h.le _ hb hb _ hl) fun ha=>by
  obtain ⟨a1,a2⟩:=h.uE _ hb hb _ hl ha
  rw [a2];exact k a1
 |_,_, .sl h1 hb hl k=> .sl h1 (Nat.lt_of_lt_of_le hb (h.len (alR _))) (h.le _ hb hb _ hl) fun ha=>by
  obtain ⟨a1,a2⟩:=h.uE _ hb hb _ hl ha
  rw [a2];exact k a1
 |_,_, .mp h1 hb k=> .mp h1 (Nat.lt_of_lt_of_le hb (h.len (alR _))) fun ha=>by
  obtain ⟨a1,a2⟩:=h.vV _ hb hb ha
  rw [a2];exact k a1
 |_,_, .fs k=> .fs (k.mono h.n0 h.fz)
 |_,_, .fp hf hl k=> .fp (h.fz _ hf).1 (by rw [←hl];exact dT (h.fz _ hf).2 h.n0) (k.mono h.n0 h.fz)
 |_,_, .agg k=> .agg (cx.step h k)
 |_,_, .fJ k=> .fJ (cx.step h k)
 |_,_, .fn a b=> .fn (cx.step h a) (cx.step h b)
 |_,_, .pK a=> .pK (RV.step h a)
 |_,_, .any x=> .any x
theorem cx.step {W:Nat→Prop} {C D:Cx} (h:cH C.h.length W C D):∀{p:List PV} {x:List Value},cx C p x→cx D p x
 |_,_, .nil=> .nil
 |_,_, .cons a b=> .cons (RV.step h a) (cx.step h b)
end
theorem cx.get {C:Cx}:∀{ps:List PV} {xs:List Value},cx C ps xs→∀{i:Nat} {p:PV},ps[i]?=some p→∃x,xs[i]?=some x∧RV C p x
 |_,_,.nil,i,p,h=>by simp at h
 |_,_,.cons a b,0,p,h=>by simp at h;subst h;exact ⟨_,rfl,a⟩
 |_,_,.cons a b,i+1,p,h=>by simpa using cx.get b (by simpa using h)
theorem cx.drop {C:Cx}:∀{ps:List PV} {xs:List Value},cx C ps xs→∀n,cx C (ps.drop n) (xs.drop n)
 |_,_,.nil,n=>by simp;exact .nil
 |_,_,.cons a b,0=>.cons a b
 |_,_,.cons a b,n+1=>by simpa using cx.drop b n
theorem cx.take {C:Cx}:∀{ps:List PV} {xs:List Value},cx C ps xs→∀n,cx C (ps.take n) (xs.take n)
 |_,_,.nil,n=>by simp;exact .nil
 |_,_,.cons a b,0=>.nil
 |_,_,.cons a b,n+1=>by simpa using cx.cons a (cx.take b n)
theorem cx.append {C:Cx}:∀{ps:List PV} {xs:List Value} {qs:List PV} {ys:List Value},cx C ps xs→cx C qs ys→cx C (ps++qs) (xs++ys)
 |_,_,_,_,.nil,k=>k
 |_,_,_,_,.cons a b,k=>.cons a (cx.append b k)
theorem cx.lits {C:Cx}:∀(l:List Value),cx C (l.map .v) l
 |[]=>.nil
 |x::l=>.cons (.v x) (cx.lits l)
theorem cx.Tn {C:Cx} {ps:List PV} {xs:List Value} (h:cx C ps xs):∀n,cx C (List.replicate n ps).flatten (List.replicate n xs).flatten
 |0=>.nil
 |n+1=>by simpa [List.replicate_succ]using h.append (h.Tn n)
theorem fN.oR {C:Cx}:∀{ps:List PV} {xs:List Value},fN C.F C.H ps xs→cx C ps xs
 |_,_,.nil=>.nil
 |_,_,.cons (.v x) b=>.cons (.v x) (fN.oR b)
 |_,_,.cons (.fs a b c d) e=>.cons (.fs (.fs a b c d)) (fN.oR e)
theorem RF.oR {C:Cx}:∀{p:PV} {x:Value},RF C.F C.H p x→RV C p x
 |_,_,.v x=>.v x
 |_,_,.fs a b c d=>.fs (.fs a b c d)
theorem fN.drop {F:Nat→Prop} {H:AH}:∀{ps:List PV} {xs:List Value},fN F H ps xs→∀n,fN F H (ps.drop n) (xs.drop n)
 |_,_,.nil,n=>by simp;exact .nil
 |_,_,.cons a b,0=>.cons a b
 |_,_,.cons a b,n+1=>by simpa using fN.drop b n
theorem fN.take {F:Nat→Prop} {H:AH}:∀{ps:List PV} {xs:List Value},fN F H ps xs→∀n,fN F H (ps.take n) (xs.take n)
 |_,_,.nil,n=>by simp;exact .nil
 |_,_,.cons a b,0=>.nil
 |_,_,.cons a b,n+1=>by simpa using fN.cons a (fN.take b n)
theorem jB.get {F:Nat→Prop} {H:AH}:∀{ps:List (List PV)} {xs:List (List Value)},jB F H ps xs→∀{i:Nat} {p:List PV},ps[i]?=some p→∃x,xs[i]?=some x∧fN F H p x
 |_,_,.nil,i,p,h=>by simp at h
 |_,_,.cons a b,0,p,h=>by simp at h;subst h;exact ⟨_,rfl,a⟩
 |_,_,.cons a b,i+1,p,h=>by simpa using jB.get b (by simpa using h)
theorem jB.drop {F:Nat→Prop} {H:AH}:∀{ps:List (List PV)} {xs:List (List Value)},jB F H ps xs→∀n,jB F H (ps.drop n) (xs.drop n)
 |_,_,.nil,n=>by simp;exact .nil
 |_,_,.cons a b,0=>.cons a b
 |_,_,.cons a b,n+1=>by simpa using jB.drop b n
theorem jB.take {F:Nat→Prop} {H:AH}:∀{ps:List (List PV)} {xs:List (List Value)},jB F H ps xs→∀n,jB F H (ps.take n) (xs.take n)
 |_,_,.nil,n=>by simp;exact .nil
 |_,_,.cons a b,0=>.nil
 |_,_,.cons a b,n+1=>by simpa using jB.cons a (jB.take b n)
theorem jB.flat {F:Nat→Prop} {H:AH}:∀{ps:List (List PV)} {xs:List (List Value)},jB F H ps xs→fN F H ps.flatten xs.flatten
 |_,_,.nil=>.nil
 |_,_,.cons a b=>by
  have ap:∀{ps:List PV} {xs:List Value} {qs:List PV} {ys:List Value},fN F H ps xs→fN F H qs ys→fN F H (ps++qs) (xs++ys):=by
   intro ps xs qs ys h k
   induction ps generalizing xs with
   |nil=>cases h;exact k
   |cons p ps ih=>cases h with|cons a b=>exact .cons a (ih b)
  simpa using ap a (jB.flat b)
end Go.Proofs.YtppcmpmnglaleaaGreatDoor.A.P
namespace Go.Proofs.YtppcmpmnglaleaaGreatDoor.A.P
open Go Go.RowKit
theorem dZ {h h':PH} {b:Nat} (e:h'[b]?=h[b]?):bo h' b↔bo h b:=by unfold bo jk At;rw [e]
theorem qV {h h':PH} {b t:Nat} (e:h'[b]?=h[b]?):At h' b t↔At h b t:=by unfold At;rw [e]
theorem qW {h h':PH} {b t:Nat} (e:h'[b]?=h[b]?):Le h' b t↔Le h b t:=by unfold Le;rw [e]
theorem hU {h h':PH} {b:Nat} (e:h'[b]?=h[b]?):jk h' b↔jk h b:=by unfold jk;rw [e]
theorem bY {h:PH} {b z:Nat} {cs:List PV} (e:h[b]?=some (.cells z cs)) (hc:cs≠[]):bo h b:=by
 refine .inr ⟨cs.length- 1,z,cs,e,?_⟩
 have:=List.length_pos_iff.2 hc
 omega
theorem eG {h:PH} {b:Nat} {es:List (Value×PV)} (e:h[b]?=some (.map es)):bo h b:=.inl ⟨es,e⟩
theorem jl {h:PH} {b:Nat} (s:bo h b):(∃es,h[b]?=some (.map es))∨∃z cs,h[b]?=some (.cells z cs)∧cs≠[]:=by
 rcases s with⟨es,e⟩|⟨t,z,cs,e,ht⟩
 ·exact .inl ⟨es,e⟩
 ·exact .inr ⟨z,cs,e,by rintro rfl;simp at ht⟩
theorem bF {h:PH} {b:Nat} (s:bo h b):b<h.length:=by
 rcases jl s with⟨es,e⟩|⟨z,cs,e,_⟩<;>exact (alT.1 e).1
theorem dx.lt {C:Cx} (S:dx C) {b:Nat} (s:bo C.h b):C.φ b<C.H.nx:=im.lt S (W:=fun _=>True) ⟨b,trivial,s,rfl⟩
theorem dx.old {C:Cx} (S:dx C) {b:Nat} (s:bo C.h b):C.H.n0≤C.φ b∧¬ C.F (C.φ b):=by
 rcases jl s with⟨es,e⟩|⟨z,cs,e,hc⟩
 ·obtain ⟨_,_,_,_,a,b⟩:=S.x7 _ _ e;exact ⟨a,b⟩
 ·obtain ⟨_,_,_,a,b⟩:=S.aN _ _ _ e hc;exact ⟨a,b⟩
theorem dx.of {C D:Cx} {W:Nat→Prop} (S:dx C) (T:cH C.h.length W C D) (hF:D.F=C.F) (b0:Nat) (ho:∀b,b≠b0→D.h[b]?=C.h[b]?∧D.φ b=C.φ b)
 (hH:∀b,b≠b0→bo C.h b→D.H.get (C.φ b)=C.H.get (C.φ b)) (fw:∀b,b≠b0→bo C.h b→bo D.h b0→D.φ b0≠C.φ b)
 (hb:∀z cs,D.h[b0]?=some (.cells z cs)→cs≠[]→∃vs,D.H.get (D.φ b0)=some (.cells z vs)∧cx C cs vs∧D.H.n0≤D.φ b0∧¬ D.F (D.φ b0))
 (hm:∀es,D.h[b0]?=some (.map es)→∃ys,D.H.get (D.φ b0)=some (.map ys)∧es.map (·.1)=ys.map (·.1)∧cx C (es.map (·.2)) (ys.map (·.2))∧D.H.n0≤D.φ b0∧¬ D.F (D.φ b0)):dx D where
 wf:=by rw [T.n0];exact Nat.le_trans S.wf T.nx
 fz:=fun x hx=>Nat.lt_of_lt_of_le (S.fz x (hF▸hx)) T.nx
 inj:=fun b b' s s' e=>by
  by_cases h:b=b0
  ·by_cases h':b'=b0
   ·omega
   ·subst h
    have s2:=(dZ (ho _ h').1).1 s'
    rw [(ho _ h').2]at e
    exact absurd e (fw _ h' s2 s)
  ·by_cases h':b'=b0
   ·subst h'
    have s2:=(dZ (ho _ h).1).1 s
    rw [(ho _ h).2]at e
    exact absurd e.symm (fw _ h s2 s')
   ·rw [(ho _ h).2,(ho _ h').2]at e
    exact S.inj _ _ ((dZ (ho _ h).1).1 s) ((dZ (ho _ h').1).1 s') e
 aN:=fun b z cs e hc=>by
  by_cases h:b=b0
  ·subst h
   obtain ⟨vs,a,b,c⟩:=hb z cs e hc
   exact ⟨vs,a,b.step T,c⟩
  ·have e':=e
   rw [(ho _ h).1]at e'
   obtain ⟨vs,a,b',c,d⟩:=S.aN _ _ _ e' hc
   rw [(ho _ h).2,hF,T.n0]
   exact ⟨vs,(hH _ h (bY e' hc)).trans a,b'.step T,c,d⟩
 x7:=fun b es e=>by
  by_cases h:b=b0
  ·subst h
   obtain ⟨ys,a,b,c,d⟩:=hm es e
   exact ⟨ys,a,b,c.step T,d⟩
  ·have e':=e
   rw [(ho _ h).1]at e'
   obtain ⟨ys,a,b',c,d⟩:=S.x7 _ _ e'
   rw [(ho _ h).2,hF,T.n0]
   exact ⟨ys,(hH _ h (eG e')).trans a,b',c.step T,d⟩
def zH (φ:Nat→Nat) (b x:Nat):Nat→Nat:=fun c=>if c=b then x else φ c
theorem fm (φ:Nat→Nat) (b x:Nat):zH φ b x b=x:=by simp [zH]
theorem kA {φ:Nat→Nat} {b x c:Nat} (h:c≠b):zH φ b x c=φ c:=by simp [zH,h]
theorem iQ {h:PH} {P:PB} {b:Nat} (hb:b≠h.length):(h++[P])[b]?=h[b]?:=by
 rcases Nat.lt_or_ge b h.length with k|k
 ·rw [al0 k]
 ·rw [List.getElem?_append_right k,List.getElem?_eq_none (by simp;omega),List.getElem?_eq_none k]
theorem jC (h:PH) (P:PB):(h++[P])[h.length]?=some P:=by simp
theorem dx.new {C:Cx} (S:dx C) {P:PB} {B:nC} (W:Nat→Prop)
 (hP:(∃z cs vs,P= .cells z cs∧B= .cells z vs∧cx C cs vs)∨(∃es ys,P= .map es∧B= .map ys∧es.map (·.1)=ys.map (·.1)∧cx C (es.map (·.2)) (ys.map (·.2)))):
 dx ⟨C.F,C.H.alloc B,zH C.φ C.h.length C.H.nx,C.h++[P]⟩∧cH C.h.length W C ⟨C.F,C.H.alloc B,zH C.φ C.h.length C.H.nx,C.h++[P]⟩:=by
 have T:cH C.h.length W C ⟨C.F,C.H.alloc B,zH C.φ C.h.length C.H.nx,C.h++[P]⟩:={
  n0:=rfl
  nx:=Nat.le_succ _
  fz:=fun x hx=>⟨hx,by have:=S.fz x hx;rw [AH.cM,if_neg (by omega)]⟩
  fo:=fun _ _ _ h=>h
  out:=fun x hx _=>by rw [AH.cM,if_neg (by omega)]
  loc:=fun b hb=>by
   by_cases h:b=C.h.length
   ·subst h;left;show _≤zH _ _ _ _;rw [fm];exact alR _
   ·right;exact ⟨(dZ (iQ h)).1 hb,kA h⟩
  len:=fun _=>by simp
  le:=fun b hb _ t ht=>(qW (iQ (by omega))).2 ht
  uE:=fun b hb _ t _ ha=>⟨(qV (iQ (by omega))).1 ha,kA (by omega)⟩
  vV:=fun b hb _ ha=>⟨(hU (iQ (by omega))).1 ha,kA (by omega)⟩}
 refine ⟨S.of T rfl C.h.length (fun b hb=>⟨iQ hb,kA hb⟩) (fun b hb s=>?_) (fun b hb s _=>?_) (fun z cs e hc=>?_) (fun es e=>?_),T⟩
 ·have:=S.lt s;show(C.H.alloc B).get _=_;rw [AH.cM,if_neg (by omega)]
 ·have:=S.lt s;show zH _ _ _ _≠_;rw [fm];omega
 ·have e:some P=some (.cells z cs):=(jC _ _).symm.trans e
  cases e
  rcases hP with⟨z',cW,vs,e9,rfl,hv⟩|⟨es,ys,e9,_⟩
  ·cases e9
   refine ⟨vs,?_,hv,?_,?_⟩<;>dsimp only<;>rw [fm]
   ·exact bZ _ _
   ·exact S.wf
   ·intro q;exact absurd (S.fz _ q) (Nat.lt_irrefl _)
  ·cases e9
 ·have e:some P=some (.map es):=(jC _ _).symm.trans e
  cases e
  rcases hP with⟨z',cW,vs,e9,_⟩|⟨es',ys,e9,rfl,hk,hv⟩
  ·cases e9
  ·cases e9
   refine ⟨ys,?_,hk,hv,?_,?_⟩<;>dsimp only<;>rw [fm]
   ·exact bZ _ _
   ·exact S.wf
   ·intro q;exact absurd (S.fz _ q) (Nat.lt_irrefl _)
theorem eo {h:PH} {P:PB} {b c:Nat} (hb:c≠b):(h.set b P)[c]?=h[c]?:=List.getElem?_set_ne (Ne.symm hb)
theorem ec {h:PH} {P:PB} {b:Nat} (hb:b<h.length):(h.set b P)[b]?=some P:=by simp [List.getElem?_set,hb]
theorem dx.put {C:Cx} (S:dx C) {b z:Nat} {cs ds:List PV} {vs:List Value} {W:Nat→Prop} (hW:W b) (hb:C.h[b]?=some (.cells z cs)) (hc:cs≠[]) (hl:ds.length=cs.length) (hv:cx C ds vs):
 dx ⟨C.F,C.H.put (C.φ b) (some (.cells z vs)),C.φ,C.h.set b (.cells z ds)⟩∧cH C.h.length W C ⟨C.F,C.H.put (C.φ b) (some (.cells z vs)),C.φ,C.h.set b (.cells z ds)⟩:=by
 have hs:=bY hb hc
 have dm:=S.lt hs
 have mL:=bF hs
 have hd:ds≠[]:=by intro e;subst e;simp at hl;exact hc (List.length_eq_zero_iff.1 hl.symm)
 have MC:∀t,At (C.h.set b (.cells z ds)) b t→At C.h b t:=by
  rintro t ⟨z',cW,e,rfl⟩
  rw [ec mL]at e;cases e
  exact ⟨z,cs,hb,hl.symm⟩
 have T:cH C.h.length W C ⟨C.F,C.H.put (C.φ b) (some (.cells z vs)),C.φ,C.h.set b (.cells z ds)⟩:={
  n0:=rfl
  nx:=alR _
  fz:=fun x hx=>⟨hx,by rw [AH.bj _ _ _ _ dm,if_neg];rintro rfl;exact (S.old hs).2 hx⟩
  fo:=fun _ _ _ h=>h
  out:=fun x hx hi=>by rw [AH.bj _ _ _ _ dm,if_neg];rintro rfl;exact hi ⟨b,hW,hs,rfl⟩
  loc:=fun c jQ=>by
   right
   by_cases h:c=b
   ·subst h;exact ⟨hs,rfl⟩
   ·exact ⟨(dZ (eo h)).1 jQ,rfl⟩
  len:=fun _=>by simp
  le:=fun c jW _ t ht=>by
   by_cases h:c=b
   ·subst h
    intro z' cW e
    rw [ec mL]at e;cases e
    rw [hl];exact ht _ _ hb
   ·exact (qW (eo h)).2 ht
  uE:=fun c jW _ t _ ha=>by
   by_cases h:c=b
   ·subst h;exact ⟨MC t ha,rfl⟩
   ·exact ⟨(qV (eo h)).1 ha,rfl⟩
  vV:=fun c jW _ ha=>by
   by_cases h:c=b
   ·subst h;obtain ⟨es,e⟩:=ha;rw [ec mL]at e;cases e
   ·exact ⟨(hU (eo h)).1 ha,rfl⟩}
 refine ⟨S.of T rfl b (fun c hc=>⟨eo hc,rfl⟩) (fun c hc s=>?_) (fun c hc s _ e=>hc (S.inj _ _ s hs e.symm)) (fun z' cW e jQ=>?_) (fun es e=>?_),T⟩
 ·show(C.H.put _ _).get _=_
  rw [AH.bj _ _ _ _ dm,if_neg]
  exact fun e=>hc (S.inj _ _ s hs e)
 ·have e:=(ec mL).symm.trans e
  cases e
  refine ⟨vs,?_,hv,(S.old hs)⟩
  show(C.H.put _ _).get _=_
  rw [AH.bj _ _ _ _ dm,if_pos rfl]
 ·have e:=(ec mL).symm.trans e
  cases e
theorem dx.abY {C:Cx} (S:dx C) {b:Nat} {es fs:List (Value×PV)} {ys:List (Value×Value)} {W:Nat→Prop} (hW:W b) (hb:C.h[b]?=some (.map es)) (hk:fs.map (·.1)=ys.map (·.1)) (hv:cx C (fs.map (·.2)) (ys.map (·.2))):
 dx ⟨C.F,C.H.put (C.φ b) (some (.map ys)),C.φ,C.h.set b (.map fs)⟩∧cH C.h.length W C ⟨C.F,C.H.put (C.φ b) (some (.map ys)),C.φ,C.h.set b (.map fs)⟩:=by
 have hs:=eG hb
 have dm:=S.lt hs
 have mL:=bF hs
 have T:cH C.h.length W C ⟨C.F,C.H.put (C.φ b) (some (.map ys)),C.φ,C.h.set b (.map fs)⟩:={
  n0:=rfl
  nx:=alR _
  fz:=fun x hx=>⟨hx,by rw [AH.bj _ _ _ _ dm,if_neg];rintro rfl;exact (S.old hs).2 hx⟩
  fo:=fun _ _ _ h=>h
  out:=fun x hx hi=>by rw [AH.bj _ _ _ _ dm,if_neg];rintro rfl;exact hi ⟨b,hW,hs,rfl⟩
  loc:=fun c jQ=>by
   right
   by_cases h:c=b
   ·subst h;exact ⟨hs,rfl⟩
   ·exact ⟨(dZ (eo h)).1 jQ,rfl⟩
  len:=fun _=>by simp
  le:=fun c jW _ t ht=>by
   by_cases h:c=b
   ·subst h
    intro z' cW e
    rw [ec mL]at e;cases e
   ·exact (qW (eo h)).2 ht
  uE:=fun c jW _ t _ ha=>by
   by_cases h:c=b
   ·subst h;obtain ⟨z',cW,e,_⟩:=ha;rw [ec mL]at e;cases e
   ·exact ⟨(qV (eo h)).1 ha,rfl⟩
  vV:=fun c jW _ ha=>by
   by_cases h:c=b
   ·subst h;exact ⟨⟨es,hb⟩,rfl⟩
   ·exact ⟨(hU (eo h)).1 ha,rfl⟩}
 refine ⟨S.of T rfl b (fun c hc=>⟨eo hc,rfl⟩) (fun c hc s=>?_) (fun c hc s _ e=>hc (S.inj _ _ s hs e.symm)) (fun z' cW e jQ=>?_) (fun es e=>?_),T⟩
 ·show(C.H.put _ _).get _=_
  rw [AH.bj _ _ _ _ dm,if_neg]
  exact fun e=>hc (S.inj _ _ s hs e)
 ·have e:=(ec mL).symm.trans e
  cases e
 ·have e:=(ec mL).symm.trans e
  cases e
  refine ⟨ys,?_,hk,hv,(S.old hs)⟩
  show(C.H.put _ _).get _=_
  rw [AH.bj _ _ _ _ dm,if_pos rfl]
theorem dx.grow {C:Cx} (S:dx C) {b z:Nat} {cs ds:List PV} {vs:List Value} {H1:AH} {W:Nat→Prop} (hW:W b) (hb:C.h[b]?=some (.cells z cs)) (hl:cs.length<ds.length) (hv:cx C ds vs)
 (h1:(cs=[]∧H1=C.H)∨(cs≠[]∧H1=C.H.put (C.φ b) none)):
 dx ⟨C.F,H1.alloc (.cells z vs),zH C.φ b C.H.nx,C.h.set b (.cells z ds)⟩∧cH C.h.length W C ⟨C.F,H1.alloc (.cells z vs),zH C.φ b C.H.nx,C.h.set b (.cells z ds)⟩:=by
 have mL:=(alT.1 hb).1
 have Ed:H1.nx=C.H.nx:=by rcases h1 with⟨_,rfl⟩|⟨_,rfl⟩<;>rfl
 have Bl:H1.n0=C.H.n0:=by rcases h1 with⟨_,rfl⟩|⟨_,rfl⟩<;>rfl
 have NQ:∀x,x<C.H.nx→(∀(_:bo C.h b),x≠C.φ b)→(H1.alloc (.cells z vs)).get x=C.H.get x:=by
  intro x hx hn
  rw [AH.cM,if_neg (by omega)]
  rcases h1 with⟨_,rfl⟩|⟨hc,rfl⟩
  ·rfl
  ·rw [AH.pV,if_neg (hn (bY hb hc))]
 have T:cH C.h.length W C ⟨C.F,H1.alloc (.cells z vs),zH C.φ b C.H.nx,C.h.set b (.cells z ds)⟩:={
  n0:=Bl
  nx:=by show _≤H1.nx+1;omega
  fz:=fun x hx=>⟨hx,NQ x (S.fz x hx) fun s e=>(S.old s).2 (e▸hx)⟩
  fo:=fun _ _ _ h=>h
  out:=fun x hx hi=>NQ x hx fun s e=>hi ⟨b,hW,s,e.symm⟩
  loc:=fun c jQ=>by
   by_cases h:c=b
   ·subst h;left;show _≤zH _ _ _ _;rw [fm];exact alR _
   ·right;exact ⟨(dZ (eo h)).1 jQ,kA h⟩
  len:=fun _=>by simp
  le:=fun c jW _ t ht=>by
   by_cases h:c=b
   ·subst h
    intro z' cW e
    rw [ec mL]at e;cases e
    have:=ht _ _ hb
    omega
   ·exact (qW (eo h)).2 ht
  uE:=fun c jW _ t ht ha=>by
   by_cases h:c=b
   ·subst h
    obtain ⟨z',cW,e,rfl⟩:=ha
    rw [ec mL]at e;cases e
    have:=ht _ _ hb
    omega
   ·exact ⟨(qV (eo h)).1 ha,kA h⟩
  vV:=fun c jW _ ha=>by
   by_cases h:c=b
   ·subst h;obtain ⟨es,e⟩:=ha;rw [ec mL]at e;cases e
   ·exact ⟨(hU (eo h)).1 ha,kA h⟩}
 refine ⟨S.of T rfl b (fun c hc=>⟨eo hc,kA hc⟩) (fun c hc s=>?_) (fun c hc s _=>?_) (fun z' cW e jQ=>?_) (fun es e=>?_),T⟩
 ·exact NQ _ (S.lt s) fun s2 e=>hc (S.inj _ _ s s2 e)
 ·have:=S.lt s;show zH _ _ _ _≠_;rw [fm];omega
 ·have e:=(ec mL).symm.trans e
  cases e
  refine ⟨vs,?_,hv,?_,?_⟩<;>dsimp only<;>rw [fm]
  ·rw [←Ed];exact bZ _ _
  ·show H1.n0≤_;rw [Bl];exact S.wf
  ·intro q;exact absurd (S.fz _ q) (Nat.lt_irrefl _)
 ·have e:=(ec mL).symm.trans e
  cases e
theorem dx.void {C:Cx} (S:dx C) (z:Nat) (W:Nat→Prop):dx ⟨C.F,C.H,C.φ,C.h++[.cells z []]⟩∧cH C.h.length W C ⟨C.F,C.H,C.φ,C.h++[.cells z []]⟩:=by
 have ns:¬ bo (C.h++[.cells z []]) C.h.length:=fun s=>by
  rcases jl s with⟨es,e⟩|⟨z',cs,e,hc⟩
  ·rw [jC]at e;cases e
  ·rw [jC]at e;cases e;exact hc rfl
 have T:cH C.h.length W C ⟨C.F,C.H,C.φ,C.h++[.cells z []]⟩:={
  n0:=rfl
  nx:=alR _
  fz:=fun x hx=>⟨hx,rfl⟩
  fo:=fun _ _ _ h=>h
  out:=fun x hx _=>rfl
  loc:=fun b hb=>by
   by_cases h:b=C.h.length
   ·subst h;exact absurd hb ns
   ·right;exact ⟨(dZ (iQ h)).1 hb,rfl⟩
  len:=fun _=>by simp
  le:=fun b hb _ t ht=>(qW (iQ (by omega))).2 ht
  uE:=fun b hb _ t _ ha=>⟨(qV (iQ (by omega))).1 ha,rfl⟩
  vV:=fun b hb _ ha=>⟨(hU (iQ (by omega))).1 ha,rfl⟩}
 refine ⟨S.of T rfl C.h.length (fun b hb=>⟨iQ hb,rfl⟩) (fun b hb s=>rfl) (fun b hb s s2=>absurd s2 ns) (fun z cs e hc=>?_) (fun es e=>?_),T⟩
 ·have e:=(jC _ _).symm.trans e;cases e;exact absurd rfl hc
 ·have e:=(jC _ _).symm.trans e;cases e
open Go Go.RowKit
def rP {α:Type}:List α→Nat→List α→List α
 |c,0,vs=>vs++c.drop vs.length
 |x::c,k+1,vs=>x::rP c k vs
 |[],_+1,_=>[]
def uF:Value→PV
 | .agg cs=>.agg (cs.toList.map .v)
 |x=>.v x
def cL:PV→Option (List PV)
 | .agg cs=>some cs
 | .fJ _=>none
 | .any=>none
 | .v (.agg cs)=>some (cs.toList.map .v)
 | .v (.tuple _)=>none
 |p=>some [p]
def mW:List PV→List (Nat×Nat×PV)→Option (List PV)
 |c,[]=>some c
 |c,(off,n,p)::l=>match cL p with
  |some ds=>if ds.length=n∧off+n≤c.length then mW (rP c off ds) l else none
  |none=>none
def ES:PV→PV→PV→Option PV
 | .v (.bool t),a,b=>some (bif t then a else b)
 |_,_,_=>none
def K5 (h:PH):PV→Option PV
 | .ref b o t=>match h[b]? with
   |some (.cells _ cs)=>if cs.length=t then cs[o]? else none
   |_=>none
 | .fp cells=>cells.head?
 |_=>none
def tQ (n:Nat) (h:PH):PV→Option PV
 | .ref b o t=>match h[b]? with
   |some (.cells _ cs)=>if cs.length=t∧o+n≤t∧0<t then some (.agg ((cs.drop o).take n))else none
   |_=>none
 | .fp cells=>if n≤cells.length then some (.agg (cells.take n))else none
 |_=>none
def NS (n:Nat) (h:PH):PV→PV→Option PH
 | .ref b o t,p=>match h[b]?,cL p with
   |some (.cells z cs),some ds=>if cs.length=t∧o+n≤t∧0<t∧ds.length=n then some (h.set b (.cells z (rP cs o ds)))else none
   |_,_=>none
 |_,_=>none
def eh (h:PH) (b:Nat):Option Nat:=match h[b]? with
 |some (.cells _ cs)=>some cs.length
 |_=>none
def zI (h:PH):PV→Option PV
 | .ref b o t=>if eh h b=some t then some (.ref b o t)else none
 | .fp c=>some (.fp c)
 |_=>none
def I7 (op:BinOp):PV→PV→Option PV
 | .v x,.v y=>(bq op x y).map .v
 |_,_=>none
def tR:Nat→Value→Bool
 |1,.pointer none=>true
 |2,.slice none _ _=>true
 |3,.nilFunc=>true
 |4,.map none=>true
 |_,_=>false
def I8 (h:PH) (k:Nat) (p:PV) (y:Value):Option Bool:=
 match p with
 | .v x=>fv k x y
 | .ref b _ t=>match h[b]? with
   |some (.cells _ cs)=>if cs.length=t∧k=1∧tR 1 y=true then some false else none
   |_=>none
 | .fp _=>if k=1∧tR 1 y=true then some false else none
 | .sl sz b o n c=>match h[b]? with
   |some (.cells _ cs)=>if(o+c)*sz=cs.length∧0<c∧k=2∧tR 2 y=true then some false else none
   |_=>none
 | .fs _ rows=>if rows≠[]∧k=2∧tR 2 y=true then some false else none
 | .fn _ _ _=>if k=3∧tR 3 y=true then some false else none
 | .mp b=>match h[b]? with
   |some (.map _)=>if k=4∧tR 4 y=true then some false else none
   |_=>none
 |_=>none
def I9 (h:PH) (k:Nat):PV→PV→Option Bool
 |p,.v y=>I8 h k p y
 |_,_=>none
def Wh (op:UnOp):PV→Option PV
 | .v x=>(Cn op x).map .v
 |_=>none
def Ja (k:IntKind):PV→Option PV
 | .v (.int _ n)=>some (.v (.int k (k.wrap n)))
 |_=>none
def Jb:PV→Option PV
 | .v (.int _ n)=>some (.v (.string (Utf8.encode n)))
 |_=>none
def PX (h:PH) (off:Nat):PV→Option PV
 | .ref b o t=>if eh h b=some t then some (.ref b (o+off) t)else none
 | .fp cells=>if off≤cells.length then some (.fp (cells.drop off))else none
 |_=>none
def To (h:PH) (sz:Nat):PV→PV→Option PV
 | .sl fb b o n c, .v (.int _ k)=>match h[b]? with
   |some (.cells _ cs)=>if fb=sz∧(o+c)*sz=cs.length∧0<c∧0≤k∧k<n then some (.ref b ((o+k.toNat)*sz) cs.length)else none
   |_=>none
 | .fs fb rows, .v (.int _ k)=>if fb=sz∧0≤k∧k<rows.length then(match rows[k.toNat]? with|some r=>some (.fp r)|none=>none)else none
 |_,_=>none
def ET (h:PH) (len sz:Nat):PV→PV→Option PV
 | .ref b o t,.v (.int _ k)=>if eh h b=some t∧0≤k∧k<len then some (.ref b (o+k.toNat*sz) t)else none
 | .fp cells,.v (.int _ k)=>if 0≤k∧k<len∧k.toNat*sz≤cells.length then some (.fp (cells.drop (k.toNat*sz)))else none
 |_,_=>none
def pix:PV→PV→Option PV
 | .v x,.v y=>(Cd x y).map .v
 |_,_=>none
def Jc:PV→Nat→Option PV
 | .fJ ps,i=>ps[i]?
 |_,_=>none
def EU:PV→Option PV
 | .v x=>(qw x).map .v
 |_=>none
def hY (h:PH):PV→Bool
 | .sl sz b o _ c=>match h[b]? with
   |some (.cells _ cs)=>decide ((o+c)*sz=cs.length)
   |_=>false
 |_=>true
def nV:PV→Option Nat
 | .v (.slice none 0 0)=>some 0
 | .v (.string s)=>some s.size
 | .sl _ _ _ n _=>some n
 | .fs _ rows=>some rows.length
 |_=>none
def zJ (h:PH):PV→Option PV
 | .v x=>(qx x).map .v
 | .sl sz b o n c=>some (.v (.int .i64 n))
 | .fs _ rows=>some (.v (.int .i64 rows.length))
 |_=>none
def so (k:Value):List (Value×PV)→Option (Option PV)
 |[]=>some none
 |(k',p)::es=>match fZ k k' with
  |some true=>some (some p)
  |some false=>so k es
  |none=>none
def x8 (k:Value) (p:PV):List (Value×PV)→Option (List (Value×PV))
 |[]=>some [(k,p)]
 |(k',p')::es=>match fZ k k' with
  |some true=>some ((k,p)::es)
  |some false=>(x8 k p es).map fun l=>(k',p')::l
  |none=>none
def zK (kk:Nat) (z:Value) (h:PH) (x k:PV) (ok:Bool):Option PV:=
 match x,k with
 | .v (.map none), .v kx=>if cq kk kx=true then some (bif ok then .fJ [uF z, .v (.bool false)]else uF z)else none
 | .mp b, .v kx=>match h[b]? with
   |some (.map es)=>if cq kk kx=true then(match so kx es with
    |some (some p)=>some (bif ok then .fJ [p, .v (.bool true)]else p)
    |some none=>some (bif ok then .fJ [uF z, .v (.bool false)]else uF z)
    |none=>none)else none
   |_=>none
 |_,_=>none
def EV (kk:Nat) (h:PH) (x k p:PV):Option PH:=
 match x,k with
 | .mp b, .v kx=>match h[b]? with
   |some (.map es)=>if cq kk kx=true∧(cL p).isSome=true then(x8 kx p es).map fun es'=>h.set b (.map es')else none
   |_=>none
 |_,_=>none
def K6:Option PV→Option (Option Value)
 |none=>some none
 |some (.v x)=>some (some x)
 |_=>none
def Tp (sz:Nat) (h:PH) (x:PV) (lo hi mx:Option PV):Option (PV×PH):=
 match K6 lo,K6 hi,K6 mx with
 |some lo,some hi,some mx=>match x with
  | .sl fb b o n c=>match h[b]?,a7 n c lo hi mx with
    |some (.cells z cs),some (l,e,m)=>if fb=sz∧0<sz∧z=sz∧(o+c)*sz=cs.length∧e≤m then
      (if c=0 then some (x,h)
      else if m=l then(if mx=none then some (.fs sz [],h)else some (.sl sz h.length 0 0 0,h++[.cells sz []]))
      else if m=c then some (.sl sz b (o+l) (e- l) (c- l),h)else none)else none
    |_,_=>none
  | .fs fb rows=>if fb=sz∧0<sz then
      (match mx with
      |none=>match a7 rows.length rows.length lo hi none with
       |some (l,e,_)=>if e≤rows.length then some (.fs sz ((rows.take e).drop l),h)else none
       |none=>none
      |some m=>if a7 rows.length rows.length lo hi (some m)=some (0,0,0)then(match rows with
       |[]=>some (.fs sz [],h)
       |_::_=>some (.sl sz h.length 0 0 0,h++[.cells sz []]))else none)else none
  | .v (.slice none 0 0)=>if 0<sz∧(a7 0 0 lo hi mx).isSome=true then some (x,h)else none
  | .v (.string s)=>match mx with
    |some _=>none
    |none=>match a7 s.size s.size lo hi none with
     |some (l,e,_)=>if sz=0 then some (.v (.string (s.extract l e)),h)else none
     |none=>none
  |_=>none
 |_,_,_=>none
def hZ (h:PH) (sz k:Nat):PV→Option (List PV)
 | .sl fb b o n c=>match h[b]? with
   |some (.cells _ cs)=>if fb=sz∧(o+c)*sz=cs.length∧k≤n∧n≤c then some ((cs.drop (o*sz)).take (k*sz))else none
   |_=>none
 | .fs fb rows=>if fb=sz∧k≤rows.length then some (rows.take k).flatten else none
 | .v (.string s)=>if sz=1 then some ((s.extract 0 k).data.toList.map fun b=> .v (.int .u8 b.toNat))else none
 | .v (.slice none 0 0)=>if k=0 then some []else none
 |_=>none
def rQ (sz bytes:Nat) (h:PH) (s x:PV):Option (PV×PH):=
 match nV x with
 |none=>none
 |some k=>
  if k=0 then(if hY h x=true then match s with
   | .v (.slice none 0 0)=>some (s,h)
   | .sl fb b o n c=>match h[b]? with
     |some (.cells _ cs)=>if(o+c)*fb=cs.length∧n≤c then some (s,h)else none
     |_=>none
   | .fs _ _=>some (s,h)
   |_=>none
   else none)
  else match hZ h sz k x with
  |none=>none
  |some new=>match s with
   | .v (.slice none 0 0)=>if 0<sz∧k*bytes≤2^47∧k<2^62 then some (.sl sz h.length 0 k k,h++[.cells sz new])else none
   | .sl fb b o n c=>match h[b]? with
     |some (.cells z cs)=>if fb=sz∧z=sz∧0<sz∧(o+c)*sz=cs.length∧n≤c∧(n+k)*bytes≤2^47∧n+k<2^62 then
       (if c=0 then(if o=0 then some (.sl sz b 0 k k,h.set b (.cells sz new))else none)
       else if n+k≤c then some (.sl sz b o (n+k) c,h.set b (.cells sz (rP cs ((o+n)*sz) new)))
       else if o=0 then some (.sl sz b 0 (n+k) (n+k),h.set b (.cells sz (cs.take (n*sz)++new)))else none)
       else none
     |_=>none
   |_=>none
def zL (sz:Nat) (h:PH) (d s:PV):Option (PV×PH):=
 match(bif hY h s then nV s else none)with
 |none=>none
 |some m=>match d with
  | .v (.slice none 0 0)=>some (.v (.int .i64 0),h)
  | .sl fb b o n c=>match h[b]? with
    |some (.cells z cs)=>if fb=sz∧0<sz∧(o+c)*sz=cs.length∧n≤c then
      (if Nat.min m n=0 then some (.v (.int .i64 0),h)
      else match hZ h sz (Nat.min m n) s with
       |some new=>some (.v (.int .i64 (Nat.min m n)),h.set b (.cells z (rP cs (o*sz) new)))
       |none=>none)else none
    |_=>none
  |_=>none
def EW (sz bytes:Nat) (z:List Value) (h:PH):PV→Option (PV×PH)
 | .v (.int _ n)=>if 0≤n∧IntKind.i64.wrap n=n∧bytes*n≤2^47∧z.length=sz∧0<sz then some (.sl sz h.length 0 n.toNat n.toNat,h++[.cells sz (List.replicate n.toNat (z.map .v)).flatten])else none
 |_=>none
def Jd (len sz:Nat) (z:List Value) (h:PH) (ps:List (Nat×Nat×PV)):Option (PV×PH):=
 match mW (z.map .v) ps with
 |some c=>if c.length=len*sz∧0<sz then some (.sl sz h.length 0 len len,h++[.cells sz c])else none
 |none=>none
def NT:List PV→Option (List Value)
 |[]=>some []
 | .v x::l=>(NT l).map fun m=>x::m
 |_=>none
def Tq (f:Value→List Value→Option Value) (x:PV) (l:List PV):Option PV:=
 match x,NT l with
 | .v x,some l=>(f x l).map .v
 |_,_=>none
def BC (cs ds:List PV):List (Nat×Nat)→Option Bool
 |[]=>some true
 |(o,kk)::l=>match cs[o]?,ds[o]? with
  |some (.v a),some (.v b)=>if cq kk a=true then(match fZ a b with
   |some true=>BC cs ds l
   |some false=>some false
   |none=>none)else none
  |_,_=>none
def Je (neg:Bool) (offs:List (Nat×Nat)):PV→PV→Option PV
 | .agg cs,.agg ds=>(BC cs ds offs).map fun b=>.v (.bool (bif neg then !b else b))
 |_,_=>none
def Jf (h:PH) (p:PV):Option (PV×PH):=
 match cL p with
 |some cs=>some (.ref h.length 0 cs.length,h++[.cells cs.length cs])
 |none=>none
def vW (l:List PV) (n:Nat) (ag:Bool):Option PV:=if l.length=n then(bif ag then some (.agg l)else match l with|[v]=>some v|_=>none)else none
def PY:XK→List PV→Option PV
 | .Gs o n ag,[.agg cs]=>vW ((cs.drop o).take n) n ag
 | .Gt len n ag,[.agg cs,.v (.int _ i)]=>if 0≤i∧i<len then vW ((cs.drop (i.toNat*n)).take n) n ag else none
 |_,_=>none
def PZ:XK→List Value→Option Value
 | .Gs o n ag,[.agg cs]=>oy ((cs.toList.drop o).take n) n ag
 | .Gt len n ag,[.agg cs,.int _ i]=>if 0≤i∧i<len then oy ((cs.toList.drop (i.toNat*n)).take n) n ag else none
 |_,_=>none
def pop (p:cl) (ρ:X→PV) (h:PH):Option (PV×PH):=
 match p with
 | .mv x=>some (ρ x,h)
 | .pick c a b=>(ES (ρ c) (ρ a) (ρ b)).map fun v=>(v,h)
 | .alloc z=>some (.ref h.length 0 z.length,h++[.cells z.length (z.map .v)])
 | .box x=>Jf h (ρ x)
 | .build z ps=>(mW (z.map .v) (ps.map fun p=>(p.1,p.2.1,ρ p.2.2))).map fun c=>(.agg c,h)
 | .bsl len sz z ps=>Jd len sz z h (ps.map fun p=>(p.1,p.2.1,ρ p.2.2))
 | .ld x=>(K5 h (ρ x)).map fun v=>(v,h)
 | .ldn n x=>(tQ n h (ρ x)).map fun v=>(v,h)
 | .st n x v=>(NS n h (ρ x) (ρ v)).map fun h'=>(.v undef,h')
 | .aU x=>(zI h (ρ x)).map fun v=>(v,h)
 | .bin op x y=>(I7 op (ρ x) (ρ y)).map fun v=>(v,h)
 | .eqk k neg x y=>(I9 h k (ρ x) (ρ y)).map fun b=>(.v (.bool (bif neg then !b else b)),h)
 | .un op x=>(Wh op (ρ x)).map fun v=>(v,h)
 | .jU k x=>(Ja k (ρ x)).map fun v=>(v,h)
 | .Cp x=>(Jb (ρ x)).map fun v=>(v,h)
 | .mkf f first cap=>some (.fn f (first.map ρ) (cap.map ρ),h)
 | .mkmap=>some (.mp h.length,h++[.map []])
 | .mksl sz bytes z x=>EW sz bytes z h (ρ x)
 | .sl sz x lo hi mx=>Tp sz h (ρ x) (lo.map ρ) (hi.map ρ) (mx.map ρ)
 | .fa off x=>(PX h off (ρ x)).map fun v=>(v,h)
 | .ia sz x i=>(To h sz (ρ x) (ρ i)).map fun v=>(v,h)
 | .oA len sz x i=>(ET h len sz (ρ x) (ρ i)).map fun v=>(v,h)
 | .ix x i=>(pix (ρ x) (ρ i)).map fun v=>(v,h)
 | .look kk z x k ok=>(zK kk z h (ρ x) (ρ k) ok).map fun v=>(v,h)
 | .nu kk x k v=>(EV kk h (ρ x) (ρ k) (ρ v)).map fun h'=>(.v undef,h')
 | .ext x i=>(Jc (ρ x) i).map fun v=>(v,h)
 | .call _ _=>none
 | .callv _ _=>none
 | .app sz bytes s x=>rQ sz bytes h (ρ s) (ρ x)
 | .copy sz d s=>zL sz h (ρ d) (ρ s)
 | .lens x=>(EU (ρ x)).map fun v=>(v,h)
 | .jn x=>(zJ h (ρ x)).map fun v=>(v,h)
 | .Lu t x=>some (.pK t (ρ x),h)
 | .mxl x l=>(Tq J7 (ρ x) (l.map ρ)).map fun v=>(v,h)
 | .mnl x l=>(Tq J8 (ρ x) (l.map ρ)).map fun v=>(v,h)
 | .eqs neg offs x y=>(Je neg offs (ρ x) (ρ y)).map fun v=>(v,h)
 | .xt k l=>(PY k (l.map ρ)).map fun v=>(v,h)
def vX (p:cl) (ρ:X→PV):List Nat:=
 match p with
 | .st _ x _=>match ρ x with| .ref b _ _=>[b]|_=>[]
 | .app _ _ s _=>match ρ s with| .sl _ b _ _ _=>[b]|_=>[]
 | .copy _ d _=>match ρ d with| .sl _ b _ _ _=>[b]|_=>[]
 | .nu _ x _ _=>match ρ x with| .mp b=>[b]|_=>[]
 |_=>[]
end Go.Proofs.YtppcmpmnglaleaaGreatDoor.A.P
namespace Go.Proofs.YtppcmpmnglaleaaGreatDoor.A.P
open Go Go.RowKit
def mX (C:Cx) (W:Nat→Prop) (r:Option (Value×AH)) (p:PV) (h':PH):Prop:=∃x H' cN,r=some (x,H')∧RV ⟨C.F,H',cN,h'⟩ p x∧dx ⟨C.F,H',cN,h'⟩∧cH C.h.length W C ⟨C.F,H',cN,h'⟩
theorem mX.val {C:Cx} {W:Nat→Prop} (S:dx C) {r:Option (Value×AH)} {p:PV} {x:Value} (k:RV C p x) (e:r=some (x,C.H)):mX C W r p C.h:=⟨x,C.H,C.φ,e,k,S,cH.refl _ _ _⟩
variable{C:Cx} {W:Nat→Prop}
theorem RV.oR {x y:Value} (h:RV C (.v x) y):y=x:=by cases h;rfl
theorem x9 (x:Value):RV C (uF x) x:=by
 cases x with
 |agg cs=>exact .agg (xs:=cs.toList) (cx.lits _)
 |_=>exact .v _
theorem NU {x:Value} (h:one x=true):aP x=[x]∧cv x=false:=by
 cases x<;>first
  |exact ⟨rfl,rfl⟩
  |(simp [one]at h)
theorem gJ {p:PV} {x:Value} {cs:List PV} (h:RV C p x) (k:cL p=some cs):cx C cs (aP x)∧cv x=false:=by
 have go:∀{p:PV} {x:Value},RV C p x→(I6 x=true∨one x=true)→cx C [p] (aP x)∧cv x=false:=by
  intro p x h ho
  obtain ⟨a,b⟩:aP x=[x]∧cv x=false:=by
   rcases ho with ho|ho
   ·cases x<;>first|exact ⟨rfl,rfl⟩|(simp [I6]at ho)
   ·exact NU ho
  rw [a]
  exact ⟨.cons h .nil,b⟩
 cases p with
 |v x=>
  cases h
  cases x with
  |agg cW=>simp only [cL,alO]at k;subst k;exact ⟨cx.lits _,rfl⟩
  |tuple=>simp [cL]at k
  |_=>simp only [cL,alO]at k;subst k;exact ⟨.cons (.v _) .nil,rfl⟩
 |agg=>cases h with|agg q=>simp only [cL,alO]at k;subst k;exact ⟨by simpa [aP]using q,rfl⟩
 |fJ=>simp [cL]at k
 |any=>simp [cL]at k
 |ref=>simp only [cL,alO]at k;subst k;exact go h (by cases h;left;assumption)
 |sl=>simp only [cL,alO]at k;subst k;exact go h (by cases h with|sl a _ _ _=>exact .inl a.sm)
 |mp=>simp only [cL,alO]at k;subst k;exact go h (by cases h;left;assumption)
 |fs=>simp only [cL,alO]at k;subst k;exact go h (by cases h with|fs q=>cases q;exact .inr rfl)
 |fp=>simp only [cL,alO]at k;subst k;exact go h (by cases h;exact .inr rfl)
 |fn=>simp only [cL,alO]at k;subst k;exact go h (by cases h;exact .inr rfl)
 |pK=>simp only [cL,alO]at k;subst k;exact go h (by cases h;exact .inr rfl)
theorem cx.rP {cs:List PV} {xs:List Value} (h:cx C cs xs):∀{k:Nat} {ds:List PV} {ys:List Value},cx C ds ys→cx C (rP cs k ds) (aF xs k ys):=by
 have z:∀(xs ys:List Value),aF xs 0 ys=ys++xs.drop ys.length:=fun xs ys=>by cases xs<;>rfl
 have z':∀(xs ys:List PV),P.rP xs 0 ys=ys++xs.drop ys.length:=fun xs ys=>by cases xs<;>rfl
 intro k
 induction k generalizing cs xs with
 |zero=>
  intro ds ys q
  rw [z,z',q.length]
  exact q.append (h.drop _)
 |succ k ih=>
  intro ds ys q
  cases h with
  |nil=>exact .nil
  |cons a b=>exact .cons a (ih b q)
theorem ic {α:Type}:∀{c:List α} {k:Nat} {vs:List α},k+vs.length≤c.length→(rP c k vs).length=c.length
 |c,0,vs,h=>by
  have:rP c 0 vs=vs++c.drop vs.length:=by cases c<;>rfl
  rw [this];simp;omega
 |[],k+1,vs,h=>by simp at h
 |x::c,k+1,vs,h=>by
  have:=ic (c:=c) (k:=k) (vs:=vs) (by simp at h;omega)
  simp [rP,this]
inductive Jg (C:Cx):List (Nat×Nat×PV)→List (Nat×Nat×Value)→Prop
 |nil:Jg C [] []
 |cons {o n:Nat} {p:PV} {x:Value} {l:List (Nat×Nat×PV)} {m:List (Nat×Nat×Value)}:RV C p x→Jg C l m→Jg C ((o,n,p)::l) ((o,n,x)::m)
theorem Jg.of {mc:X→PV} {ρ:X→Value} (h:∀x,RV C (mc x) (ρ x)):∀(ps:List (Nat×Nat×X)),Jg C (ps.map fun p=>(p.1,p.2.1,mc p.2.2)) (ps.map fun p=>(p.1,p.2.1,ρ p.2.2))
 |[]=>.nil
 |p::ps=>.cons (h _) (Jg.of h ps)
theorem cx.of {mc:X→PV} {ρ:X→Value} (h:∀x,RV C (mc x) (ρ x)):∀(l:List X),cx C (l.map mc) (l.map ρ)
 |[]=>.nil
 |p::ps=>.cons (h _) (cx.of h ps)
theorem zM {ps:List (Nat×Nat×PV)} {qs:List (Nat×Nat×Value)} (hp:Jg C ps qs):∀{c d:List PV} {xs:List Value},cx C c xs→mW c ps=some d→∃ys,gL xs qs=some ys∧cx C d ys:=by
 induction hp with
 |nil=>intro c d xs h k;simp only [mW,alO]at k;subst k;exact ⟨xs,rfl,h⟩
 | @cons o n p x l m hx _ ih=>
  intro c d xs h k
  simp only [mW]at k
  cases hc:cL p with
  |none=>simp [hc]at k
  |some ds=>
   simp only [hc]at k
   split at k
   case isFalse=>cases k
   rename_i hl
   obtain ⟨a,b⟩:=gJ hx hc
   obtain ⟨ys,e,q⟩:=ih (h.rP a) k
   refine ⟨ys,?_,q⟩
   simp only [gL,nb]
   rw [←a.length,←h.length,b]
   simp [hl.1,hl.2,e]
theorem dx.cells (S:dx C) {b z t:Nat} {cs:List PV} (e:C.h[b]?=some (.cells z cs)) (ht:0<cs.length):∃vs,C.H.get (C.φ b)=some (.cells z vs)∧cx C cs vs∧C.H.n0≤C.φ b:=by
 obtain ⟨vs,a,b,c,_⟩:=S.aN _ _ _ e (List.length_pos_iff.1 ht)
 exact ⟨vs,a,b,c⟩
theorem K7 (S:dx C) {p q:PV} {x:Value} (h:RV C p x) (k:K5 C.h p=some q):∃y,Pn C.H x=some y∧RV C q y:=by
 cases h with
 | @ref b o t x _ hb hl ha=>
  simp only [K5]at k
  cases e:C.h[b]? with
  |none=>simp [e]at k
  |some B=>
   cases B with
   |cells z cs=>
    simp only [e]at k
    split at k
    case isFalse=>cases k
    rename_i ht
    obtain ⟨vs,hg,hv,h0⟩:=S.cells (t:=t) e (by have:=(alT.1 k).1;omega)
    obtain ⟨y,hy,hr⟩:=hv.get k
    rw [ha ⟨z,cs,e,ht⟩]
    exact ⟨y,aE hg h0 hy,hr⟩
   |map=>simp [e]at k
   |dead=>simp [e]at k
 | @fp cells b o vs hf hl hc=>
  simp only [K5]at k
  cases hc with
  |nil=>simp at k
  | @cons p' x' ps xs a b'=>
   simp only [List.head?_cons,alO]at k
   subst k
   refine ⟨x',?_,a.oR⟩
   have:=aG hl (j:=0) (v:=x') rfl
   simpa using this
 |_=>simp [K5]at k
theorem oT {n0:Nat}:∀{l vs:List Value},aJ n0 l=some vs→∀n,aJ n0 (l.take n)=some (vs.take n)
 |[],vs,h,n=>by simp [aJ]at h;subst h;simp [aJ]
 |y::l,vs,h,n=>by
  simp only [aJ]at h
  split at h
  case h_2=>cases h
  rename_i y' m' hy hm
  cases h
  cases n with
  |zero=>simp [aJ]
  |succ n=>simp [aJ,hy,oT hm n]
theorem oU {n0:Nat}:∀{l vs:List Value},aJ n0 l=some vs→∀n,aJ n0 (l.drop n)=some (vs.drop n)
 |[],vs,h,n=>by simp [aJ]at h;subst h;simp [aJ]
 |y::l,vs,h,n=>by
  have h':=h
  simp only [aJ]at h
  split at h
  case h_2=>cases h
  rename_i y' m' hy hm
  cases h
  cases n with
  |zero=>simpa using h'
  |succ n=>simpa using oU hm n
theorem yb (S:dx C) {n:Nat} {p q:PV} {x:Value} (h:RV C p x) (k:tQ n C.h p=some q):∃y,rK n C.H x=some y∧RV C q y:=by
 cases h with
 | @ref b o t x _ hb hl ha=>
  simp only [tQ]at k
  cases e:C.h[b]? with
  |none=>simp [e]at k
  |some B=>
   cases B with
   |cells z cs=>
    simp only [e]at k
    split at k
    case isFalse=>cases k
    rename_i ht
    cases k
    obtain ⟨vs,hg,hv,h0⟩:=S.cells (t:=t) e (by omega)
    rw [ha ⟨z,cs,e,ht.1⟩]
    refine ⟨.agg ((vs.drop o).take n).toArray,?_,.agg ((hv.drop o).take n)⟩
    simp only [rK]
    rw [bk hg h0 (by have:=hv.length;omega)]
    rfl
   |map=>simp [e]at k
   |dead=>simp [e]at k
 | @fp cells b o vs hf hl hc=>
  simp only [tQ]at k
  split at k
  case isFalse=>cases k
  rename_i hn
  cases k
  refine ⟨.agg (vs.take n).toArray,?_,.agg ((hc.take n).oR)⟩
  simp only [rK]
  have:C.H.ldn ⟨b,o,none⟩ n=some (vs.take n):=by
   unfold AH.ldn at hl⊢
   dsimp only at hl⊢
   cases hg:C.H.get b with
   |none=>simp [hg]at hl
   |some B=>
    cases B with
    |map=>simp [hg]at hl
    |cells z c=>
     simp only [hg]at hl⊢
     obtain ⟨h1,hl⟩:=au hl
     simp only [alZ]at h1
     rw [show decide (o+n≤c.length)=true by simp;omega,cond_true]
     have e:(c.drop o).take n=((c.drop o).take cells.length).take n:=by rw [List.take_take,Nat.min_eq_left hn]
     cases hd:decide (b<C.H.n0)with
     |false=>
      rw [hd]at hl
      simp only [cond_false,alO]at hl⊢
      rw [e,hl]
     |true=>
      rw [hd]at hl
      simp only [cond_true]at hl⊢
      rw [e]
      exact oT hl n
  rw [this]
  rfl
 |_=>simp [tQ]at k
theorem EX {H:AH} {b o n k:Nat} {vs:List Value} (h:H.ldn ⟨b,o,none⟩ n=some vs) (hk:k≤n):H.ldn ⟨b,o+k,none⟩ (n- k)=some (vs.drop k):=by
 unfold AH.ldn at h⊢
 dsimp only at h⊢
 cases hg:H.get b with
 |none=>simp [hg]at h
 |some B=>
  cases B with
  |map=>simp [hg]at h
  |cells z c=>
   simp only [hg]at h⊢
   obtain ⟨h1,h⟩:=au h
   simp only [alZ]at h1
   rw [show decide (o+k+(n- k)≤c.length)=true by simp;omega,cond_true]
   have e:(c.drop (o+k)).take (n- k)=((c.drop o).take n).drop k:=by rw [List.drop_take,List.drop_drop]
   rw [e]
   cases hd:decide (b<H.n0)with
   |false=>rw [hd]at h;simp only [cond_false,alO]at h⊢;rw [h]
   |true=>rw [hd]at h;simp only [cond_true]at h⊢;exact oU h k
theorem cellsOf {p:PV} {cs:List PV} {x:Value} (h:RV C p x) (hc:cL p=some cs):∃ys,aP x=ys∧cv x=false∧cx C cs ys:=⟨_,rfl,(gJ h hc).2,(gJ h hc).1⟩
theorem Tr (S:dx C) {n:Nat} {p q:PV} {x y:Value} {h':PH} (h:RV C p x) (g:RV C q y) (k:NS n C.h p q=some h') (hW:∀b o t,p= .ref b o t→W b):∃H',DB n C.H x y=some H'∧dx ⟨C.F,H',C.φ,h'⟩∧cH C.h.length W C ⟨C.F,H',C.φ,h'⟩:=by
 cases h with
 | @ref b o t x _ hb hl ha=>
  simp only [NS]at k
  cases e:C.h[b]? with
  |none=>simp [e]at k
  |some B=>
   cases B with
   |cells z cs=>
    cases hc:cL q with
    |none=>simp [e,hc]at k
    |some ds=>
     simp only [e,hc]at k
     split at k
     case isFalse=>cases k
     rename_i ht
     cases k
     obtain ⟨vs,hg,hv,h0⟩:=S.cells (t:=t) e (by omega)
     obtain ⟨a1,a2⟩:=gJ g hc
     have hlen:=a1.length
     have lW:=hv.length
     obtain ⟨A,B⟩:=S.put (W:=W) (hW _ _ _ rfl) e (by intro q;subst q;simp at ht;omega) (ic (by omega)) (hv.rP (k:=o) a1)
     rw [ha ⟨z,cs,e,ht.1⟩]
     refine ⟨_,?_,A,B⟩
     rw [Rq,if_pos ⟨by omega,a2⟩]
     unfold AH.st
     simp only [hg]
     rw [show decide (C.H.n0≤C.φ b)=true by simp [h0],show decide (o+(aP y).length≤vs.length)=true by simp;omega]
     rfl
   |map=>simp [e]at k
   |dead=>simp [e]at k
 |_=>simp [NS]at k
theorem kZ {k:Nat} {y:Value} (h:tR k y=true):(k=1∧y= .pointer none)∨(k=2∧∃n c,y= .slice none n c)∨(k=3∧y= .nilFunc)∨(k=4∧y= .map none):=by
 unfold tR at h
 split at h<;>simp_all
theorem Jh {k:Nat} {p q:PV} {x y:Value} {r:Bool} (h:RV C p x) (g:RV C q y) (e:I9 C.h k p q=some r):fv k x y=some r:=by
 cases q with
 |v z=>
  cases g
  replace e:I8 C.h k p y=some r:=e
  unfold I8 at e
  cases p with
  |v w=>cases h;exact e
  |ref b o t=>
   cases h with|ref _ hb hl ha=>
   dsimp only at e
   split at e
   case h_2=>cases e
   rename_i z' cs hh
   split at e
   case isFalse=>cases e
   rename_i hc
   cases e
   rw [ha ⟨z',cs,hh,hc.1⟩,hc.2.1]
   rcases kZ hc.2.2 with⟨a,rfl⟩|⟨a,_⟩|⟨a,_⟩|⟨a,_⟩<;>first|rfl|cases a
  |fp cells=>
   cases h
   dsimp only at e
   split at e
   case isFalse=>cases e
   rename_i hc
   cases e
   rw [hc.1]
   rcases kZ hc.2 with⟨a,rfl⟩|⟨a,_⟩|⟨a,_⟩|⟨a,_⟩<;>first|rfl|cases a
  |sl sz b o n c=>
   cases h with|sl _ hb hl ha=>
   dsimp only at e
   split at e
   case h_2=>cases e
   rename_i z' cs hh
   split at e
   case isFalse=>cases e
   rename_i hc
   cases e
   rw [hc.2.2.1]
   rcases ha ⟨z',cs,hh,hc.1.symm⟩with⟨a,_⟩|⟨_,rfl⟩
   ·omega
   ·rcases kZ hc.2.2.2 with⟨a,_⟩|⟨a,n',c',rfl⟩|⟨a,_⟩|⟨a,_⟩<;>first|rfl|cases a
  |fs sz rows=>
   cases h with|fs q=>
   dsimp only at e
   split at e
   case isFalse=>cases e
   rename_i hc
   cases e
   rw [hc.2.1]
   cases q with| @fs _ _ a c rs hr hl hk qU=>
   obtain ⟨a',c',e1,e2⟩:=hr.is
   simp only [Value.slice.injEq]at e1
   obtain ⟨rfl,_,rfl⟩:=e1
   have:0<rs.length:=by rw [←qU.length];exact List.length_pos_iff.2 hc.1
   obtain ⟨b,o,rfl,_⟩:=e2 0 _ (alN this)
   rcases kZ hc.2.2 with⟨a,_⟩|⟨a,n',c',rfl⟩|⟨a,_⟩|⟨a,_⟩<;>first|rfl|cases a
  |fn f a b=>
   cases h
   dsimp only at e
   split at e
   case isFalse=>cases e
   rename_i hc
   cases e
   rw [hc.1]
   rcases kZ hc.2 with⟨a,_⟩|⟨a,_⟩|⟨a,rfl⟩|⟨a,_⟩<;>first|rfl|cases a
  |mp b=>
   cases h with|mp _ hb ha=>
   dsimp only at e
   split at e
   case h_2=>cases e
   rename_i es hh
   split at e
   case isFalse=>cases e
   rename_i hc
   cases e
   rw [hc.1,ha ⟨es,hh⟩]
   rcases kZ hc.2 with⟨a,_⟩|⟨a,_⟩|⟨a,_⟩|⟨a,rfl⟩<;>first|rfl|cases a
  |_=>cases e
 |_=>cases e
theorem qX {b o t:Nat} {x:Value} (h:RV C (.ref b o t) x) (k:eh C.h b=some t):x= .pointer (some ⟨C.φ b,o,none⟩):=by
 cases h with|ref _ hb hl ha=>
 unfold eh at k
 split at k
 case h_2=>cases k
 rename_i z cs hh
 cases k
 exact ha ⟨z,cs,hh,rfl⟩
theorem RV.Ts {b o o' t:Nat} {x:Value} (h:RV C (.ref b o t) x):RV C (.ref b o' t) (.pointer (some ⟨C.φ b,o',none⟩)):=by
 cases h with|ref _ hb hl ha=>exact .ref rfl hb hl fun _=>rfl
theorem zN {cells:List PV} {b o k:Nat} (hk:k≤cells.length) (h:RV C (.fp cells) (.pointer (some ⟨b,o,none⟩))):RV C (.fp (cells.drop k)) (.pointer (some ⟨b,o+k,none⟩)):=by
 cases h with|fp hf hl hc=>
 refine .fp hf ?_ (hc.drop k)
 rw [List.length_drop]
 exact EX hl hk
theorem Tt {off:Nat} {p q:PV} {x:Value} (h:RV C p x) (k:PX C.h off p=some q):∃y,KE off x=some y∧RV C q y:=by
 cases p with
 |ref b o t=>
  simp only [PX]at k
  split at k
  case isFalse=>cases k
  rename_i ht
  cases k
  rw [qX h ht]
  exact ⟨_,rfl,h.Ts⟩
 |fp cells=>
  simp only [PX]at k
  split at k
  case isFalse=>cases k
  rename_i ht
  cases k
  have h':=h
  cases h with|fp hf hl hc=>
  exact ⟨_,rfl,zN ht h'⟩
 |_=>cases k
theorem Ji {p q:PV} {x:Value} (h:RV C p x) (k:zI C.h p=some q):r5 x=some x∧RV C q x:=by
 cases p with
 |ref b o t=>
  simp only [zI]at k
  split at k
  case isFalse=>cases k
  rename_i ht
  cases k
  refine ⟨?_,h⟩
  rw [qX h ht]
  rfl
 |fp cells=>
  cases k
  exact ⟨by cases h;rfl,h⟩
 |_=>cases k
theorem NV {len sz:Nat} {p q r:PV} {x y:Value} (h:RV C p x) (g:RV C q y) (k:ET C.h len sz p q=some r):∃z,vd len sz x y=some z∧RV C r z:=by
 unfold ET at k
 split at k
 ·rename_i b o t kk n
  cases g
  split at k
  case isFalse=>cases k
  rename_i ht
  cases k
  rw [qX h ht.1]
  refine ⟨_,?_,h.Ts⟩
  rw [DF,if_pos ⟨ht.2.1,ht.2.2⟩]
 ·rename_i cells kk n
  cases g
  split at k
  case isFalse=>cases k
  rename_i ht
  cases k
  have h':=h
  cases h with|fp hf hl hc=>
  refine ⟨_,?_,zN ht.2.2 h'⟩
  rw [DF,if_pos ⟨ht.1,ht.2.1⟩]
 ·cases k
theorem Tu {sz:Nat} {p q r:PV} {x y:Value} (h:RV C p x) (g:RV C q y) (k:To C.h sz p q=some r):∃z,KF sz x y=some z∧RV C r z:=by
 unfold To at k
 split at k
 ·rename_i fb b o n c kk m
  cases g
  split at k
  case h_2=>cases k
  rename_i z' cs hh
  split at k
  case isFalse=>cases k
  rename_i hc
  cases k
  obtain ⟨rfl,h1,h2,h3,h4⟩:=hc
  cases h with|sl Gv hb hl ha=>
  rcases ha ⟨z',cs,hh,h1.symm⟩with⟨a,_⟩|⟨_,rfl⟩
  ·omega
  ·refine ⟨_,by rw [KG,if_pos ⟨h3,h4⟩],?_⟩
   rw [←Nat.add_mul]
   exact .ref rfl hb (by rw [←h1];exact hl) fun _=>rfl
 ·rename_i fb rows kk m
  cases g
  split at k
  case isFalse=>cases k
  rename_i hc
  obtain ⟨rfl,h1,h2⟩:=hc
  split at k
  case h_2=>cases k
  rename_i r' hr
  cases k
  cases h with|fs q=>
  cases q with| @fs _ _ a c rs Cb hl hk qU=>
  obtain ⟨xr,hx,hxr⟩:=qU.get hr
  obtain ⟨a',c',e,nO⟩:=Cb.is
  simp only [Value.slice.injEq]at e
  obtain ⟨rfl,_,rfl⟩:=e
  obtain ⟨b,o,rfl,eW⟩:=nO _ _ hx
  have dm:=(alT.1 hr).1
  refine ⟨_,by rw [KG,if_pos ⟨h1,h2⟩],?_⟩
  refine .fp ?_ ?_ hxr
  ·rcases (hk _ rfl).2 with h0|h0
   ·omega
   ·exact h0.1
  ·rw [hxr.length,(cB eW).2]
   exact eW
 ·cases k
theorem vY {h:PH} {sz b o n c:Nat} (k:hY h (.sl sz b o n c)=true):At h b ((o+c)*sz):=by
 unfold hY at k
 dsimp only at k
 split at k
 ·rename_i z cs e;exact ⟨z,cs,e,by simpa using(of_decide_eq_true k).symm⟩
 ·cases k
theorem EY {p:PV} {x:Value} {n:Nat} (h:RV C p x) (k:nV p=some n) (hv:hY C.h p=true):lj x=some n:=by
 unfold nV at k
 split at k
 ·cases h;cases k;rfl
 ·cases h;cases k;rfl
 ·cases k
  cases h with|sl _ hb hl ha=>
  rcases ha (vY hv)with⟨_,rfl,d,rfl,_⟩|⟨_,rfl⟩<;>rfl
 ·cases k
  cases h with|fs q=>cases q;rfl
 ·cases k
end Go.Proofs.YtppcmpmnglaleaaGreatDoor.A.P
namespace Go.Proofs.YtppcmpmnglaleaaGreatDoor.A.P
open Go Go.RowKit
variable{C:Cx} {W:Nat→Prop}
theorem qY {sz b o n c:Nat} {x:Value} (h:RV C (.sl sz b o n c) x) {z:Nat} {cs:List PV} (e:C.h[b]?=some (.cells z cs)) (ht:(o+c)*sz=cs.length):slV (C.φ b) sz o n c x:=by
 cases h with|sl _ hb hl ha=>exact ha ⟨z,cs,e,ht.symm⟩
theorem RV.slT {sz b o n c o' n' c':Nat} {x y:Value} (h:RV C (.sl sz b o n c) x) (e:o'+c'=o+c) (ho:Wg n' y) (k:slV (C.φ b) sz o' n' c' y):RV C (.sl sz b o' n' c') y:=by
 cases h with|sl _ hb hl ha=>exact .sl ho hb (by rw [e];exact hl) fun _=>k
theorem zO:∀(l:List UInt8),cx C (l.map fun b=>.v (.int .u8 b.toNat)) (l.map fun b=>.int .u8 b.toNat)
 |[]=>.nil
 |b::l=>.cons (.v _) (zO l)
theorem qZ (S:dx C) {sz m:Nat} {p:PV} {x:Value} {new:List PV} (h:RV C p x) (k:hZ C.h sz m p=some new) (hm:0<m) (hz:0<sz):
 ∃ys,iG C.H sz m x=some ys∧cx C new ys∧(nV p=some m→nD C.H sz x=some ys∧lj x=some m∧ys.length=m*sz)∧(∀q,lj x=some q→m≤q→ys.length=m*sz):=by
 have hmz:¬ m*sz=0:=by have:=Nat.mul_pos hm hz;omega
 unfold hZ at k
 split at k
 ·rename_i fb b o n c
  split at k
  case h_2=>cases k
  rename_i z cs hh
  split at k
  case isFalse=>cases k
  rename_i hc
  cases k
  obtain ⟨rfl,h1,h2,h3⟩:=hc
  have hmul:(o+m)*fb≤(o+c)*fb:=Nat.mul_le_mul_right _ (by omega)
  rw [Nat.add_mul]at hmul
  obtain ⟨vs,hg,hv,h0⟩:=S.cells (t:=0) hh (by have:=Nat.mul_pos (show 0<o+c by omega) hz;omega)
  have lW:=hv.length
  rcases qY h hh h1 with⟨a,_⟩|⟨_,rfl⟩
  ·omega
  have hl:C.H.ldn ⟨C.φ b,o*fb,none⟩ (m*fb)=some ((vs.drop (o*fb)).take (m*fb)):=bk hg h0 (by omega)
  have hlen:((vs.drop (o*fb)).take (m*fb)).length=m*fb:=by simp;omega
  refine ⟨(vs.drop (o*fb)).take (m*fb),?_,(hv.drop _).take _,fun e=>?_,fun q e hq=>hlen⟩
  ·simp only [iG,nb,hmz,decide_false,cond_false,hl]
  ·simp only [nV,alO]at e
   subst e
   refine ⟨?_,rfl,hlen⟩
   simp only [nD,nb,show¬ n=0 by omega,decide_false,cond_false,hl]
 ·rename_i fb rows
  split at k
  case isFalse=>cases k
  rename_i hc
  cases k
  obtain ⟨rfl,h1⟩:=hc
  cases h with|fs q=>
  cases q with| @fs _ _ a c rs hr hl hk qU=>
  have hlen:=qU.length
  obtain ⟨a',c',e1,e2⟩:=hr.is
  simp only [Value.slice.injEq]at e1
  obtain ⟨rfl,_,rfl⟩:=e1
  obtain ⟨b,o,rfl,_⟩:=e2 0 _ (alN (by omega))
  rw [hlen]at hr
  have hw:=hr.whole m (by omega) hm
  have iN:(rs.take m).flatten.length=m*fb:=by
   rw [bT (sz:=fb) fun r Cb=>hr.DY r (List.mem_of_mem_take Cb),List.length_take,Nat.min_eq_left (by omega)]
  refine ⟨(rs.take m).flatten,?_,(qU.take m).flat.oR,fun e=>?_,fun _ _ _=>iN⟩
  ·simp only [iG,nb,hmz,decide_false,cond_false,hw]
  ·simp only [nV,alO]at e
   refine ⟨?_,by simp [lj,e],iN⟩
   simp only [nD,nb,show¬ rows.length=0 by omega,decide_false,cond_false]
   rw [e,hw]
 ·rename_i s
  split at k
  case isFalse=>cases k
  rename_i hc
  cases k
  subst hc
  cases h
  refine ⟨(s.extract 0 m).data.toList.map fun b=>.int .u8 b.toNat,rfl,zO _,fun e=>?_,fun q e hq=>?_⟩
  ·simp only [nV,alO]at e
   subst e
   refine ⟨?_,rfl,by simp⟩
   simp [nD]
  ·simp only [lj,alO]at e
   subst e
   simp [hq]
 ·split at k
  case isFalse=>cases k
  omega
 ·cases k
theorem NW (S:dx C) {sz bytes:Nat} {p q r:PV} {x y:Value} {h':PH} (hp:RV C p x) (hq:RV C q y) (k:rQ sz bytes C.h p q=some (r,h')) (hW:∀sz b o n c,p= .sl sz b o n c→W b):
 mX C W (aX sz bytes C.H x y) r h':=by
 unfold rQ at k
 split at k
 ·cases k
 rename_i m hm
 split at k
 ·rename_i h0
  subst h0
  split at k
  case isFalse=>cases k
  rename_i hv
  have hlen:=EY hq hm hv
  split at k
  ·cases k
   cases hp
   exact mX.val S (.v _) (by simp [aX,hlen])
  ·rename_i fb b o n c
   split at k
   case h_2=>cases k
   rename_i z cs hh
   split at k
   case isFalse=>cases k
   rename_i hc
   cases k
   have vL:=qY hp hh hc.1
   refine mX.val S hp ?_
   rcases vL with⟨_,rfl,d,rfl,_⟩|⟨_,rfl⟩
   ·simp [aX,hlen]
   ·simp [aX,hlen,hc.2]
  ·cases k
   refine mX.val S hp ?_
   cases hp with|fs g=>
   cases g with|fs hr hl hk qU=>simp [aX,hlen,hl]
  ·cases k
 rename_i h0
 have Np:0<m:=by omega
 split at k
 ·cases k
 rename_i new DZ
 split at k
 ·split at k
  case isFalse=>cases k
  rename_i hc
  cases k
  obtain ⟨hz,hb,qD⟩:=hc
  obtain ⟨ys,_,wS,j9,_⟩:=qZ S hq DZ Np hz
  obtain ⟨j9,hlen,P0⟩:=j9 hm
  cases hp
  obtain ⟨A,B⟩:=S.new (P:=.cells sz new) (B:=.cells sz ys) W (.inl ⟨_,_,_,rfl,rfl,wS⟩)
  refine ⟨.slice (some ⟨C.H.nx,0,none⟩) m m,_,_,?_,.sl ⟨_,_,rfl⟩ (by simp) ?_ (fun _=>.inr ⟨Np,?_⟩),A,B⟩
  ·have:¬ m=0:=h0
   simp [aX,hlen,this,j9,nb,hb,qD]
  ·intro z cs e
   rw [show(C.h++[PB.cells sz new])[C.h.length]?=_ from jC _ _]at e
   cases e
   have:=wS.length
   simp;omega
  ·simp [fm]
 ·rename_i fb b o n c
  split at k
  case h_2=>cases k
  rename_i z cs hh
  split at k
  case isFalse=>cases k
  rename_i hc
  obtain ⟨rfl,rfl,hz,h1,h2,hb,qD⟩:=hc
  obtain ⟨ys,_,wS,j9,_⟩:=qZ S hq DZ Np hz
  obtain ⟨j9,hlen,P0⟩:=j9 hm
  have vL:=qY hp hh h1
  have mL:=(alT.1 hh).1
  have OZ:=wS.length
  have hWb:=hW _ _ _ _ _ rfl
  have NX:¬ m=0:=h0
  split at k
  ·rename_i xl
   split at k
   case isFalse=>cases k
   rename_i ho
   cases k
   subst xl;subst ho
   obtain rfl:n=0:=by omega
   have gF:cs=[]:=List.length_eq_zero_iff.1 (by simpa using h1.symm)
   rcases vL with⟨_,_,d,rfl,hd⟩|⟨a,_⟩
   case inr=>omega
   obtain ⟨A,B⟩:=S.grow (H1:=C.H) hWb hh (by rw [gF,OZ,P0];simpa using Nat.mul_pos Np hz) wS (.inl ⟨gF,rfl⟩)
   refine ⟨.slice (some ⟨C.H.nx,0,none⟩) m m,_,_,?_,.sl ⟨_,_,rfl⟩ (by simpa using mL) ?_ (fun _=>.inr ⟨Np,?_⟩),A,B⟩
   ·simp only [aX,hlen,if_neg NX,j9]
    rw [show decide ((0+m)*bytes≤2^47)=true by simpa using hb,show decide (0+m<2^62)=true by simpa using qD]
    simp only [Bool.and_self,cond_true]
    rw [if_neg (by omega)]
    cases d with
    |none=>simp
    |some d=>simp [hd d rfl]
   ·intro z cW e
    rw [ec mL]at e
    cases e
    simp;omega
   ·simp [fm]
  rename_i xl
  rcases vL with⟨a,_⟩|⟨_,rfl⟩
  ·omega
  have nv:0<cs.length:=by rw [←h1];exact Nat.mul_pos (by omega) hz
  have gF:cs≠[]:=List.length_pos_iff.1 nv
  obtain ⟨vs,hg,dy,mu⟩:=S.cells (t:=0) hh nv
  have lW:=dy.length
  have vx:C.H.jm (C.φ b) z=true:=by unfold AH.jm;rw [hg];simp
  have d1:decide ((n+m)*bytes≤2^47)=true:=by simpa using hb
  have d2:decide (n+m<2^62)=true:=by simpa using qD
  have Tv:n*z≤c*z:=Nat.mul_le_mul_right _ h2
  have adm:(o+c)*z=o*z+c*z:=Nat.add_mul ..
  have adn:(o+n)*z=o*z+n*z:=Nat.add_mul ..
  have anm:(n+m)*z=n*z+m*z:=Nat.add_mul ..
  split at k
  ·rename_i PJ
   cases k
   have ab2:(n+m)*z≤c*z:=Nat.mul_le_mul_right _ PJ
   obtain ⟨A,B⟩:=S.put hWb hh gF (ic (by omega)) (dy.rP (k:=(o+n)*z) wS)
   refine ⟨.slice (some ⟨C.φ b,o*z,none⟩) (n+m) c,_,_,?_,.sl ⟨_,_,rfl⟩ (by simpa using mL) ?_ (fun _=>.inr ⟨by omega,rfl⟩),A,B⟩
   ·simp only [aX,hlen,if_neg NX,j9,d1,d2,Bool.and_self,cond_true,if_pos PJ,vx,Option.isNone_none]
    unfold AH.st
    simp only [hg]
    rw [show decide (C.H.n0≤C.φ b)=true by simp [mu],show decide (o*z+n*z+ys.length≤vs.length)=true by simp;omega,adn]
    rfl
   ·intro z9 cW e
    rw [ec mL]at e
    cases e
    rw [ic (by omega)];omega
  ·rename_i PJ
   split at k
   case isFalse=>cases k
   rename_i ho
   cases k
   subst ho
   simp only [Nat.zero_mul,Nat.zero_add]at adm adn hg h1
   have ab2:c*z<(n+m)*z:=Nat.mul_lt_mul_of_pos_right (by omega) hz
   have hdl:(cs.take (n*z)++new).length=(n+m)*z:=by rw [alW,List.length_take,Nat.min_eq_left (by omega)];omega
   obtain ⟨A,B⟩:=S.grow (H1:=C.H.put (C.φ b) none) hWb hh (ds:=cs.take (n*z)++new) (by omega) ((dy.take _).append wS) (.inr ⟨gF,rfl⟩)
   refine ⟨.slice (some ⟨C.H.nx,0,none⟩) (n+m) (n+m),_,_,?_,.sl ⟨_,_,rfl⟩ (by simpa using mL) ?_ (fun _=>.inr ⟨by omega,?_⟩),A,B⟩
   ·have eW:C.H.ldn ⟨C.φ b,0,none⟩ (n*z)=some (vs.take (n*z)):=by
     rw [bk hg mu (by omega)];simp
    simp only [aX,hlen,if_neg NX,j9,d1,d2,Bool.and_self,cond_true,if_neg PJ,if_neg xl,vx,Option.isNone_none,Nat.zero_mul,eW]
    rw [show decide (C.H.n0≤C.φ b)=true by simp [mu]]
    rfl
   ·intro z9 cW e
    rw [ec mL]at e
    cases e
    rw [hdl];simp
   ·simp [fm]
 ·cases k
end Go.Proofs.YtppcmpmnglaleaaGreatDoor.A.P
namespace Go.Proofs.YtppcmpmnglaleaaGreatDoor.A.P
open Go Go.RowKit
variable{C:Cx} {W:Nat→Prop}
theorem Jj (S:dx C) {sz:Nat} {p q r:PV} {x y:Value} {h':PH} (hp:RV C p x) (hq:RV C q y) (k:zL sz C.h p q=some (r,h')) (hW:∀sz b o n c,p= .sl sz b o n c→W b):
 mX C W (iS sz C.H x y) r h':=by
 unfold zL at k
 split at k
 ·cases k
 rename_i m hm
 obtain ⟨hv,hm⟩:=au hm
 have hlen:=EY hq hm hv
 have hy:∃l,iG C.H sz 0 y=some l∧l.length=0:=by
  cases y with
  |slice a n c=>cases a<;>simp [iG,nb]
  |string s=>exact ⟨[],by simp [iG]⟩
  |_=>simp [lj]at hlen
 split at k
 ·cases k
  cases hp
  obtain ⟨l,hl,BZ⟩:=hy
  refine mX.val S (.v _) ?_
  simp only [iS,hlen,Nat.min_zero]
  rw [hl]
  rfl
 ·rename_i fb b o n c
  split at k
  case h_2=>cases k
  rename_i z cs hh
  split at k
  case isFalse=>cases k
  rename_i hc
  obtain ⟨rfl,hz,h1,h2⟩:=hc
  have vL:=qY hp hh h1
  split at k
  ·rename_i Jk
   cases k
   obtain ⟨l,hl,BZ⟩:=hy
   refine mX.val S (.v _) ?_
   have:l=[]:=List.length_eq_zero_iff.1 BZ
   subst this
   rcases vL with⟨_,rfl,d,rfl,_⟩|⟨_,rfl⟩
   ·simp only [iS,hlen,Jk,hl]
    cases d<;>rfl
   ·simp only [iS,hlen,Jk,hl]
    rfl
  ·rename_i Jk
   split at k
   case h_2=>cases k
   rename_i new DZ
   cases k
   have QA:0<Nat.min m n:=by omega
   have hle:Nat.min m n≤n:=Nat.min_le_right _ _
   obtain ⟨ys,hf,wS,_,P0⟩:=qZ S hq DZ QA hz
   have P0:=P0 m hlen (Nat.min_le_left _ _)
   rcases vL with⟨_,rfl,_⟩|⟨_,rfl⟩
   ·simp at Jk
   have nv:0<cs.length:=by rw [←h1];exact Nat.mul_pos (by omega) hz
   obtain ⟨vs,hg,dy,mu⟩:=S.cells (t:=0) hh nv
   have lW:=dy.length
   have OZ:=wS.length
   have Tv:(o+Nat.min m n)*fb≤(o+c)*fb:=Nat.mul_le_mul_right _ (by omega)
   rw [Nat.add_mul]at Tv
   obtain ⟨A,B⟩:=S.put (hW _ _ _ _ _ rfl) hh (List.length_pos_iff.1 nv) (ic (by omega)) (dy.rP (k:=o*fb) wS)
   refine ⟨.int .i64 (Nat.min m n),_,_,?_,.v _,A,B⟩
   simp only [iS,hlen,hf]
   have fw:ys.isEmpty=false:=by
    cases ys with
    |nil=>simp at P0;have:=Nat.mul_pos QA hz;omega
    |cons=>rfl
   simp only [Option.bind_some,fw,cond_false]
   unfold AH.st
   simp only [hg]
   rw [show decide (C.H.n0≤C.φ b)=true by simp [mu],show decide (o*fb+ys.length≤vs.length)=true by simp;omega]
   rfl
 ·cases k
theorem yd {mc:X→PV} {ρ:X→Value} (h:∀x,RV C (mc x) (ρ x)) {o:Option X} {r:Option Value} (k:K6 (o.map mc)=some r):o.map ρ=r:=by
 cases o with
 |none=>simpa [K6]using k
 |some x=>
  have hx:=h x
  simp only [Option.map_some]at k⊢
  revert k
  generalize mc x=p at hx
  intro k
  cases p<;>first
   |(simp [K6]at k;done)
   |skip
  cases hx
  simpa [K6]using k
theorem zP {v:Value} {y z n:Nat} (h:fP v y=some n) (hz:n≤z):fP v z=some n:=by
 unfold fP at h⊢
 cases v<;>simp_all
 omega
theorem iB {v:Value} {y n:Nat} (h:fP v y=some n):n≤y:=by
 unfold fP at h
 cases v<;>simp_all
 omega
theorem BD {n c:Nat} {lo hi:Option Value} {l e m:Nat} (h:a7 n n lo hi none=some (l,e,m)) (hc:n≤c):a7 n c lo hi none=some (l,e,c)∧m=n∧l≤e∧e≤n:=by
 have h':=h
 unfold a7 at h
 obtain ⟨m',h1,h⟩:=alY.1 h
 obtain ⟨e',h2,h⟩:=alY.1 h
 obtain ⟨l',h3,h⟩:=alY.1 h
 simp only [alO,alV]at h
 obtain ⟨rfl,rfl,rfl⟩:=h
 have hl:l'≤e':=by
  cases lo with
  |none=>simp only [alO]at h3;omega
  |some v=>exact iB h3
 have he:e'≤n:=by
  cases hi with
  |none=>simp only [alO]at h2;omega
  |some v=>exact iB h2
 refine ⟨?_,by simpa using h1.symm,hl,he⟩
 unfold a7
 refine alY.2 ⟨c,rfl,alY.2 ⟨e',?_,alY.2 ⟨l',h3,rfl⟩⟩⟩
 cases hi with
 |none=>exact h2
 |some v=>exact zP h2 (by omega)
theorem EZ {n c:Nat} {lo hi:Option Value} {v:Value} (h:a7 n n lo hi (some v)=some (0,0,0)) (hc:n≤c):a7 n c lo hi (some v)=some (0,0,0):=by
 unfold a7 at h
 obtain ⟨m',h1,h⟩:=alY.1 h
 obtain ⟨e',h2,h⟩:=alY.1 h
 obtain ⟨l',h3,h⟩:=alY.1 h
 simp only [alO,alV]at h
 obtain ⟨rfl,rfl,rfl⟩:=h
 unfold a7
 refine alY.2 ⟨0,zP h1 (by omega),alY.2 ⟨0,?_,alY.2 ⟨0,h3,rfl⟩⟩⟩
 cases hi with
 |none=>exact h2
 |some v=>exact h2
theorem sq {n c:Nat} {lo hi mx:Option Value} {l e m:Nat} (h:a7 n c lo hi mx=some (l,e,m)) (hnc:n≤c):m≤c∧(mx=none→m=c)∧l≤e∧e≤m:=by
 unfold a7 at h
 obtain ⟨m',h1,h⟩:=alY.1 h
 obtain ⟨e',h2,h⟩:=alY.1 h
 obtain ⟨l',h3,h⟩:=alY.1 h
 simp only [alO,alV]at h
 obtain ⟨rfl,rfl,rfl⟩:=h
 have hm:m'≤c∧(mx=none→m'=c):=by
  cases mx with
  |none=>simp only [alO]at h1;omega
  |some v=>exact ⟨iB h1,fun h=>by cases h⟩
 refine ⟨hm.1,hm.2, ?_, ?_⟩
 · cases lo with
   |none=>simp only [alO]at h3;omega
   |some v=>exact iB h3
 · cases hi with
   |none=>cases mx with
    |none=>simp only [alO]at h2;have:=hm.2 rfl;omega
    |some v=>cases h2
   |some v=>cases mx with
    |none=>have:=iB h2;have:=hm.2 rfl;omega
    |some w=>exact iB h2
theorem vZ {sz:Nat} {a:Option Addr} {n c:Nat} {rs:List (List Value)} {F:Nat→Prop} {H:AH} (hr:Rows H sz (.slice a n c) rs) (hk:∀d,a=some d→(d.spot=none∨c=0)∧(n=0∨(F d.block∧H.jm d.block sz=true))) (hn:0<n):∃b o,a=some ⟨b,o,none⟩∧rs.length=n∧F b∧H.jm b sz=true∧∀i r,rs[i]?=some r→H.ldn ⟨b,o+i*sz,none⟩ sz=some r:=by
 obtain ⟨a',c',e,q⟩:=hr.is
 simp only [Value.slice.injEq]at e
 obtain ⟨rfl,h,rfl⟩:=e
 obtain ⟨b,o,rfl,_⟩:=q 0 _ (alN (by omega))
 rcases (hk _ rfl).2 with h0|⟨h1,h2⟩
 ·omega
 ·exact ⟨b,o,rfl,h.symm,h1,h2,fun i r hi=>by obtain ⟨b',o',e,k⟩:=q i r hi;cases e;exact k⟩
theorem tS {sz:Nat} {a:Option Addr} {c:Nat} (h:∀d,a=some d→d.spot=none∨c=0):RF C.F C.H (.fs sz []) (.slice a 0 c):=
 .fs (rows:=[]) (rs:=[]) ⟨_,_,rfl,by simp⟩ (Nat.zero_le _) (fun d hd=>⟨h d hd,.inl rfl⟩) .nil
theorem Tw (S:dx C) {sz:Nat} {p r:PV} {x:Value} {h':PH} {lo hi mx:Option X} {mc:X→PV} {ρ:X→Value} (Wi:∀x,RV C (mc x) (ρ x)) (hp:RV C p x) (k:Tp sz C.h p (lo.map mc) (hi.map mc) (mx.map mc)=some (r,h')):
 mX C W ((bC sz C.H x (lo.map ρ) (hi.map ρ) (mx.map ρ)).map fun v=>(v,C.H)) r h':=by
 unfold Tp at k
 split at k
 case h_2=>cases k
 rename_i xj pd AM e1 e2 e3
 rw [yd Wi e1,yd Wi e2,yd Wi e3]
 clear e1 e2 e3 Wi
 split at k
 ·rename_i fb b o n c
  split at k
  case h_2=>cases k
  rename_i z cs l e m hh hb
  split at k
  case isFalse=>cases k
  rename_i hc
  obtain ⟨rfl,hz,rfl,h1,h2⟩:=hc
  have vL:=qY hp hh h1
  split at k
  ·rename_i xl
   cases k
   refine mX.val S hp ?_
   rcases vL with⟨_,rfl,d,rfl,hd⟩|⟨a,_⟩
   case inr=>omega
   subst xl
   obtain ⟨b1,b2,b3,b4⟩:=sq hb (alR _)
   obtain ⟨rfl,rfl,rfl⟩:l=0∧e=0∧m=0:=by omega
   simp only [bC,hb,nb,show¬ z=0 by omega,decide_false,Bool.not_false,alR,decide_true,Bool.and_self,cond_true]
   cases d with
   |none=>rfl
   |some d=>simp
  rename_i xl
  rcases vL with⟨a,_⟩|⟨_,rfl⟩
  ·omega
  have nv:0<cs.length:=by rw [←h1];exact Nat.mul_pos (by omega) hz
  obtain ⟨vs,hg,dy,mu⟩:=S.cells (t:=0) hh nv
  have vx:C.H.jm (C.φ b) z=true:=by unfold AH.jm;rw [hg];simp
  split at k
  ·rename_i wR
   split at k
   ·rename_i Qp
    cases k
    subst Qp
    refine mX.val S (x:=.slice (some ⟨C.φ b,o*z,some 1⟩) 0 0) (.fs (tS fun _ _=>.inr rfl)) ?_
    have hm:m=c:=by
     unfold a7 at hb
     obtain ⟨m',Gv,hb⟩:=alY.1 hb
     obtain ⟨e',B1,hb⟩:=alY.1 hb
     obtain ⟨l',CK,hb⟩:=alY.1 hb
     simp only [alO,alV]at hb Gv
     omega
    simp only [bC,hb,nb,show¬ z=0 by omega,decide_false,Bool.not_false,h2,decide_true,Bool.and_self,cond_true,if_pos wR,Option.isNone_none,true_and]
    rw [if_pos (by omega)]
    rfl
   ·rename_i Qp
    cases k
    obtain ⟨A,B⟩:=S.void z W
    have hle:l≤e:=by
     unfold a7 at hb
     obtain ⟨m',Gv,hb⟩:=alY.1 hb
     obtain ⟨e',B1,hb⟩:=alY.1 hb
     obtain ⟨l',CK,hb⟩:=alY.1 hb
     simp only [alO,alV]at hb
     obtain ⟨rfl,rfl,rfl⟩:=hb
     cases xj with
     |none=>simp only [alO]at CK;omega
     |some v=>exact iB CK
    refine ⟨.slice (some ⟨C.φ b,o*z,none⟩) 0 0,_,_,?_,.sl ⟨_,_,rfl⟩ (by simp) ?_ (fun _=>.inl ⟨rfl,rfl,_,rfl,by rintro e ⟨⟩;rfl⟩),A,B⟩
    ·have:AM.isNone=false:=by cases AM with
      |none=>exact absurd rfl Qp
      |some _=>rfl
     simp only [bC,hb,nb,show¬ z=0 by omega,decide_false,Bool.not_false,h2,decide_true,Bool.and_self,cond_true,if_pos wR,this]
     simp
     omega
    ·intro z9 cs9 e9
     simp
  ·rename_i wR
   split at k
   case isFalse=>cases k
   rename_i hmc
   cases k
   subst hmc
   have hle:l≤m:=by
    unfold a7 at hb
    obtain ⟨m',Gv,hb⟩:=alY.1 hb
    obtain ⟨e',B1,hb⟩:=alY.1 hb
    obtain ⟨l',CK,hb⟩:=alY.1 hb
    simp only [alO,alV]at hb
    obtain ⟨rfl,rfl,rfl⟩:=hb
    cases xj with
    |none=>simp only [alO]at CK;omega
    |some v=>have:=iB CK;omega
   refine mX.val S (x:=.slice (some ⟨C.φ b,(o+l)*z,none⟩) (e- l) (m- l)) (hp.slT (by omega) ⟨_,_,rfl⟩ (.inr ⟨by omega,rfl⟩)) ?_
   simp only [bC,hb,nb,show¬ z=0 by omega,decide_false,Bool.not_false,h2,decide_true,Bool.and_self,cond_true,if_neg wR,Option.isNone_none,vx,Bool.or_true,Nat.add_mul]
   rfl
 ·rename_i fb rows
  split at k
  case isFalse=>cases k
  rename_i hc
  obtain ⟨rfl,hz⟩:=hc
  cases hp with|fs q=>
  cases q with| @fs _ _ a c rs hr hl hk qU=>
  have hlen:=qU.length
  split at k
  ·split at k
   case h_2=>cases k
   rename_i l e m hb
   split at k
   case isFalse=>cases k
   cases k
   obtain ⟨b1,rfl,b3,b4⟩:=BD hb hl
   have hec:e≤c:=by omega
   by_cases nv:c=l
   ·have eD:(rows.take e).drop l=[]:=List.eq_nil_of_length_eq_zero (by simp;omega)
    rw [eD]
    have hd:∃d,bC fb C.H (.slice a rows.length c) xj pd none=some (.slice d 0 0):=by
     simp only [bC,b1,nb,show¬ fb=0 by omega,decide_false,Bool.not_false,hec,decide_true,Bool.and_self,cond_true]
     cases a with
     |none=>exact ⟨none,by simp;omega⟩
     |some a=>
      simp only [if_pos nv]
      split
      ·exact ⟨_,rfl⟩
      ·exact ⟨some a,by rw [show e- l=0 by omega]⟩
    obtain ⟨d,hd⟩:=hd
    refine mX.val S (x:=.slice d 0 0) (.fs (tS fun _ _=>.inr rfl)) (by rw [hd];rfl)
   ·by_cases hn:rows.length=0
    ·obtain ⟨rfl,rfl⟩:l=0∧e=0:=by omega
     have:(rows.take 0).drop 0=[]:=by simp
     rw [this]
     refine mX.val S (x:=.slice a 0 c) (.fs (tS fun d hd=>(hk d hd).1)) ?_
     simp only [bC,b1,nb,show¬ fb=0 by omega,decide_false,Bool.not_false,hec,decide_true,Bool.and_self,cond_true]
     cases a with
     |none=>simp
     |some a=>
      rcases (hk _ rfl).1 with h0|h0
      ·obtain ⟨bb,oo,ss⟩:=a
       simp only at h0
       subst h0
       simp [if_neg nv]
      ·omega
    ·obtain ⟨b,o,rfl,h1,h2,h3,h4⟩:=vZ hr hk (by omega)
     refine mX.val S (x:=.slice (some ⟨b,o+l*fb,none⟩) (e- l) (c- l)) ?_ ?_
     ·have e1:((rows.take e).drop l).length=e- l:=by simp;omega
      have e2:((rs.take e).drop l).length=((rows.take e).drop l).length:=by simp;omega
      rw [←e1]
      refine .fs (.fs (rs:=(rs.take e).drop l) ⟨_,_,by rw [e2],fun i r hi=>⟨b,o+l*fb,rfl,?_⟩⟩ (by omega) ?_ ((qU.take e).drop l))
      ·rw [List.getElem?_drop,List.getElem?_take]at hi
       split at hi
       case isFalse=>cases hi
       have:=h4 _ _ hi
       rw [Nat.add_mul]at this
       rw [←this]
       congr 2
       omega
      ·rintro d ⟨⟩
       exact ⟨.inl rfl,.inr ⟨h2,h3⟩⟩
     ·simp only [bC,b1,nb,show¬ fb=0 by omega,decide_false,Bool.not_false,hec,decide_true,Bool.and_self,cond_true,if_neg nv,Option.isNone_none,h3,Bool.or_true]
      rfl
  ·split at k
   case isFalse=>cases k
   rename_i hb
   have b1:=EZ hb hl
   split at k
   ·cases k
    have hd:∃d,bC fb C.H (.slice a 0 c) xj pd (some ‹Value›)=some (.slice d 0 0):=by
     simp only [List.length_nil]at b1
     simp only [bC,b1,nb,show¬ fb=0 by omega,decide_false,Bool.not_false,alR,decide_true,Bool.and_self,cond_true]
     cases a with
     |none=>exact ⟨none,rfl⟩
     |some a=>exact ⟨some a,by simp⟩
    obtain ⟨d,hd⟩:=hd
    refine mX.val S (x:=.slice d 0 0) (.fs (tS fun _ _=>.inr rfl)) (by simp only [List.length_nil];rw [hd];rfl)
   ·rename_i r0 rows
    cases k
    obtain ⟨b,o,rfl,h1,h2,h3,h4⟩:=vZ hr hk (by simp)
    obtain ⟨A,B⟩:=S.void fb W
    refine ⟨.slice (some ⟨b,o,none⟩) 0 0,_,_,?_,.sl ⟨_,_,rfl⟩ (by simp) ?_ (fun _=>.inl ⟨rfl,rfl,_,rfl,by rintro e ⟨⟩;rfl⟩),A,B⟩
    ·simp only [bC,b1,nb,show¬ fb=0 by omega,decide_false,Bool.not_false,alR,decide_true,Bool.and_self,cond_true]
     simp
    ·intro z9 cs9 e9
     simp
 ·split at k
  case isFalse=>cases k
  rename_i hc
  cases k
  cases hp
  refine mX.val S (.v _) ?_
  obtain ⟨⟨l,e,m⟩,hb⟩:=Option.isSome_iff_exists.1 hc.2
  obtain ⟨b1,b2,b3,b4⟩:=sq hb (alR _)
  obtain ⟨rfl,rfl,rfl⟩:l=0∧e=0∧m=0:=by omega
  simp only [bC,hb,nb,show¬ sz=0 by omega,decide_false,Bool.not_false,alR,decide_true,Bool.and_self,cond_true]
  rfl
 ·rename_i s
  split at k
  ·cases k
  ·split at k
   case h_2=>cases k
   rename_i l e m hb
   split at k
   case isFalse=>cases k
   rename_i hz
   cases k
   subst hz
   cases hp
   refine mX.val S (.v _) ?_
   simp only [bC,hb]
   rfl
 ·cases k
end Go.Proofs.YtppcmpmnglaleaaGreatDoor.A.P
namespace Go.Proofs.YtppcmpmnglaleaaGreatDoor.A.P
open Go Go.RowKit
variable{C:Cx} {W:Nat→Prop}
theorem zQ {k:Value}:∀{es:List (Value×PV)} {ys:List (Value×Value)} {r:Option PV},es.map (·.1)=ys.map (·.1)→cx C (es.map (·.2)) (ys.map (·.2))→so k es=some r→(r=none∧eL k ys=some none)∨∃p v,r=some p∧eL k ys=some (some v)∧RV C p v
 |[],ys,r,h,_,e=>by
  cases ys with
  |nil=>cases e;exact .inl ⟨rfl,rfl⟩
  |cons=>simp at h
 |(k',p)::es,ys,r,h,g,e=>by
  cases ys with
  |nil=>simp at h
  |cons y ys=>
   obtain ⟨k2,v⟩:=y
   simp only [List.map_cons,List.cons.injEq]at h
   obtain ⟨rfl,h⟩:=h
   simp only [List.map_cons]at g
   cases g with|cons g1 g2=>
   simp only [so]at e
   split at e
   ·rename_i hv
    cases e
    exact .inr ⟨p,v,rfl,by simp [eL,hv],g1⟩
   ·rename_i hv
    rcases zQ h g2 e with⟨a,b⟩|⟨p',v',a,b,c⟩
    ·exact .inl ⟨a,by simp [eL,hv,b]⟩
    ·exact .inr ⟨p',v',a,by simp [eL,hv,b],c⟩
   ·cases e
theorem E4 {k:Value} {p:PV} {v:Value} (hp:RV C p v):∀{es fs:List (Value×PV)} {ys:List (Value×Value)},es.map (·.1)=ys.map (·.1)→cx C (es.map (·.2)) (ys.map (·.2))→x8 k p es=some fs→∃zs,jY k v ys=some zs∧fs.map (·.1)=zs.map (·.1)∧cx C (fs.map (·.2)) (zs.map (·.2))
 |[],fs,ys,h,_,e=>by
  cases ys with
  |nil=>cases e;exact ⟨[(k,v)],rfl,rfl,.cons hp .nil⟩
  |cons=>simp at h
 |(k',p')::es,fs,ys,h,g,e=>by
  cases ys with
  |nil=>simp at h
  |cons y ys=>
   obtain ⟨k2,v'⟩:=y
   simp only [List.map_cons,List.cons.injEq]at h
   obtain ⟨rfl,h⟩:=h
   simp only [List.map_cons]at g
   cases g with|cons g1 g2=>
   simp only [x8]at e
   split at e
   ·rename_i hv
    cases e
    exact ⟨(k,v)::ys,by simp [jY,hv],by simp [h],.cons hp g2⟩
   ·rename_i hv
    cases hf:x8 k p es with
    |none=>simp [hf]at e
    |some oP=>
     simp only [hf,Option.map_some,alO]at e
     subst e
     obtain ⟨zs,a,b,c⟩:=E4 hp h g2 hf
     exact ⟨(k',v')::zs,by simp [jY,hv,a],by simp [b],.cons g1 c⟩
   ·cases e
theorem E5 {b:Nat} {x:Value} {es:List (Value×PV)} (h:RV C (.mp b) x) (e:C.h[b]?=some (.map es)):x= .map (some (C.φ b)):=by
 cases h with|mp _ hb ha=>exact ha ⟨es,e⟩
theorem Jl (S:dx C) {kk:Nat} {z:Value} {p q r:PV} {x y:Value} {ok:Bool} (h:RV C p x) (g:RV C q y) (k:zK kk z C.h p q ok=some r):∃w,fY kk z C.H x y ok=some w∧RV C r w:=by
 have zer:∃w,(bif ok then Value.tuple #[z,.bool false]else z)=w∧RV C (bif ok then .fJ [uF z,.v (.bool false)]else uF z) w:=by
  refine ⟨_,rfl,?_⟩
  cases ok
  ·exact x9 z
  ·exact .fJ (xs:=[z,.bool false]) (.cons (x9 z) (.cons (.v _) .nil))
 obtain ⟨w0,MB,IQ⟩:=zer
 unfold zK at k
 split at k
 ·cases h;cases g
  split at k
  case isFalse=>cases k
  rename_i hk
  cases k
  exact ⟨w0,by simp [fY,hk,←MB],IQ⟩
 ·rename_i b kx
  cases g
  split at k
  case h_2=>cases k
  rename_i es hh
  split at k
  case isFalse=>cases k
  rename_i hk
  rw [E5 h hh]
  obtain ⟨ys,hg,K3,hv,mu,_⟩:=S.x7 _ _ hh
  have d:decide (C.H.n0≤C.φ b)=true:=by simp [mu]
  cases hf:so y es with
  |none=>simp [hf]at k
  |some q=>
   rcases zQ K3 hv hf with⟨rfl,e⟩|⟨p,v,rfl,e,hpv⟩
   ·simp only [hf,alO]at k
    subst k
    exact ⟨w0,by simp [fY,hg,hk,mu,e,←MB],IQ⟩
   ·simp only [hf,alO]at k
    subst k
    refine ⟨(bif ok then Value.tuple #[v,.bool true]else v),by simp [fY,hg,hk,mu,e],?_⟩
    cases ok
    ·exact hpv
    ·exact .fJ (xs:=[v,.bool true]) (.cons hpv (.cons (.v _) .nil))
 ·cases k
theorem NY (S:dx C) {kk:Nat} {p q r:PV} {x y z:Value} {h':PH} (h:RV C p x) (g:RV C q y) (f:RV C r z) (k:EV kk C.h p q r=some h') (hW:∀b,p= .mp b→W b):∃H',pj kk C.H x y z=some H'∧dx ⟨C.F,H',C.φ,h'⟩∧cH C.h.length W C ⟨C.F,H',C.φ,h'⟩:=by
 unfold EV at k
 split at k
 ·rename_i b kx
  cases g
  split at k
  case h_2=>cases k
  rename_i es hh
  split at k
  case isFalse=>cases k
  rename_i hk
  rw [E5 h hh]
  obtain ⟨ys,hg,K3,hv,mu,_⟩:=S.x7 _ _ hh
  cases hf:x8 y r es with
  |none=>simp [hf]at k
  |some fs=>
   simp only [hf,Option.map_some,alO]at k
   subst k
   obtain ⟨zs,a,b',c⟩:=E4 f K3 hv hf
   obtain ⟨A,B⟩:=S.abY (hW _ rfl) hh b' c
   refine ⟨_,?_,A,B⟩
   obtain ⟨cs,gF⟩:=Option.isSome_iff_exists.1 hk.2
   simp [pj,hg,hk.1,mu,a,(gJ f gF).2]
 ·cases k
theorem E6 (S:dx C) (W:Nat→Prop) {z:Nat} {cs:List PV} {vs:List Value} (h:cx C cs vs):mX C W (some (.pointer (some ⟨C.H.nx,0,none⟩),C.H.alloc (.cells z vs))) (.ref C.h.length 0 cs.length) (C.h++[.cells z cs]):=by
 obtain ⟨A,B⟩:=S.new (P:=.cells z cs) (B:=.cells z vs) W (.inl ⟨_,_,_,rfl,rfl,h⟩)
 refine ⟨_,_,_,rfl,.ref rfl (by simp) ?_ (fun _=>by simp [fm]),A,B⟩
 intro z9 cs9 e9
 rw [show(C.h++[PB.cells z cs])[C.h.length]?=_ from jC _ _]at e9
 cases e9
 exact alR _
theorem zT (S:dx C) (W:Nat→Prop) {sz len:Nat} {cs:List PV} {vs:List Value} (h:cx C cs vs) (hl:cs.length=len*sz) (hz:0<sz):mX C W (some (.slice (some ⟨C.H.nx,0,none⟩) len len,C.H.alloc (.cells sz vs))) (.sl sz C.h.length 0 len len) (C.h++[.cells sz cs]):=by
 obtain ⟨A,B⟩:=S.new (P:=.cells sz cs) (B:=.cells sz vs) W (.inl ⟨_,_,_,rfl,rfl,h⟩)
 refine ⟨_,_,_,rfl,.sl ⟨_,_,rfl⟩ (by simp) ?_ (fun _=>?_),A,B⟩
 ·intro z9 cs9 e9
  rw [show(C.h++[PB.cells sz cs])[C.h.length]?=_ from jC _ _]at e9
  cases e9
  simp [hl]
 ·by_cases h0:len=0
  ·subst h0;exact .inl ⟨rfl,rfl,_,rfl,by rintro e ⟨⟩;rfl⟩
  ·exact .inr ⟨by omega,by simp [fm]⟩
theorem E7:∀{ps:List PV} {l xs:List Value},NT ps=some l→cx C ps xs→xs=l
 |[],l,xs,h,g=>by cases g;cases h;rfl
 |p::ps,l,xs,h,g=>by
  cases g with|cons g1 g2=>
  cases p with
  |v x=>
   cases g1
   simp only [NT]at h
   cases h2:NT ps with
   |none=>simp [h2]at h
   |some m=>
    simp only [h2,Option.map_some,alO]at h
    rw [←h,E7 h2 g2]
  |_=>simp [NT]at h
theorem zU {cs ds:List PV} {xs ys:List Value} (h:cx C cs xs) (g:cx C ds ys):∀{offs:List (Nat×Nat)} {b:Bool},BC cs ds offs=some b→df xs ys offs=some b
 |[],b,e=>e
 |(o,kk)::l,b,e=>by
  simp only [BC]at e
  split at e
  case h_2=>cases e
  rename_i a a' h1 h2
  obtain ⟨x,hx,rx⟩:=h.get h1
  obtain ⟨y,hy,ry⟩:=g.get h2
  cases rx;cases ry
  split at e
  case isFalse=>cases e
  rename_i hk
  simp only [df,hx,hy,hk,cond_true]
  split at e
  ·rename_i hv;rw [hv];exact zU h g e
  ·rename_i hv;rw [hv];exact e
  ·cases e
theorem K8 {f:Value→List Value→Option Value} {p r:PV} {x:Value} {ps:List PV} {xs:List Value} (h:RV C p x) (g:cx C ps xs) (k:Tq f p ps=some r):∃y,f x xs=some y∧RV C r y:=by
 unfold Tq at k
 split at k
 ·rename_i x' l' e
  cases h
  rw [E7 e g]
  cases hf:f x l' with
  |none=>simp [hf]at k
  |some y=>simp only [hf,Option.map_some,alO]at k;subst k;exact ⟨y,rfl,.v _⟩
 ·cases k
def up (r:Option (Value×AH)):Option (gM×AH):=r.map fun q=>(.v q.1,q.2)
theorem Jm (o n:Nat) (ag:Bool) (vs:List Value) (H:AH):Co (.Gs o n ag) vs H=(PZ (.Gs o n ag) vs).map fun v=>(v,H):=by
 match vs with
 |[]=>rfl
 |[a]=>cases a<;>rfl
 |a::b::l=>cases a<;>rfl
theorem Jn (len n:Nat) (ag:Bool) (vs:List Value) (H:AH):Co (.Gt len n ag) vs H=(PZ (.Gt len n ag) vs).map fun v=>(v,H):=by
 match vs with
 |[]=>rfl
 |[a]=>cases a<;>rfl
 |[a,b]=>
  cases a<;>first|rfl|skip
  cases b<;>first|rfl|skip
  simp only [Co,PZ]
  split<;>rfl
 |a::b::c::l=>cases a<;>first|rfl|(cases b<;>rfl)
theorem zV {C:Cx} {ps:List PV} {vs:List Value} {n:Nat} {ag:Bool} {q:PV} (h:cx C ps vs) (e:vW ps n ag=some q):∃y,oy vs n ag=some y∧RV C q y:=by
 unfold vW at e
 split at e
 case isFalse=>cases e
 rename_i hl
 have hv:vs.length=n:=by rw [←h.length];exact hl
 unfold oy
 rw [nb,decide_eq_true hv,cond_true]
 cases ag with
 |true=>
  simp only [cond_true,alO]at e
  subst e
  exact ⟨_,rfl,.agg h⟩
 |false=>
  simp only [cond_false]at e⊢
  split at e
  ·cases e
   cases h with|cons a b=>
   cases b
   exact ⟨_,rfl,a⟩
  ·cases e
theorem c8 {C:Cx} (S:dx C) {p:PV} {h':PH} {r:Option PV} {r':Option Value} {a:Option (gM×AH)} (ha:a=r'.map fun v=>(.v v,C.H)) (k:(r.map fun v=>(v,C.h))=some (p,h')) (hr:∀q,r=some q→∃y,r'=some y∧RV C q y):∃b,a=up b∧mX C W b p h':=by
 cases hq:r with
 |none=>simp [hq]at k
 |some q=>
  simp only [hq,Option.map_some,alO,alV]at k
  obtain ⟨rfl,rfl⟩:=k
  obtain ⟨y,hy,g⟩:=hr q hq
  refine ⟨some (y,C.H),by rw [ha,hy];rfl,mX.val S g rfl⟩
theorem NZ {H:AH} {ρ:X→Value} {sz:Nat} {x i:X}:aS (.ia sz x i) ρ H=(KF sz (ρ x) (ρ i)).map fun v=>(.v v,H):=by
 simp only [aS]
 cases ρ x with
 |slice a len c=>
  cases a with
  |none=>rfl
  |some a=>
   cases ρ i<;>first
    |rfl
    |(simp only [KF];split<;>first|rfl|(cases a.spot.isNone<;>rfl))
 |_=>rfl
theorem Jo {H:AH} {ρ:X→Value} {len sz:Nat} {x i:X}:aS (.oA len sz x i) ρ H=(vd len sz (ρ x) (ρ i)).map fun v=>(.v v,H):=by
 simp only [aS]
 cases ρ x with
 |pointer a=>
  cases a with
  |none=>rfl
  |some a=>
   cases ρ i<;>first
    |rfl
    |(simp only [vd];split<;>first|rfl|(cases a.spot.isNone<;>rfl))
 |_=>rfl
theorem Di {H:AH} {ρ:X→Value} {x i:X}:aS (.ix x i) ρ H=(Cd (ρ x) (ρ i)).map fun v=>(.v v,H):=by
 simp only [aS]
 cases ρ x with
 |string s=>
  cases ρ i<;>first
   |rfl
   |(simp only [Cd];rename_i n;cases s[n.toNat]?<;>(split<;>rfl))
 |_=>rfl
theorem E8 {H:AH} {ρ:X→Value} {kk:Nat} {z:Value} {x ky:X} {ok:Bool}:aS (.look kk z x ky ok) ρ H=(fY kk z H (ρ x) (ρ ky) ok).map fun v=>(.v v,H):=by
 simp only [aS,fY]
 cases ρ x with
 |map r=>
  cases r with
  |none=>dsimp only;cases cq kk (ρ ky)<;>rfl
  |some r=>
   dsimp only
   cases H.get r with
   |none=>rfl
   |some b=>
    cases b with
    |cells=>rfl
    |map es=>
     dsimp only
     cases cq kk (ρ ky)&&decide (H.n0≤r)
     ·rfl
     ·cases eL (ρ ky) es with
      |none=>rfl
      |some q=>cases q<;>rfl
 |_=>rfl
theorem Jp {H:AH} {ρ:X→Value} {neg:Bool} {offs:List (Nat×Nat)} {x y:X}:aS (.eqs neg offs x y) ρ H=(Ie neg offs (ρ x) (ρ y)).map fun v=>(.v v,H):=by
 simp only [aS]
 cases ρ x<;>cases ρ y<;>first
  |rfl
  |(simp only [Ie];rename_i a b;cases df a.toList b.toList offs<;>rfl)
theorem N0 {C:Cx} (S:dx C) {o:cl} {mc:X→PV} {ρ:X→Value} {p:PV} {h':PH} (h:∀x,RV C (mc x) (ρ x)) (k:pop o mc C.h=some (p,h')):∃b,aS o ρ C.H=up b∧mX C (· ∈vX o mc) b p h':=by
 cases o with
 |mv x=>cases k;exact ⟨some (ρ x,C.H),rfl,mX.val S (h x) rfl⟩
 |pick c a b=>
  refine c8 S (r':=vc (ρ c) (ρ a) (ρ b)) (by simp only [aS];cases ρ c<;>rfl) k fun q hq=> ?_
  have hc:=h c
  revert hq hc
  generalize mc c=pc
  intro hq hc
  cases pc<;>first
   |(cases hq;done)
   |skip
  rename_i w
  cases w<;>first
   |(cases hq;done)
   |skip
  rename_i t
  cases hq
  rw [hc.oR]
  refine ⟨_,rfl, ?_⟩
  cases t
  · exact h b
  · exact h a
 |alloc z=>
  cases k
  refine ⟨some (.pointer (some ⟨C.H.nx,0,none⟩),C.H.alloc (.cells z.length z)),rfl, ?_⟩
  have:=E6 S (· ∈vX (.alloc z) mc) (z:=z.length) (cx.lits z)
  rw [List.length_map]at this
  exact this
 |box x=>
  simp only [pop,Jf]at k
  split at k
  case h_2=>cases k
  rename_i cs hc
  cases k
  obtain ⟨a,b⟩:=gJ (h x) hc
  refine ⟨some (.pointer (some ⟨C.H.nx,0,none⟩),C.H.alloc (.cells (aP (ρ x)).length (aP (ρ x)))),by simp [aS,b,up], ?_⟩
  rw [←a.length]
  exact E6 S _ a
 |build z ps=>
  cases hf:mW (z.map .v) (ps.map fun p=>(p.1,p.2.1,mc p.2.2))with
  |none=>simp [pop,hf]at k
  |some d=>
   simp only [pop,hf,Option.map_some,alO,alV]at k
   obtain ⟨rfl,rfl⟩:=k
   obtain ⟨ys,e,g⟩:=zM (Jg.of h ps) (cx.lits z) hf
   exact ⟨some (.agg ys.toArray,C.H),by simp [aS,e,up],mX.val S (.agg g) rfl⟩
 |bsl len sz z ps=>
  simp only [pop,Jd]at k
  split at k
  case h_2=>cases k
  rename_i d hf
  split at k
  case isFalse=>cases k
  rename_i hc
  cases k
  obtain ⟨ys,e,g⟩:=zM (Jg.of h ps) (cx.lits z) hf
  exact ⟨some (.slice (some ⟨C.H.nx,0,none⟩) len len,C.H.alloc (.cells sz ys)),by simp [aS,e,up],zT S _ g hc.1 hc.2⟩
 |ld x=>exact c8 S (r':=Pn C.H (ρ x)) (by
   simp only [aS]
   cases ρ x with
   |pointer a=>cases a<;>rfl
   |_=>rfl) k fun q hq=>K7 S (h x) hq
 |ldn n x=>exact c8 S (r':=rK n C.H (ρ x)) (by
   simp only [aS]
   cases ρ x with
   |pointer a=>
    cases a with
    |none=>rfl
    |some a=>simp only [rK];cases C.H.ldn a n<;>rfl
   |_=>rfl) k fun q hq=>yb S (h x) hq
 |st n x v=>
  cases hs:NS n C.h (mc x) (mc v)with
  |none=>simp [pop,hs]at k
  |some h2=>
   simp only [pop,hs,Option.map_some,alO,alV]at k
   obtain ⟨rfl,rfl⟩:=k
   obtain ⟨H',e,A,B⟩:=Tr (W:=(· ∈vX (.st n x v) mc)) S (h x) (h v) hs (fun b o t e=>by simp [vX,e])
   refine ⟨some (undef,H'), ?_,undef,H',C.φ,rfl, .v _,A,B⟩
   have:aS (.st n x v) ρ C.H=(DB n C.H (ρ x) (ρ v)).map fun H'=>(.v undef,H'):=by
    simp only [aS]
    cases ρ x with
    |pointer a=>
     cases a with
     |none=>rfl
     |some a=>simp only [DB];cases (Nat.beq (aP (ρ v)).length n&& !cv (ρ v))<;>simp
    |_=>rfl
   rw [this,e];rfl
 |aU x=>
  refine c8 S (r':=r5 (ρ x)) (by
   simp only [aS]
   cases ρ x with
   |pointer a=>cases a<;>rfl
   |_=>rfl) k fun q hq=> ?_
  obtain ⟨a,b⟩:=Ji (h x) hq
  exact ⟨_,a,b⟩
 |bin op x y=>
  refine c8 S (r':=bq op (ρ x) (ρ y)) rfl k fun q hq=> ?_
  have hx:=h x
  have hy:=h y
  unfold I7 at hq
  split at hq
  · rename_i a b e1 e2
    rw [e1]at hx;rw [e2]at hy
    rw [hx.oR,hy.oR]
    cases he:bq op a b with
    |none=>simp [he]at hq
    |some w=>simp only [he,Option.map_some,alO]at hq;subst hq;exact ⟨w,rfl, .v _⟩
  · cases hq
 |eqk kk neg x y=>
  cases hs:I9 C.h kk (mc x) (mc y)with
  |none=>simp [pop,hs]at k
  |some b=>
   simp only [pop,hs,Option.map_some,alO,alV]at k
   obtain ⟨rfl,rfl⟩:=k
   exact ⟨some (.bool (bif neg then !b else b),C.H),by simp only [aS];rw [Jh (h x) (h y) hs];rfl,mX.val S (.v _) rfl⟩
 |un op x=>
  refine c8 S (r':=Cn op (ρ x)) rfl k fun q hq=> ?_
  have hx:=h x
  unfold Wh at hq
  split at hq
  · rename_i a e1
    rw [e1]at hx
    rw [hx.oR]
    cases he:Cn op a with
    |none=>simp [he]at hq
    |some w=>simp only [he,Option.map_some,alO]at hq;subst hq;exact ⟨w,rfl, .v _⟩
  · cases hq
 |jU kk x=>
  refine c8 S (r':=DE kk (ρ x)) (by simp only [aS];cases ρ x<;>rfl) k fun q hq=> ?_
  have hx:=h x
  unfold Ja at hq
  split at hq
  · rename_i k' n e1
    rw [e1]at hx
    rw [hx.oR]
    cases hq
    exact ⟨_,rfl, .v _⟩
  · cases hq
 |Cp x=>
  refine c8 S (r':=Rr (ρ x)) (by simp only [aS];cases ρ x<;>rfl) k fun q hq=> ?_
  have hx:=h x
  unfold Jb at hq
  split at hq
  · rename_i k' n e1
    rw [e1]at hx
    rw [hx.oR]
    cases hq
    exact ⟨_,rfl, .v _⟩
  · cases hq
 |mkf f first cap=>cases k;exact ⟨some (.func (.func f) (first.map ρ).toArray (cap.map ρ).toArray,C.H),rfl,mX.val S (.fn (cx.of h first) (cx.of h cap)) rfl⟩
 |mkmap=>
  cases k
  obtain ⟨A,B⟩:=S.new (P:= .map []) (B:= .map []) (· ∈vX .mkmap mc) (.inr ⟨[],[],rfl,rfl,rfl, .nil⟩)
  exact ⟨some (.map (some C.H.nx),C.H.alloc (.map [])),rfl,_,_,_,rfl, .mp rfl (by simp) (fun _=>by simp [fm]),A,B⟩
 |mksl sz bytes z x=>
  have hx:=h x
  simp only [pop]at k
  unfold EW at k
  split at k
  · rename_i k' n e1
    rw [e1]at hx
    split at k
    case isFalse=>cases k
    rename_i hc
    cases k
    refine ⟨some (.slice (some ⟨C.H.nx,0,none⟩) n.toNat n.toNat,C.H.alloc (.cells sz (List.replicate n.toNat z).flatten)), ?_,zT S _ ((cx.lits z).Tn _) ?_ hc.2.2.2.2⟩
    · have d3:decide ((bytes:Int)*n≤2^47)=true:=decide_eq_true hc.2.2.1
      simp only [aS,hx.oR,decide_eq_true hc.1,decide_eq_true hc.2.1,d3,Bool.and_self,cond_true]
      rfl
    · have hz:=hc.2.2.2.1
      clear hc hx e1
      induction n.toNat with
      |zero=>simp
      |succ m ih=>simp only [List.replicate_succ,List.flatten_cons,alW,List.length_map,ih,Nat.succ_mul];omega
  · cases k
 |sl sz x lo hi mx=>exact ⟨_,by simp only [aS,up,Option.map_map];rfl,Tw S h (h x) k⟩
 |fa off x=>
  refine c8 S (r':=KE off (ρ x)) ?_ k fun q hq=>Tt (h x) hq
  simp only [aS]
  cases ρ x with
  |pointer a=>
   cases a with
   |none=>rfl
   |some a=>simp only [KE];cases a.spot.isNone<;>rfl
  |_=>rfl
 |ia sz x i=>exact c8 S NZ k fun q hq=>Tu (h x) (h i) hq
 |oA len sz x i=>exact c8 S Jo k fun q hq=>NV (h x) (h i) hq
 |ix x i=>
  refine c8 S Di k fun q hq=> ?_
  have hx:=h x
  have hy:=h i
  unfold pix at hq
  split at hq
  · rename_i a b e1 e2
    rw [e1]at hx;rw [e2]at hy
    rw [hx.oR,hy.oR]
    cases he:Cd a b with
    |none=>simp [he]at hq
    |some w=>simp only [he,Option.map_some,alO]at hq;subst hq;exact ⟨w,rfl, .v _⟩
  · cases hq
 |look kk z x ky ok=>exact c8 S E8 k fun q hq=>Jl S (h x) (h ky) hq
 |nu kk x ky v=>
  cases hs:EV kk C.h (mc x) (mc ky) (mc v)with
  |none=>simp [pop,hs]at k
  |some h2=>
   simp only [pop,hs,Option.map_some,alO,alV]at k
   obtain ⟨rfl,rfl⟩:=k
   obtain ⟨H',e,A,B⟩:=NY (W:=(· ∈vX (.nu kk x ky v) mc)) S (h x) (h ky) (h v) hs (fun b e=>by simp [vX,e])
   refine ⟨some (undef,H'), ?_,undef,H',C.φ,rfl, .v _,A,B⟩
   have:aS (.nu kk x ky v) ρ C.H=(pj kk C.H (ρ x) (ρ ky) (ρ v)).map fun H'=>(.v undef,H'):=by
    simp only [aS,pj]
    cases ρ x with
    |map r=>
     cases r with
     |none=>rfl
     |some r=>
      dsimp only
      cases C.H.get r with
      |none=>rfl
      |some b=>
       cases b with
       |cells=>rfl
       |map es=>
        dsimp only
        cases (cq kk (ρ ky)&&decide (C.H.n0≤r)&& !cv (ρ v))
        · rfl
        · simp only [cond_true]
          cases jY (ρ ky) (ρ v) es<;>rfl
    |_=>rfl
   rw [this,e];rfl
 |ext x i=>
  refine c8 S (r':=vg (ρ x) i) (by
   simp only [aS]
   cases ρ x with
   |tuple vs=>simp only [vg];cases vs.toList[i]?<;>rfl
   |_=>rfl) k fun q hq=> ?_
  have hx:=h x
  unfold Jc at hq
  split at hq
  · rename_i ps i' e1
    rw [e1]at hx
    revert hx
    generalize ρ x=y
    intro hx
    cases hx with|fJ g=>
    obtain ⟨z,hz,gz⟩:=g.get hq
    exact ⟨z,by simpa [vg]using hz,gz⟩
  · cases hq
 |xt xk l=>
  have hl:=cx.of h l
  cases xk with
  |bad=>simp only [pop,PY]at k;cases k
  |mr=>simp only [pop,PY]at k;cases k
  |Gs o n ag=>
   refine c8 S (r':=PZ (.Gs o n ag) (l.map ρ)) (by simp only [aS,Jm,Option.map_map];rfl) k fun q hq=> ?_
   unfold PY at hq
   split at hq
   case h_2=>cases ‹XK.Gs o n ag=XK.Gt _ _ _›
   case h_3=>cases hq
   rename_i o' n' ag' cs e1 e2
   cases e1
   rw [e2]at hl
   generalize l.map ρ=ys at hl
   cases hl with|cons a b=>
   cases b
   cases a with|agg g=>
   obtain ⟨v,e,r⟩:=zV ((g.drop o).take n) hq
   exact ⟨v,e,r⟩
  |Gt len n ag=>
   refine c8 S (r':=PZ (.Gt len n ag) (l.map ρ)) (by simp only [aS,Jn,Option.map_map];rfl) k fun q hq=> ?_
   unfold PY at hq
   split at hq
   case h_1=>cases ‹XK.Gt len n ag=XK.Gs _ _ _›
   case h_3=>cases hq
   rename_i ajK n' ag' cs ki i e1 e2
   cases e1
   rw [e2]at hl
   generalize l.map ρ=ys at hl
   cases hl with|cons a b=>
   cases b with|cons b c=>
   cases c
   cases b
   cases a with|agg g=>
   split at hq
   · rename_i hi
     obtain ⟨v,e,r⟩:=zV ((g.drop (i.toNat*n)).take n) hq
     refine ⟨v, ?_,r⟩
     simp only [PZ,if_pos hi]
     exact e
   · cases hq
 |call f «as»=>cases k
 |callv x «as»=>cases k
 |app sz bytes s x=>exact ⟨_,rfl,NW S (h s) (h x) k (fun sz b o n c e=>by simp [vX,e])⟩
 |copy sz d s=>exact ⟨_,rfl,Jj S (h d) (h s) k (fun sz b o n c e=>by simp [vX,e])⟩
 |lens x=>
  refine c8 S (r':=qw (ρ x)) (by simp only [aS];cases ρ x<;>rfl) k fun q hq=> ?_
  have hx:=h x
  unfold EU at hq
  split at hq
  · rename_i a e1
    rw [e1]at hx
    rw [hx.oR]
    cases he:qw a with
    |none=>simp [he]at hq
    |some w=>simp only [he,Option.map_some,alO]at hq;subst hq;exact ⟨w,rfl, .v _⟩
  · cases hq
 |jn x=>
  refine c8 S (r':=qx (ρ x)) (by simp only [aS];cases ρ x<;>rfl) k fun q hq=> ?_
  have hx:=h x
  unfold zJ at hq
  split at hq
  · rename_i a e1
    rw [e1]at hx
    rw [hx.oR]
    cases he:qx a with
    |none=>simp [he]at hq
    |some w=>simp only [he,Option.map_some,alO]at hq;subst hq;exact ⟨w,rfl, .v _⟩
  · rename_i sz b o n c e1
    rw [e1]at hx
    cases hq
    revert hx
    generalize ρ x=y
    intro hx
    cases hx with|sl hn _ _ _=>
    obtain ⟨_,_,rfl⟩:=hn
    exact ⟨_,rfl, .v _⟩
  · rename_i sz rows e1
    rw [e1]at hx
    cases hq
    revert hx
    generalize ρ x=y
    intro hx
    cases hx with|fs g=>
    cases g
    exact ⟨_,rfl, .v _⟩
  · cases hq
 |Lu t x=>cases k;exact ⟨some (.iface t (ρ x),C.H),rfl,mX.val S (.pK (h x)) rfl⟩
 |mxl x l=>exact c8 S (r':=J7 (ρ x) (l.map ρ)) rfl k fun q hq=>K8 (h x) (cx.of h l) hq
 |mnl x l=>exact c8 S (r':=J8 (ρ x) (l.map ρ)) rfl k fun q hq=>K8 (h x) (cx.of h l) hq
 |eqs neg offs x y=>
  refine c8 S Jp k fun q hq=> ?_
  have hx:=h x
  have hy:=h y
  unfold Je at hq
  split at hq
  · rename_i cs ds e1 e2
    rw [e1]at hx;rw [e2]at hy
    revert hx hy
    generalize ρ x=a
    generalize ρ y=b
    intro hx hy
    cases hx with|agg gx=>
    cases hy with|agg gy=>
    cases he:BC cs ds offs with
    |none=>simp [he]at hq
    |some w=>
     simp only [he,Option.map_some,alO]at hq
     subst hq
     exact ⟨_,by simp only [Ie,List.toList_toArray];rw [zU gx gy he];rfl, .v _⟩
  · cases hq
end Go.Proofs.YtppcmpmnglaleaaGreatDoor.A.P
namespace Go.Proofs.YtppcmpmnglaleaaGreatDoor.A.P
open Go Go.RowKit
structure PF where
 g:Nat→PV
def PF.get (f:PF) (n:Nat):PV:=f.g n
def PF.put (f:PF) (n:Nat) (p:PV):PF:=⟨fun m=>if m=n then p else f.g m⟩
def PF.aM (f:PF) (d:Option Nat) (p:PV):PF:=match d with|some n=>f.put n p|none=>f
def PF.of (l:List PV):PF:=⟨fun n=>l.getD n .any⟩
theorem PF.bj (f:PF) (n m:Nat) (p:PV):(f.put n p).get m=if m=n then p else f.get m:=rfl
theorem PF.dR (l:List PV) (n:Nat):(PF.of l).get n=l.getD n .any:=rfl
def eT (f:PF):X→PV
 | .t n=>f.get n
 | .k v=>uF v
 | .f n=>.fn n [] []
def lu (C:Cx) (fr:PF) (af:Fr):Prop:=∀t,RV C (fr.get t) (af.get t)
theorem lu.ev {C:Cx} {fr:PF} {af:Fr} (h:lu C fr af):∀x,RV C (eT fr x) (X.ev af x)
 | .t n=>h n
 | .k v=>x9 v
 | .f n=>.fn (xs:=[]) (ys:=[]) .nil .nil
theorem lu.put {C:Cx} {fr:PF} {af:Fr} (h:lu C fr af) {p:PV} {x:Value} (k:RV C p x) (n:Nat):lu C (fr.put n p) (af.put n x):=by
 intro t
 rw [PF.bj,Fr.bj]
 split
 ·exact k
 ·exact h t
theorem lu.aM {C:Cx} {fr:PF} {af:Fr} (h:lu C fr af) {p:PV} {x:Value} (k:RV C p x) (d:Option Nat):lu C (fr.aM d p) (af.aM d x):=by
 cases d with
 |none=>exact h
 |some n=>exact h.put k n
theorem lu.step {W:Nat→Prop} {C D:Cx} {fr:PF} {af:Fr} (h:lu C fr af) (T:cH C.h.length W C D):lu D fr af:=fun t=>(h t).step T
theorem lu.of {C:Cx} {ps:List PV} {xs:List Value} (h:cx C ps xs):lu C (PF.of ps) (Fr.of xs):=by
 intro t
 rw [PF.dR,Fr.dR]
 rw [List.getD_eq_getElem?_getD,List.getD_eq_getElem?_getD]
 cases e:ps[t]? with
 |none=>exact .any _
 |some p=>
  obtain ⟨x,hx,r⟩:=h.get e
  rw [hx]
  exact r
def N1:PV→Bool
 | .v x=>I6 x
 | .ref _ _ _| .sl _ _ _ _ _| .mp _| .fs _ _| .fp _=>true
 |_=>false
def E9 (o:AO) (fr:PF):Bool:=match o.g with
 |none=>true
 |some (t,b)=>match fr.get t with| .v x=>dG b x|_=>true
def BE (n:Nat) (p:PV) (h:PH) (W:List Nat):Bool:=match p with
 | .ref b o t=>match h[b]? with
   |some (.cells _ cs)=>decide (cs.length=t)&&decide (o+n≤t)&&decide (0<t)&& !W.contains b&&((cs.drop o).take n).all N1
   |_=>false
 | .fp cells=>decide (n≤cells.length)&&(cells.take n).all N1
 |_=>false
def N2 (o:cl) (fr:PF) (h:PH) (W:List Nat):Bool:=match o with
 | .ld x=>BE 1 (eT fr x) h W
 | .ldn n x=>BE n (eT fr x) h W
 |_=>false
def Jq (b:Nat) (h:PH) (W:List Nat):Bool:=!W.contains b&&(match h[b]? with
 |some (.cells _ (c::cs))=>N1 c&&cs.all N1
 |some (.map [])=>true
 |_=>false)
def v7 (o:cl) (fr:PF) (h:PH):Option (Option Nat):=match o with
 | .st _ x _| .ld x| .ldn _ x=>match eT fr x with
   | .ref b _ t=>if eh h b=some t∧0<t then some (some b)else none
   | .fp _=>some none
   |_=>none
 | .look _ _ x _ _=>match eT fr x with
   | .mp b=>match h[b]? with|some (.map _)=>some (some b)|_=>none
   |_=>none
 | .sl _ x _ _ _=>match eT fr x with
   | .sl sz b o n c=>if hY h (.sl sz b o n c)=true∧0<c∧0<sz then some (some b)else none
   |_=>none
 |_=>none
def tT:Option (Option Nat)→Option (Option Nat)→Bool
 |some (some b),some (some c)=>!Nat.beq b c
 |some none,some (some _)=>true
 |_,_=>false
def Wj (k p q:Nat):Option AO→Option (PF×PH×List Nat)→Option (PF×PH×List Nat)→Option AO→Option (PF×PH×List Nat)→Option (PF×PH×List Nat)→Bool
 |some op,some (fp,hp,_),some (_,hp',_),some oq,some (fq,hq,_),some (_,_,W)=>
  decide (p<q)&&(!E9 op fp|| !E9 oq fq||(match k with
   |0=>N2 op.o fp hp W
   |1=>!op.o.aQ&&Jq hp.length hp' W
   |_=>tT (v7 op.o fp hp) (v7 oq.o fq hq)))
 |_,_,_,_,_,_=>false
def Tx (l:List AO) (ck:List (Nat×Nat×Nat)) (acc:List (PF×PH×List Nat)):Bool:=
 ck.all fun c=>Wj c.1 c.2.1 c.2.2 (nth l c.2.1) (nth acc.reverse c.2.1) (nth acc.reverse (c.2.1+1)) (nth l c.2.2) (nth acc.reverse c.2.2) (nth acc.reverse (c.2.2+1))
inductive me (l0:List AO):List (PF×PH×List Nat)→List (Fr×AH)→Cx→List Nat→Prop
 |one {C:Cx} {fr:PF} {af:Fr}:dx C→lu C fr af→me l0 [(fr,C.h,[])] [(af,C.H)] C []
 |cons {C D:Cx} {acc:List (PF×PH×List Nat)} {dM:List (Fr×AH)} {fr:PF} {af:Fr} {V W:List Nat}:me l0 acc dM C W→cH 0 (· ∈V) C D→dx D→lu D fr af→(∀o,nth l0 (acc.length- 1)=some o→o.o.aQ=false→D.H.nx≤C.H.nx+1)→me l0 ((fr,D.h,V++W)::acc) ((af,D.H)::dM) D (V++W)
theorem me.length {l0:List AO} {W:List Nat} {acc:List (PF×PH×List Nat)} {dM:List (Fr×AH)} {C:Cx} (h:me l0 acc dM C W):acc.length=dM.length∧0<acc.length:=by
 induction h with
 |one a b=>exact ⟨rfl,Nat.one_pos⟩
 |cons _ T S R nx ih=>simp [ih.1]
theorem q6 {α:Type} (l:List α) (x:α) (i:Nat):nth (l++[x]) i=if i<l.length then nth l i else if i=l.length then some x else none:=by
 rw [r6,r6]
 split
 ·rw [al0 (by assumption)]
 ·rw [List.getElem?_append_right (by omega)]
  split
  ·rename_i h;subst h;simp
  ·rw [List.getElem?_eq_none (by simp;omega)]
theorem me.fam {l0:List AO} {W:List Nat} {acc:List (PF×PH×List Nat)} {dM:List (Fr×AH)} {D:Cx} (h:me l0 acc dM D W):∃(cs:Nat→Cx) («as»:Nat→Fr),
 (∀i s,nth acc.reverse i=some s→(cs i).h=s.2.1∧nth dM.reverse i=some («as» i,(cs i).H)∧dx (cs i)∧lu (cs i) s.1 («as» i))∧
 (∀i j s,i≤j→nth acc.reverse j=some s→cH 0 (· ∈s.2.2) (cs i) (cs j))∧
 (∀i o,i+1<acc.length→nth l0 i=some o→o.o.aQ=false→(cs (i+1)).H.nx≤(cs i).H.nx+1)∧cs (acc.length- 1)=D∧∀i,i<acc.length→cH 0 (· ∈W) (cs i) D:=by
 induction h with
 | @one C fr af a b=>
  refine ⟨fun _=>C,fun _=>af,fun i s e=>?_,fun _ _ _ _ _=>cH.refl _ _ _,fun i o hi=>by simp at hi,rfl,fun _ _=>cH.refl _ _ _⟩
  cases i with
  |zero=>simp only [List.reverse_singleton,Rx,alO]at e;subst e;exact ⟨rfl,rfl,a,b⟩
  |succ i=>simp [nth]at e
 | @cons C D acc dM fr af V W H0 T S R nx ih=>
  obtain ⟨cs,«as»,h1,h2,h3,h4,h5⟩:=ih
  have hl:=H0.length
  have uS:∀i,i<acc.length→cH 0 (· ∈V++W) (cs i) D:=fun i hi=>(h5 i hi).trans T (Nat.zero_le _) (fun _ q=>List.mem_append_right _ q) (fun _ q=>List.mem_append_left _ q)
  refine ⟨fun i=>if i<acc.length then cs i else D,fun i=>if i<acc.length then «as» i else af,fun i s e=>?_,fun i j s hij e=>?_,fun i o hi ho hc=>?_,by simp,fun i hi=>?_⟩
  ·rw [List.reverse_cons,q6,List.length_reverse]at e
   rw [List.reverse_cons,q6,List.length_reverse,←hl.1]
   split at e
   ·rename_i hi
    simp only [if_pos hi]
    exact h1 i s e
   ·rename_i hi
    split at e
    case isFalse=>cases e
    rename_i Bj
    cases e
    simp only [if_neg hi,if_pos Bj]
    exact ⟨trivial,trivial,S,R⟩
  ·rw [List.reverse_cons,q6,List.length_reverse]at e
   split at e
   ·rename_i hj2
    simp only [if_pos hj2,if_pos (show i<acc.length by omega)]
    exact h2 i j s hij e
   ·rename_i hj2
    split at e
    case isFalse=>cases e
    cases e
    simp only [if_neg hj2]
    by_cases hi:i<acc.length
    ·simp only [if_pos hi];exact uS i hi
    ·simp only [if_neg hi];exact cH.refl _ _ _
  ·simp only [List.length_cons]at hi
   by_cases Bj:i+1<acc.length
   ·simp only [if_pos Bj,if_pos (show i<acc.length by omega)]
    exact h3 i o Bj ho hc
   ·simp only [if_neg Bj,if_pos (show i<acc.length by omega)]
    have e:i=acc.length- 1:=by omega
    have:=nx o (by rw [←e];exact ho) hc
    rw [e,h4]
    exact this
  ·by_cases Bj:i<acc.length
   ·simp only [if_pos Bj];exact uS i Bj
   ·simp only [if_neg Bj];exact cH.refl _ _ _
theorem N3 {α:Type} {l:List α} {i:Nat} {x:α} (h:nth l i=some x):i<l.length:=by
 rw [r6]at h
 exact (alT.1 h).1
theorem Fa {x:Value} (h:I6 x=true):dD x x=true:=by
 cases x<;>first
  |(simp [I6]at h;done)
  |simp [dD]
theorem N4 {C:Cx} {p:PV} {x:Value} (h:RV C p x) (k:N1 p=true):dD x x=true:=by
 apply Fa
 cases p with
 |v y=>cases h;exact k
 |ref=>cases h;assumption
 |sl=>cases h with|sl a _ _ _=>exact a.sm
 |mp=>cases h;assumption
 |fs=>cases h with|fs q=>cases q;rfl
 |fp=>cases h;rfl
 |_=>cases k
theorem tU {C:Cx}:∀{ps:List PV} {xs:List Value},cx C ps xs→ps.all N1=true→fV xs xs=true
 |_,_,.nil,_=>rfl
 |_,_,.cons a b,h=>by
  simp only [List.all_cons,alQ]at h
  simp only [fV,alQ]
  exact ⟨N4 a h.1,tU b h.2⟩
theorem Fb {C:Cx} {fr:PF} {af:Fr} (h:lu C fr af) {o:AO} (k:o.wanted af=true):E9 o fr=true:=by
 obtain ⟨g,d,p⟩:=o
 cases g with
 |none=>rfl
 |some q=>
  obtain ⟨t,b⟩:=q
  simp only [E9]
  have:=h t
  split
  ·rename_i x e
   rw [e]at this
   rw [kR,this.oR]at k
   exact k
  ·rfl
theorem Fc {C:Cx} (S:dx C) {W:List Nat} {b:Nat} (hs:bo C.h b) (hb:b∉W):¬ im C (· ∈W) (C.φ b):=by
 rintro ⟨b',jW,uy,e⟩
 exact hb (S.inj _ _ uy hs e▸jW)
theorem Fe {C D:Cx} {W:List Nat} (S:dx C) (T:cH 0 (· ∈W) C D) {n:Nat} {p:PV} {x:Value} (h:RV C p x) (k:BE n p C.h W=true):
 ∃a l,x= .pointer (some a)∧C.H.ldn a n=some l∧sameAt D.H (a,l)=true:=by
 cases p with
 |ref b o t=>
  simp only [BE]at k
  split at k
  case h_2=>cases k
  rename_i z cs hh
  simp only [alQ,alZ,Bool.not_eq_true',List.contains_eq_mem,decide_eq_false_iff_not]at k
  obtain ⟨⟨⟨⟨k1,k2⟩,k3⟩,k4⟩,k5⟩:=k
  obtain ⟨vs,hg,hv,h0⟩:=S.cells (t:=t) hh (by omega)
  have lW:=hv.length
  have hx:=qX h (t:=t) (by unfold eh;rw [hh];simp [k1])
  have hl:C.H.ldn ⟨C.φ b,o,none⟩ n=some ((vs.drop o).take n):=bk hg h0 (by omega)
  have hs:=bY hh (by intro e;subst e;simp at k1;omega)
  have hD:=T.out _ (S.lt hs) (Fc S hs k4)
  refine ⟨_,_,hx,hl,?_⟩
  rw [vh,dT hD T.n0,show((vs.drop o).take n).length=n by simp;omega,hl]
  exact tU ((hv.drop o).take n) k5
 |fp cells=>
  simp only [BE,alQ,alZ]at k
  have h':=h
  cases h with| @fp _ b o vs hf hl hc=>
  have Dj:C.H.ldn ⟨b,o,none⟩ n=some (vs.take n):=by
   have:=yb S h' (n:=n) (q:=.agg (cells.take n)) (by simp [tQ,k.1])
   obtain ⟨y,hy,hr⟩:=this
   simp only [MI]at hy
   cases hq:C.H.ldn ⟨b,o,none⟩ n with
   |none=>rw [hq]at hy;cases hy
   |some l=>
    have e1:l=vs.take n:=by
     have e0:∀(j:Nat) (v:Value),l[j]?=some v→(vs.take n)[j]?=some v:=by
      intro j v hj
      have uv:=(cB hq).2
      have hjl:=(alT.1 hj).1
      have a1:=aG hq hj
      have hv:j<vs.length:=by have:=(cB hl).2;omega
      have a2:=aG hl (j:=j) (alN hv)
      rw [a1]at a2
      rw [List.getElem?_take,if_pos (by omega),alN hv]
      exact a2.symm
     have hlen:l.length=(vs.take n).length:=by
      have:=(cB hq).2
      have:=(cB hl).2
      simp;omega
     apply List.ext_getElem?
     intro j
     by_cases hj:j<l.length
     ·rw [e0 j _ (alN hj),alN hj]
     ·rw [List.getElem?_eq_none (by omega),List.getElem?_eq_none (by omega)]
    rw [e1]
  refine ⟨⟨b,o,none⟩,vs.take n,rfl,Dj,?_⟩
  rw [vh,dT (T.fz _ hf).2 T.n0,show(vs.take n).length=n by have:=(cB hl).2;simp;omega,Dj]
  exact tU (hc.take n).oR k.2
 |_=>cases k
theorem N5 {C D:Cx} {W:List Nat} (S:dx C) (T:cH 0 (· ∈W) C D) {o:AO} {fr:PF} {af:Fr} (h:lu C fr af) (k:N2 o.o fr C.h W=true):∃x,iI o af C.H=some x∧sameAt D.H x=true:=by
 obtain ⟨g,d,p⟩:=o
 cases p<;>first
  |(cases k;done)
  |skip
 ·obtain ⟨a,l,e1,e2,e3⟩:=Fe S T (h.ev _) k
  exact ⟨(a,l),by simp only [iI,e1,e2];rfl,e3⟩
 ·obtain ⟨a,l,e1,e2,e3⟩:=Fe S T (h.ev _) k
  exact ⟨(a,l),by simp only [iI,e1,e2];rfl,e3⟩
theorem Ff {z:Nat} {vs:List Value} (h:fV vs vs=true):ly (some (.cells z vs)) (some (.cells z vs))=true:=by simp [ly,h,nb]
theorem Fg {C X D:Cx} {V W:List Nat} (S:dx C) (SX:dx X) (T:cH 0 (· ∈V) C X) (TD:cH 0 (· ∈W) X D) (xA:X.H.nx≤C.H.nx+1) (k:Jq C.h.length X.h W=true):ly (X.H.get C.H.nx) (D.H.get C.H.nx)=true:=by
 simp only [Jq,alQ,Bool.not_eq_true',List.contains_eq_mem,decide_eq_false_iff_not]at k
 obtain ⟨k1,k2⟩:=k
 have key:∀(hs:bo X.h C.h.length),X.φ C.h.length=C.H.nx∧D.H.get C.H.nx=X.H.get C.H.nx:=by
  intro hs
  have e:X.φ C.h.length=C.H.nx:=by
   rcases T.loc _ hs with q|⟨q,_⟩
   ·have:=SX.lt hs;omega
   ·exact absurd (bF q) (Nat.lt_irrefl _)
  refine ⟨e,?_⟩
  have:=TD.out _ (SX.lt hs) (Fc SX hs k1)
  rwa [e]at this
 split at k2
 ·rename_i z c cs hh
  obtain ⟨a,b⟩:=key (bY hh (by simp))
  obtain ⟨vs,hg,hv,_⟩:=SX.cells (t:=0) hh (by simp)
  rw [b,←a,hg]
  exact Ff (tU hv (by simpa using k2))
 ·rename_i hh
  obtain ⟨a,b⟩:=key (eG hh)
  obtain ⟨ys,hg,h1,_⟩:=SX.x7 _ _ hh
  rw [b,←a,hg]
  cases ys with
  |nil=>rfl
  |cons=>simp at h1
 ·cases k2
theorem pL {C:Cx} (S:dx C) {o:AO} {fr:PF} {af:Fr} (h:lu C fr af) {r:Option Nat} (k:v7 o.o fr C.h=some r):∃a,cw o af=some a∧((∃b,r=some b∧bo C.h b∧a=C.φ b)∨(r=none∧C.F a)):=by
 have go:∀x:X,(match eT fr x with| .ref b _ t=>if eh C.h b=some t∧0<t then some (some b)else none| .fp _=>some none|_=>none)=some r→
  ∃a,(match x.ev af with| .pointer (some a)=>some a.block|_=>none)=some a∧((∃b,r=some b∧bo C.h b∧a=C.φ b)∨(r=none∧C.F a)):=by
  intro x k
  have hx:=h.ev x
  split at k
  ·rename_i b o t e
   rw [e]at hx
   split at k
   case isFalse=>cases k
   rename_i ht
   cases k
   rw [qX hx ht.1]
   refine ⟨_,rfl,.inl ⟨b,rfl,?_,rfl⟩⟩
   have:=ht.1
   unfold eh at this
   split at this
   ·rename_i z cs hh
    cases this
    exact bY hh (List.length_pos_iff.1 ht.2)
   ·cases this
  ·rename_i c e
   rw [e]at hx
   cases k
   revert hx
   generalize x.ev af=y
   intro hx
   cases hx with|fp hf _ _=>exact ⟨_,rfl,.inr ⟨rfl,hf⟩⟩
  ·cases k
 obtain ⟨g,d,p⟩:=o
 cases p<;>first
  |(cases k;done)
  |exact go _ k
  |skip
 ·rename_i sz x lo hi mx
  simp only [v7]at k
  have hx:=h.ev x
  split at k
  case h_2=>cases k
  rename_i fb b o n c e
  rw [e]at hx
  split at k
  case isFalse=>cases k
  rename_i hc
  cases k
  obtain ⟨z,cs,hh,ht⟩:=vY hc.1
  rcases qY hx hh ht.symm with⟨q,_⟩|⟨_,q⟩
  ·omega
  ·refine ⟨C.φ b,by simp only [cw,q];rfl,.inl ⟨b,rfl,bY hh ?_,rfl⟩⟩
   intro e
   subst e
   have:=Nat.mul_pos (show 0<o+c by omega) hc.2.2
   simp at ht
   omega
 ·rename_i kk z x ky ok
  simp only [v7]at k
  have hx:=h.ev x
  split at k
  case h_2=>cases k
  rename_i b e
  rw [e]at hx
  split at k
  case h_2=>cases k
  rename_i es hh
  cases k
  exact ⟨C.φ b,by simp only [cw,E5 hx hh],.inl ⟨b,rfl,eG hh,rfl⟩⟩
theorem Fh {C D:Cx} {W:Nat→Prop} (S:dx C) (SD:dx D) (T:cH 0 W C D) {o q:AO} {fr gr:PF} {af ag:Fr} (h:lu C fr af) (g:lu D gr ag) (k:tT (v7 o.o fr C.h) (v7 q.o gr D.h)=true):
 (match cw o af,cw q ag with|some b,some b'=>!Nat.beq b b'|_,_=>true)=true:=by
 unfold tT at k
 split at k
 ·rename_i b c e1 e2
  obtain ⟨x,hx,Um⟩:=pL S h e1
  obtain ⟨y,hy,hy'⟩:=pL SD g e2
  rcases Um with⟨b1,e,s1,rfl⟩|⟨e,_⟩<;>cases e
  rcases hy' with⟨c1,e,s2,rfl⟩|⟨e,_⟩<;>cases e
  rw [hx,hy]
  simp only [nb,Bool.not_eq_true',decide_eq_false_iff_not]at k⊢
  intro e
  rcases T.loc _ s2 with q|⟨q,e'⟩
  ·have:=S.lt s1;omega
  ·exact k (S.inj _ _ s1 q (e.trans e'))
 ·rename_i c e1 e2
  obtain ⟨x,hx,Um⟩:=pL S h e1
  obtain ⟨y,hy,hy'⟩:=pL SD g e2
  rcases Um with⟨b1,e,s1,rfl⟩|⟨e,hf⟩<;>cases e
  rcases hy' with⟨c1,e,s2,rfl⟩|⟨e,_⟩<;>cases e
  rw [hx,hy]
  simp only [nb,Bool.not_eq_true',decide_eq_false_iff_not]
  intro e
  exact (SD.old s2).2 (e▸(T.fz _ hf).1)
 ·cases k
theorem N6 {l0:List AO} {W:List Nat} {acc:List (PF×PH×List Nat)} {dM:List (Fr×AH)} {D:Cx} (h:me l0 acc dM D W) {k p q:Nat}
 (e:Wj k p q (nth l0 p) (nth acc.reverse p) (nth acc.reverse (p+1)) (nth l0 q) (nth acc.reverse q) (nth acc.reverse (q+1))=true):oZ l0 dM.reverse (k,p,q)=true:=by
 unfold Wj at e
 split at e
 case h_2=>cases e
 rename_i op fp hp Wp fp' hp' Wp' oq fq hq Wq fq' hq' W' e1 e2 e3 e4 e5 e6
 simp only [alQ,alZ]at e
 obtain ⟨uP,e⟩:=e
 obtain ⟨cs,«as»,h1,h2,h3,_⟩:=h.fam
 obtain ⟨p1,p2,p3,p4⟩:=h1 _ _ e2
 obtain ⟨r1,r2,r3,r4⟩:=h1 _ _ e3
 obtain ⟨q1,q2,q3,q4⟩:=h1 _ _ e5
 obtain ⟨t1,t2,t3,t4⟩:=h1 _ _ e6
 have l1:=N3 e6
 rw [List.length_reverse]at l1
 simp only [oZ,e1,p2,r2,e4,q2,t2]
 by_cases w1:op.wanted («as» p)=true
 case neg=>simp [w1]
 by_cases w2:oq.wanted («as» q)=true
 case neg=>simp [w2]
 have SM:=Fb p4 w1
 have w2':=Fb q4 w2
 simp only at SM w2' p1 q1 r1
 rw [SM,w2']at e
 simp only [Bool.not_true,Bool.false_or]at e
 rw [w1,w2]
 simp only [Bool.not_true,Bool.false_or]
 match k with
 |0=>
  simp only at e⊢
  rw [←p1]at e
  obtain ⟨x,h1,h2⟩:=N5 (o:=op) p3 (h2 p (q+1) _ (by omega) e6) p4 e
  rw [h1]
  exact h2
 |1=>
  simp only [alQ,Bool.not_eq_true']at e⊢
  rw [←p1,←r1]at e
  exact Fg p3 r3 (h2 p (p+1) _ (by omega) e3) (h2 (p+1) (q+1) _ (by omega) e6) (h3 p op (by omega) e1 e.1) e.2
 |k+2=>
  simp only at e⊢
  rw [←p1,←q1]at e
  exact Fh p3 q3 (h2 p q _ (by omega) e5) p4 q4 e
theorem me.chn {l0:List AO} {W:List Nat} {acc:List (PF×PH×List Nat)} {dM:List (Fr×AH)} {D:Cx} (h:me l0 acc dM D W):chain dM.reverse=true:=by
 have snoc:∀(l:List (Fr×AH)) (a b:Fr×AH),chain (l++[a])=true→a.2.n0=b.2.n0→a.2.nx≤b.2.nx→chain (l++[a]++[b])=true:=by
  intro l
  induction l with
  |nil=>intro a b _ h1 h2;simp [A.chain,h1,h2]
  |cons x l ih=>
   intro a b h h1 h2
   cases l with
   |nil=>simp only [List.cons_append,List.nil_append,A.chain,Bool.and_true,alQ]at h⊢;refine ⟨h,?_⟩;simp [h1,h2]
   |cons y l=>
    simp only [List.cons_append,A.chain,alQ]at h⊢
    exact ⟨h.1,by simpa using ih a b h.2 h1 h2⟩
 induction h with
 |one=>rfl
 | @cons C D acc dM fr af V W H0 T S R nx ih=>
  cases H0 with
  |one=>simp [A.chain,T.n0,T.nx]
  |cons=>
   simp only [List.reverse_cons]at ih⊢
   exact snoc _ _ _ ih T.n0.symm T.nx
theorem Fi {l0:List AO} {W:List Nat} {acc:List (PF×PH×List Nat)} {dM:List (Fr×AH)} {D:Cx} (h:me l0 acc dM D W) {ck:List (Nat×Nat×Nat)} (e:Tx l0 ck acc=true):ze l0 ck dM=true:=by
 unfold ze
 rw [alQ]
 refine ⟨h.chn,?_⟩
 unfold Tx at e
 rw [al3]at e⊢
 rintro ⟨k,p,q⟩ hc
 exact N6 h (e _ hc)
open Go Go.RowKit
theorem nW {H H':AH} {a:Addr} {vs:List Value} (h:H.st a vs=some H'):H'.nx=H.nx:=by
 unfold AH.st at h
 split at h
 ·obtain ⟨_,h⟩:=au h
  cases h;rfl
 ·cases h
theorem N7 {o:cl} {ρ:X→Value} {H:AH} {b:Option (Value×AH)} {x:Value} {H':AH} (e:aS o ρ H=up b) (hb:b=some (x,H')):H'.nx≤H.nx+1:=by
 subst hb
 simp only [up,Option.map_some]at e
 have app:∀{sz bytes:Nat} {s y z:Value} {H':AH},aX sz bytes H s y=some (z,H')→H'.nx≤H.nx+1:=by
  intro sz bytes s y z H' h
  unfold aX at h
  split at h
  case h_2=>cases h
  split at h
  ·obtain ⟨_,h⟩:=au h;cases h;omega
  ·split at h
   ·cases h
   ·obtain ⟨_,h⟩:=au h
    split at h
    ·split at h
     ·obtain ⟨_,h⟩:=au h
      rename_i a _ _
      obtain ⟨H2,h2,h3⟩:=alX.1 h
      cases h3
      have:=nW h2;omega
     ·cases h
    ·split at h
     ·obtain ⟨_,h⟩:=au h;cases h;exact alR _
     ·split at h
      ·obtain ⟨_,h⟩:=au h
       obtain ⟨H2,h2,h3⟩:=alX.1 h
       cases h3
       exact alR _
      ·cases h
 have cpy:∀{sz:Nat} {s y z:Value} {H':AH},iS sz H s y=some (z,H')→H'.nx≤H.nx+1:=by
  intro sz s y z H' h
  unfold iS at h
  split at h
  case h_2=>cases h
  obtain ⟨c,h1,h⟩:=alY.1 h
  split at h
  ·simp only [Bool.cond_eq_ite]at h
   split at h
   ·cases h;exact Nat.le_succ _
   ·obtain ⟨H2,h2,h3⟩:=alX.1 h
    cases h3
    have:=nW h2;omega
  ·cases h;exact Nat.le_succ _
 have xo:∀{k:XK} {vs:List Value} {z:Value} {H':AH},Co k vs H=some (z,H')→H'.nx≤H.nx+1:=by
  intro k vs z H' h
  unfold Co at h
  split at h
  ·obtain ⟨_,_,e⟩:=alX.1 h;cases e;exact Nat.le_succ _
  ·split at h
   ·obtain ⟨_,_,e⟩:=alX.1 h;cases e;exact Nat.le_succ _
   ·cases h
  ·cases h;exact alR _
  ·cases h
 cases o<;>simp only [aS]at e
 all_goals first
  |(simp only [alO,alV,gM.v.injEq,reduceCtorEq,false_and]at e;done)
  |skip
 all_goals first
  |(simp only [alO,alV]at e;obtain ⟨_,rfl⟩:=e;first|exact Nat.le_succ _|exact alR _)
  |(obtain ⟨r,h1,h2⟩:=alX.1 e;simp only [alV]at h2;obtain ⟨_,rfl⟩:=h2;first|exact Nat.le_succ _|exact alR _)
  |skip
 all_goals first
  |(obtain ⟨r,h1,h2⟩:=alX.1 e;simp only [alV]at h2;obtain ⟨_,rfl⟩:=h2;exact xo h1)
  |skip
 all_goals try simp only [Bool.cond_eq_ite]at e
 all_goals try(repeat' split at e)
 all_goals first
  |(cases e;done)
  |(simp only [alO,alV]at e;obtain ⟨_,rfl⟩:=e;first|exact Nat.le_succ _|exact alR _)
  |(obtain ⟨r,h1,h2⟩:=alX.1 e;simp only [alV]at h2;obtain ⟨_,rfl⟩:=h2;first|exact Nat.le_succ _|(have:=nW h1;omega)|exact app h1|exact cpy h1|exact xo h1)
  |skip
inductive Kp where
 |seq (c:AC)
 |aN (i:Nat)
 |lp (I:Nat→PF→PH→Prop) (k:Nat)
inductive Mp where
 |pl
 |d0
 |dr (l0:List AO) (ck:List (Nat×Nat×Nat)) (acc:List (PF×PH×List Nat)) (W:List Nat)
def Mp.up:Mp→List Nat→PF→PH→Mp
 | .pl,_,_,_=>.pl
 | .d0,_,_,_=>.d0
 | .dr l0 ck acc W,V,fr,h=>.dr l0 ck ((fr,h,V++W)::acc) (V++W)
inductive Cf where
 |code (c:AC) (ks:List Kp)
 |ops (m:Mp) (l:List AO) (ks:List Kp)
 |done (ex:Ex) (ks:List Kp)
def GN (E:Env) (O:iq) (f:Nat) (args:List PV) (h:PH) (W:Nat→Prop) (R:PV→PH→Prop):Prop:=
 ∀F H φ vs,dx ⟨F,H,φ,h⟩→cx ⟨F,H,φ,h⟩ args vs→Ca E O f vs H (fun x H'=>∃r h' F' cN,R r h'∧RV ⟨F',H',cN,h'⟩ r x∧dx ⟨F',H',cN,h'⟩∧cH h.length W ⟨F,H,φ,h⟩ ⟨F',H',cN,h'⟩)
abbrev rR:Nat→Prop:=fun _=>True
abbrev rS (E:Env) (O:iq) (f:Nat) (args:List PV) (h:PH) (R:PV→PH→Prop):Prop:=GN E O f args h rR R
def Gh (n:Nat) (fr:PF) (h:PH) (fx:PF) (h2:PH):Prop:=
 ∀F H φ af,dx ⟨F,H,φ,h⟩→lu ⟨F,H,φ,h⟩ fr af→∃F' cN,dx ⟨F',H,cN,h2⟩∧lu ⟨F',H,cN,h2⟩ fx af∧∀C0:Cx,C0.h.length=n→cH n rR C0 ⟨F,H,φ,h⟩→cH n rR C0 ⟨F',H,cN,h2⟩
theorem Gh.refl (n:Nat) (fr:PF) (h:PH):Gh n fr h fr h:=fun F H φ af S R=>⟨F,φ,S,R,fun _ _ k=>k⟩
variable(E:Env) (O:iq) (n:Nat) (Q:Ex→PF→PH→Prop)
inductive PK:Cf→PF→PH→Prop where
 |skip {ks:List Kp} {fr:PF} {h:PH}:PK (.done .normal ks) fr h→PK (.code .skip ks) fr h
 |ret {ks:List Kp} {fr:PF} {h:PH}:PK (.done .ret ks) fr h→PK (.code .ret ks) fr h
 |exit {i:Nat} {ks:List Kp} {fr:PF} {h:PH}:PK (.done (.exit i) ks) fr h→PK (.code (.exit i) ks) fr h
 |bW {l:List AO} {ks:List Kp} {fr:PF} {h:PH}:PK (.ops .pl l ks) fr h→PK (.code (.bW l) ks) fr h
 |bM {l:List AO} {c:Nat×Nat×Nat} {ck:List (Nat×Nat×Nat)} {ks:List Kp} {fr:PF} {h:PH}:PK (.ops (.dr l (c::ck) [(fr,h,[])] []) l ks) fr h→PK (.code (.bM l (c::ck)) ks) fr h
 |zW {l:List AO} {ks:List Kp} {fr:PF} {h:PH}:PK (.ops .d0 l ks) fr h→PK (.code (.bM l []) ks) fr h
 |seq {a b:AC} {ks:List Kp} {fr:PF} {h:PH}:PK (.code a (.seq b::ks)) fr h→PK (.code (.seq a b) ks) fr h
 |block {i:Nat} {a:AC} {ks:List Kp} {fr:PF} {h:PH}:PK (.code a (.aN i::ks)) fr h→PK (.code (.block i a) ks) fr h
 |cond {x:X} {a b:AC} {t:Bool} {ks:List Kp} {fr:PF} {h:PH}:eT fr x= .v (.bool t)→PK (.code (bif t then a else b) ks) fr h→PK (.code (.cond x a b) ks) fr h
 |loop {a:AC} {ks:List Kp} {fr fx:PF} {h h2:PH} (I:Nat→PF→PH→Prop) (k:Nat):(∀k fr h,I k fr h→PK (.code a (.lp I k::ks)) fr h)→Gh n fr h fx h2→I k fx h2→PK (.code (.loop a) ks) fr h
 |Jr {ks:List Kp} {fr:PF} {h:PH}:PK (.done .normal ks) fr h→PK (.ops .pl [] ks) fr h
 |zX {ks:List Kp} {fr:PF} {h:PH}:PK (.done .normal ks) fr h→PK (.ops .d0 [] ks) fr h
 |v8 {l0:List AO} {ck:List (Nat×Nat×Nat)} {acc:List (PF×PH×List Nat)} {W:List Nat} {ks:List Kp} {fr:PF} {h:PH}:Tx l0 ck acc=true→PK (.done .normal ks) fr h→PK (.ops (.dr l0 ck acc W) [] ks) fr h
 |op {m:Mp} {d:Option Nat} {p:cl} {l:List AO} {ks:List Kp} {fr:PF} {h h':PH} {v:PV}:pop p (eT fr) h=some (v,h')→PK (.ops (m.up (vX p (eT fr)) (fr.aM d v) h') l ks) (fr.aM d v) h'→PK (.ops m (⟨none,d,p⟩::l) ks) fr h
 |Ty {m:Mp} {t:Nat} {b:Bool} {x:Value} {d:Option Nat} {p:cl} {l:List AO} {ks:List Kp} {fr:PF} {h:PH}:fr.get t= .v x→dG b x=true→PK (.ops m (⟨none,d,p⟩::l) ks) fr h→PK (.ops m (⟨some (t,b),d,p⟩::l) ks) fr h
 |Fj {m:Mp} {t:Nat} {b:Bool} {x:Value} {d:Option Nat} {p:cl} {l:List AO} {ks:List Kp} {fr:PF} {h:PH}:fr.get t= .v x→dG b x=false→PK (.ops (m.up [] (fr.aM d (.v undef)) h) l ks) (fr.aM d (.v undef)) h→PK (.ops m (⟨some (t,b),d,p⟩::l) ks) fr h
 |call {m:Mp} {f:Nat} {«as»:List X} {d:Option Nat} {l:List AO} {ks:List Kp} {fr:PF} {h:PH} {W:List Nat} {R:PV→PH→Prop}:GN E O f («as».map (eT fr)) h (· ∈W) R→(∀r h',R r h'→PK (.ops (m.up W (fr.aM d r) h') l ks) (fr.aM d r) h')→PK (.ops m (⟨none,d,.call f «as»⟩::l) ks) fr h
 |callv {m:Mp} {f:Nat} {x:X} {first cap:List PV} {«as»:List X} {d:Option Nat} {l:List AO} {ks:List Kp} {fr:PF} {h:PH} {W:List Nat} {R:PV→PH→Prop}:eT fr x= .fn f first cap→GN E O f (first++«as».map (eT fr)++cap) h (· ∈W) R→(∀r h',R r h'→PK (.ops (m.up W (fr.aM d r) h') l ks) (fr.aM d r) h')→PK (.ops m (⟨none,d,.callv x «as»⟩::l) ks) fr h
 |Js {ex:Ex} {fr:PF} {h:PH}:Q ex fr h→PK (.done ex []) fr h
 |Wl {b:AC} {ks:List Kp} {fr:PF} {h:PH}:PK (.code b ks) fr h→PK (.done .normal (.seq b::ks)) fr h
 |Wm {i:Nat} {ks:List Kp} {fr:PF} {h:PH}:PK (.done .normal ks) fr h→PK (.done .normal (.aN i::ks)) fr h
 |Tz {I:Nat→PF→PH→Prop} {k j:Nat} {ks:List Kp} {fr fx:PF} {h h2:PH}:j<k→Gh n fr h fx h2→I j fx h2→PK (.done .normal (.lp I k::ks)) fr h
 |Wn {i:Nat} {b:AC} {ks:List Kp} {fr:PF} {h:PH}:PK (.done (.exit i) ks) fr h→PK (.done (.exit i) (.seq b::ks)) fr h
 |Fk {i:Nat} {ks:List Kp} {fr:PF} {h:PH}:PK (.done .normal ks) fr h→PK (.done (.exit i) (.aN i::ks)) fr h
 |Jt {i j:Nat} {ks:List Kp} {fr:PF} {h:PH}:j≠i→PK (.done (.exit j) ks) fr h→PK (.done (.exit j) (.aN i::ks)) fr h
 |del {I:Nat→PF→PH→Prop} {k i:Nat} {ks:List Kp} {fr:PF} {h:PH}:PK (.done (.exit i) ks) fr h→PK (.done (.exit i) (.lp I k::ks)) fr h
 |Ju {k:Kp} {ks:List Kp} {fr:PF} {h:PH}:PK (.done .ret ks) fr h→PK (.done .ret (k::ks)) fr h
variable{E O n Q}
def Live (C0:Cx) (C:Cx):Prop:=dx C∧cH C0.h.length rR C0 C
theorem Live.step {C0 C D:Cx} (h:Live C0 C) {W:Nat→Prop} (S:dx D) (T:cH C.h.length W C D):Live C0 D:=
 ⟨S,h.2.trans (T.mono (h.2.len (alR _)) (fun _ _=>trivial) fun _=>Nat.le_trans (h.2.len (alR _)) (T.len (alR _))) (alR _) (fun _ h=>h) fun _ h=>h⟩
def UP (E:Env) (O:iq) (C0:Cx) (Q:Ex→PF→PH→Prop):Ex→List Kp→Fr→AH→Prop
 |ex,[],af,H=>∃fr F φ h,Q ex fr h∧Live C0 ⟨F,H,φ,h⟩∧lu ⟨F,H,φ,h⟩ fr af
 | .normal,.seq b::ks,af,H=>Wp E O b af H (fun ex pM H'=>UP E O C0 Q ex ks pM H')
 | .normal,.aN _::ks,af,H=>UP E O C0 Q .normal ks af H
 | .normal,.lp I k::ks,af,H=>∃j,j<k∧∃fr F φ h,I j fr h∧Live C0 ⟨F,H,φ,h⟩∧lu ⟨F,H,φ,h⟩ fr af
 | .exit j,.seq _::ks,af,H=>UP E O C0 Q (.exit j) ks af H
 | .exit j,.aN i::ks,af,H=>if j=i then UP E O C0 Q .normal ks af H else UP E O C0 Q (.exit j) ks af H
 | .exit j,.lp _ _::ks,af,H=>UP E O C0 Q (.exit j) ks af H
 | .ret,_::ks,af,H=>UP E O C0 Q .ret ks af H
def P3 (l1 l:List AO):Prop:=l1=l∨∃g d p t,l=⟨none,d,p⟩::t∧l1=⟨g,d,p⟩::t
theorem P3.head {l1 t:List AO} {g:Option (Nat×Bool)} {d:Option Nat} {p:cl} (h:P3 l1 (⟨g,d,p⟩::t)):∃g',l1=⟨g',d,p⟩::t:=by
 rcases h with rfl|⟨g',d',p',t',e,rfl⟩
 ·exact ⟨_,rfl⟩
 ·cases e;exact ⟨_,rfl⟩
def K9 (E:Env) (O:iq) (C0:Cx) (Q:Ex→PF→PH→Prop) (cf:Cf) (fr:PF) (h:PH):Prop:=∀F H φ af,Live C0 ⟨F,H,φ,h⟩→lu ⟨F,H,φ,h⟩ fr af→match cf with
 | .code c ks=>Wp E O c af H (fun ex pM H'=>UP E O C0 Q ex ks pM H')
 | .ops .pl l ks=>Wo E O l af H (fun pM H'=>UP E O C0 Q .normal ks pM H')
 | .ops .d0 l ks=>∀l0 acc dM W,me l0 acc dM ⟨F,H,φ,h⟩ W→P3 (l0.drop (acc.length- 1)) l→Wt E O l af H (fun ss=>ze l0 [] (ss.reverse++dM)=true∧UP E O C0 Q .normal ks (eM (af,H) ss).1 (eM (af,H) ss).2)
 | .ops (.dr l0 ck acc W) l ks=>∀dM,me l0 acc dM ⟨F,H,φ,h⟩ W→P3 (l0.drop (acc.length- 1)) l→Wt E O l af H (fun ss=>ze l0 ck (ss.reverse++dM)=true∧UP E O C0 Q .normal ks (eM (af,H) ss).1 (eM (af,H) ss).2)
 | .done ex ks=>UP E O C0 Q ex ks af H
theorem K9.step {C0:Cx} {m:Mp} {g:Option (Nat×Bool)} {d:Option Nat} {p:cl} {l:List AO} {ks:List Kp} {fr:PF} {h:PH} (one:∀F H φ af,Live C0 ⟨F,H,φ,h⟩→lu ⟨F,H,φ,h⟩ fr af→pf E O ⟨g,d,p⟩ af H (fun pM H'=>∃bG F' cN h' V,Live C0 ⟨F',H',cN,h'⟩∧lu ⟨F',H',cN,h'⟩ bG pM∧cH 0 (· ∈V) ⟨F,H,φ,h⟩ ⟨F',H',cN,h'⟩∧(p.aQ=false→H'.nx≤H.nx+1)∧K9 E O C0 Q (.ops (m.up V bG h') l ks) bG h')):
 K9 E O C0 Q (.ops m (⟨g,d,p⟩::l) ks) fr h:=by
 intro F H φ af L R
 have mono:∀{Q1 Q2:Fr→AH→Prop},(∀a b,Q1 a b→Q2 a b)→pf E O ⟨g,d,p⟩ af H Q1→pf E O ⟨g,d,p⟩ af H Q2:=fun k ⟨a,b,c,e,q⟩=>⟨a,b,c,e,k _ _ q⟩
 cases m with
 |pl=>
  refine Wo.cons (mono ?_ (one F H φ af L R))
  rintro pM H' ⟨bG,F',cN,h',V,L',R',_,_,k⟩
  exact k F' H' cN pM L' R'
 |d0=>
  intro l0 acc dM W HH hd
  rw [gQ]
  refine mono ?_ (one F H φ af L R)
  rintro pM H' ⟨bG,F',cN,h',V,L',R',T,xA,k⟩
  have hl:=HH.length.2
  have HH':me l0 ((bG,h',V++W)::acc) ((pM,H')::dM) ⟨F',H',cN,h'⟩ (V++W):=
   .cons HH T L'.1 R' (fun o ho hc=>by
    obtain ⟨g',hd⟩:=hd.head
    have:l0[acc.length- 1]?=some ⟨g',d,p⟩:=by
     have:=congrArg List.head? hd
     simpa [List.head?_drop]using this
    rw [r6,this]at ho
    cases ho
    exact xA hc)
  have Qv:P3 (l0.drop (((bG,h',V++W)::acc).length- 1)) l:=by
   obtain ⟨g',hd⟩:=hd.head
   left
   simp only [List.length_cons,Nat.add_sub_cancel]
   rw [show acc.length=acc.length- 1+1 by omega,←List.drop_drop,hd]
   rfl
  have:=k F' H' cN pM L' R' l0 _ ((pM,H')::dM) _ HH' Qv
  refine (fun⟨a,b,e,q⟩=>⟨a,b,e,?_⟩:Wt E O l pM H' _→Wt E O l pM H' _) this
  simpa [eM]using q
 |dr l0 ck acc W=>
  intro dM HH hd
  rw [gQ]
  refine mono ?_ (one F H φ af L R)
  rintro pM H' ⟨bG,F',cN,h',V,L',R',T,xA,k⟩
  have hl:=HH.length.2
  have HH':me l0 ((bG,h',V++W)::acc) ((pM,H')::dM) ⟨F',H',cN,h'⟩ (V++W):=
   .cons HH T L'.1 R' (fun o ho hc=>by
    obtain ⟨g',hd⟩:=hd.head
    have:l0[acc.length- 1]?=some ⟨g',d,p⟩:=by
     have:=congrArg List.head? hd
     simpa [List.head?_drop]using this
    rw [r6,this]at ho
    cases ho
    exact xA hc)
  have Qv:P3 (l0.drop (((bG,h',V++W)::acc).length- 1)) l:=by
   obtain ⟨g',hd⟩:=hd.head
   left
   simp only [List.length_cons,Nat.add_sub_cancel]
   rw [show acc.length=acc.length- 1+1 by omega,←List.drop_drop,hd]
   rfl
  have:=k F' H' cN pM L' R' ((pM,H')::dM) HH' Qv
  refine (fun⟨a,b,e,q⟩=>⟨a,b,e,?_⟩:Wt E O l pM H' _→Wt E O l pM H' _) this
  simpa [eM]using q
theorem PK.sound {C0:Cx} (hn:n=C0.h.length):∀{cf:Cf} {fr:PF} {h:PH},PK E O n Q cf fr h→K9 E O C0 Q cf fr h:=by
 intro cf fr h k
 induction k with
 |skip _ ih=>exact fun F H φ af L R=>Wp.skip (ih F H φ af L R)
 |ret _ ih=>exact fun F H φ af L R=>Wp.ret (ih F H φ af L R)
 |exit _ ih=>exact fun F H φ af L R=>Wp.exit (ih F H φ af L R)
 |bW _ ih=>exact fun F H φ af L R=>Wp.bW (ih F H φ af L R)
 | @bM l c ck ks fr h _ ih=>
  intro F H φ af L R
  have:=ih F H φ af L R [(af,H)] (.one L.1 R) (.inl rfl)
  refine Wp.bM ?_
  obtain ⟨a,ss,e,h1,h2⟩:=this
  unfold ze at h1
  simp only [List.reverse_append,List.reverse_cons,List.reverse_nil,List.nil_append,List.reverse_reverse,List.cons_append,alQ]at h1
  exact ⟨a,ss,e,h1,h2⟩
 | @zW l ks fr h _ ih=>
  intro F H φ af L R
  have:=ih F H φ af L R l _ [(af,H)] _ (.one L.1 R) (.inl rfl)
  refine Wp.bM ?_
  obtain ⟨a,ss,e,h1,h2⟩:=this
  unfold ze at h1
  simp only [List.reverse_append,List.reverse_cons,List.reverse_nil,List.nil_append,List.reverse_reverse,List.cons_append,alQ]at h1
  exact ⟨a,ss,e,h1,h2⟩
 | @seq a b ks fr h _ ih=>
  intro F H φ af L R
  refine Wp.seq ((ih F H φ af L R).mono ?_)
  intro ex bG H' q
  cases ex<;>exact q
 | @block i a ks fr h _ ih=>
  intro F H φ af L R
  refine Wp.block ((ih F H φ af L R).mono ?_)
  intro ex bG H' q
  cases ex<;>exact q
 | @cond x a b t ks fr h e _ ih=>
  intro F H φ af L R
  have hx:=R.ev x
  rw [e]at hx
  exact Wp.cond hx.oR (by
   have:=ih F H φ af L R
   cases t<;>exact this)
 | @loop a ks fr fx h h2 I k _ g hI ih=>
  intro F H φ af L R
  obtain ⟨F',cN,S',R',T'⟩:=g F H φ af L.1 R
  refine Wp.loop (fun k af H=>∃fr F φ h,I k fr h∧Live C0 ⟨F,H,φ,h⟩∧lu ⟨F,H,φ,h⟩ fr af) ?_ k ⟨fx,F',cN,h2,hI,⟨S',hn▸T' C0 hn.symm (hn▸L.2)⟩,R'⟩
  rintro k af H ⟨fr,F,φ,h,hI,L,R⟩
  refine (ih k fr h hI F H φ af L R).mono ?_
  intro ex pM H' q
  cases ex<;>exact q
 |Jr _ ih=>exact fun F H φ af L R=>Wo.nil (ih F H φ af L R)
 |zX _ ih=>exact fun F H φ af L R l0 acc dM W HH hd=>Wt.nil ⟨by have:=Fi HH (ck:=[]) rfl;simpa using this,ih F H φ af L R⟩
 | @v8 l0 ck acc W ks fr h ok _ ih=>
  intro F H φ af L R dM HH hd
  exact Wt.nil ⟨by simpa using Fi HH ok,ih F H φ af L R⟩
 | @op m d p l ks fr h h' v e _ ih=>
  refine K9.step fun F H φ af L R=>?_
  obtain ⟨b,hb,x,H',cN,rfl,hx,S,T⟩:=N0 L.1 (R.ev) e
  refine pf.val rfl hb ?_
  exact ⟨_,F,cN,h',_,L.step S T,(R.step T).aM hx d,T.mono (Nat.zero_le _) (fun _ h=>h) (fun _=>Nat.zero_le _),fun _=>N7 hb rfl,ih⟩
 | @Ty m t b x d p l ks fr h e hw _ ih=>
  have eqv:∀{af:Fr} {H:AH} {Q:Fr→AH→Prop},AO.wanted ⟨some (t,b),d,p⟩ af=true→pf E O ⟨none,d,p⟩ af H Q→pf E O ⟨some (t,b),d,p⟩ af H Q:=by
   intro af H Q h1 h2
   rw [eP _ _ _ _ h1]
   rwa [eP _ _ _ _ rfl]at h2
  intro F H φ af L R
  have hx:=R t
  rw [e]at hx
  have hwa:AO.wanted ⟨some (t,b),d,p⟩ af=true:=by rw [kR,hx.oR];exact hw
  have:=ih F H φ af L R
  cases m with
  |pl=>
   refine Wo.cons (eqv hwa ?_)
   exact (fE _ _ _ _ _).1 this
  |d0=>
   intro l0 acc dM W HH hd
   rw [gQ]
   obtain ⟨g',hd⟩:=hd.head
   exact eqv hwa ((gQ _ _ _ _ _).1 (this l0 acc dM W HH (.inr ⟨g',d,p,l,rfl,hd⟩)))
  |dr l0 ck acc W=>
   intro dM HH hd
   rw [gQ]
   obtain ⟨g',hd⟩:=hd.head
   exact eqv hwa ((gQ _ _ _ _ _).1 (this dM HH (.inr ⟨g',d,p,l,rfl,hd⟩)))
 | @Fj m t b x d p l ks fr h e hw _ ih=>
  refine K9.step fun F H φ af L R=>?_
  have hx:=R t
  rw [e]at hx
  refine pf.off (by rw [kR,hx.oR];exact hw) ?_
  exact ⟨_,F,φ,h,[],L,R.aM (.v _) d,cH.refl _ _ _,fun _=>Nat.le_succ _,ih⟩
 | @call m f «as» d l ks fr h W R hc _ ih=>
  refine K9.step fun F H φ af L R'=>?_
  refine pf.call rfl rfl ?_
  refine (hc F H φ _ L.1 (cx.of R'.ev «as»)).mono ?_
  rintro x H' ⟨r,h',F2,kJ,hR,hx,S2,T2⟩
  exact ⟨_,F2,kJ,h',W,L.step S2 T2,(R'.step T2).aM hx d,T2.mono (Nat.zero_le _) (fun _ h=>h) (fun _=>Nat.zero_le _),(fun q=>by cases q),ih r h' hR⟩
 | @callv m f x first cap «as» d l ks fr h W R hf hc _ ih=>
  refine K9.step fun F H φ af L R'=>?_
  have hx:=R'.ev x
  rw [hf]at hx
  revert hx
  generalize hy:X.ev af x=y
  intro hx
  cases hx with| @fn _ _ _ xs ys ha hb=>
  refine pf.call rfl (f:=f) («as»:=xs++«as».map (X.ev af)++ys) (H1:=H) (by simp only [aS,hy]) ?_
  refine (hc F H φ _ L.1 ((ha.append (cx.of R'.ev «as»)).append hb)).mono ?_
  rintro x H' ⟨r,h',F2,kJ,hR,hx,S2,T2⟩
  exact ⟨_,F2,kJ,h',W,L.step S2 T2,(R'.step T2).aM hx d,T2.mono (Nat.zero_le _) (fun _ h=>h) (fun _=>Nat.zero_le _),(fun q=>by cases q),ih r h' hR⟩
 | @Js ex fr h q=>
  intro F H φ af L R
  simp only [UP]
  exact ⟨fr,F,φ,h,q,L,R⟩
 |Wl _ ih=>exact fun F H φ af L R=>ih F H φ af L R
 |Wm _ ih=>exact fun F H φ af L R=>ih F H φ af L R
 | @Tz I k j ks fr fx h h2 hj g hI=>
  intro F H φ af L R
  obtain ⟨F',cN,S',R',T'⟩:=g F H φ af L.1 R
  exact ⟨j,hj,fx,F',cN,h2,hI,⟨S',hn▸T' C0 hn.symm (hn▸L.2)⟩,R'⟩
 |Wn _ ih=>exact fun F H φ af L R=>ih F H φ af L R
 | @Fk i ks fr h _ ih=>
  intro F H φ af L R
  show(if i=i then _ else _)
  rw [if_pos rfl]
  exact ih F H φ af L R
 | @Jt i j ks fr h hj _ ih=>
  intro F H φ af L R
  show(if j=i then _ else _)
  rw [if_neg hj]
  exact ih F H φ af L R
 |del _ ih=>exact fun F H φ af L R=>ih F H φ af L R
 | @Ju k ks fr h _ ih=>
  intro F H φ af L R
  cases k<;>exact ih F H φ af L R
end Go.Proofs.YtppcmpmnglaleaaGreatDoor.A.P
