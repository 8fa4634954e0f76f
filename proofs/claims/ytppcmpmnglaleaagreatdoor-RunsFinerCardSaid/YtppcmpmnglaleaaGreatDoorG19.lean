/- Texts that stand one behind the other: Pm0, Pm1, Pm2, Pm3, Pm4, Pm5, Pm6, Pm7, Pm8. -/
import Derived.Test.YtppcmpmnglaleaaGreatDoorG18
set_option linter.unusedVariables false
set_option linter.unusedSimpArgs false
namespace Go.Proofs.YtppcmpmnglaleaaGreatDoor.A
namespace P
open Go Go.RowKit
def LK:Value→Bool
 | .bool _| .int _ _| .string _| .pointer _| .slice _ _ _| .map _| .nilFunc| .nilIface=>true
 |_=>false
inductive PV where
 |v (x:Value)
 |ref (b o t:Nat)
 |sl (sz b o n c:Nat)
 |mp (b:Nat)
 |fs (sz:Nat) (rows:List (List PV))
 |fp (cells:List PV)
 |agg (cs:List PV)
 |gN (cs:List PV)
 |fn (f:Nat) (first cap:List PV)
 |q8 (t:Nat) (p:PV)
 |any
inductive PB where
 |cells (z:Nat) (cs:List PV)
 |map (es:List (Value×PV))
 |dead
abbrev PH:=List PB
structure Cx where
 F:Nat→Prop
 H:AH
 φ:Nat→Nat
 h:PH
mutual
inductive RF (F:Nat→Prop) (H:AH):PV→Value→Prop
 |v (x:Value):RF F H (.v x) x
 |fs {sz:Nat} {rows:List (List PV)} {a:Option Addr} {c:Nat} {rs:List (List Value)}:Rows H sz (.slice a rows.length c) rs→rows.length≤c→(∀d,a=some d→(d.spot=none∨c=0)∧(rows.length=0∨(F d.block∧H.j9 d.block sz=true)))→kz F H rows rs→RF F H (.fs sz rows) (.slice a rows.length c)
inductive gO (F:Nat→Prop) (H:AH):List PV→List Value→Prop
 |nil:gO F H [] []
 |cons {p:PV} {x:Value} {ps:List PV} {xs:List Value}:RF F H p x→gO F H ps xs→gO F H (p::ps) (x::xs)
inductive kz (F:Nat→Prop) (H:AH):List (List PV)→List (List Value)→Prop
 |nil:kz F H [] []
 |cons {p:List PV} {x:List Value} {ps:List (List PV)} {xs:List (List Value)}:gO F H p x→kz F H ps xs→kz F H (p::ps) (x::xs)
end
def At (h:PH) (b t:Nat):Prop:=∃z cs,h[b]?=some (.cells z cs)∧cs.length=t
def Le (h:PH) (b t:Nat):Prop:=∀z cs,h[b]?=some (.cells z cs)→t≤cs.length
def jY (h:PH) (b:Nat):Prop:=∃es,h[b]?=some (.map es)
def bF (h:PH) (b:Nat):Prop:=jY h b∨∃t,At h b (t+1)
def slV (a sz o n c:Nat) (x:Value):Prop:=(c=0∧n=0∧∃d:Option Addr,x= .slice d 0 0∧∀e,d=some e→e.spot=none)∨(0<c∧x= .slice (some ⟨a,o*sz,none⟩) n c)
def slN (n:Nat) (x:Value):Prop:=∃a c,x= .slice a n c
theorem slN.sm {n:Nat} {x:Value} (h:slN n x):LK x=true:=by
 obtain ⟨_,_,rfl⟩:=h;rfl
mutual
inductive RV (C:Cx):PV→Value→Prop
 |v (x:Value):RV C (.v x) x
 |ref {b o t:Nat} {x:Value}:LK x=true→b<C.h.length→Le C.h b t→(At C.h b t→x= .pointer (some ⟨C.φ b,o,none⟩))→RV C (.ref b o t) x
 |sl {sz b o n c:Nat} {x:Value}:slN n x→b<C.h.length→Le C.h b ((o+c)*sz)→(At C.h b ((o+c)*sz)→slV (C.φ b) sz o n c x)→RV C (.sl sz b o n c) x
 |mp {b:Nat} {x:Value}:LK x=true→b<C.h.length→(jY C.h b→x= .map (some (C.φ b)))→RV C (.mp b) x
 |fs {sz:Nat} {rows:List (List PV)} {x:Value}:RF C.F C.H (.fs sz rows) x→RV C (.fs sz rows) x
 |fp {cells:List PV} {b o:Nat} {vs:List Value}:C.F b→C.H.ldn ⟨b,o,none⟩ cells.length=some vs→gO C.F C.H cells vs→RV C (.fp cells) (.pointer (some ⟨b,o,none⟩))
 |agg {cs:List PV} {xs:List Value}:cH C cs xs→RV C (.agg cs) (.agg xs.toArray)
 |gN {cs:List PV} {xs:List Value}:cH C cs xs→RV C (.gN cs) (.tuple xs.toArray)
 |fn {f:Nat} {a b:List PV} {xs ys:List Value}:cH C a xs→cH C b ys→RV C (.fn f a b) (.func (.func f) xs.toArray ys.toArray)
 |q8 {t:Nat} {p:PV} {x:Value}:RV C p x→RV C (.q8 t p) (.iface t x)
 |any (x:Value):RV C .any x
inductive cH (C:Cx):List PV→List Value→Prop
 |nil:cH C [] []
 |cons {p:PV} {x:Value} {ps:List PV} {xs:List Value}:RV C p x→cH C ps xs→cH C (p::ps) (x::xs)
end
theorem cH.length {C:Cx}:∀{ps:List PV} {xs:List Value},cH C ps xs→ps.length=xs.length
 |_,_,.nil=>rfl
 |_,_,.cons _ h=>by simp [cH.length h]
theorem gO.length {F:Nat→Prop} {H:AH}:∀{ps:List PV} {xs:List Value},gO F H ps xs→ps.length=xs.length
 |_,_,.nil=>rfl
 |_,_,.cons _ h=>by simp [gO.length h]
theorem kz.length {F:Nat→Prop} {H:AH}:∀{ps:List (List PV)} {xs:List (List Value)},kz F H ps xs→ps.length=xs.length
 |_,_,.nil=>rfl
 |_,_,.cons _ h=>by simp [kz.length h]
structure dO (C:Cx):Prop where
 wf:C.H.n0≤C.H.nx
 fz:∀x,C.F x→x<C.H.nx
 inj:∀b b',bF C.h b→bF C.h b'→C.φ b=C.φ b'→b=b'
 aS:∀b z cs,C.h[b]?=some (.cells z cs)→cs≠[]→∃vs,C.H.get (C.φ b)=some (.cells z vs)∧cH C cs vs∧C.H.n0≤C.φ b∧¬ C.F (C.φ b)
 Af:∀b es,C.h[b]?=some (.map es)→∃ys,C.H.get (C.φ b)=some (.map ys)∧es.map (·.1)=ys.map (·.1)∧cH C (es.map (·.2)) (ys.map (·.2))∧C.H.n0≤C.φ b∧¬ C.F (C.φ b)
def im (C:Cx) (W:Nat→Prop) (x:Nat):Prop:=∃b,W b∧bF C.h b∧C.φ b=x
structure dq (n:Nat) (W:Nat→Prop) (C D:Cx):Prop where
 n0:D.H.n0=C.H.n0
 nx:C.H.nx≤D.H.nx
 fz:∀x,C.F x→D.F x∧D.H.get x=C.H.get x
 fo:∀x,x<C.H.nx→¬ im C (fun _=>True) x→D.F x→C.F x
 out:∀x,x<C.H.nx→¬ im C W x→D.H.get x=C.H.get x
 loc:∀b,bF D.h b→C.H.nx≤D.φ b∨(bF C.h b∧D.φ b=C.φ b)
 len:n≤C.h.length→n≤D.h.length
 le:∀b,b<n→b<C.h.length→∀t,Le C.h b t→Le D.h b t
 wD:∀b,b<n→b<C.h.length→∀t,Le C.h b t→At D.h b t→At C.h b t∧D.φ b=C.φ b
 xS:∀b,b<n→b<C.h.length→jY D.h b→jY C.h b∧D.φ b=C.φ b
theorem dq.mono {n m:Nat} {W V:Nat→Prop} {C D:Cx} (h:dq n W C D) (c:m≤n) (f:∀b,W b→V b) (e:m≤C.h.length→m≤D.h.length):dq m V C D where
 n0:=h.n0
 nx:=h.nx
 fz:=h.fz
 fo:=h.fo
 out:=fun x d k=>h.out x d fun⟨b,a,q⟩=>k ⟨b,f b a,q⟩
 loc:=h.loc
 len:=e
 le:=fun b a=>h.le b (ari a c)
 wD:=fun b a=>h.wD b (ari a c)
 xS:=fun b a=>h.xS b (ari a c)
theorem im.lt {C:Cx} (S:dO C) {W:Nat→Prop} {x:Nat} (h:im C W x):x<C.H.nx:=by
 obtain ⟨b,_,f,rfl⟩:=h;rcases f with⟨es,c⟩|⟨t,z,cs,c,d⟩
 ·obtain ⟨_,a,_⟩:=S.Af b es c
  exact AH.aQ a
 ·obtain ⟨_,a,_⟩:=S.aS b z cs c (by intro e;subst e;simp at d)
  exact AH.aQ a
theorem dq.refl (n:Nat) (W:Nat→Prop) (C:Cx):dq n W C C where
 n0:=rfl
 nx:=aqY _
 fz:=fun x a=>⟨a,rfl⟩
 fo:=fun _ _ _ h=>h
 out:=fun _ _ _=>rfl
 loc:=fun b c=>.inr ⟨c,rfl⟩
 len:=id
 le:=fun _ _ _ _ h=>h
 wD:=fun _ _ _ _ _ h=>⟨h,rfl⟩
 xS:=fun _ _ _ h=>⟨h,rfl⟩
theorem dq.trans {n:Nat} {V W U:Nat→Prop} {C D X:Cx} (h:dq n V C D) (k:dq n W D X) (m:n≤C.h.length) (z:∀b,V b→U b) (y:∀b,W b→U b):dq n U C X where
 n0:=k.n0.trans h.n0
 nx:=arh h.nx k.nx
 fz:=fun x i=>by
  obtain ⟨a,b⟩:=h.fz x i;obtain ⟨c,d⟩:=k.fz x a;exact ⟨c,d.trans b⟩
 fo:=fun x i hi w=>by
  refine h.fo x i hi (k.fo x (ari i h.nx) ?_ w);rintro ⟨b,_,j,rfl⟩;rcases h.loc b j with q|⟨q,e⟩
  ·omega
  ·exact hi ⟨b,trivial,q,e.symm⟩
 out:=fun x i hi=>by
  have e:=h.out x i fun⟨b,f,q⟩=>hi ⟨b,z b f,q⟩
  rw [←e];refine k.out x (ari i h.nx) ?_;rintro ⟨b,f,j,rfl⟩;rcases h.loc b j with q|⟨q,e⟩
  ·omega
  ·exact hi ⟨b,y b f,q,e.symm⟩
 loc:=fun b f=>by
  rcases k.loc b f with q|⟨j,e⟩
  ·exact .inl (arh h.nx q)
  ·rcases h.loc b j with q|⟨v,A⟩
   ·exact .inl (by omega)
   ·exact .inr ⟨v,e.trans A⟩
 len:=fun g=>k.len (h.len g)
 le:=fun b f g t l=>k.le b f (ari f (h.len m)) t (h.le b f g t l)
 wD:=fun b f g t l o=>by
  obtain ⟨u,s⟩:=k.wD b f (ari f (h.len m)) t (h.le b f g t l) o;obtain ⟨r,p⟩:=h.wD b f g t l u;exact ⟨r,s.trans p⟩
 xS:=fun b f g o=>by
  obtain ⟨u,s⟩:=k.xS b f (ari f (h.len m)) o;obtain ⟨r,p⟩:=h.xS b f g u;exact ⟨r,s.trans p⟩
theorem Hw {H H':AH} {b sz:Nat} (h:H'.get b=H.get b):H'.j9 b sz=H.j9 b sz:=by unfold AH.j9;rw [h]
section
variable{F F':Nat→Prop} {H H':AH} (n0:H'.n0=H.n0) (hF:∀x,F x→F' x∧H'.get x=H.get x)
theorem Rows.fz {sz:Nat} {a:Option Addr} {n c:Nat} {rs:List (List Value)} (n0:H'.n0=H.n0) (hF:∀x,F x→F' x∧H'.get x=H.get x) (h:Rows H sz (.slice a n c) rs) (k:∀d,a=some d→(d.spot=none∨c=0)∧(n=0∨(F d.block∧H.j9 d.block sz=true))):Rows H' sz (.slice a n c) rs∧(∀d,a=some d→(d.spot=none∨c=0)∧(n=0∨(F' d.block∧H'.j9 d.block sz=true))):=by
 obtain ⟨s,p,e,q⟩:=h.is;cases e;refine ⟨⟨_,_,rfl,fun i r hi=>?_⟩,fun d g=>?_⟩
 ·obtain ⟨b,o,rfl,m⟩:=q i r hi
  refine ⟨b,o,rfl,?_⟩;rcases (k _ rfl).2 with j|⟨f,_⟩
  ·have:=(aq0.1 hi).1;omega
  ·rw [←m]
   exact eC (hF b f).2 n0
 ·refine ⟨(k d g).1,?_⟩
  rcases (k d g).2 with j|⟨f,l⟩
  ·exact .inl j
  ·exact .inr ⟨(hF _ f).1,by rw [Hw (hF _ f).2];exact l⟩
mutual
theorem RF.mono (n0:H'.n0=H.n0) (hF:∀x,F x→F' x∧H'.get x=H.get x):∀{p:PV} {x:Value},RF F H p x→RF F' H' p x
 |_,_,.v x=>.v x
 |_,_,.fs b c d a=>let q:=Rows.fz n0 hF b d; .fs q.1 c q.2 (kz.mono n0 hF a)
theorem gO.mono (n0:H'.n0=H.n0) (hF:∀x,F x→F' x∧H'.get x=H.get x):∀{p:List PV} {x:List Value},gO F H p x→gO F' H' p x
 |_,_,.nil=>.nil
 |_,_,.cons a b=>.cons (RF.mono n0 hF a) (gO.mono n0 hF b)
theorem kz.mono (n0:H'.n0=H.n0) (hF:∀x,F x→F' x∧H'.get x=H.get x):∀{p:List (List PV)} {x:List (List Value)},kz F H p x→kz F' H' p x
 |_,_,.nil=>.nil
 |_,_,.cons a b=>.cons (gO.mono n0 hF a) (kz.mono n0 hF b)
end
end
mutual
theorem RV.step {W:Nat→Prop} {C D:Cx} (h:dq C.h.length W C D):∀{p:PV} {x:Value},RV C p x→RV D p x
 |_,_, .v x=> .v x
 |_,_, .ref f c d k=> .ref f (ari c (h.len (aqY _))) (h.le _ c c _ d) fun e=>by
  obtain ⟨i,g⟩:=h.wD _ c c _ d e;rw [g];exact k i
 |_,_, .sl f c d k=> .sl f (ari c (h.len (aqY _))) (h.le _ c c _ d) fun e=>by
  obtain ⟨i,g⟩:=h.wD _ c c _ d e;rw [g];exact k i
 |_,_, .mp f c k=> .mp f (ari c (h.len (aqY _))) fun e=>by
  obtain ⟨i,g⟩:=h.xS _ c c e;rw [g];exact k i
 |_,_, .fs k=> .fs (k.mono h.n0 h.fz)
 |_,_, .fp j d k=> .fp (h.fz _ j).1 (by rw [←d];exact eC (h.fz _ j).2 h.n0) (k.mono h.n0 h.fz)
 |_,_, .agg k=> .agg (cH.step h k)
 |_,_, .gN k=> .gN (cH.step h k)
 |_,_, .fn a b=> .fn (cH.step h a) (cH.step h b)
 |_,_, .q8 a=> .q8 (RV.step h a)
 |_,_, .any x=> .any x
theorem cH.step {W:Nat→Prop} {C D:Cx} (h:dq C.h.length W C D):∀{p:List PV} {x:List Value},cH C p x→cH D p x
 |_,_, .nil=> .nil
 |_,_, .cons a b=> .cons (RV.step h a) (cH.step h b)
end
theorem cH.get {C:Cx}:∀{ps:List PV} {xs:List Value},cH C ps xs→∀{i:Nat} {p:PV},ps[i]?=some p→∃x,xs[i]?=some x∧RV C p x
 |_,_,.nil,i,p,h=>by simp at h
 |_,_,.cons a b,0,p,h=>by simp at h;subst h;exact ⟨_,rfl,a⟩
 |_,_,.cons a b,i+1,p,h=>by simpa using cH.get b (by simpa using h)
theorem cH.drop {C:Cx}:∀{ps:List PV} {xs:List Value},cH C ps xs→∀n,cH C (ps.drop n) (xs.drop n)
 |_,_,.nil,n=>by simp;exact .nil
 |_,_,.cons a b,0=>.cons a b
 |_,_,.cons a b,n+1=>by simpa using cH.drop b n
theorem cH.take {C:Cx}:∀{ps:List PV} {xs:List Value},cH C ps xs→∀n,cH C (ps.take n) (xs.take n)
 |_,_,.nil,n=>by simp;exact .nil
 |_,_,.cons a b,0=>.nil
 |_,_,.cons a b,n+1=>by simpa using cH.cons a (cH.take b n)
theorem cH.append {C:Cx}:∀{ps:List PV} {xs:List Value} {c:List PV} {ys:List Value},cH C ps xs→cH C c ys→cH C (ps++c) (xs++ys)
 |_,_,_,_,.nil,k=>k
 |_,_,_,_,.cons a b,k=>.cons a (cH.append b k)
theorem cH.lits {C:Cx}:∀(l:List Value),cH C (l.map .v) l
 |[]=>.nil
 |x::l=>.cons (.v x) (cH.lits l)
theorem cH.Xg {C:Cx} {ps:List PV} {xs:List Value} (h:cH C ps xs):∀n,cH C (List.replicate n ps).flatten (List.replicate n xs).flatten
 |0=>.nil
 |n+1=>by simpa [List.replicate_succ]using h.append (h.Xg n)
theorem gO.qw {C:Cx}:∀{ps:List PV} {xs:List Value},gO C.F C.H ps xs→cH C ps xs
 |_,_,.nil=>.nil
 |_,_,.cons (.v x) b=>.cons (.v x) (gO.qw b)
 |_,_,.cons (.fs a b c d) e=>.cons (.fs (.fs a b c d)) (gO.qw e)
theorem RF.qw {C:Cx}:∀{p:PV} {x:Value},RF C.F C.H p x→RV C p x
 |_,_,.v x=>.v x
 |_,_,.fs a b c d=>.fs (.fs a b c d)
theorem gO.drop {F:Nat→Prop} {H:AH}:∀{ps:List PV} {xs:List Value},gO F H ps xs→∀n,gO F H (ps.drop n) (xs.drop n)
 |_,_,.nil,n=>by simp;exact .nil
 |_,_,.cons a b,0=>.cons a b
 |_,_,.cons a b,n+1=>by simpa using gO.drop b n
theorem gO.take {F:Nat→Prop} {H:AH}:∀{ps:List PV} {xs:List Value},gO F H ps xs→∀n,gO F H (ps.take n) (xs.take n)
 |_,_,.nil,n=>by simp;exact .nil
 |_,_,.cons a b,0=>.nil
 |_,_,.cons a b,n+1=>by simpa using gO.cons a (gO.take b n)
theorem kz.get {F:Nat→Prop} {H:AH}:∀{ps:List (List PV)} {xs:List (List Value)},kz F H ps xs→∀{i:Nat} {p:List PV},ps[i]?=some p→∃x,xs[i]?=some x∧gO F H p x
 |_,_,.nil,i,p,h=>by simp at h
 |_,_,.cons a b,0,p,h=>by simp at h;subst h;exact ⟨_,rfl,a⟩
 |_,_,.cons a b,i+1,p,h=>by simpa using kz.get b (by simpa using h)
theorem kz.drop {F:Nat→Prop} {H:AH}:∀{ps:List (List PV)} {xs:List (List Value)},kz F H ps xs→∀n,kz F H (ps.drop n) (xs.drop n)
 |_,_,.nil,n=>by simp;exact .nil
 |_,_,.cons a b,0=>.cons a b
 |_,_,.cons a b,n+1=>by simpa using kz.drop b n
theorem kz.take {F:Nat→Prop} {H:AH}:∀{ps:List (List PV)} {xs:List (List Value)},kz F H ps xs→∀n,kz F H (ps.take n) (xs.take n)
 |_,_,.nil,n=>by simp;exact .nil
 |_,_,.cons a b,0=>.nil
 |_,_,.cons a b,n+1=>by simpa using kz.cons a (kz.take b n)
theorem kz.flat {F:Nat→Prop} {H:AH}:∀{ps:List (List PV)} {xs:List (List Value)},kz F H ps xs→gO F H ps.flatten xs.flatten
 |_,_,.nil=>.nil
 |_,_,.cons a b=>by
  have ap:∀{ps:List PV} {xs:List Value} {d:List PV} {c:List Value},gO F H ps xs→gO F H d c→gO F H (ps++d) (xs++c):=by
   intro ps xs d c h k
   induction ps generalizing xs with
   |nil=>cases h;exact k
   |cons p ps ih=>cases h with|cons a b=>exact .cons a (ih b)
  simpa using ap a (kz.flat b)
end P
namespace P
open Go Go.RowKit
theorem eL {h a:PH} {b:Nat} (e:a[b]?=h[b]?):bF a b↔bF h b:=by unfold bF jY At;rw [e]
theorem sN {h a:PH} {b t:Nat} (e:a[b]?=h[b]?):At a b t↔At h b t:=by unfold At;rw [e]
theorem sO {h a:PH} {b t:Nat} (e:a[b]?=h[b]?):Le a b t↔Le h b t:=by unfold Le;rw [e]
theorem iW {h a:PH} {b:Nat} (e:a[b]?=h[b]?):jY a b↔jY h b:=by unfold jY;rw [e]
theorem cd {h:PH} {b z:Nat} {cs:List PV} (e:h[b]?=some (.cells z cs)) (a:cs≠[]):bF h b:=by
 refine .inr ⟨cs.length- 1,z,cs,e,?_⟩;have:=List.length_pos_iff.2 a;omega
theorem fC {h:PH} {b:Nat} {es:List (Value×PV)} (e:h[b]?=some (.map es)):bF h b:=.inl ⟨es,e⟩
theorem jZ {h:PH} {b:Nat} (s:bF h b):(∃es,h[b]?=some (.map es))∨∃z cs,h[b]?=some (.cells z cs)∧cs≠[]:=by
 rcases s with⟨es,e⟩|⟨t,z,cs,e,a⟩
 ·exact .inl ⟨es,e⟩
 ·exact .inr ⟨z,cs,e,by rintro rfl;simp at a⟩
theorem bO {h:PH} {b:Nat} (s:bF h b):b<h.length:=by
 rcases jZ s with⟨es,e⟩|⟨z,cs,e,_⟩<;>exact (aq0.1 e).1
theorem dO.lt {C:Cx} (S:dO C) {b:Nat} (s:bF C.h b):C.φ b<C.H.nx:=im.lt S (W:=fun _=>True) ⟨b,trivial,s,rfl⟩
theorem dO.old {C:Cx} (S:dO C) {b:Nat} (s:bF C.h b):C.H.n0≤C.φ b∧¬ C.F (C.φ b):=by
 rcases jZ s with⟨es,e⟩|⟨z,cs,e,c⟩
 ·obtain ⟨_,_,_,_,a,b⟩:=S.Af _ _ e;exact ⟨a,b⟩
 ·obtain ⟨_,_,_,a,b⟩:=S.aS _ _ _ e c;exact ⟨a,b⟩
theorem dO.of {C D:Cx} {W:Nat→Prop} (S:dO C) (T:dq C.h.length W C D) (o:D.F=C.F) (f:Nat) (g:∀b,b≠f→D.h[b]?=C.h[b]?∧D.φ b=C.φ b)
 (q:∀b,b≠f→bF C.h b→D.H.get (C.φ b)=C.H.get (C.φ b)) (p:∀b,b≠f→bF C.h b→bF D.h f→D.φ f≠C.φ b)
 (u:∀z cs,D.h[f]?=some (.cells z cs)→cs≠[]→∃vs,D.H.get (D.φ f)=some (.cells z vs)∧cH C cs vs∧D.H.n0≤D.φ f∧¬ D.F (D.φ f))
 (t:∀es,D.h[f]?=some (.map es)→∃ys,D.H.get (D.φ f)=some (.map ys)∧es.map (·.1)=ys.map (·.1)∧cH C (es.map (·.2)) (ys.map (·.2))∧D.H.n0≤D.φ f∧¬ D.F (D.φ f)):dO D where
 wf:=by rw [T.n0];exact arh S.wf T.nx
 fz:=fun x r=>ari (S.fz x (o▸r)) T.nx
 inj:=fun b k s m e=>by
  by_cases h:b=f
  ·by_cases i:k=f
   ·omega
   ·subst h
    have l:=(eL (g _ i).1).1 m;rw [(g _ i).2]at e;exact absurd e (p _ i l s)
  ·by_cases i:k=f
   ·subst i
    have l:=(eL (g _ h).1).1 s;rw [(g _ h).2]at e;exact absurd e.symm (p _ h l m)
   ·rw [(g _ h).2,(g _ i).2]at e
    exact S.inj _ _ ((eL (g _ h).1).1 s) ((eL (g _ i).1).1 m) e
 aS:=fun b z cs e n=>by
  by_cases h:b=f
  ·subst h
   obtain ⟨vs,a,b,c⟩:=u z cs e n;exact ⟨vs,a,b.step T,c⟩
  ·have j:=e
   rw [(g _ h).1]at j;obtain ⟨vs,a,k,c,d⟩:=S.aS _ _ _ j n;rw [(g _ h).2,o,T.n0];exact ⟨vs,(q _ h (cd j n)).trans a,k.step T,c,d⟩
 Af:=fun b es e=>by
  by_cases h:b=f
  ·subst h
   obtain ⟨ys,a,b,c,d⟩:=t es e;exact ⟨ys,a,b,c.step T,d⟩
  ·have j:=e
   rw [(g _ h).1]at j;obtain ⟨ys,a,k,c,d⟩:=S.Af _ _ j;rw [(g _ h).2,o,T.n0];exact ⟨ys,(q _ h (fC j)).trans a,k,c.step T,d⟩
def BO (φ:Nat→Nat) (b x:Nat):Nat→Nat:=fun c=>if c=b then x else φ c
theorem gw (φ:Nat→Nat) (b x:Nat):BO φ b x b=x:=by simp [BO]
theorem lG {φ:Nat→Nat} {b x c:Nat} (h:c≠b):BO φ b x c=φ c:=by simp [BO,h]
theorem jE {h:PH} {P:PB} {b:Nat} (a:b≠h.length):(h++[P])[b]?=h[b]?:=by
 rcases Nat.lt_or_ge b h.length with k|k
 ·rw [aq7 k]
 ·rw [arb k,arC (by simp;omega),arC k]
theorem kA (h:PH) (P:PB):(h++[P])[h.length]?=some P:=by simp
theorem dO.new {C:Cx} (S:dO C) {P:PB} {B:po} (W:Nat→Prop)
 (i:(∃z cs vs,P= .cells z cs∧B= .cells z vs∧cH C cs vs)∨(∃es ys,P= .map es∧B= .map ys∧es.map (·.1)=ys.map (·.1)∧cH C (es.map (·.2)) (ys.map (·.2)))):
 dO ⟨C.F,C.H.alloc B,BO C.φ C.h.length C.H.nx,C.h++[P]⟩∧dq C.h.length W C ⟨C.F,C.H.alloc B,BO C.φ C.h.length C.H.nx,C.h++[P]⟩:=by
 have T:dq C.h.length W C ⟨C.F,C.H.alloc B,BO C.φ C.h.length C.H.nx,C.h++[P]⟩:={
  n0:=rfl
  nx:=arn _
  fz:=fun x d=>⟨d,by have:=S.fz x d;rw [AH.dx,if_neg (by omega)]⟩
  fo:=fun _ _ _ h=>h
  out:=fun x d _=>by rw [AH.dx,if_neg (by omega)]
  loc:=fun b a=>by
   by_cases h:b=C.h.length
   ·subst h;left;show _≤BO _ _ _ _;rw [gw];exact aqY _
   ·right;exact ⟨(eL (jE h)).1 a,lG h⟩
  len:=fun _=>by simp
  le:=fun b a _ t k=>(sO (jE (by omega))).2 k
  wD:=fun b a _ t _ g=>⟨(sN (jE (by omega))).1 g,lG (by omega)⟩
  xS:=fun b a _ g=>⟨(iW (jE (by omega))).1 g,lG (by omega)⟩}
 refine ⟨S.of T rfl C.h.length (fun b a=>⟨jE a,lG a⟩) (fun b a s=>?_) (fun b a s _=>?_) (fun z cs e o=>?_) (fun es e=>?_),T⟩
 ·have:=S.lt s;show(C.H.alloc B).get _=_;rw [AH.dx,if_neg (by omega)]
 ·have:=S.lt s;show BO _ _ _ _≠_;rw [gw];omega
 ·have e:some P=some (.cells z cs):=(kA _ _).symm.trans e
  cases e;rcases i with⟨j,n,vs,c,rfl,f⟩|⟨es,ys,c,_⟩
  ·cases c
   refine ⟨vs,?_,f,?_,?_⟩<;>dsimp only<;>rw [gw]
   ·exact cg _ _
   ·exact S.wf
   ·intro q;exact absurd (S.fz _ q) (Nat.lt_irrefl _)
  ·cases c
 ·have e:some P=some (.map es):=(kA _ _).symm.trans e
  cases e;rcases i with⟨j,n,vs,c,_⟩|⟨m,ys,c,rfl,l,f⟩
  ·cases c
  ·cases c
   refine ⟨ys,?_,l,f,?_,?_⟩<;>dsimp only<;>rw [gw]
   ·exact cg _ _
   ·exact S.wf
   ·intro q;exact absurd (S.fz _ q) (Nat.lt_irrefl _)
theorem fb {h:PH} {P:PB} {b c:Nat} (a:c≠b):(h.set b P)[c]?=h[c]?:=arj (Ne.symm a)
theorem eM {h:PH} {P:PB} {b:Nat} (a:b<h.length):(h.set b P)[b]?=some P:=by simp [List.getElem?_set,a]
theorem dO.put {C:Cx} (S:dO C) {b z:Nat} {cs ds:List PV} {vs:List Value} {W:Nat→Prop} (v:W b) (l:C.h[b]?=some (.cells z cs)) (d:cs≠[]) (j:ds.length=cs.length) (r:cH C ds vs):
 dO ⟨C.F,C.H.put (C.φ b) (some (.cells z vs)),C.φ,C.h.set b (.cells z ds)⟩∧dq C.h.length W C ⟨C.F,C.H.put (C.φ b) (some (.cells z vs)),C.φ,C.h.set b (.cells z ds)⟩:=by
 have a:=cd l d;have i:=S.lt a;have f:=bO a;have w:ds≠[]:=by intro e;subst e;simp at j;exact d (arp.1 j.symm)
 have u:∀t,At (C.h.set b (.cells z ds)) b t→At C.h b t:=by
  rintro t ⟨m,q,e,rfl⟩;rw [eM f]at e;cases e;exact ⟨z,cs,l,j.symm⟩
 have T:dq C.h.length W C ⟨C.F,C.H.put (C.φ b) (some (.cells z vs)),C.φ,C.h.set b (.cells z ds)⟩:={
  n0:=rfl
  nx:=aqY _
  fz:=fun x k=>⟨k,by rw [AH.bA _ _ _ _ i,if_neg];rintro rfl;exact (S.old a).2 k⟩
  fo:=fun _ _ _ h=>h
  out:=fun x k hi=>by rw [AH.bA _ _ _ _ i,if_neg];rintro rfl;exact hi ⟨b,v,a,rfl⟩
  loc:=fun c o=>by
   right;by_cases h:c=b
   ·subst h;exact ⟨a,rfl⟩
   ·exact ⟨(eL (fb h)).1 o,rfl⟩
  len:=fun _=>by simp
  le:=fun c p _ t n=>by
   by_cases h:c=b
   ·subst h
    intro m q e;rw [eM f]at e;cases e;rw [j];exact n _ _ l
   ·exact (sO (fb h)).2 n
  wD:=fun c p _ t _ g=>by
   by_cases h:c=b
   ·subst h;exact ⟨u t g,rfl⟩
   ·exact ⟨(sN (fb h)).1 g,rfl⟩
  xS:=fun c p _ g=>by
   by_cases h:c=b
   ·subst h;obtain ⟨es,e⟩:=g;rw [eM f]at e;cases e
   ·exact ⟨(iW (fb h)).1 g,rfl⟩}
 refine ⟨S.of T rfl b (fun c d=>⟨fb d,rfl⟩) (fun c d s=>?_) (fun c d s _ e=>d (S.inj _ _ s a e.symm)) (fun m q e o=>?_) (fun es e=>?_),T⟩
 ·show(C.H.put _ _).get _=_
  rw [AH.bA _ _ _ _ i,if_neg];exact fun e=>d (S.inj _ _ s a e)
 ·have e:=(eM f).symm.trans e
  cases e;refine ⟨vs,?_,r,(S.old a)⟩;show(C.H.put _ _).get _=_;rw [AH.bA _ _ _ _ i,if_pos rfl]
 ·have e:=(eM f).symm.trans e
  cases e
theorem dO.age {C:Cx} (S:dO C) {b:Nat} {es fs:List (Value×PV)} {ys:List (Value×Value)} {W:Nat→Prop} (u:W b) (n:C.h[b]?=some (.map es)) (r:fs.map (·.1)=ys.map (·.1)) (p:cH C (fs.map (·.2)) (ys.map (·.2))):
 dO ⟨C.F,C.H.put (C.φ b) (some (.map ys)),C.φ,C.h.set b (.map fs)⟩∧dq C.h.length W C ⟨C.F,C.H.put (C.φ b) (some (.map ys)),C.φ,C.h.set b (.map fs)⟩:=by
 have a:=fC n;have f:=S.lt a;have g:=bO a
 have T:dq C.h.length W C ⟨C.F,C.H.put (C.φ b) (some (.map ys)),C.φ,C.h.set b (.map fs)⟩:={
  n0:=rfl
  nx:=aqY _
  fz:=fun x j=>⟨j,by rw [AH.bA _ _ _ _ f,if_neg];rintro rfl;exact (S.old a).2 j⟩
  fo:=fun _ _ _ h=>h
  out:=fun x j hi=>by rw [AH.bA _ _ _ _ f,if_neg];rintro rfl;exact hi ⟨b,u,a,rfl⟩
  loc:=fun c l=>by
   right;by_cases h:c=b
   ·subst h;exact ⟨a,rfl⟩
   ·exact ⟨(eL (fb h)).1 l,rfl⟩
  len:=fun _=>by simp
  le:=fun c m _ t q=>by
   by_cases h:c=b
   ·subst h
    intro k o e;rw [eM g]at e;cases e
   ·exact (sO (fb h)).2 q
  wD:=fun c m _ t _ i=>by
   by_cases h:c=b
   ·subst h;obtain ⟨k,o,e,_⟩:=i;rw [eM g]at e;cases e
   ·exact ⟨(sN (fb h)).1 i,rfl⟩
  xS:=fun c m _ i=>by
   by_cases h:c=b
   ·subst h;exact ⟨⟨es,n⟩,rfl⟩
   ·exact ⟨(iW (fb h)).1 i,rfl⟩}
 refine ⟨S.of T rfl b (fun c d=>⟨fb d,rfl⟩) (fun c d s=>?_) (fun c d s _ e=>d (S.inj _ _ s a e.symm)) (fun k o e l=>?_) (fun es e=>?_),T⟩
 ·show(C.H.put _ _).get _=_
  rw [AH.bA _ _ _ _ f,if_neg];exact fun e=>d (S.inj _ _ s a e)
 ·have e:=(eM g).symm.trans e
  cases e
 ·have e:=(eM g).symm.trans e
  cases e;refine ⟨ys,?_,r,p,(S.old a)⟩;show(C.H.put _ _).get _=_;rw [AH.bA _ _ _ _ f,if_pos rfl]
theorem dO.grow {C:Cx} (S:dO C) {b z:Nat} {cs ds:List PV} {vs:List Value} {H1:AH} {W:Nat→Prop} (A:W b) (j:C.h[b]?=some (.cells z cs)) (B:cs.length<ds.length) (w:cH C ds vs)
 (k:(cs=[]∧H1=C.H)∨(cs≠[]∧H1=C.H.put (C.φ b) none)):
 dO ⟨C.F,H1.alloc (.cells z vs),BO C.φ b C.H.nx,C.h.set b (.cells z ds)⟩∧dq C.h.length W C ⟨C.F,H1.alloc (.cells z vs),BO C.φ b C.H.nx,C.h.set b (.cells z ds)⟩:=by
 have f:=(aq0.1 j).1;have v:H1.nx=C.H.nx:=by rcases k with⟨_,rfl⟩|⟨_,rfl⟩<;>rfl
 have n:H1.n0=C.H.n0:=by rcases k with⟨_,rfl⟩|⟨_,rfl⟩<;>rfl
 have l:∀x,x<C.H.nx→(∀(_:bF C.h b),x≠C.φ b)→(H1.alloc (.cells z vs)).get x=C.H.get x:=by
  intro x d y;rw [AH.dx,if_neg (by omega)];rcases k with⟨_,rfl⟩|⟨a,rfl⟩
  ·rfl
  ·rw [AH.rq,if_neg (y (cd j a))]
 have T:dq C.h.length W C ⟨C.F,H1.alloc (.cells z vs),BO C.φ b C.H.nx,C.h.set b (.cells z ds)⟩:={
  n0:=n
  nx:=by show _≤H1.nx+1;omega
  fz:=fun x d=>⟨d,l x (S.fz x d) fun s e=>(S.old s).2 (e▸d)⟩
  fo:=fun _ _ _ h=>h
  out:=fun x d hi=>l x d fun s e=>hi ⟨b,A,s,e.symm⟩
  loc:=fun c o=>by
   by_cases h:c=b
   ·subst h;left;show _≤BO _ _ _ _;rw [gw];exact aqY _
   ·right;exact ⟨(eL (fb h)).1 o,lG h⟩
  len:=fun _=>by simp
  le:=fun c p _ t i=>by
   by_cases h:c=b
   ·subst h
    intro m r e;rw [eM f]at e;cases e;have:=i _ _ j;omega
   ·exact (sO (fb h)).2 i
  wD:=fun c p _ t i g=>by
   by_cases h:c=b
   ·subst h
    obtain ⟨m,r,e,rfl⟩:=g;rw [eM f]at e;cases e;have:=i _ _ j;omega
   ·exact ⟨(sN (fb h)).1 g,lG h⟩
  xS:=fun c p _ g=>by
   by_cases h:c=b
   ·subst h;obtain ⟨es,e⟩:=g;rw [eM f]at e;cases e
   ·exact ⟨(iW (fb h)).1 g,lG h⟩}
 refine ⟨S.of T rfl b (fun c a=>⟨fb a,lG a⟩) (fun c a s=>?_) (fun c a s _=>?_) (fun m r e o=>?_) (fun es e=>?_),T⟩
 ·exact l _ (S.lt s) fun u e=>a (S.inj _ _ s u e)
 ·have:=S.lt s;show BO _ _ _ _≠_;rw [gw];omega
 ·have e:=(eM f).symm.trans e
  cases e;refine ⟨vs,?_,w,?_,?_⟩<;>dsimp only<;>rw [gw]
  ·rw [←v];exact cg _ _
  ·show H1.n0≤_;rw [n];exact S.wf
  ·intro q;exact absurd (S.fz _ q) (Nat.lt_irrefl _)
 ·have e:=(eM f).symm.trans e
  cases e
theorem dO.void {C:Cx} (S:dO C) (z:Nat) (W:Nat→Prop):dO ⟨C.F,C.H,C.φ,C.h++[.cells z []]⟩∧dq C.h.length W C ⟨C.F,C.H,C.φ,C.h++[.cells z []]⟩:=by
 have f:¬ bF (C.h++[.cells z []]) C.h.length:=fun s=>by
  rcases jZ s with⟨es,e⟩|⟨k,cs,e,c⟩
  ·rw [kA]at e;cases e
  ·rw [kA]at e;cases e;exact c rfl
 have T:dq C.h.length W C ⟨C.F,C.H,C.φ,C.h++[.cells z []]⟩:={
  n0:=rfl
  nx:=aqY _
  fz:=fun x g=>⟨g,rfl⟩
  fo:=fun _ _ _ h=>h
  out:=fun x g _=>rfl
  loc:=fun b a=>by
   by_cases h:b=C.h.length
   ·subst h;exact absurd a f
   ·right;exact ⟨(eL (jE h)).1 a,rfl⟩
  len:=fun _=>by simp
  le:=fun b a _ t j=>(sO (jE (by omega))).2 j
  wD:=fun b a _ t _ d=>⟨(sN (jE (by omega))).1 d,rfl⟩
  xS:=fun b a _ d=>⟨(iW (jE (by omega))).1 d,rfl⟩}
 refine ⟨S.of T rfl C.h.length (fun b a=>⟨jE a,rfl⟩) (fun b a s=>rfl) (fun b a s i=>absurd i f) (fun z cs e c=>?_) (fun es e=>?_),T⟩
 ·have e:=(kA _ _).symm.trans e;cases e;exact absurd rfl c
 ·have e:=(kA _ _).symm.trans e;cases e
open Go Go.RowKit
def tG {α:Type}:List α→Nat→List α→List α
 |c,0,vs=>vs++c.drop vs.length
 |x::c,k+1,vs=>x::tG c k vs
 |[],_+1,_=>[]
def wE:Value→PV
 | .agg cs=>.agg (cs.toList.map .v)
 |x=>.v x
def dw:PV→Option (List PV)
 | .agg cs=>some cs
 | .gN _=>none
 | .any=>none
 | .v (.agg cs)=>some (cs.toList.map .v)
 | .v (.tuple _)=>none
 |p=>some [p]
def oM:List PV→List (Nat×Nat×PV)→Option (List PV)
 |c,[]=>some c
 |c,(off,n,p)::l=>match dw p with
  |some ds=>if ds.length=n∧off+n≤c.length then oM (tG c off ds) l else none
  |none=>none
def Hz:PV→PV→PV→Option PV
 | .v (.bool t),a,b=>some (bif t then a else b)
 |_,_,_=>none
def Oi (h:PH):PV→Option PV
 | .ref b o t=>match h[b]? with
   |some (.cells _ cs)=>if cs.length=t then cs[o]? else none
   |_=>none
 | .fp cells=>cells.head?
 |_=>none
def vC (n:Nat) (h:PH):PV→Option PV
 | .ref b o t=>match h[b]? with
   |some (.cells _ cs)=>if cs.length=t∧o+n≤t∧0<t then some (.agg ((cs.drop o).take n))else none
   |_=>none
 | .fp cells=>if n≤cells.length then some (.agg (cells.take n))else none
 |_=>none
def Ri (n:Nat) (h:PH):PV→PV→Option PH
 | .ref b o t,p=>match h[b]?,dw p with
   |some (.cells z cs),some ds=>if cs.length=t∧o+n≤t∧0<t∧ds.length=n then some (h.set b (.cells z (tG cs o ds)))else none
   |_,_=>none
 |_,_=>none
def eT (h:PH) (b:Nat):Option Nat:=match h[b]? with
 |some (.cells _ cs)=>some cs.length
 |_=>none
def BP (h:PH):PV→Option PV
 | .ref b o t=>if eT h b=some t then some (.ref b o t)else none
 | .fp c=>some (.fp c)
 |_=>none
def LN (op:BinOp):PV→PV→Option PV
 | .v x,.v y=>(bX op x y).map .v
 |_,_=>none
def vD:Nat→Value→Bool
 |1,.pointer none=>true
 |2,.slice none _ _=>true
 |3,.nilFunc=>true
 |4,.map none=>true
 |_,_=>false
def LO (h:PH) (k:Nat) (p:PV) (y:Value):Option Bool:=
 match p with
 | .v x=>gD k x y
 | .ref b _ t=>match h[b]? with
   |some (.cells _ cs)=>if cs.length=t∧k=1∧vD 1 y=true then some false else none
   |_=>none
 | .fp _=>if k=1∧vD 1 y=true then some false else none
 | .sl sz b o n c=>match h[b]? with
   |some (.cells _ cs)=>if(o+c)*sz=cs.length∧0<c∧k=2∧vD 2 y=true then some false else none
   |_=>none
 | .fs _ rows=>if rows≠[]∧k=2∧vD 2 y=true then some false else none
 | .fn _ _ _=>if k=3∧vD 3 y=true then some false else none
 | .mp b=>match h[b]? with
   |some (.map _)=>if k=4∧vD 4 y=true then some false else none
   |_=>none
 |_=>none
def LP (h:PH) (k:Nat):PV→PV→Option Bool
 |p,.v y=>LO h k p y
 |_,_=>none
def pun (op:UnOp):PV→Option PV
 | .v x=>(ES op x).map .v
 |_=>none
def LQ (k:IntKind):PV→Option PV
 | .v (.int _ n)=>some (.v (.int k (k.wrap n)))
 |_=>none
def Rj:PV→Option PV
 | .v (.int _ n)=>some (.v (.string (Utf8.encode n)))
 |_=>none
def TP (h:PH) (off:Nat):PV→Option PV
 | .ref b o t=>if eT h b=some t then some (.ref b (o+off) t)else none
 | .fp cells=>if off≤cells.length then some (.fp (cells.drop off))else none
 |_=>none
def Xh (h:PH) (sz:Nat):PV→PV→Option PV
 | .sl fY b o n c, .v (.int _ k)=>match h[b]? with
   |some (.cells _ cs)=>if fY=sz∧(o+c)*sz=cs.length∧0<c∧0≤k∧k<n then some (.ref b ((o+k.toNat)*sz) cs.length)else none
   |_=>none
 | .fs fY rows, .v (.int _ k)=>if fY=sz∧0≤k∧k<rows.length then(match rows[k.toNat]? with|some r=>some (.fp r)|none=>none)else none
 |_,_=>none
def HA (h:PH) (len sz:Nat):PV→PV→Option PV
 | .ref b o t,.v (.int _ k)=>if eT h b=some t∧0≤k∧k<len then some (.ref b (o+k.toNat*sz) t)else none
 | .fp cells,.v (.int _ k)=>if 0≤k∧k<len∧k.toNat*sz≤cells.length then some (.fp (cells.drop (k.toNat*sz)))else none
 |_,_=>none
def pix:PV→PV→Option PV
 | .v x,.v y=>(EF x y).map .v
 |_,_=>none
def LR:PV→Nat→Option PV
 | .gN ps,i=>ps[i]?
 |_,_=>none
def HB:PV→Option PV
 | .v x=>(r9 x).map .v
 |_=>none
def gA (h:PH):PV→Bool
 | .sl sz b o _ c=>match h[b]? with
   |some (.cells _ cs)=>decide ((o+c)*sz=cs.length)
   |_=>false
 |_=>true
def oN:PV→Option Nat
 | .v (.slice none 0 0)=>some 0
 | .v (.string s)=>some s.size
 | .sl _ _ _ n _=>some n
 | .fs _ rows=>some rows.length
 |_=>none
def BQ (h:PH):PV→Option PV
 | .v x=>(sb x).map .v
 | .sl sz b o n c=>some (.v (.int .i64 n))
 | .fs _ rows=>some (.v (.int .i64 rows.length))
 |_=>none
def qx (k:Value):List (Value×PV)→Option (Option PV)
 |[]=>some none
 |(k',p)::es=>match gX k k' with
  |some true=>some (some p)
  |some false=>qx k es
  |none=>none
def tH (k:Value) (p:PV):List (Value×PV)→Option (List (Value×PV))
 |[]=>some [(k,p)]
 |(k',p')::es=>match gX k k' with
  |some true=>some ((k,p)::es)
  |some false=>(tH k p es).map fun l=>(k',p')::l
  |none=>none
def xT (kk:Nat) (z:Value) (h:PH) (x k:PV) (ok:Bool):Option PV:=
 match x,k with
 | .v (.map none), .v kx=>if cj kk kx=true then some (bif ok then .gN [wE z, .v (.bool false)]else wE z)else none
 | .mp b, .v kx=>match h[b]? with
   |some (.map es)=>if cj kk kx=true then(match qx kx es with
    |some (some p)=>some (bif ok then .gN [p, .v (.bool true)]else p)
    |some none=>some (bif ok then .gN [wE z, .v (.bool false)]else wE z)
    |none=>none)else none
   |_=>none
 |_,_=>none
def DV (kk:Nat) (h:PH) (x k p:PV):Option PH:=
 match x,k with
 | .mp b, .v kx=>match h[b]? with
   |some (.map es)=>if cj kk kx=true∧(dw p).isSome=true then(tH kx p es).map fun es'=>h.set b (.map es')else none
   |_=>none
 |_,_=>none
def Oj:Option PV→Option (Option Value)
 |none=>some none
 |some (.v x)=>some (some x)
 |_=>none
def Xi (sz:Nat) (h:PH) (x:PV) (lo hi mx:Option PV):Option (PV×PH):=
 match Oj lo,Oj hi,Oj mx with
 |some lo,some hi,some mx=>match x with
  | .sl fY b o n c=>match h[b]?,bm n c lo hi mx with
    |some (.cells z cs),some (l,e,m)=>if fY=sz∧0<sz∧z=sz∧(o+c)*sz=cs.length∧e≤m then
      (if c=0 then some (x,h)
      else if m=l then(if mx=none then some (.fs sz [],h)else some (.sl sz h.length 0 0 0,h++[.cells sz []]))
      else if m=c then some (.sl sz b (o+l) (e- l) (c- l),h)else none)else none
    |_,_=>none
  | .fs fY rows=>if fY=sz∧0<sz then
      (match mx with
      |none=>match bm rows.length rows.length lo hi none with
       |some (l,e,_)=>if e≤rows.length then some (.fs sz ((rows.take e).drop l),h)else none
       |none=>none
      |some m=>if bm rows.length rows.length lo hi (some m)=some (0,0,0)then(match rows with
       |[]=>some (.fs sz [],h)
       |_::_=>some (.sl sz h.length 0 0 0,h++[.cells sz []]))else none)else none
  | .v (.slice none 0 0)=>if 0<sz∧(bm 0 0 lo hi mx).isSome=true then some (x,h)else none
  | .v (.string s)=>match mx with
    |some _=>none
    |none=>match bm s.size s.size lo hi none with
     |some (l,e,_)=>if sz=0 then some (.v (.string (s.extract l e)),h)else none
     |none=>none
  |_=>none
 |_,_,_=>none
def fx (h:PH) (sz k:Nat):PV→Option (List PV)
 | .sl fY b o n c=>match h[b]? with
   |some (.cells _ cs)=>if fY=sz∧(o+c)*sz=cs.length∧k≤n∧n≤c then some ((cs.drop (o*sz)).take (k*sz))else none
   |_=>none
 | .fs fY rows=>if fY=sz∧k≤rows.length then some (rows.take k).flatten else none
 | .v (.string s)=>if sz=1 then some ((s.extract 0 k).data.toList.map fun b=> .v (.int .u8 b.toNat))else none
 | .v (.slice none 0 0)=>if k=0 then some []else none
 |_=>none
def qK (sz bytes:Nat) (h:PH) (s x:PV):Option (PV×PH):=
 match oN x with
 |none=>none
 |some k=>
  if k=0 then(if gA h x=true then match s with
   | .v (.slice none 0 0)=>some (s,h)
   | .sl fY b o n c=>match h[b]? with
     |some (.cells _ cs)=>if(o+c)*fY=cs.length∧n≤c then some (s,h)else none
     |_=>none
   | .fs _ _=>some (s,h)
   |_=>none
   else none)
  else match fx h sz k x with
  |none=>none
  |some new=>match s with
   | .v (.slice none 0 0)=>if 0<sz∧k*bytes≤2^47∧k<2^62 then some (.sl sz h.length 0 k k,h++[.cells sz new])else none
   | .sl fY b o n c=>match h[b]? with
     |some (.cells z cs)=>if fY=sz∧z=sz∧0<sz∧(o+c)*sz=cs.length∧n≤c∧(n+k)*bytes≤2^47∧n+k<2^62 then
       (if c=0 then(if o=0 then some (.sl sz b 0 k k,h.set b (.cells sz new))else none)
       else if n+k≤c then some (.sl sz b o (n+k) c,h.set b (.cells sz (tG cs ((o+n)*sz) new)))
       else if o=0 then some (.sl sz b 0 (n+k) (n+k),h.set b (.cells sz (cs.take (n*sz)++new)))else none)
       else none
     |_=>none
   |_=>none
def BR (sz:Nat) (h:PH) (d s:PV):Option (PV×PH):=
 match(bif gA h s then oN s else none)with
 |none=>none
 |some m=>match d with
  | .v (.slice none 0 0)=>some (.v (.int .i64 0),h)
  | .sl fY b o n c=>match h[b]? with
    |some (.cells z cs)=>if fY=sz∧0<sz∧(o+c)*sz=cs.length∧n≤c then
      (if Nat.min m n=0 then some (.v (.int .i64 0),h)
      else match fx h sz (Nat.min m n) s with
       |some new=>some (.v (.int .i64 (Nat.min m n)),h.set b (.cells z (tG cs (o*sz) new)))
       |none=>none)else none
    |_=>none
  |_=>none
def HC (sz bytes:Nat) (z:List Value) (h:PH):PV→Option (PV×PH)
 | .v (.int _ n)=>if 0≤n∧IntKind.i64.wrap n=n∧bytes*n≤2^47∧z.length=sz∧0<sz then some (.sl sz h.length 0 n.toNat n.toNat,h++[.cells sz (List.replicate n.toNat (z.map .v)).flatten])else none
 |_=>none
def LS (len sz:Nat) (z:List Value) (h:PH) (ps:List (Nat×Nat×PV)):Option (PV×PH):=
 match oM (z.map .v) ps with
 |some c=>if c.length=len*sz∧0<sz then some (.sl sz h.length 0 len len,h++[.cells sz c])else none
 |none=>none
def Rl:List PV→Option (List Value)
 |[]=>some []
 | .v x::l=>(Rl l).map fun m=>x::m
 |_=>none
def Rm (f:Value→List Value→Option Value) (x:PV) (l:List PV):Option PV:=
 match x,Rl l with
 | .v x,some l=>(f x l).map .v
 |_,_=>none
def DW (cs ds:List PV):List (Nat×Nat)→Option Bool
 |[]=>some true
 |(o,kk)::l=>match cs[o]?,ds[o]? with
  |some (.v a),some (.v b)=>if cj kk a=true then(match gX a b with
   |some true=>DW cs ds l
   |some false=>some false
   |none=>none)else none
  |_,_=>none
def LU (neg:Bool) (offs:List (Nat×Nat)):PV→PV→Option PV
 | .agg cs,.agg ds=>(DW cs ds offs).map fun b=>.v (.bool (bif neg then !b else b))
 |_,_=>none
def LV (h:PH) (p:PV):Option (PV×PH):=
 match dw p with
 |some cs=>some (.ref h.length 0 cs.length,h++[.cells cs.length cs])
 |none=>none
def xU (l:List PV) (n:Nat) (ag:Bool):Option PV:=if l.length=n then(bif ag then some (.agg l)else match l with|[v]=>some v|_=>none)else none
def TQ:XK→List PV→Option PV
 | .Jl o n ag,[.agg cs]=>xU ((cs.drop o).take n) n ag
 | .Jm len n ag,[.agg cs,.v (.int _ i)]=>if 0≤i∧i<len then xU ((cs.drop (i.toNat*n)).take n) n ag else none
 |_,_=>none
def TR:XK→List Value→Option Value
 | .Jl o n ag,[.agg cs]=>pX ((cs.toList.drop o).take n) n ag
 | .Jm len n ag,[.agg cs,.int _ i]=>if 0≤i∧i<len then pX ((cs.toList.drop (i.toNat*n)).take n) n ag else none
 |_,_=>none
def pop (p:cl) (ρ:X→PV) (h:PH):Option (PV×PH):=
 match p with
 | .mv x=>some (ρ x,h)
 | .pick c a b=>(Hz (ρ c) (ρ a) (ρ b)).map fun v=>(v,h)
 | .alloc z=>some (.ref h.length 0 z.length,h++[.cells z.length (z.map .v)])
 | .box x=>LV h (ρ x)
 | .build z ps=>(oM (z.map .v) (ps.map fun p=>(p.1,p.2.1,ρ p.2.2))).map fun c=>(.agg c,h)
 | .bsl len sz z ps=>LS len sz z h (ps.map fun p=>(p.1,p.2.1,ρ p.2.2))
 | .ld x=>(Oi h (ρ x)).map fun v=>(v,h)
 | .ldn n x=>(vC n h (ρ x)).map fun v=>(v,h)
 | .st n x v=>(Ri n h (ρ x) (ρ v)).map fun h'=>(.v undef,h')
 | .aW x=>(BP h (ρ x)).map fun v=>(v,h)
 | .bin op x y=>(LN op (ρ x) (ρ y)).map fun v=>(v,h)
 | .eqk k neg x y=>(LP h k (ρ x) (ρ y)).map fun b=>(.v (.bool (bif neg then !b else b)),h)
 | .un op x=>(pun op (ρ x)).map fun v=>(v,h)
 | .mF k x=>(LQ k (ρ x)).map fun v=>(v,h)
 | .SK x=>(Rj (ρ x)).map fun v=>(v,h)
 | .mkf f first cap=>some (.fn f (first.map ρ) (cap.map ρ),h)
 | .mkmap=>some (.mp h.length,h++[.map []])
 | .mksl sz bytes z x=>HC sz bytes z h (ρ x)
 | .sl sz x lo hi mx=>Xi sz h (ρ x) (lo.map ρ) (hi.map ρ) (mx.map ρ)
 | .fa off x=>(TP h off (ρ x)).map fun v=>(v,h)
 | .ia sz x i=>(Xh h sz (ρ x) (ρ i)).map fun v=>(v,h)
 | .pY len sz x i=>(HA h len sz (ρ x) (ρ i)).map fun v=>(v,h)
 | .ix x i=>(pix (ρ x) (ρ i)).map fun v=>(v,h)
 | .look kk z x k ok=>(xT kk z h (ρ x) (ρ k) ok).map fun v=>(v,h)
 | .mU kk x k v=>(DV kk h (ρ x) (ρ k) (ρ v)).map fun h'=>(.v undef,h')
 | .ext x i=>(LR (ρ x) i).map fun v=>(v,h)
 | .call _ _=>none
 | .callv _ _=>none
 | .app sz bytes s x=>qK sz bytes h (ρ s) (ρ x)
 | .copy sz d s=>BR sz h (ρ d) (ρ s)
 | .lens x=>(HB (ρ x)).map fun v=>(v,h)
 | .ey x=>(BQ h (ρ x)).map fun v=>(v,h)
 | .OU t x=>some (.q8 t (ρ x),h)
 | .mxl x l=>(Rm Eu (ρ x) (l.map ρ)).map fun v=>(v,h)
 | .mnl x l=>(Rm Jk (ρ x) (l.map ρ)).map fun v=>(v,h)
 | .eqs neg offs x y=>(LU neg offs (ρ x) (ρ y)).map fun v=>(v,h)
 | .xt k l=>(TQ k (l.map ρ)).map fun v=>(v,h)
def vE (p:cl) (ρ:X→PV):List Nat:=
 match p with
 | .st _ x _=>match ρ x with| .ref b _ _=>[b]|_=>[]
 | .app _ _ s _=>match ρ s with| .sl _ b _ _ _=>[b]|_=>[]
 | .copy _ d _=>match ρ d with| .sl _ b _ _ _=>[b]|_=>[]
 | .mU _ x _ _=>match ρ x with| .mp b=>[b]|_=>[]
 |_=>[]
end P
namespace P
open Go Go.RowKit
def oO (C:Cx) (W:Nat→Prop) (r:Option (Value×AH)) (p:PV) (h':PH):Prop:=∃x H' dy,r=some (x,H')∧RV ⟨C.F,H',dy,h'⟩ p x∧dO ⟨C.F,H',dy,h'⟩∧dq C.h.length W C ⟨C.F,H',dy,h'⟩
theorem oO.val {C:Cx} {W:Nat→Prop} (S:dO C) {r:Option (Value×AH)} {p:PV} {x:Value} (k:RV C p x) (e:r=some (x,C.H)):oO C W r p C.h:=⟨x,C.H,C.φ,e,k,S,dq.refl _ _ _⟩
variable{C:Cx} {W:Nat→Prop}
theorem RV.qw {x y:Value} (h:RV C (.v x) y):y=x:=by cases h;rfl
theorem Ag (x:Value):RV C (wE x) x:=by
 cases x with
 |agg cs=>exact .agg (xs:=cs.toList) (cH.lits _)
 |_=>exact .v _
theorem Ro {x:Value} (h:one x=true):aR x=[x]∧cw x=false:=by
 cases x<;>first
  |exact ⟨rfl,rfl⟩
  |(simp [one]at h)
theorem iF {p:PV} {x:Value} {cs:List PV} (h:RV C p x) (k:dw p=some cs):cH C cs (aR x)∧cw x=false:=by
 have go:∀{p:PV} {x:Value},RV C p x→(LK x=true∨one x=true)→cH C [p] (aR x)∧cw x=false:=by
  intro p x h c
  obtain ⟨a,b⟩:aR x=[x]∧cw x=false:=by
   rcases c with c|c
   ·cases x<;>first|exact ⟨rfl,rfl⟩|(simp [LK]at c)
   ·exact Ro c
  rw [a];exact ⟨.cons h .nil,b⟩
 cases p with
 |v x=>
  cases h
  cases x with
  |agg d=>simp only [dw,aqV]at k;subst k;exact ⟨cH.lits _,rfl⟩
  |tuple=>simp [dw]at k
  |_=>simp only [dw,aqV]at k;subst k;exact ⟨.cons (.v _) .nil,rfl⟩
 |agg=>cases h with|agg q=>simp only [dw,aqV]at k;subst k;exact ⟨by simpa [aR]using q,rfl⟩
 |gN=>simp [dw]at k
 |any=>simp [dw]at k
 |ref=>simp only [dw,aqV]at k;subst k;exact go h (by cases h;left;assumption)
 |sl=>simp only [dw,aqV]at k;subst k;exact go h (by cases h with|sl a _ _ _=>exact .inl a.sm)
 |mp=>simp only [dw,aqV]at k;subst k;exact go h (by cases h;left;assumption)
 |fs=>simp only [dw,aqV]at k;subst k;exact go h (by cases h with|fs q=>cases q;exact .inr rfl)
 |fp=>simp only [dw,aqV]at k;subst k;exact go h (by cases h;exact .inr rfl)
 |fn=>simp only [dw,aqV]at k;subst k;exact go h (by cases h;exact .inr rfl)
 |q8=>simp only [dw,aqV]at k;subst k;exact go h (by cases h;exact .inr rfl)
theorem cH.tG {cs:List PV} {xs:List Value} (h:cH C cs xs):∀{k:Nat} {ds:List PV} {ys:List Value},cH C ds ys→cH C (tG cs k ds) (aI xs k ys):=by
 have z:∀(xs ys:List Value),aI xs 0 ys=ys++xs.drop ys.length:=fun xs ys=>by cases xs<;>rfl
 have c:∀(xs ys:List PV),P.tG xs 0 ys=ys++xs.drop ys.length:=fun xs ys=>by cases xs<;>rfl
 intro k
 induction k generalizing cs xs with
 |zero=>
  intro ds ys q;rw [z,c,q.length];exact q.append (h.drop _)
 |succ k ih=>
  intro ds ys q
  cases h with
  |nil=>exact .nil
  |cons a b=>exact .cons a (ih b q)
theorem iX {α:Type}:∀{c:List α} {k:Nat} {vs:List α},k+vs.length≤c.length→(tG c k vs).length=c.length
 |c,0,vs,h=>by
  have:tG c 0 vs=vs++c.drop vs.length:=by cases c<;>rfl
  rw [this];simp;omega
 |[],k+1,vs,h=>by simp at h
 |x::c,k+1,vs,h=>by
  have:=iX (c:=c) (k:=k) (vs:=vs) (by simp at h;omega);simp [tG,this]
inductive LW (C:Cx):List (Nat×Nat×PV)→List (Nat×Nat×Value)→Prop
 |nil:LW C [] []
 |cons {o n:Nat} {p:PV} {x:Value} {l:List (Nat×Nat×PV)} {m:List (Nat×Nat×Value)}:RV C p x→LW C l m→LW C ((o,n,p)::l) ((o,n,x)::m)
theorem LW.of {a:X→PV} {b:X→Value} (h:∀x,RV C (a x) (b x)):∀(ps:List (Nat×Nat×X)),LW C (ps.map fun p=>(p.1,p.2.1,a p.2.2)) (ps.map fun p=>(p.1,p.2.1,b p.2.2))
 |[]=>.nil
 |p::ps=>.cons (h _) (LW.of h ps)
theorem cH.of {a:X→PV} {b:X→Value} (h:∀x,RV C (a x) (b x)):∀(l:List X),cH C (l.map a) (l.map b)
 |[]=>.nil
 |p::ps=>.cons (h _) (cH.of h ps)
theorem BS {ps:List (Nat×Nat×PV)} {g:List (Nat×Nat×Value)} (r:LW C ps g):∀{c d:List PV} {xs:List Value},cH C c xs→oM c ps=some d→∃ys,iG xs g=some ys∧cH C d ys:=by
 induction r with
 |nil=>intro c d xs h k;simp only [oM,aqV]at k;subst k;exact ⟨xs,rfl,h⟩
 | @cons o n p x l m j _ ih=>
  intro c d xs h k;simp only [oM]at k
  cases f:dw p with
  |none=>simp [f]at k
  |some s=>
   simp only [f]at k;split at k
   case isFalse=>cases k
   rename_i i;obtain ⟨a,b⟩:=iF j f;obtain ⟨ys,e,q⟩:=ih (h.tG a) k;refine ⟨ys,?_,q⟩;simp only [iG,nb];rw [←a.length,←h.length,b];simp [i.1,i.2,e]
theorem dO.cells (S:dO C) {b z t:Nat} {cs:List PV} (e:C.h[b]?=some (.cells z cs)) (d:0<cs.length):∃vs,C.H.get (C.φ b)=some (.cells z vs)∧cH C cs vs∧C.H.n0≤C.φ b:=by
 obtain ⟨vs,a,b,c,_⟩:=S.aS _ _ _ e (List.length_pos_iff.1 d);exact ⟨vs,a,b,c⟩
theorem Ok (S:dO C) {p q:PV} {x:Value} (h:RV C p x) (k:Oi C.h p=some q):∃y,Tj C.H x=some y∧RV C q y:=by
 cases h with
 | @ref b o t x _ D d s=>
  simp only [Oi]at k
  cases e:C.h[b]? with
  |none=>simp [e]at k
  |some B=>
   cases B with
   |cells z cs=>
    simp only [e]at k;split at k
    case isFalse=>cases k
    rename_i l;obtain ⟨f,n,i,u⟩:=S.cells (t:=t) e (by have:=(aq0.1 k).1;omega);obtain ⟨y,g,m⟩:=i.get k;rw [s ⟨z,cs,e,l⟩];exact ⟨y,aG n u g,m⟩
   |map=>simp [e]at k
   |dead=>simp [e]at k
 | @fp cells b o f A d r=>
  simp only [Oi]at k
  cases r with
  |nil=>simp at k
  | @cons w c ps xs a E=>
   simp only [List.head?_cons,aqV]at k;subst k;refine ⟨c,?_,a.qw⟩;have:=aJ d (j:=0) (v:=c) rfl
   simpa using this
 |_=>simp [Oi]at k
theorem qy {a:Nat}:∀{l vs:List Value},aK a l=some vs→∀n,aK a (l.take n)=some (vs.take n)
 |[],vs,h,n=>by simp [aK]at h;subst h;simp [aK]
 |y::l,vs,h,n=>by
  simp only [aK]at h;split at h
  case h_2=>cases h
  rename_i d e b c;cases h
  cases n with
  |zero=>simp [aK]
  |succ n=>simp [aK,b,qy c n]
theorem qz {a:Nat}:∀{l vs:List Value},aK a l=some vs→∀n,aK a (l.drop n)=some (vs.drop n)
 |[],vs,h,n=>by simp [aK]at h;subst h;simp [aK]
 |y::l,vs,h,n=>by
  have c:=h;simp only [aK]at h;split at h
  case h_2=>cases h
  rename_i d e f b;cases h
  cases n with
  |zero=>simpa using c
  |succ n=>simpa using qz b n
theorem Ah (S:dO C) {n:Nat} {p q:PV} {x:Value} (h:RV C p x) (k:vC n C.h p=some q):∃y,tA n C.H x=some y∧RV C q y:=by
 cases h with
 | @ref b o t x _ w a r=>
  simp only [vC]at k
  cases e:C.h[b]? with
  |none=>simp [e]at k
  |some B=>
   cases B with
   |cells z cs=>
    simp only [e]at k;split at k
    case isFalse=>cases k
    rename_i j;cases k;obtain ⟨f,d,g,u⟩:=S.cells (t:=t) e (by omega);rw [r ⟨z,cs,e,j.1⟩];refine ⟨.agg ((f.drop o).take n).toArray,?_,.agg ((g.drop o).take n)⟩;simp only [tA];rw [bB d u (by have:=g.length;omega)];rfl
   |map=>simp [e]at k
   |dead=>simp [e]at k
 | @fp cells b o f v a m=>
  simp only [vC]at k;split at k
  case isFalse=>cases k
  rename_i l;cases k;refine ⟨.agg (f.take n).toArray,?_,.agg ((m.take n).qw)⟩;simp only [tA]
  have:C.H.ldn ⟨b,o,none⟩ n=some (f.take n):=by
   unfold AH.ldn at a⊢;dsimp only at a⊢
   cases d:C.H.get b with
   |none=>simp [d]at a
   |some B=>
    cases B with
    |map=>simp [d]at a
    |cells z c=>
     simp only [d]at a⊢;obtain ⟨s,a⟩:=aw a;simp only [aq6]at s;rw [show decide (o+n≤c.length)=true by simp;omega,cond_true];have e:(c.drop o).take n=((c.drop o).take cells.length).take n:=by rw [List.take_take,Nat.min_eq_left l]
     cases i:decide (b<C.H.n0)with
     |false=>
      rw [i]at a;simp only [cond_false,aqV]at a⊢;rw [e,a]
     |true=>
      rw [i]at a;simp only [cond_true]at a⊢;rw [e];exact qy a n
  rw [this];rfl
 |_=>simp [vC]at k
theorem HD {H:AH} {b o n k:Nat} {vs:List Value} (h:H.ldn ⟨b,o,none⟩ n=some vs) (g:k≤n):H.ldn ⟨b,o+k,none⟩ (n- k)=some (vs.drop k):=by
 unfold AH.ldn at h⊢;dsimp only at h⊢
 cases a:H.get b with
 |none=>simp [a]at h
 |some B=>
  cases B with
  |map=>simp [a]at h
  |cells z c=>
   simp only [a]at h⊢;obtain ⟨f,h⟩:=aw h;simp only [aq6]at f;rw [show decide (o+k+(n- k)≤c.length)=true by simp;omega,cond_true];have e:(c.drop (o+k)).take (n- k)=((c.drop o).take n).drop k:=by rw [List.drop_take,List.drop_drop]
   rw [e]
   cases d:decide (b<H.n0)with
   |false=>rw [d]at h;simp only [cond_false,aqV]at h⊢;rw [h]
   |true=>rw [d]at h;simp only [cond_true]at h⊢;exact qz h k
theorem cellsOf {p:PV} {cs:List PV} {x:Value} (h:RV C p x) (a:dw p=some cs):∃ys,aR x=ys∧cw x=false∧cH C cs ys:=⟨_,rfl,(iF h a).2,(iF h a).1⟩
theorem Xj (S:dO C) {n:Nat} {p q:PV} {x y:Value} {c:PH} (h:RV C p x) (g:RV C q y) (k:Ri n C.h p q=some c) (s:∀b o t,p= .ref b o t→W b):∃H',Gj n C.H x y=some H'∧dO ⟨C.F,H',C.φ,c⟩∧dq C.h.length W C ⟨C.F,H',C.φ,c⟩:=by
 cases h with
 | @ref b o t x _ E D r=>
  simp only [Ri]at k
  cases e:C.h[b]? with
  |none=>simp [e]at k
  |some B=>
   cases B with
   |cells z cs=>
    cases a:dw q with
    |none=>simp [e,a]at k
    |some G=>
     simp only [e,a]at k;split at k
     case isFalse=>cases k
     rename_i f;cases k;obtain ⟨l,m,d,u⟩:=S.cells (t:=t) e (by omega);obtain ⟨j,v⟩:=iF g a;have i:=j.length;have w:=d.length;obtain ⟨A,B⟩:=S.put (W:=W) (s _ _ _ rfl) e (by intro q;subst q;simp at f;omega) (iX (by omega)) (d.tG (k:=o) j);rw [r ⟨z,cs,e,f.1⟩];refine ⟨_,?_,A,B⟩;rw [Vo,if_pos ⟨by omega,v⟩];unfold AH.st;simp only [m];rw [show decide (C.H.n0≤C.φ b)=true by simp [u],show decide (o+(aR y).length≤l.length)=true by simp;omega];rfl
   |map=>simp [e]at k
   |dead=>simp [e]at k
 |_=>simp [Ri]at k
theorem mi {k:Nat} {y:Value} (h:vD k y=true):(k=1∧y= .pointer none)∨(k=2∧∃n c,y= .slice none n c)∨(k=3∧y= .nilFunc)∨(k=4∧y= .map none):=by
 unfold vD at h;split at h<;>simp_all
theorem LX {k:Nat} {p q:PV} {x y:Value} {r:Bool} (h:RV C p x) (g:RV C q y) (e:LP C.h k p q=some r):gD k x y=some r:=by
 cases q with
 |v z=>
  cases g;replace e:LO C.h k p y=some r:=e;unfold LO at e
  cases p with
  |v w=>cases h;exact e
  |ref b o t=>
   cases h with|ref _ s m j=>
   dsimp only at e;split at e
   case h_2=>cases e
   rename_i l cs i;split at e
   case isFalse=>cases e
   rename_i d;cases e;rw [j ⟨l,cs,i,d.1⟩,d.2.1];rcases mi d.2.2 with⟨a,rfl⟩|⟨a,_⟩|⟨a,_⟩|⟨a,_⟩<;>first|rfl|cases a
  |fp cells=>
   cases h;dsimp only at e;split at e
   case isFalse=>cases e
   rename_i d;cases e;rw [d.1];rcases mi d.2 with⟨a,rfl⟩|⟨a,_⟩|⟨a,_⟩|⟨a,_⟩<;>first|rfl|cases a
  |sl sz b o n c=>
   cases h with|sl _ s m j=>
   dsimp only at e;split at e
   case h_2=>cases e
   rename_i l cs i;split at e
   case isFalse=>cases e
   rename_i d;cases e;rw [d.2.2.1];rcases j ⟨l,cs,i,d.1.symm⟩with⟨a,_⟩|⟨_,rfl⟩
   ·omega
   ·rcases mi d.2.2.2 with⟨a,_⟩|⟨a,B,A,rfl⟩|⟨a,_⟩|⟨a,_⟩<;>first|rfl|cases a
  |fs sz rows=>
   cases h with|fs q=>
   dsimp only at e;split at e
   case isFalse=>cases e
   rename_i d;cases e;rw [d.2.1]
   cases q with| @fs _ _ a c rs E m G D=>
   obtain ⟨H,A,u,F⟩:=E.is;simp only [Value.slice.injEq]at u;obtain ⟨rfl,_,rfl⟩:=u;have:0<rs.length:=by rw [←D.length];exact List.length_pos_iff.2 d.1
   obtain ⟨b,o,rfl,_⟩:=F 0 _ (aqU this);rcases mi d.2.2 with⟨a,_⟩|⟨a,B,A,rfl⟩|⟨a,_⟩|⟨a,_⟩<;>first|rfl|cases a
  |fn f a b=>
   cases h;dsimp only at e;split at e
   case isFalse=>cases e
   rename_i d;cases e;rw [d.1];rcases mi d.2 with⟨a,_⟩|⟨a,_⟩|⟨a,rfl⟩|⟨a,_⟩<;>first|rfl|cases a
  |mp b=>
   cases h with|mp _ s j=>
   dsimp only at e;split at e
   case h_2=>cases e
   rename_i es i;split at e
   case isFalse=>cases e
   rename_i d;cases e;rw [d.1,j ⟨es,i⟩];rcases mi d.2 with⟨a,_⟩|⟨a,_⟩|⟨a,_⟩|⟨a,rfl⟩<;>first|rfl|cases a
  |_=>cases e
 |_=>cases e
theorem sP {b o t:Nat} {x:Value} (h:RV C (.ref b o t) x) (k:eT C.h b=some t):x= .pointer (some ⟨C.φ b,o,none⟩):=by
 cases h with|ref _ e d c=>
 unfold eT at k;split at k
 case h_2=>cases k
 rename_i z cs a;cases k;exact c ⟨z,cs,a,rfl⟩
theorem RV.Xk {b o a t:Nat} {x:Value} (h:RV C (.ref b o t) x):RV C (.ref b a t) (.pointer (some ⟨C.φ b,a,none⟩)):=by
 cases h with|ref _ d c e=>exact .ref rfl d c fun _=>rfl
theorem BU {cells:List PV} {b o k:Nat} (c:k≤cells.length) (h:RV C (.fp cells) (.pointer (some ⟨b,o,none⟩))):RV C (.fp (cells.drop k)) (.pointer (some ⟨b,o+k,none⟩)):=by
 cases h with|fp d a e=>
 refine .fp d ?_ (e.drop k);rw [List.length_drop];exact HD a c
theorem Xl {off:Nat} {p q:PV} {x:Value} (h:RV C p x) (k:TP C.h off p=some q):∃y,NS off x=some y∧RV C q y:=by
 cases p with
 |ref b o t=>
  simp only [TP]at k;split at k
  case isFalse=>cases k
  rename_i a;cases k;rw [sP h a];exact ⟨_,rfl,h.Xk⟩
 |fp cells=>
  simp only [TP]at k;split at k
  case isFalse=>cases k
  rename_i a;cases k;have c:=h
  cases h with|fp e d f=>
  exact ⟨_,rfl,BU a c⟩
 |_=>cases k
theorem LY {p q:PV} {x:Value} (h:RV C p x) (k:BP C.h p=some q):tV x=some x∧RV C q x:=by
 cases p with
 |ref b o t=>
  simp only [BP]at k;split at k
  case isFalse=>cases k
  rename_i a;cases k;refine ⟨?_,h⟩;rw [sP h a];rfl
 |fp cells=>
  cases k;exact ⟨by cases h;rfl,h⟩
 |_=>cases k
theorem Rp {len sz:Nat} {p q r:PV} {x y:Value} (h:RV C p x) (g:RV C q y) (k:HA C.h len sz p q=some r):∃z,xm len sz x y=some z∧RV C r z:=by
 unfold HA at k;split at k
 ·rename_i b o t kk n
  cases g;split at k
  case isFalse=>cases k
  rename_i a;cases k;rw [sP h a.1];refine ⟨_,?_,h.Xk⟩;rw [Gn,if_pos ⟨a.2.1,a.2.2⟩]
 ·rename_i cells kk n
  cases g;split at k
  case isFalse=>cases k
  rename_i a;cases k;have c:=h
  cases h with|fp e d f=>
  refine ⟨_,?_,BU a.2.2 c⟩;rw [Gn,if_pos ⟨a.1,a.2.1⟩]
 ·cases k
theorem Xm {sz:Nat} {p q r:PV} {x y:Value} (h:RV C p x) (g:RV C q y) (k:Xh C.h sz p q=some r):∃z,NT sz x y=some z∧RV C r z:=by
 unfold Xh at k;split at k
 ·rename_i v b o n c kk m
  cases g;split at k
  case h_2=>cases k
  rename_i u cs F;split at k
  case isFalse=>cases k
  rename_i i;cases k;obtain ⟨rfl,f,h2,J,I⟩:=i
  cases h with|sl N G s H=>
  rcases H ⟨u,cs,F,f.symm⟩with⟨a,_⟩|⟨_,rfl⟩
  ·omega
  ·refine ⟨_,by rw [NU,if_pos ⟨J,I⟩],?_⟩
   rw [←Nat.add_mul];exact .ref rfl G (by rw [←f];exact s) fun _=>rfl
 ·rename_i v rows kk m
  cases g;split at k
  case isFalse=>cases k
  rename_i i;obtain ⟨rfl,f,h2⟩:=i;split at k
  case h_2=>cases k
  rename_i L j;cases k
  cases h with|fs q=>
  cases q with| @fs _ _ a c rs D s E A=>
  obtain ⟨K,w,d⟩:=A.get j;obtain ⟨P,O,e,B⟩:=D.is;simp only [Value.slice.injEq]at e;obtain ⟨rfl,_,rfl⟩:=e;obtain ⟨b,o,rfl,l⟩:=B _ _ w;have M:=(aq0.1 j).1;refine ⟨_,by rw [NU,if_pos ⟨f,h2⟩],?_⟩;refine .fp ?_ ?_ d
  ·rcases (E _ rfl).2 with t|t
   ·omega
   ·exact t.1
  ·rw [d.length,(cW l).2]
   exact l
 ·cases k
theorem xV {h:PH} {sz b o n c:Nat} (k:gA h (.sl sz b o n c)=true):At h b ((o+c)*sz):=by
 unfold gA at k;dsimp only at k;split at k
 ·rename_i z cs e;exact ⟨z,cs,e,by simpa using(of_decide_eq_true k).symm⟩
 ·cases k
theorem HE {p:PV} {x:Value} {n:Nat} (h:RV C p x) (k:oN p=some n) (a:gA C.h p=true):mA x=some n:=by
 unfold oN at k;split at k
 ·cases h;cases k;rfl
 ·cases h;cases k;rfl
 ·cases k
  cases h with|sl _ e c b=>
  rcases b (xV a)with⟨_,rfl,d,rfl,_⟩|⟨_,rfl⟩<;>rfl
 ·cases k
  cases h with|fs q=>cases q;rfl
 ·cases k
end P
namespace P
open Go Go.RowKit
variable{C:Cx} {W:Nat→Prop}
theorem sQ {sz b o n c:Nat} {x:Value} (h:RV C (.sl sz b o n c) x) {z:Nat} {cs:List PV} (e:C.h[b]?=some (.cells z cs)) (a:(o+c)*sz=cs.length):slV (C.φ b) sz o n c x:=by
 cases h with|sl _ g f d=>exact d ⟨z,cs,e,a.symm⟩
theorem RV.slT {sz b o n c a d f:Nat} {x y:Value} (h:RV C (.sl sz b o n c) x) (e:a+f=o+c) (g:slN d y) (k:slV (C.φ b) sz a d f y):RV C (.sl sz b a d f) y:=by
 cases h with|sl _ j i l=>exact .sl g j (by rw [e];exact i) fun _=>k
theorem BV:∀(l:List UInt8),cH C (l.map fun b=>.v (.int .u8 b.toNat)) (l.map fun b=>.int .u8 b.toNat)
 |[]=>.nil
 |b::l=>.cons (.v _) (BV l)
theorem sR (S:dO C) {sz m:Nat} {p:PV} {x:Value} {new:List PV} (h:RV C p x) (k:fx C.h sz m p=some new) (D:0<m) (v:0<sz):
 ∃ys,jv C.H sz m x=some ys∧cH C new ys∧(oN p=some m→pq C.H sz x=some ys∧mA x=some m∧ys.length=m*sz)∧(∀q,mA x=some q→m≤q→ys.length=m*sz):=by
 have f:¬ m*sz=0:=by have:=Nat.mul_pos D v;omega
 unfold fx at k;split at k
 ·rename_i fY b o n c
  split at k
  case h_2=>cases k
  rename_i z cs E;split at k
  case isFalse=>cases k
  rename_i i;cases k;obtain ⟨rfl,G,h2,P⟩:=i;have g:(o+m)*fY≤(o+c)*fY:=Nat.mul_le_mul_right _ (by omega);rw [Nat.add_mul]at g;obtain ⟨l,K,y,L⟩:=S.cells (t:=0) E (by have:=Nat.mul_pos (show 0<o+c by omega) v;omega);have N:=y.length;rcases sQ h E G with⟨a,_⟩|⟨_,rfl⟩
  ·omega
  have u:C.H.ldn ⟨C.φ b,o*fY,none⟩ (m*fY)=some ((l.drop (o*fY)).take (m*fY)):=bB K L (by omega);have d:((l.drop (o*fY)).take (m*fY)).length=m*fY:=by simp;omega
  refine ⟨(l.drop (o*fY)).take (m*fY),?_,(y.drop _).take _,fun e=>?_,fun q e B=>d⟩
  ·simp only [jv,nb,f,decide_false,cond_false,u]
  ·simp only [oN,aqV]at e
   subst e;refine ⟨?_,rfl,d⟩;simp only [pq,nb,show¬ n=0 by omega,decide_false,cond_false,u]
 ·rename_i fY rows
  split at k
  case isFalse=>cases k
  rename_i i;cases k;obtain ⟨rfl,G⟩:=i
  cases h with|fs q=>
  cases q with| @fs _ _ a c rs j u O A=>
  have d:=A.length;obtain ⟨R,Q,I,M⟩:=j.is;simp only [Value.slice.injEq]at I;obtain ⟨rfl,_,rfl⟩:=I;obtain ⟨b,o,rfl,_⟩:=M 0 _ (aqU (by omega));rw [d]at j;have w:=j.whole m (by omega) D
  have F:(rs.take m).flatten.length=m*fY:=by
   rw [bZ (sz:=fY) fun r J=>j.GH r (List.mem_of_mem_take J),List.length_take,Nat.min_eq_left (by omega)]
  refine ⟨(rs.take m).flatten,?_,(A.take m).flat.qw,fun e=>?_,fun _ _ _=>F⟩
  ·simp only [jv,nb,f,decide_false,cond_false,w]
  ·simp only [oN,aqV]at e
   refine ⟨?_,by simp [mA,e],F⟩;simp only [pq,nb,show¬ rows.length=0 by omega,decide_false,cond_false];rw [e,w]
 ·rename_i s
  split at k
  case isFalse=>cases k
  rename_i i;cases k;subst i;cases h;refine ⟨(s.extract 0 m).data.toList.map fun b=>.int .u8 b.toNat,rfl,BV _,fun e=>?_,fun q e B=>?_⟩
  ·simp only [oN,aqV]at e
   subst e;refine ⟨?_,rfl,by simp⟩;simp [pq]
  ·simp only [mA,aqV]at e
   subst e;simp [B]
 ·split at k
  case isFalse=>cases k
  omega
 ·cases k
theorem Rq (S:dO C) {sz bytes:Nat} {p q r:PV} {x y:Value} {h':PH} (s:RV C p x) (V:RV C q y) (k:qK sz bytes C.h p q=some (r,h')) (hW:∀sz b o n c,p= .sl sz b o n c→W b):
 oO C W (bc sz bytes C.H x y) r h':=by
 unfold qK at k;split at k
 ·cases k
 rename_i m hm;split at k
 ·rename_i Q
  subst Q;split at k
  case isFalse=>cases k
  rename_i hv;have f:=HE V hm hv;split at k
  ·cases k
   cases s;exact oO.val S (.v _) (by simp [bc,f])
  ·rename_i fY b o n c
   split at k
   case h_2=>cases k
   rename_i z cs j;split at k
   case isFalse=>cases k
   rename_i D;cases k;have J:=sQ s j D.1;refine oO.val S s ?_;rcases J with⟨_,rfl,d,rfl,_⟩|⟨_,rfl⟩
   ·simp [bc,f]
   ·simp [bc,f,D.2]
  ·cases k
   refine oO.val S s ?_
   cases s with|fs g=>
   cases g with|fs hr hl hk qJ=>simp [bc,f,hl]
  ·cases k
 rename_i Q;have F:0<m:=by omega
 split at k
 ·cases k
 rename_i new GI;split at k
 ·split at k
  case isFalse=>cases k
  rename_i D;cases k;obtain ⟨w,M,N⟩:=D;obtain ⟨R,_,l,i,_⟩:=sR S V GI F w;obtain ⟨i,f,TS⟩:=i hm;cases s;obtain ⟨A,B⟩:=S.new (P:=.cells sz new) (B:=.cells sz R) W (.inl ⟨_,_,_,rfl,rfl,l⟩);refine ⟨.slice (some ⟨C.H.nx,0,none⟩) m m,_,_,?_,.sl ⟨_,_,rfl⟩ (by simp) ?_ (fun _=>.inr ⟨F,?_⟩),A,B⟩
  ·have:¬ m=0:=Q
   simp [bc,f,this,i,nb,M,N]
  ·intro z cs e
   rw [show(C.h++[PB.cells sz new])[C.h.length]?=_ from kA _ _]at e;cases e;have:=l.length;simp;omega
  ·simp [gw]
 ·rename_i fY b o n c
  split at k
  case h_2=>cases k
  rename_i z cs j;split at k
  case isFalse=>cases k
  rename_i D;obtain ⟨rfl,rfl,w,O,h2,M,N⟩:=D;obtain ⟨R,_,l,i,_⟩:=sR S V GI F w;obtain ⟨i,f,TS⟩:=i hm;have J:=sQ s j O;have E:=(aq0.1 j).1;have SP:=l.length;have u:=hW _ _ _ _ _ rfl;have Z:¬ m=0:=Q;split at k
  ·rename_i qd
   split at k
   case isFalse=>cases k
   rename_i X;cases k;subst qd;subst X;obtain rfl:n=0:=by omega
   have G:cs=[]:=arp.1 (by simpa using O.symm);rcases J with⟨_,_,d,rfl,hd⟩|⟨a,_⟩
   case inr=>omega
   obtain ⟨A,B⟩:=S.grow (H1:=C.H) u j (by rw [G,SP,TS];simpa using Nat.mul_pos F w) l (.inl ⟨G,rfl⟩);refine ⟨.slice (some ⟨C.H.nx,0,none⟩) m m,_,_,?_,.sl ⟨_,_,rfl⟩ (by simpa using E) ?_ (fun _=>.inr ⟨F,?_⟩),A,B⟩
   ·simp only [bc,f,if_neg Z,i]
    rw [show decide ((0+m)*bytes≤2^47)=true by simpa using M,show decide (0+m<2^62)=true by simpa using N];simp only [Bool.and_self,cond_true];rw [if_neg (by omega)]
    cases d with
    |none=>simp
    |some d=>simp [hd d rfl]
   ·intro z dk e
    rw [eM E]at e;cases e;simp;omega
   ·simp [gw]
  rename_i qd;rcases J with⟨a,_⟩|⟨_,rfl⟩
  ·omega
  have mI:0<cs.length:=by rw [←O];exact Nat.mul_pos (by omega) w
  have G:cs≠[]:=List.length_pos_iff.1 mI;obtain ⟨vs,L,U,Y⟩:=S.cells (t:=0) j mI;have lY:=U.length;have xC:C.H.j9 (C.φ b) z=true:=by unfold AH.j9;rw [L];simp
  have d1:decide ((n+m)*bytes≤2^47)=true:=by simpa using M
  have d2:decide (n+m<2^62)=true:=by simpa using N
  have Xn:n*z≤c*z:=Nat.mul_le_mul_right _ h2;have adm:(o+c)*z=o*z+c*z:=Nat.add_mul ..;have I:(o+n)*z=o*z+n*z:=Nat.add_mul ..;have anm:(n+m)*z=n*z+m*z:=Nat.add_mul ..;split at k
  ·rename_i K
   cases k;have T:(n+m)*z≤c*z:=Nat.mul_le_mul_right _ K;obtain ⟨A,B⟩:=S.put u j G (iX (by omega)) (U.tG (k:=(o+n)*z) l);refine ⟨.slice (some ⟨C.φ b,o*z,none⟩) (n+m) c,_,_,?_,.sl ⟨_,_,rfl⟩ (by simpa using E) ?_ (fun _=>.inr ⟨by omega,rfl⟩),A,B⟩
   ·simp only [bc,f,if_neg Z,i,d1,d2,Bool.and_self,cond_true,if_pos K,xC,Option.isNone_none]
    unfold AH.st;simp only [L];rw [show decide (C.H.n0≤C.φ b)=true by simp [Y],show decide (o*z+n*z+R.length≤vs.length)=true by simp;omega,I];rfl
   ·intro z9 dk e
    rw [eM E]at e;cases e;rw [iX (by omega)];omega
  ·rename_i K
   split at k
   case isFalse=>cases k
   rename_i X;cases k;subst X;simp only [Nat.zero_mul,Nat.zero_add]at adm I L O;have T:c*z<(n+m)*z:=Nat.mul_lt_mul_of_pos_right (by omega) w;have ZQ:(cs.take (n*z)++new).length=(n+m)*z:=by rw [aq3,List.length_take,Nat.min_eq_left (by omega)];omega
   obtain ⟨A,B⟩:=S.grow (H1:=C.H.put (C.φ b) none) u j (ds:=cs.take (n*z)++new) (by omega) ((U.take _).append l) (.inr ⟨G,rfl⟩);refine ⟨.slice (some ⟨C.H.nx,0,none⟩) (n+m) (n+m),_,_,?_,.sl ⟨_,_,rfl⟩ (by simpa using E) ?_ (fun _=>.inr ⟨by omega,?_⟩),A,B⟩
   ·have fg:C.H.ldn ⟨C.φ b,0,none⟩ (n*z)=some (vs.take (n*z)):=by
     rw [bB L Y (by omega)];simp
    simp only [bc,f,if_neg Z,i,d1,d2,Bool.and_self,cond_true,if_neg K,if_neg qd,xC,Option.isNone_none,Nat.zero_mul,fg];rw [show decide (C.H.n0≤C.φ b)=true by simp [Y]];rfl
   ·intro z9 dk e
    rw [eM E]at e;cases e;rw [ZQ];simp
   ·simp [gw]
 ·cases k
end P
namespace P
open Go Go.RowKit
variable{C:Cx} {W:Nat→Prop}
theorem LZ (S:dO C) {sz:Nat} {p q r:PV} {x y:Value} {h':PH} (K:RV C p x) (J:RV C q y) (k:BR sz C.h p q=some (r,h')) (hW:∀sz b o n c,p= .sl sz b o n c→W b):
 oO C W (jH sz C.H x y) r h':=by
 unfold BR at k;split at k
 ·cases k
 rename_i m w;obtain ⟨R,w⟩:=aw w;have e:=HE J w R
 have F:∃l,jv C.H sz 0 y=some l∧l.length=0:=by
  cases y with
  |slice a n c=>cases a<;>simp [jv,nb]
  |string s=>exact ⟨[],by simp [jv]⟩
  |_=>simp [mA]at e
 split at k
 ·cases k
  cases K;obtain ⟨l,g,M⟩:=F;refine oO.val S (.v _) ?_;simp only [jH,e,Nat.min_zero];rw [g];rfl
 ·rename_i fY b o n c
  split at k
  case h_2=>cases k
  rename_i z cs D;split at k
  case isFalse=>cases k
  rename_i hc;obtain ⟨rfl,j,O,h2⟩:=hc;have I:=sQ K D O;split at k
  ·rename_i f
   cases k;obtain ⟨l,g,M⟩:=F;refine oO.val S (.v _) ?_;have:l=[]:=arp.1 M;subst this;rcases I with⟨_,rfl,d,rfl,_⟩|⟨_,rfl⟩
   ·simp only [jH,e,f,g]
    cases d<;>rfl
   ·simp only [jH,e,f,g]
    rfl
  ·rename_i f
   split at k
   case h_2=>cases k
   rename_i new T;cases k;have L:0<Nat.min m n:=by omega
   have X:Nat.min m n≤n:=Nat.min_le_right _ _;obtain ⟨i,Z,E,_,u⟩:=sR S J T L j;have u:=u m e (Nat.min_le_left _ _);rcases I with⟨_,rfl,_⟩|⟨_,rfl⟩
   ·simp at f
   have N:0<cs.length:=by rw [←O];exact Nat.mul_pos (by omega) j
   obtain ⟨P,Y,G,V⟩:=S.cells (t:=0) D N;have lY:=G.length;have SP:=E.length;have Q:(o+Nat.min m n)*fY≤(o+c)*fY:=Nat.mul_le_mul_right _ (by omega);rw [Nat.add_mul]at Q;obtain ⟨A,B⟩:=S.put (hW _ _ _ _ _ rfl) D (List.length_pos_iff.1 N) (iX (by omega)) (G.tG (k:=o*fY) E);refine ⟨.int .i64 (Nat.min m n),_,_,?_,.v _,A,B⟩;simp only [jH,e,Z]
   have U:i.isEmpty=false:=by
    cases i with
    |nil=>simp at u;have:=Nat.mul_pos L j;omega
    |cons=>rfl
   simp only [Option.bind_some,U,cond_false];unfold AH.st;simp only [Y];rw [show decide (C.H.n0≤C.φ b)=true by simp [V],show decide (o*fY+i.length≤P.length)=true by simp;omega];rfl
 ·cases k
theorem Ai {a:X→PV} {b:X→Value} (h:∀x,RV C (a x) (b x)) {o:Option X} {r:Option Value} (k:Oj (o.map a)=some r):o.map b=r:=by
 cases o with
 |none=>simpa [Oj]using k
 |some x=>
  have c:=h x;simp only [Option.map_some]at k⊢;revert k;generalize a x=p at c;intro k
  cases p<;>first
   |(simp [Oj]at k;done)
   |skip
  cases c
  simpa [Oj]using k
theorem BW {v:Value} {y z n:Nat} (h:gW v y=some n) (a:n≤z):gW v z=some n:=by
 unfold gW at h⊢;cases v<;>simp_all;omega
theorem jr {v:Value} {y n:Nat} (h:gW v y=some n):n≤y:=by
 unfold gW at h;cases v<;>simp_all;omega
theorem DX {n c:Nat} {lo hi:Option Value} {l e m:Nat} (h:bm n n lo hi none=some (l,e,m)) (j:n≤c):bm n c lo hi none=some (l,e,c)∧m=n∧l≤e∧e≤n:=by
 have k:=h;unfold bm at h;obtain ⟨i,g,h⟩:=aq5.1 h;obtain ⟨e',h2,h⟩:=aq5.1 h;obtain ⟨b,a,h⟩:=aq5.1 h;simp only [aqV,aq2]at h;obtain ⟨rfl,rfl,rfl⟩:=h
 have d:b≤e':=by
  cases lo with
  |none=>simp only [aqV]at a;omega
  |some v=>exact jr a
 have f:e'≤n:=by
  cases hi with
  |none=>simp only [aqV]at h2;omega
  |some v=>exact jr h2
 refine ⟨?_,by simpa using g.symm,d,f⟩;unfold bm;refine aq5.2 ⟨c,rfl,aq5.2 ⟨e',?_,aq5.2 ⟨b,a,rfl⟩⟩⟩
 cases hi with
 |none=>exact h2
 |some v=>exact BW h2 (by omega)
theorem HF {n c:Nat} {lo hi:Option Value} {v:Value} (h:bm n n lo hi (some v)=some (0,0,0)) (f:n≤c):bm n c lo hi (some v)=some (0,0,0):=by
 unfold bm at h;obtain ⟨d,b,h⟩:=aq5.1 h;obtain ⟨g,h2,h⟩:=aq5.1 h;obtain ⟨e,a,h⟩:=aq5.1 h;simp only [aqV,aq2]at h;obtain ⟨rfl,rfl,rfl⟩:=h;unfold bm;refine aq5.2 ⟨0,BW b (by omega),aq5.2 ⟨0,?_,aq5.2 ⟨0,a,rfl⟩⟩⟩
 cases hi with
 |none=>exact h2
 |some v=>exact h2
theorem uf {n c:Nat} {lo hi mx:Option Value} {l e m:Nat} (h:bm n c lo hi mx=some (l,e,m)) (g:n≤c):m≤c∧(mx=none→m=c)∧l≤e∧e≤m:=by
 unfold bm at h;obtain ⟨b,f,h⟩:=aq5.1 h;obtain ⟨j,h2,h⟩:=aq5.1 h;obtain ⟨i,d,h⟩:=aq5.1 h;simp only [aqV,aq2]at h;obtain ⟨rfl,rfl,rfl⟩:=h
 have a:b≤c∧(mx=none→b=c):=by
  cases mx with
  |none=>simp only [aqV]at f;omega
  |some v=>exact ⟨jr f,fun h=>by cases h⟩
 refine ⟨a.1,a.2, ?_, ?_⟩
 · cases lo with
   |none=>simp only [aqV]at d;omega
   |some v=>exact jr d
 · cases hi with
   |none=>cases mx with
    |none=>simp only [aqV]at h2;have:=a.2 rfl;omega
    |some v=>cases h2
   |some v=>cases mx with
    |none=>have:=jr h2;have:=a.2 rfl;omega
    |some w=>exact jr h2
theorem xW {sz:Nat} {a:Option Addr} {n c:Nat} {rs:List (List Value)} {F:Nat→Prop} {H:AH} (f:Rows H sz (.slice a n c) rs) (g:∀d,a=some d→(d.spot=none∨c=0)∧(n=0∨(F d.block∧H.j9 d.block sz=true))) (m:0<n):∃b o,a=some ⟨b,o,none⟩∧rs.length=n∧F b∧H.j9 b sz=true∧∀i r,rs[i]?=some r→H.ldn ⟨b,o+i*sz,none⟩ sz=some r:=by
 obtain ⟨u,s,e,q⟩:=f.is;simp only [Value.slice.injEq]at e;obtain ⟨rfl,h,rfl⟩:=e;obtain ⟨b,o,rfl,_⟩:=q 0 _ (aqU (by omega));rcases (g _ rfl).2 with p|⟨j,h2⟩
 ·omega
 ·exact ⟨b,o,rfl,h.symm,j,h2,fun i r hi=>by obtain ⟨t,l,e,k⟩:=q i r hi;cases e;exact k⟩
theorem vF {sz:Nat} {a:Option Addr} {c:Nat} (h:∀d,a=some d→d.spot=none∨c=0):RF C.F C.H (.fs sz []) (.slice a 0 c):=
 .fs (rows:=[]) (rs:=[]) ⟨_,_,rfl,by simp⟩ (aro _) (fun d b=>⟨h d b,.inl rfl⟩) .nil
theorem Xo (S:dO C) {sz:Nat} {p r:PV} {x:Value} {h':PH} {lo hi mx:Option X} {I:X→PV} {J:X→Value} (u:∀x,RV C (I x) (J x)) (D:RV C p x) (k:Xi sz C.h p (lo.map I) (hi.map I) (mx.map I)=some (r,h')):
 oO C W ((bL sz C.H x (lo.map J) (hi.map J) (mx.map J)).map fun v=>(v,C.H)) r h':=by
 unfold Xi at k;split at k
 case h_2=>cases k
 rename_i K qE C4 Q P e3;rw [Ai u Q,Ai u P,Ai u e3];clear Q P e3 u;split at k
 ·rename_i g b o n c
  split at k
  case h_2=>cases k
  rename_i z cs l e m hh f;split at k
  case isFalse=>cases k
  rename_i G;obtain ⟨rfl,L,rfl,O,h2⟩:=G;have vw:=sQ D hh O;split at k
  ·rename_i qd
   cases k;refine oO.val S D ?_;rcases vw with⟨_,rfl,d,rfl,j⟩|⟨a,_⟩
   case inr=>omega
   subst qd;obtain ⟨w,b2,b3,b4⟩:=uf f (aqY _);obtain ⟨rfl,rfl,rfl⟩:l=0∧e=0∧m=0:=by omega
   simp only [bL,f,nb,show¬ z=0 by omega,decide_false,Bool.not_false,aqY,decide_true,Bool.and_self,cond_true]
   cases d with
   |none=>rfl
   |some d=>simp
  rename_i qd;rcases vw with⟨a,_⟩|⟨_,rfl⟩
  ·omega
  have F:0<cs.length:=by rw [←O];exact Nat.mul_pos (by omega) L
  obtain ⟨vs,hg,cD,kT⟩:=S.cells (t:=0) hh F;have xC:C.H.j9 (C.φ b) z=true:=by unfold AH.j9;rw [hg];simp
  split at k
  ·rename_i M
   split at k
   ·rename_i R
    cases k;subst R;refine oO.val S (x:=.slice (some ⟨C.φ b,o*z,some 1⟩) 0 0) (.fs (vF fun _ _=>.inr rfl)) ?_
    have hm:m=c:=by
     unfold bm at f;obtain ⟨m',Y,f⟩:=aq5.1 f;obtain ⟨e',wN,f⟩:=aq5.1 f;obtain ⟨l',E,f⟩:=aq5.1 f;simp only [aqV,aq2]at f Y;omega
    simp only [bL,f,nb,show¬ z=0 by omega,decide_false,Bool.not_false,h2,decide_true,Bool.and_self,cond_true,if_pos M,Option.isNone_none,true_and];rw [if_pos (by omega)];rfl
   ·rename_i R
    cases k;obtain ⟨A,B⟩:=S.void z W
    have U:l≤e:=by
     unfold bm at f;obtain ⟨m',Y,f⟩:=aq5.1 f;obtain ⟨e',wN,f⟩:=aq5.1 f;obtain ⟨l',E,f⟩:=aq5.1 f;simp only [aqV,aq2]at f;obtain ⟨rfl,rfl,rfl⟩:=f
     cases K with
     |none=>simp only [aqV]at E;omega
     |some v=>exact jr E
    refine ⟨.slice (some ⟨C.φ b,o*z,none⟩) 0 0,_,_,?_,.sl ⟨_,_,rfl⟩ (by simp) ?_ (fun _=>.inl ⟨rfl,rfl,_,rfl,by rintro e ⟨⟩;rfl⟩),A,B⟩
    ·have:C4.isNone=false:=by cases C4 with
      |none=>exact absurd rfl R
      |some _=>rfl
     simp only [bL,f,nb,show¬ z=0 by omega,decide_false,Bool.not_false,h2,decide_true,Bool.and_self,cond_true,if_pos M,this];simp;omega
    ·intro z9 cs9 e9
     simp
  ·rename_i M
   split at k
   case isFalse=>cases k
   rename_i T;cases k;subst T
   have U:l≤m:=by
    unfold bm at f;obtain ⟨m',Y,f⟩:=aq5.1 f;obtain ⟨e',wN,f⟩:=aq5.1 f;obtain ⟨l',E,f⟩:=aq5.1 f;simp only [aqV,aq2]at f;obtain ⟨rfl,rfl,rfl⟩:=f
    cases K with
    |none=>simp only [aqV]at E;omega
    |some v=>have:=jr E;omega
   refine oO.val S (x:=.slice (some ⟨C.φ b,(o+l)*z,none⟩) (e- l) (m- l)) (D.slT (by omega) ⟨_,_,rfl⟩ (.inr ⟨by omega,rfl⟩)) ?_;simp only [bL,f,nb,show¬ z=0 by omega,decide_false,Bool.not_false,h2,decide_true,Bool.and_self,cond_true,if_neg M,Option.isNone_none,xC,Bool.or_true,Nat.add_mul];rfl
 ·rename_i g rows
  split at k
  case isFalse=>cases k
  rename_i G;obtain ⟨rfl,L⟩:=G
  cases D with|fs q=>
  cases q with| @fs _ _ a c rs hr hl N qJ=>
  have hlen:=qJ.length;split at k
  ·split at k
   case h_2=>cases k
   rename_i l e m f;split at k
   case isFalse=>cases k
   cases k;obtain ⟨w,rfl,b3,b4⟩:=DX f hl;have y:e≤c:=by omega
   by_cases F:c=l
   ·have fB:(rows.take e).drop l=[]:=arv (by simp;omega)
    rw [fB]
    have j:∃d,bL g C.H (.slice a rows.length c) K qE none=some (.slice d 0 0):=by
     simp only [bL,w,nb,show¬ g=0 by omega,decide_false,Bool.not_false,y,decide_true,Bool.and_self,cond_true]
     cases a with
     |none=>exact ⟨none,by simp;omega⟩
     |some a=>
      simp only [if_pos F];split
      ·exact ⟨_,rfl⟩
      ·exact ⟨some a,by rw [show e- l=0 by omega]⟩
    obtain ⟨d,j⟩:=j;refine oO.val S (x:=.slice d 0 0) (.fs (vF fun _ _=>.inr rfl)) (by rw [j];rfl)
   ·by_cases hn:rows.length=0
    ·obtain ⟨rfl,rfl⟩:l=0∧e=0:=by omega
     have:(rows.take 0).drop 0=[]:=by simp
     rw [this];refine oO.val S (x:=.slice a 0 c) (.fs (vF fun d j=>(N d j).1)) ?_;simp only [bL,w,nb,show¬ g=0 by omega,decide_false,Bool.not_false,y,decide_true,Bool.and_self,cond_true]
     cases a with
     |none=>simp
     |some a=>
      rcases (N _ rfl).1 with Z|Z
      ·obtain ⟨bb,oo,ss⟩:=a
       simp only at Z;subst Z;simp [if_neg F]
      ·omega
    ·obtain ⟨b,o,rfl,O,h2,V,h4⟩:=xW hr N (by omega)
     refine oO.val S (x:=.slice (some ⟨b,o+l*g,none⟩) (e- l) (c- l)) ?_ ?_
     ·have Q:((rows.take e).drop l).length=e- l:=by simp;omega
      have P:((rs.take e).drop l).length=((rows.take e).drop l).length:=by simp;omega
      rw [←Q];refine .fs (.fs (rs:=(rs.take e).drop l) ⟨_,_,by rw [P],fun i r hi=>⟨b,o+l*g,rfl,?_⟩⟩ (by omega) ?_ ((qJ.take e).drop l))
      ·rw [arB,arw]at hi
       split at hi
       case isFalse=>cases hi
       have:=h4 _ _ hi;rw [Nat.add_mul]at this;rw [←this];congr 2;omega
      ·rintro d ⟨⟩
       exact ⟨.inl rfl,.inr ⟨h2,V⟩⟩
     ·simp only [bL,w,nb,show¬ g=0 by omega,decide_false,Bool.not_false,y,decide_true,Bool.and_self,cond_true,if_neg F,Option.isNone_none,V,Bool.or_true]
      rfl
  ·split at k
   case isFalse=>cases k
   rename_i f;have w:=HF f hl;split at k
   ·cases k
    have j:∃d,bL g C.H (.slice a 0 c) K qE (some ‹Value›)=some (.slice d 0 0):=by
     simp only [List.length_nil]at w;simp only [bL,w,nb,show¬ g=0 by omega,decide_false,Bool.not_false,aqY,decide_true,Bool.and_self,cond_true]
     cases a with
     |none=>exact ⟨none,rfl⟩
     |some a=>exact ⟨some a,by simp⟩
    obtain ⟨d,j⟩:=j;refine oO.val S (x:=.slice d 0 0) (.fs (vF fun _ _=>.inr rfl)) (by simp only [List.length_nil];rw [j];rfl)
   ·rename_i r0 rows
    cases k;obtain ⟨b,o,rfl,O,h2,V,h4⟩:=xW hr N (by simp);obtain ⟨A,B⟩:=S.void g W;refine ⟨.slice (some ⟨b,o,none⟩) 0 0,_,_,?_,.sl ⟨_,_,rfl⟩ (by simp) ?_ (fun _=>.inl ⟨rfl,rfl,_,rfl,by rintro e ⟨⟩;rfl⟩),A,B⟩
    ·simp only [bL,w,nb,show¬ g=0 by omega,decide_false,Bool.not_false,aqY,decide_true,Bool.and_self,cond_true]
     simp
    ·intro z9 cs9 e9
     simp
 ·split at k
  case isFalse=>cases k
  rename_i G;cases k;cases D;refine oO.val S (.v _) ?_;obtain ⟨⟨l,e,m⟩,f⟩:=arz.1 G.2;obtain ⟨w,b2,b3,b4⟩:=uf f (aqY _);obtain ⟨rfl,rfl,rfl⟩:l=0∧e=0∧m=0:=by omega
  simp only [bL,f,nb,show¬ sz=0 by omega,decide_false,Bool.not_false,aqY,decide_true,Bool.and_self,cond_true];rfl
 ·rename_i s
  split at k
  ·cases k
  ·split at k
   case h_2=>cases k
   rename_i l e m f;split at k
   case isFalse=>cases k
   rename_i L;cases k;subst L;cases D;refine oO.val S (.v _) ?_;simp only [bL,f];rfl
 ·cases k
end P
namespace P
open Go Go.RowKit
variable{C:Cx} {W:Nat→Prop}
theorem BX {k:Value}:∀{es:List (Value×PV)} {ys:List (Value×Value)} {r:Option PV},es.map (·.1)=ys.map (·.1)→cH C (es.map (·.2)) (ys.map (·.2))→qx k es=some r→(r=none∧fG k ys=some none)∨∃p v,r=some p∧fG k ys=some (some v)∧RV C p v
 |[],ys,r,h,_,e=>by
  cases ys with
  |nil=>cases e;exact .inl ⟨rfl,rfl⟩
  |cons=>simp at h
 |(n,p)::es,ys,r,h,g,e=>by
  cases ys with
  |nil=>simp at h
  |cons y ys=>
   obtain ⟨m,v⟩:=y;simp only [List.map_cons,List.cons.injEq]at h;obtain ⟨rfl,h⟩:=h;simp only [List.map_cons]at g
   cases g with|cons l j=>
   simp only [qx]at e;split at e
   ·rename_i d
    cases e;exact .inr ⟨p,v,rfl,by simp [fG,d],l⟩
   ·rename_i d
    rcases BX h j e with⟨a,b⟩|⟨i,f,a,b,c⟩
    ·exact .inl ⟨a,by simp [fG,d,b]⟩
    ·exact .inr ⟨i,f,a,by simp [fG,d,b],c⟩
   ·cases e
theorem HG {k:Value} {p:PV} {v:Value} (i:RV C p v):∀{es fs:List (Value×PV)} {ys:List (Value×Value)},es.map (·.1)=ys.map (·.1)→cH C (es.map (·.2)) (ys.map (·.2))→tH k p es=some fs→∃d,kW k v ys=some d∧fs.map (·.1)=d.map (·.1)∧cH C (fs.map (·.2)) (d.map (·.2))
 |[],fs,ys,h,_,e=>by
  cases ys with
  |nil=>cases e;exact ⟨[(k,v)],rfl,rfl,.cons i .nil⟩
  |cons=>simp at h
 |(n,q)::es,fs,ys,h,g,e=>by
  cases ys with
  |nil=>simp at h
  |cons y ys=>
   obtain ⟨r,m⟩:=y;simp only [List.map_cons,List.cons.injEq]at h;obtain ⟨rfl,h⟩:=h;simp only [List.map_cons]at g
   cases g with|cons o l=>
   simp only [tH]at e;split at e
   ·rename_i f
    cases e;exact ⟨(k,v)::ys,by simp [kW,f],by simp [h],.cons i l⟩
   ·rename_i f
    cases j:tH k p es with
    |none=>simp [j]at e
    |some s=>
     simp only [j,Option.map_some,aqV]at e;subst e;obtain ⟨d,a,b,c⟩:=HG i h l j;exact ⟨(n,m)::d,by simp [kW,f,a],by simp [b],.cons o c⟩
   ·cases e
theorem HI {b:Nat} {x:Value} {es:List (Value×PV)} (h:RV C (.mp b) x) (e:C.h[b]?=some (.map es)):x= .map (some (C.φ b)):=by
 cases h with|mp _ c a=>exact a ⟨es,e⟩
theorem L2 (S:dO C) {kk:Nat} {z:Value} {p q r:PV} {x y:Value} {ok:Bool} (h:RV C p x) (g:RV C q y) (k:xT kk z C.h p q ok=some r):∃w,ic kk z C.H x y ok=some w∧RV C r w:=by
 have i:∃w,(bif ok then Value.tuple #[z,.bool false]else z)=w∧RV C (bif ok then .gN [wE z,.v (.bool false)]else wE z) w:=by
  refine ⟨_,rfl,?_⟩;cases ok
  ·exact Ag z
  ·exact .gN (xs:=[z,.bool false]) (.cons (Ag z) (.cons (.v _) .nil))
 obtain ⟨l,m,n⟩:=i;unfold xT at k;split at k
 ·cases h;cases g
  split at k
  case isFalse=>cases k
  rename_i c;cases k;exact ⟨l,by simp [ic,c,←m],n⟩
 ·rename_i b B
  cases g;split at k
  case h_2=>cases k
  rename_i es o;split at k
  case isFalse=>cases k
  rename_i c;rw [HI h o];obtain ⟨A,s,u,t,j,_⟩:=S.Af _ _ o;have d:decide (C.H.n0≤C.φ b)=true:=by simp [j]
  cases f:qx y es with
  |none=>simp [f]at k
  |some q=>
   rcases BX u t f with⟨rfl,e⟩|⟨p,v,rfl,e,a⟩
   ·simp only [f,aqV]at k
    subst k;exact ⟨l,by simp [ic,s,c,j,e,←m],n⟩
   ·simp only [f,aqV]at k
    subst k;refine ⟨(bif ok then Value.tuple #[v,.bool true]else v),by simp [ic,s,c,j,e],?_⟩;cases ok
    ·exact a
    ·exact .gN (xs:=[v,.bool true]) (.cons a (.cons (.v _) .nil))
 ·cases k
theorem Rs (S:dO C) {kk:Nat} {p q r:PV} {x y z:Value} {i:PH} (h:RV C p x) (g:RV C q y) (f:RV C r z) (k:DV kk C.h p q r=some i) (t:∀b,p= .mp b→W b):∃H',qH kk C.H x y z=some H'∧dO ⟨C.F,H',C.φ,i⟩∧dq C.h.length W C ⟨C.F,H',C.φ,i⟩:=by
 unfold DV at k;split at k
 ·rename_i b D
  cases g;split at k
  case h_2=>cases k
  rename_i es d;split at k
  case isFalse=>cases k
  rename_i j;rw [HI h d];obtain ⟨w,o,n,l,m,_⟩:=S.Af _ _ d
  cases e:tH y r es with
  |none=>simp [e]at k
  |some E=>
   simp only [e,Option.map_some,aqV]at k;subst k;obtain ⟨v,a,u,c⟩:=HG f n l e;obtain ⟨A,B⟩:=S.age (t _ rfl) d u c;refine ⟨_,?_,A,B⟩;obtain ⟨cs,s⟩:=arz.1 j.2;simp [qH,o,j.1,m,a,(iF f s).2]
 ·cases k
theorem HJ (S:dO C) (W:Nat→Prop) {z:Nat} {cs:List PV} {vs:List Value} (h:cH C cs vs):oO C W (some (.pointer (some ⟨C.H.nx,0,none⟩),C.H.alloc (.cells z vs))) (.ref C.h.length 0 cs.length) (C.h++[.cells z cs]):=by
 obtain ⟨A,B⟩:=S.new (P:=.cells z cs) (B:=.cells z vs) W (.inl ⟨_,_,_,rfl,rfl,h⟩);refine ⟨_,_,_,rfl,.ref rfl (by simp) ?_ (fun _=>by simp [gw]),A,B⟩;intro c b a;rw [show(C.h++[PB.cells z cs])[C.h.length]?=_ from kA _ _]at a;cases a;exact aqY _
theorem BZ (S:dO C) (W:Nat→Prop) {sz len:Nat} {cs:List PV} {vs:List Value} (h:cH C cs vs) (b:cs.length=len*sz) (g:0<sz):oO C W (some (.slice (some ⟨C.H.nx,0,none⟩) len len,C.H.alloc (.cells sz vs))) (.sl sz C.h.length 0 len len) (C.h++[.cells sz cs]):=by
 obtain ⟨A,B⟩:=S.new (P:=.cells sz cs) (B:=.cells sz vs) W (.inl ⟨_,_,_,rfl,rfl,h⟩);refine ⟨_,_,_,rfl,.sl ⟨_,_,rfl⟩ (by simp) ?_ (fun _=>?_),A,B⟩
 ·intro f d a
  rw [show(C.h++[PB.cells sz cs])[C.h.length]?=_ from kA _ _]at a;cases a;simp [b]
 ·by_cases c:len=0
  ·subst c;exact .inl ⟨rfl,rfl,_,rfl,by rintro e ⟨⟩;rfl⟩
  ·exact .inr ⟨by omega,by simp [gw]⟩
theorem HK:∀{ps:List PV} {l xs:List Value},Rl ps=some l→cH C ps xs→xs=l
 |[],l,xs,h,g=>by cases g;cases h;rfl
 |p::ps,l,xs,h,g=>by
  cases g with|cons b a=>
  cases p with
  |v x=>
   cases b;simp only [Rl]at h
   cases h2:Rl ps with
   |none=>simp [h2]at h
   |some m=>
    simp only [h2,Option.map_some,aqV]at h;rw [←h,HK h2 a]
  |_=>simp [Rl]at h
theorem B1 {cs ds:List PV} {xs ys:List Value} (h:cH C cs xs) (g:cH C ds ys):∀{offs:List (Nat×Nat)} {b:Bool},DW cs ds offs=some b→dF xs ys offs=some b
 |[],b,e=>e
 |(o,kk)::l,b,e=>by
  simp only [DW]at e;split at e
  case h_2=>cases e
  rename_i a m k h2;obtain ⟨x,i,rx⟩:=h.get k;obtain ⟨y,f,d⟩:=g.get h2;cases rx;cases d;split at e
  case isFalse=>cases e
  rename_i j;simp only [dF,i,f,j,cond_true];split at e
  ·rename_i c;rw [c];exact B1 h g e
  ·rename_i c;rw [c];exact e
  ·cases e
theorem Ol {f:Value→List Value→Option Value} {p r:PV} {x:Value} {ps:List PV} {xs:List Value} (h:RV C p x) (g:cH C ps xs) (k:Rm f p ps=some r):∃y,f x xs=some y∧RV C r y:=by
 unfold Rm at k;split at k
 ·rename_i c b e
  cases h;rw [HK e g]
  cases a:f x b with
  |none=>simp [a]at k
  |some y=>simp only [a,Option.map_some,aqV]at k;subst k;exact ⟨y,rfl,.v _⟩
 ·cases k
def up (r:Option (Value×AH)):Option (iH×AH):=r.map fun q=>(.v q.1,q.2)
theorem L4 (o n:Nat) (c:Bool) (vs:List Value) (H:AH):ET (.Jl o n c) vs H=(TR (.Jl o n c) vs).map fun v=>(v,H):=by
 match vs with
 |[]=>rfl
 |[a]=>cases a<;>rfl
 |a::b::l=>cases a<;>rfl
theorem L5 (len n:Nat) (d:Bool) (vs:List Value) (H:AH):ET (.Jm len n d) vs H=(TR (.Jm len n d) vs).map fun v=>(v,H):=by
 match vs with
 |[]=>rfl
 |[a]=>cases a<;>rfl
 |[a,b]=>
  cases a<;>first|rfl|skip
  cases b<;>first|rfl|skip
  simp only [ET,TR];split<;>rfl
 |a::b::c::l=>cases a<;>first|rfl|(cases b<;>rfl)
theorem B7 {C:Cx} {ps:List PV} {vs:List Value} {n:Nat} {c:Bool} {q:PV} (h:cH C ps vs) (e:xU ps n c=some q):∃y,pX vs n c=some y∧RV C q y:=by
 unfold xU at e;split at e
 case isFalse=>cases e
 rename_i f;have d:vs.length=n:=by rw [←h.length];exact f
 unfold pX;rw [nb,decide_eq_true d,cond_true]
 cases c with
 |true=>
  simp only [cond_true,aqV]at e;subst e;exact ⟨_,rfl,.agg h⟩
 |false=>
  simp only [cond_false]at e⊢;split at e
  ·cases e
   cases h with|cons a b=>
   cases b;exact ⟨_,rfl,a⟩
  ·cases e
theorem dD {C:Cx} (S:dO C) {p:PV} {h':PH} {r:Option PV} {r':Option Value} {a:Option (iH×AH)} (f:a=r'.map fun v=>(.v v,C.H)) (k:(r.map fun v=>(v,C.h))=some (p,h')) (e:∀q,r=some q→∃y,r'=some y∧RV C q y):∃b,a=up b∧oO C W b p h':=by
 cases c:r with
 |none=>simp [c]at k
 |some q=>
  simp only [c,Option.map_some,aqV,aq2]at k;obtain ⟨rfl,rfl⟩:=k;obtain ⟨y,d,g⟩:=e q c;refine ⟨some (y,C.H),by rw [f,d];rfl,oO.val S g rfl⟩
theorem Rt {H:AH} {b:X→Value} {sz:Nat} {x i:X}:ar (.ia sz x i) b H=(NT sz (b x) (b i)).map fun v=>(.v v,H):=by
 simp only [ar]
 cases b x with
 |slice a len c=>
  cases a with
  |none=>rfl
  |some a=>
   cases b i<;>first
    |rfl
    |(simp only [NT];split<;>first|rfl|(cases a.spot.isNone<;>rfl))
 |_=>rfl
theorem L6 {H:AH} {b:X→Value} {len sz:Nat} {x i:X}:ar (.pY len sz x i) b H=(xm len sz (b x) (b i)).map fun v=>(.v v,H):=by
 simp only [ar]
 cases b x with
 |pointer a=>
  cases a with
  |none=>rfl
  |some a=>
   cases b i<;>first
    |rfl
    |(simp only [xm];split<;>first|rfl|(cases a.spot.isNone<;>rfl))
 |_=>rfl
theorem FT {H:AH} {a:X→Value} {x i:X}:ar (.ix x i) a H=(EF (a x) (a i)).map fun v=>(.v v,H):=by
 simp only [ar]
 cases a x with
 |string s=>
  cases a i<;>first
   |rfl
   |(simp only [EF];rename_i n;cases s[n.toNat]?<;>(split<;>rfl))
 |_=>rfl
theorem HL {H:AH} {a:X→Value} {kk:Nat} {z:Value} {x c:X} {ok:Bool}:ar (.look kk z x c ok) a H=(ic kk z H (a x) (a c) ok).map fun v=>(.v v,H):=by
 simp only [ar,ic]
 cases a x with
 |map r=>
  cases r with
  |none=>dsimp only;cases cj kk (a c)<;>rfl
  |some r=>
   dsimp only
   cases H.get r with
   |none=>rfl
   |some b=>
    cases b with
    |cells=>rfl
    |map es=>
     dsimp only;cases cj kk (a c)&&decide (H.n0≤r)
     ·rfl
     ·cases fG (a c) es with
      |none=>rfl
      |some q=>cases q<;>rfl
 |_=>rfl
theorem L7 {H:AH} {c:X→Value} {neg:Bool} {offs:List (Nat×Nat)} {x y:X}:ar (.eqs neg offs x y) c H=(KX neg offs (c x) (c y)).map fun v=>(.v v,H):=by
 simp only [ar]
 cases c x<;>cases c y<;>first
  |rfl
  |(simp only [KX];rename_i a b;cases dF a.toList b.toList offs<;>rfl)
theorem Ru {C:Cx} (S:dO C) {o:cl} {G:X→PV} {u:X→Value} {p:PV} {h':PH} (h:∀x,RV C (G x) (u x)) (k:pop o G C.h=some (p,h')):∃b,ar o u C.H=up b∧oO C (· ∈vE o G) b p h':=by
 cases o with
 |mv x=>cases k;exact ⟨some (u x,C.H),rfl,oO.val S (h x) rfl⟩
 |pick c a b=>
  refine dD S (r':=xl (u c) (u a) (u b)) (by simp only [ar];cases u c<;>rfl) k fun q j=> ?_
  have I:=h c;revert j I;generalize G c=pc;intro j I
  cases pc<;>first
   |(cases j;done)
   |skip
  rename_i w
  cases w<;>first
   |(cases j;done)
   |skip
  rename_i t;cases j;rw [I.qw];refine ⟨_,rfl, ?_⟩;cases t
  · exact h b
  · exact h a
 |alloc z=>
  cases k;refine ⟨some (.pointer (some ⟨C.H.nx,0,none⟩),C.H.alloc (.cells z.length z)),rfl, ?_⟩;have:=HJ S (· ∈vE (.alloc z) G) (z:=z.length) (cH.lits z);rw [List.length_map]at this;exact this
 |box x=>
  simp only [pop,LV]at k;split at k
  case h_2=>cases k
  rename_i cs I;cases k;obtain ⟨a,b⟩:=iF (h x) I;refine ⟨some (.pointer (some ⟨C.H.nx,0,none⟩),C.H.alloc (.cells (aR (u x)).length (aR (u x)))),by simp [ar,b,up], ?_⟩;rw [←a.length];exact HJ S _ a
 |build z ps=>
  cases R:oM (z.map .v) (ps.map fun p=>(p.1,p.2.1,G p.2.2))with
  |none=>simp [pop,R]at k
  |some d=>
   simp only [pop,R,Option.map_some,aqV,aq2]at k;obtain ⟨rfl,rfl⟩:=k;obtain ⟨Q,e,g⟩:=BS (LW.of h ps) (cH.lits z) R;exact ⟨some (.agg Q.toArray,C.H),by simp [ar,e,up],oO.val S (.agg g) rfl⟩
 |bsl len sz z ps=>
  simp only [pop,LS]at k;split at k
  case h_2=>cases k
  rename_i d R;split at k
  case isFalse=>cases k
  rename_i I;cases k;obtain ⟨Q,e,g⟩:=BS (LW.of h ps) (cH.lits z) R;exact ⟨some (.slice (some ⟨C.H.nx,0,none⟩) len len,C.H.alloc (.cells sz Q)),by simp [ar,e,up],BZ S _ g I.1 I.2⟩
 |ld x=>exact dD S (r':=Tj C.H (u x)) (by
   simp only [ar]
   cases u x with
   |pointer a=>cases a<;>rfl
   |_=>rfl) k fun q j=>Ok S (h x) j
 |ldn n x=>exact dD S (r':=tA n C.H (u x)) (by
   simp only [ar]
   cases u x with
   |pointer a=>
    cases a with
    |none=>rfl
    |some a=>simp only [tA];cases C.H.ldn a n<;>rfl
   |_=>rfl) k fun q j=>Ah S (h x) j
 |st n x v=>
  cases J:Ri n C.h (G x) (G v)with
  |none=>simp [pop,J]at k
  |some h2=>
   simp only [pop,J,Option.map_some,aqV,aq2]at k;obtain ⟨rfl,rfl⟩:=k;obtain ⟨N,e,A,B⟩:=Xj (W:=(· ∈vE (.st n x v) G)) S (h x) (h v) J (fun b o t e=>by simp [vE,e]);refine ⟨some (undef,N), ?_,undef,N,C.φ,rfl, .v _,A,B⟩
   have:ar (.st n x v) u C.H=(Gj n C.H (u x) (u v)).map fun N=>(.v undef,N):=by
    simp only [ar]
    cases u x with
    |pointer a=>
     cases a with
     |none=>rfl
     |some a=>simp only [Gj];cases (Nat.beq (aR (u v)).length n&& !cw (u v))<;>simp
    |_=>rfl
   rw [this,e];rfl
 |aW x=>
  refine dD S (r':=tV (u x)) (by
   simp only [ar]
   cases u x with
   |pointer a=>cases a<;>rfl
   |_=>rfl) k fun q j=> ?_
  obtain ⟨a,b⟩:=LY (h x) j;exact ⟨_,a,b⟩
 |bin op x y=>
  refine dD S (r':=bX op (u x) (u y)) rfl k fun q j=> ?_
  have D:=h x;have K:=h y;unfold LN at j;split at j
  · rename_i a b E M
    rw [E]at D;rw [M]at K;rw [D.qw,K.qw]
    cases F:bX op a b with
    |none=>simp [F]at j
    |some w=>simp only [F,Option.map_some,aqV]at j;subst j;exact ⟨w,rfl, .v _⟩
  · cases j
 |eqk kk neg x y=>
  cases J:LP C.h kk (G x) (G y)with
  |none=>simp [pop,J]at k
  |some b=>
   simp only [pop,J,Option.map_some,aqV,aq2]at k;obtain ⟨rfl,rfl⟩:=k;exact ⟨some (.bool (bif neg then !b else b),C.H),by simp only [ar];rw [LX (h x) (h y) J];rfl,oO.val S (.v _) rfl⟩
 |un op x=>
  refine dD S (r':=ES op (u x)) rfl k fun q j=> ?_
  have D:=h x;unfold pun at j;split at j
  · rename_i a E
    rw [E]at D;rw [D.qw]
    cases F:ES op a with
    |none=>simp [F]at j
    |some w=>simp only [F,Option.map_some,aqV]at j;subst j;exact ⟨w,rfl, .v _⟩
  · cases j
 |mF kk x=>
  refine dD S (r':=Gm kk (u x)) (by simp only [ar];cases u x<;>rfl) k fun q j=> ?_
  have D:=h x;unfold LQ at j;split at j
  · rename_i V n E
    rw [E]at D;rw [D.qw];cases j;exact ⟨_,rfl, .v _⟩
  · cases j
 |SK x=>
  refine dD S (r':=Vp (u x)) (by simp only [ar];cases u x<;>rfl) k fun q j=> ?_
  have D:=h x;unfold Rj at j;split at j
  · rename_i V n E
    rw [E]at D;rw [D.qw];cases j;exact ⟨_,rfl, .v _⟩
  · cases j
 |mkf f first cap=>cases k;exact ⟨some (.func (.func f) (first.map u).toArray (cap.map u).toArray,C.H),rfl,oO.val S (.fn (cH.of h first) (cH.of h cap)) rfl⟩
 |mkmap=>
  cases k;obtain ⟨A,B⟩:=S.new (P:= .map []) (B:= .map []) (· ∈vE .mkmap G) (.inr ⟨[],[],rfl,rfl,rfl, .nil⟩);exact ⟨some (.map (some C.H.nx),C.H.alloc (.map [])),rfl,_,_,_,rfl, .mp rfl (by simp) (fun _=>by simp [gw]),A,B⟩
 |mksl sz bytes z x=>
  have D:=h x;simp only [pop]at k;unfold HC at k;split at k
  · rename_i V n E
    rw [E]at D;split at k
    case isFalse=>cases k
    rename_i I;cases k;refine ⟨some (.slice (some ⟨C.H.nx,0,none⟩) n.toNat n.toNat,C.H.alloc (.cells sz (List.replicate n.toNat z).flatten)), ?_,BZ S _ ((cH.lits z).Xg _) ?_ I.2.2.2.2⟩
    · have d3:decide ((bytes:Int)*n≤2^47)=true:=decide_eq_true I.2.2.1
      simp only [ar,D.qw,decide_eq_true I.1,decide_eq_true I.2.1,d3,Bool.and_self,cond_true];rfl
    · have Y:=I.2.2.2.1
      clear I D E
      induction n.toNat with
      |zero=>simp
      |succ m ih=>simp only [List.replicate_succ,List.flatten_cons,aq3,List.length_map,ih,Nat.succ_mul];omega
  · cases k
 |sl sz x lo hi mx=>exact ⟨_,by simp only [ar,up,Option.map_map];rfl,Xo S h (h x) k⟩
 |fa off x=>
  refine dD S (r':=NS off (u x)) ?_ k fun q j=>Xl (h x) j
  simp only [ar]
  cases u x with
  |pointer a=>
   cases a with
   |none=>rfl
   |some a=>simp only [NS];cases a.spot.isNone<;>rfl
  |_=>rfl
 |ia sz x i=>exact dD S Rt k fun q j=>Xm (h x) (h i) j
 |pY len sz x i=>exact dD S L6 k fun q j=>Rp (h x) (h i) j
 |ix x i=>
  refine dD S FT k fun q j=> ?_
  have D:=h x;have K:=h i;unfold pix at j;split at j
  · rename_i a b E M
    rw [E]at D;rw [M]at K;rw [D.qw,K.qw]
    cases F:EF a b with
    |none=>simp [F]at j
    |some w=>simp only [F,Option.map_some,aqV]at j;subst j;exact ⟨w,rfl, .v _⟩
  · cases j
 |look kk z x L ok=>exact dD S HL k fun q j=>L2 S (h x) (h L) j
 |mU kk x L v=>
  cases J:DV kk C.h (G x) (G L) (G v)with
  |none=>simp [pop,J]at k
  |some h2=>
   simp only [pop,J,Option.map_some,aqV,aq2]at k;obtain ⟨rfl,rfl⟩:=k;obtain ⟨N,e,A,B⟩:=Rs (W:=(· ∈vE (.mU kk x L v) G)) S (h x) (h L) (h v) J (fun b e=>by simp [vE,e]);refine ⟨some (undef,N), ?_,undef,N,C.φ,rfl, .v _,A,B⟩
   have:ar (.mU kk x L v) u C.H=(qH kk C.H (u x) (u L) (u v)).map fun N=>(.v undef,N):=by
    simp only [ar,qH]
    cases u x with
    |map r=>
     cases r with
     |none=>rfl
     |some r=>
      dsimp only
      cases C.H.get r with
      |none=>rfl
      |some b=>
       cases b with
       |cells=>rfl
       |map es=>
        dsimp only;cases (cj kk (u L)&&decide (C.H.n0≤r)&& !cw (u v))
        · rfl
        · simp only [cond_true]
          cases kW (u L) (u v) es<;>rfl
    |_=>rfl
   rw [this,e];rfl
 |ext x i=>
  refine dD S (r':=xn (u x) i) (by
   simp only [ar]
   cases u x with
   |tuple vs=>simp only [xn];cases vs.toList[i]?<;>rfl
   |_=>rfl) k fun q j=> ?_
  have D:=h x;unfold LR at j;split at j
  · rename_i ps i' E
    rw [E]at D;revert D;generalize u x=y;intro D
    cases D with|gN g=>
    obtain ⟨z,Y,gz⟩:=g.get j;exact ⟨z,by simpa [xn]using Y,gz⟩
  · cases j
 |xt Z l=>
  have O:=cH.of h l
  cases Z with
  |bad=>simp only [pop,TQ]at k;cases k
  |nM=>simp only [pop,TQ]at k;cases k
  |Jl o n T=>
   refine dD S (r':=TR (.Jl o n T) (l.map u)) (by simp only [ar,L4,Option.map_map];rfl) k fun q j=> ?_
   unfold TQ at j;split at j
   case h_2=>cases ‹XK.Jl o n T=XK.Jm _ _ _›
   case h_3=>cases j
   rename_i o' n' U cs E M;cases E;rw [M]at O;generalize l.map u=Q at O
   cases O with|cons a b=>
   cases b
   cases a with|agg g=>
   obtain ⟨v,e,r⟩:=B7 ((g.drop o).take n) j;exact ⟨v,e,r⟩
  |Jm len n T=>
   refine dD S (r':=TR (.Jm len n T) (l.map u)) (by simp only [ar,L5,Option.map_map];rfl) k fun q j=> ?_
   unfold TQ at j;split at j
   case h_1=>cases ‹XK.Jm len n T=XK.Jl _ _ _›
   case h_3=>cases j
   rename_i aoj n' U cs ki i E M;cases E;rw [M]at O;generalize l.map u=Q at O
   cases O with|cons a b=>
   cases b with|cons b c=>
   cases c;cases b
   cases a with|agg g=>
   split at j
   · rename_i hi
     obtain ⟨v,e,r⟩:=B7 ((g.drop (i.toNat*n)).take n) j;refine ⟨v, ?_,r⟩;simp only [TR,if_pos hi];exact e
   · cases j
 |call f «as»=>cases k
 |callv x «as»=>cases k
 |app sz bytes s x=>exact ⟨_,rfl,Rq S (h s) (h x) k (fun sz b o n c e=>by simp [vE,e])⟩
 |copy sz d s=>exact ⟨_,rfl,LZ S (h d) (h s) k (fun sz b o n c e=>by simp [vE,e])⟩
 |lens x=>
  refine dD S (r':=r9 (u x)) (by simp only [ar];cases u x<;>rfl) k fun q j=> ?_
  have D:=h x;unfold HB at j;split at j
  · rename_i a E
    rw [E]at D;rw [D.qw]
    cases F:r9 a with
    |none=>simp [F]at j
    |some w=>simp only [F,Option.map_some,aqV]at j;subst j;exact ⟨w,rfl, .v _⟩
  · cases j
 |ey x=>
  refine dD S (r':=sb (u x)) (by simp only [ar];cases u x<;>rfl) k fun q j=> ?_
  have D:=h x;unfold BQ at j;split at j
  · rename_i a E
    rw [E]at D;rw [D.qw]
    cases F:sb a with
    |none=>simp [F]at j
    |some w=>simp only [F,Option.map_some,aqV]at j;subst j;exact ⟨w,rfl, .v _⟩
  · rename_i sz b o n c E
    rw [E]at D;cases j;revert D;generalize u x=y;intro D
    cases D with|sl hn _ _ _=>
    obtain ⟨_,_,rfl⟩:=hn;exact ⟨_,rfl, .v _⟩
  · rename_i sz rows E
    rw [E]at D;cases j;revert D;generalize u x=y;intro D
    cases D with|fs g=>
    cases g;exact ⟨_,rfl, .v _⟩
  · cases j
 |OU t x=>cases k;exact ⟨some (.iface t (u x),C.H),rfl,oO.val S (.q8 (h x)) rfl⟩
 |mxl x l=>exact dD S (r':=Eu (u x) (l.map u)) rfl k fun q j=>Ol (h x) (cH.of h l) j
 |mnl x l=>exact dD S (r':=Jk (u x) (l.map u)) rfl k fun q j=>Ol (h x) (cH.of h l) j
 |eqs neg offs x y=>
  refine dD S L7 k fun q j=> ?_
  have D:=h x;have K:=h y;unfold LU at j;split at j
  · rename_i cs ds E M
    rw [E]at D;rw [M]at K;revert D K;generalize u x=a;generalize u y=b;intro D K
    cases D with|agg gx=>
    cases K with|agg gy=>
    cases F:DW cs ds offs with
    |none=>simp [F]at j
    |some w=>
     simp only [F,Option.map_some,aqV]at j;subst j;exact ⟨_,by simp only [KX,List.toList_toArray];rw [B1 gx gy F];rfl, .v _⟩
  · cases j
end P
namespace P
open Go Go.RowKit
structure PF where
 g:Nat→PV
def PF.get (f:PF) (n:Nat):PV:=f.g n
def PF.put (f:PF) (n:Nat) (p:PV):PF:=⟨fun m=>if m=n then p else f.g m⟩
def PF.aN (f:PF) (d:Option Nat) (p:PV):PF:=match d with|some n=>f.put n p|none=>f
def PF.of (l:List PV):PF:=⟨fun n=>l.getD n .any⟩
theorem PF.bA (f:PF) (n m:Nat) (p:PV):(f.put n p).get m=if m=n then p else f.get m:=rfl
theorem PF.eA (l:List PV) (n:Nat):(PF.of l).get n=l.getD n .any:=rfl
def eW (f:PF):X→PV
 | .t n=>f.get n
 | .k v=>wE v
 | .f n=>.fn n [] []
def mC (C:Cx) (fr:PF) (af:Fr):Prop:=∀t,RV C (fr.get t) (af.get t)
theorem mC.ev {C:Cx} {a:PF} {b:Fr} (h:mC C a b):∀x,RV C (eW a x) (X.ev b x)
 | .t n=>h n
 | .k v=>Ag v
 | .f n=>.fn (xs:=[]) (ys:=[]) .nil .nil
theorem mC.put {C:Cx} {a:PF} {b:Fr} (h:mC C a b) {p:PV} {x:Value} (k:RV C p x) (n:Nat):mC C (a.put n p) (b.put n x):=by
 intro t;rw [PF.bA,Fr.bA];split
 ·exact k
 ·exact h t
theorem mC.aN {C:Cx} {a:PF} {b:Fr} (h:mC C a b) {p:PV} {x:Value} (k:RV C p x) (d:Option Nat):mC C (a.aN d p) (b.aN d x):=by
 cases d with
 |none=>exact h
 |some n=>exact h.put k n
theorem mC.step {W:Nat→Prop} {C D:Cx} {a:PF} {af:Fr} (h:mC C a af) (T:dq C.h.length W C D):mC D a af:=fun t=>(h t).step T
theorem mC.of {C:Cx} {ps:List PV} {xs:List Value} (h:cH C ps xs):mC C (PF.of ps) (Fr.of xs):=by
 intro t;rw [PF.eA,Fr.eA];rw [List.getD_eq_getElem?_getD,List.getD_eq_getElem?_getD]
 cases e:ps[t]? with
 |none=>exact .any _
 |some p=>
  obtain ⟨x,a,r⟩:=h.get e;rw [a];exact r
def Rw:PV→Bool
 | .v x=>LK x
 | .ref _ _ _| .sl _ _ _ _ _| .mp _| .fs _ _| .fp _=>true
 |_=>false
def HM (o:AO) (fr:PF):Bool:=match o.g with
 |none=>true
 |some (t,b)=>match fr.get t with| .v x=>dZ b x|_=>true
def DY (n:Nat) (p:PV) (h:PH) (W:List Nat):Bool:=match p with
 | .ref b o t=>match h[b]? with
   |some (.cells _ cs)=>decide (cs.length=t)&&decide (o+n≤t)&&decide (0<t)&& !W.contains b&&((cs.drop o).take n).all Rw
   |_=>false
 | .fp cells=>decide (n≤cells.length)&&(cells.take n).all Rw
 |_=>false
def Rx (o:cl) (fr:PF) (h:PH) (W:List Nat):Bool:=match o with
 | .ld x=>DY 1 (eW fr x) h W
 | .ldn n x=>DY n (eW fr x) h W
 |_=>false
def L8 (b:Nat) (h:PH) (W:List Nat):Bool:=!W.contains b&&(match h[b]? with
 |some (.cells _ (c::cs))=>Rw c&&cs.all Rw
 |some (.map [])=>true
 |_=>false)
def xX (o:cl) (fr:PF) (h:PH):Option (Option Nat):=match o with
 | .st _ x _| .ld x| .ldn _ x=>match eW fr x with
   | .ref b _ t=>if eT h b=some t∧0<t then some (some b)else none
   | .fp _=>some none
   |_=>none
 | .look _ _ x _ _=>match eW fr x with
   | .mp b=>match h[b]? with|some (.map _)=>some (some b)|_=>none
   |_=>none
 | .sl _ x _ _ _=>match eW fr x with
   | .sl sz b o n c=>if gA h (.sl sz b o n c)=true∧0<c∧0<sz then some (some b)else none
   |_=>none
 |_=>none
def vG:Option (Option Nat)→Option (Option Nat)→Bool
 |some (some b),some (some c)=>!Nat.beq b c
 |some none,some (some _)=>true
 |_,_=>false
def pck (k p q:Nat):Option AO→Option (PF×PH×List Nat)→Option (PF×PH×List Nat)→Option AO→Option (PF×PH×List Nat)→Option (PF×PH×List Nat)→Bool
 |some op,some (fp,hp,_),some (_,hp',_),some oq,some (fq,hq,_),some (_,_,W)=>
  decide (p<q)&&(!HM op fp|| !HM oq fq||(match k with
   |0=>Rx op.o fp hp W
   |1=>!op.o.aT&&L8 hp.length hp' W
   |_=>vG (xX op.o fp hp) (xX oq.o fq hq)))
 |_,_,_,_,_,_=>false
def Xp (l:List AO) (ck:List (Nat×Nat×Nat)) (acc:List (PF×PH×List Nat)):Bool:=
 ck.all fun c=>pck c.1 c.2.1 c.2.2 (nth l c.2.1) (nth acc.reverse c.2.1) (nth acc.reverse (c.2.1+1)) (nth l c.2.2) (nth acc.reverse c.2.2) (nth acc.reverse (c.2.2+1))
inductive nC (l0:List AO):List (PF×PH×List Nat)→List (Fr×AH)→Cx→List Nat→Prop
 |one {C:Cx} {fr:PF} {af:Fr}:dO C→mC C fr af→nC l0 [(fr,C.h,[])] [(af,C.H)] C []
 |cons {C D:Cx} {acc:List (PF×PH×List Nat)} {ep:List (Fr×AH)} {fr:PF} {af:Fr} {V W:List Nat}:nC l0 acc ep C W→dq 0 (· ∈V) C D→dO D→mC D fr af→(∀o,nth l0 (acc.length- 1)=some o→o.o.aT=false→D.H.nx≤C.H.nx+1)→nC l0 ((fr,D.h,V++W)::acc) ((af,D.H)::ep) D (V++W)
theorem nC.length {d:List AO} {W:List Nat} {acc:List (PF×PH×List Nat)} {c:List (Fr×AH)} {C:Cx} (h:nC d acc c C W):acc.length=c.length∧0<acc.length:=by
 induction h with
 |one a b=>exact ⟨rfl,Nat.one_pos⟩
 |cons _ T S R e ih=>simp [ih.1]
theorem sS {α:Type} (l:List α) (x:α) (i:Nat):nth (l++[x]) i=if i<l.length then nth l i else if i=l.length then some x else none:=by
 rw [tW,tW];split
 ·rw [aq7 (by assumption)]
 ·rw [arb (by omega)]
  split
  ·rename_i h;subst h;simp
  ·rw [arC (by simp;omega)]
theorem nC.fam {l:List AO} {W:List Nat} {acc:List (PF×PH×List Nat)} {k:List (Fr×AH)} {D:Cx} (h:nC l acc k D W):∃(cs:Nat→Cx) («as»:Nat→Fr),
 (∀i s,nth acc.reverse i=some s→(cs i).h=s.2.1∧nth k.reverse i=some («as» i,(cs i).H)∧dO (cs i)∧mC (cs i) s.1 («as» i))∧
 (∀i j s,i≤j→nth acc.reverse j=some s→dq 0 (· ∈s.2.2) (cs i) (cs j))∧
 (∀i o,i+1<acc.length→nth l i=some o→o.o.aT=false→(cs (i+1)).H.nx≤(cs i).H.nx+1)∧cs (acc.length- 1)=D∧∀i,i<acc.length→dq 0 (· ∈W) (cs i) D:=by
 induction h with
 | @one C y g a b=>
  refine ⟨fun _=>C,fun _=>g,fun i s e=>?_,fun _ _ _ _ _=>dq.refl _ _ _,fun i o hi=>by simp at hi,rfl,fun _ _=>dq.refl _ _ _⟩
  cases i with
  |zero=>simp only [List.reverse_singleton,Vv,aqV]at e;subst e;exact ⟨rfl,rfl,a,b⟩
  |succ i=>simp [nth]at e
 | @cons C D acc k y g V W H0 T S R r ih=>
  obtain ⟨cs,«as»,x,h2,w,v,u⟩:=ih;have t:=H0.length;have n:∀i,i<acc.length→dq 0 (· ∈V++W) (cs i) D:=fun i hi=>(u i hi).trans T (aro _) (fun _ q=>List.mem_append_right _ q) (fun _ q=>List.mem_append_left _ q)
  refine ⟨fun i=>if i<acc.length then cs i else D,fun i=>if i<acc.length then «as» i else g,fun i s e=>?_,fun i j s f e=>?_,fun i o hi m p=>?_,by simp,fun i hi=>?_⟩
  ·rw [List.reverse_cons,sS,List.length_reverse]at e
   rw [List.reverse_cons,sS,List.length_reverse,←t.1];split at e
   ·rename_i hi
    simp only [if_pos hi];exact x i s e
   ·rename_i hi
    split at e
    case isFalse=>cases e
    rename_i c;cases e;simp only [if_neg hi,if_pos c];exact ⟨trivial,trivial,S,R⟩
  ·rw [List.reverse_cons,sS,List.length_reverse]at e
   split at e
   ·rename_i d
    simp only [if_pos d,if_pos (show i<acc.length by omega)];exact h2 i j s f e
   ·rename_i d
    split at e
    case isFalse=>cases e
    cases e;simp only [if_neg d];by_cases hi:i<acc.length
    ·simp only [if_pos hi];exact n i hi
    ·simp only [if_neg hi];exact dq.refl _ _ _
  ·simp only [List.length_cons]at hi
   by_cases c:i+1<acc.length
   ·simp only [if_pos c,if_pos (show i<acc.length by omega)]
    exact w i o c m p
   ·simp only [if_neg c,if_pos (show i<acc.length by omega)]
    have e:i=acc.length- 1:=by omega
    have:=r o (by rw [←e];exact m) p;rw [e,v];exact this
  ·by_cases c:i<acc.length
   ·simp only [if_pos c];exact n i c
   ·simp only [if_neg c];exact dq.refl _ _ _
theorem Ry {α:Type} {l:List α} {i:Nat} {x:α} (h:nth l i=some x):i<l.length:=by
 rw [tW]at h;exact (aq0.1 h).1
theorem HO {x:Value} (h:LK x=true):cU x x=true:=by
 cases x<;>first
  |(simp [LK]at h;done)
  |simp [cU]
theorem Rz {C:Cx} {p:PV} {x:Value} (h:RV C p x) (k:Rw p=true):cU x x=true:=by
 apply HO
 cases p with
 |v y=>cases h;exact k
 |ref=>cases h;assumption
 |sl=>cases h with|sl a _ _ _=>exact a.sm
 |mp=>cases h;assumption
 |fs=>cases h with|fs q=>cases q;rfl
 |fp=>cases h;rfl
 |_=>cases k
theorem vH {C:Cx}:∀{ps:List PV} {xs:List Value},cH C ps xs→ps.all Rw=true→eu xs xs=true
 |_,_,.nil,_=>rfl
 |_,_,.cons a b,h=>by
  simp only [List.all_cons,aqX]at h;simp only [eu,aqX];exact ⟨Rz a h.1,vH b h.2⟩
theorem HP {C:Cx} {a:PF} {c:Fr} (h:mC C a c) {o:AO} (k:o.wanted c=true):HM o a=true:=by
 obtain ⟨g,d,p⟩:=o
 cases g with
 |none=>rfl
 |some q=>
  obtain ⟨t,b⟩:=q;simp only [HM];have:=h t;split
  ·rename_i x e
   rw [e]at this;rw [lZ,this.qw]at k;exact k
  ·rfl
theorem HQ {C:Cx} (S:dO C) {W:List Nat} {b:Nat} (c:bF C.h b) (f:b∉W):¬ im C (· ∈W) (C.φ b):=by
 rintro ⟨g,d,a,e⟩;exact f (S.inj _ _ a c e▸d)
theorem HR {C D:Cx} {W:List Nat} (S:dO C) (T:dq 0 (· ∈W) C D) {n:Nat} {p:PV} {x:Value} (h:RV C p x) (k:DY n p C.h W=true):
 ∃a l,x= .pointer (some a)∧C.H.ldn a n=some l∧sameAt D.H (a,l)=true:=by
 cases p with
 |ref b o t=>
  simp only [DY]at k;split at k
  case h_2=>cases k
  rename_i z cs r;simp only [aqX,aq6,Bool.not_eq_true',List.contains_eq_mem,decide_eq_false_iff_not]at k;obtain ⟨⟨⟨⟨s,U⟩,R⟩,F⟩,E⟩:=k;obtain ⟨c,I,f,M⟩:=S.cells (t:=t) r (by omega);have V:=f.length;have G:=sP h (t:=t) (by unfold eT;rw [r];simp [s]);have d:C.H.ldn ⟨C.φ b,o,none⟩ n=some ((c.drop o).take n):=bB I M (by omega);have u:=cd r (by intro e;subst e;simp at s;omega);have L:=T.out _ (S.lt u) (HQ S u F);refine ⟨_,_,G,d,?_⟩;rw [xp,eC L T.n0,show((c.drop o).take n).length=n by simp;omega,d];exact vH ((f.drop o).take n) E
 |fp cells=>
  simp only [DY,aqX,aq6]at k;have N:=h
  cases h with| @fp _ b o c J d K=>
  have A:C.H.ldn ⟨b,o,none⟩ n=some (c.take n):=by
   have:=Ah S N (n:=n) (q:=.agg (cells.take n)) (by simp [vC,k.1]);obtain ⟨y,m,X⟩:=this;simp only [Qi]at m
   cases i:C.H.ldn ⟨b,o,none⟩ n with
   |none=>rw [i]at m;cases m
   |some l=>
    have O:l=c.take n:=by
     have P:∀(j:Nat) (v:Value),l[j]?=some v→(c.take n)[j]?=some v:=by
      intro j v g;have Y:=(cW i).2;have Z:=(aq0.1 g).1;have Q:=aJ i g;have f:j<c.length:=by have:=(cW d).2;omega
      have B:=aJ d (j:=j) (aqU f);rw [Q]at B;rw [arw,if_pos (by omega),aqU f];exact B.symm
     have w:l.length=(c.take n).length:=by
      have:=(cW i).2;have:=(cW d).2;simp;omega
     apply List.ext_getElem?;intro j;by_cases g:j<l.length
     ·rw [P j _ (aqU g),aqU g]
     ·rw [arC (by omega),arC (by omega)]
    rw [O]
  refine ⟨⟨b,o,none⟩,c.take n,rfl,A,?_⟩;rw [xp,eC (T.fz _ J).2 T.n0,show(c.take n).length=n by have:=(cW d).2;simp;omega,A];exact vH (K.take n).qw k.2
 |_=>cases k
theorem RA {C D:Cx} {W:List Nat} (S:dO C) (T:dq 0 (· ∈W) C D) {o:AO} {f:PF} {i:Fr} (h:mC C f i) (k:Rx o.o f C.h W=true):∃x,ei o i C.H=some x∧sameAt D.H x=true:=by
 obtain ⟨g,d,p⟩:=o
 cases p<;>first
  |(cases k;done)
  |skip
 ·obtain ⟨a,l,e,c,b⟩:=HR S T (h.ev _) k
  exact ⟨(a,l),by simp only [ei,e,c];rfl,b⟩
 ·obtain ⟨a,l,e,c,b⟩:=HR S T (h.ev _) k
  exact ⟨(a,l),by simp only [ei,e,c];rfl,b⟩
theorem HS {z:Nat} {vs:List Value} (h:eu vs vs=true):mG (some (.cells z vs)) (some (.cells z vs))=true:=by simp [mG,h,nb]
theorem HT {C X D:Cx} {V W:List Nat} (S:dO C) (g:dO X) (T:dq 0 (· ∈V) C X) (p:dq 0 (· ∈W) X D) (s:X.H.nx≤C.H.nx+1) (k:L8 C.h.length X.h W=true):mG (X.H.get C.H.nx) (D.H.get C.H.nx)=true:=by
 simp only [L8,aqX,Bool.not_eq_true',List.contains_eq_mem,decide_eq_false_iff_not]at k;obtain ⟨m,i⟩:=k
 have key:∀(d:bF X.h C.h.length),X.φ C.h.length=C.H.nx∧D.H.get C.H.nx=X.H.get C.H.nx:=by
  intro d
  have e:X.φ C.h.length=C.H.nx:=by
   rcases T.loc _ d with q|⟨q,_⟩
   ·have:=g.lt d;omega
   ·exact absurd (bO q) (Nat.lt_irrefl _)
  refine ⟨e,?_⟩;have:=p.out _ (g.lt d) (HQ g d m);rwa [e]at this
 split at i
 ·rename_i z c cs f
  obtain ⟨a,b⟩:=key (cd f (by simp));obtain ⟨r,j,n,_⟩:=g.cells (t:=0) f (by simp);rw [b,←a,j];exact HS (vH n (by simpa using i))
 ·rename_i f
  obtain ⟨a,b⟩:=key (fC f);obtain ⟨l,j,o,_⟩:=g.Af _ _ f;rw [b,←a,j]
  cases l with
  |nil=>rfl
  |cons=>simp at o
 ·cases i
theorem q9 {C:Cx} (S:dO C) {o:AO} {m:PF} {l:Fr} (h:mC C m l) {r:Option Nat} (k:xX o.o m C.h=some r):∃a,cC o l=some a∧((∃b,r=some b∧bF C.h b∧a=C.φ b)∨(r=none∧C.F a)):=by
 have go:∀x:X,(match eW m x with| .ref b _ t=>if eT C.h b=some t∧0<t then some (some b)else none| .fp _=>some none|_=>none)=some r→
  ∃a,(match x.ev l with| .pointer (some a)=>some a.block|_=>none)=some a∧((∃b,r=some b∧bF C.h b∧a=C.φ b)∨(r=none∧C.F a)):=by
  intro x k;have f:=h.ev x;split at k
  ·rename_i b o t e
   rw [e]at f;split at k
   case isFalse=>cases k
   rename_i j;cases k;rw [sP f j.1];refine ⟨_,rfl,.inl ⟨b,rfl,?_,rfl⟩⟩;have:=j.1;unfold eT at this;split at this
   ·rename_i z cs i
    cases this;exact cd i (List.length_pos_iff.1 j.2)
   ·cases this
  ·rename_i c e
   rw [e]at f;cases k;revert f;generalize x.ev l=y;intro f;cases f with|fp u _ _=>exact ⟨_,rfl,.inr ⟨rfl,u⟩⟩
  ·cases k
 obtain ⟨g,d,p⟩:=o
 cases p<;>first
  |(cases k;done)
  |exact go _ k
  |skip
 ·rename_i sz x lo hi mx
  simp only [xX]at k;have f:=h.ev x;split at k
  case h_2=>cases k
  rename_i v b o n c e;rw [e]at f;split at k
  case isFalse=>cases k
  rename_i s;cases k;obtain ⟨z,cs,i,j⟩:=xV s.1;rcases sQ f i j.symm with⟨q,_⟩|⟨_,q⟩
  ·omega
  ·refine ⟨C.φ b,by simp only [cC,q];rfl,.inl ⟨b,rfl,cd i ?_,rfl⟩⟩
   intro e;subst e;have:=Nat.mul_pos (show 0<o+c by omega) s.2.2;simp at j;omega
 ·rename_i kk z x w ok
  simp only [xX]at k;have f:=h.ev x;split at k
  case h_2=>cases k
  rename_i b e;rw [e]at f;split at k
  case h_2=>cases k
  rename_i es i;cases k;exact ⟨C.φ b,by simp only [cC,HI f i],.inl ⟨b,rfl,fC i,rfl⟩⟩
theorem HU {C D:Cx} {W:Nat→Prop} (S:dO C) (p:dO D) (T:dq 0 W C D) {o q:AO} {s r:PF} {u t:Fr} (h:mC C s u) (g:mC D r t) (k:vG (xX o.o s C.h) (xX q.o r D.h)=true):
 (match cC o u,cC q t with|some b,some b'=>!Nat.beq b b'|_,_=>true)=true:=by
 unfold vG at k;split at k
 ·rename_i b c n m
  obtain ⟨x,l,j⟩:=q9 S h n;obtain ⟨y,i,a⟩:=q9 p g m;rcases j with⟨A,e,f,rfl⟩|⟨e,_⟩<;>cases e;rcases a with⟨z,e,d,rfl⟩|⟨e,_⟩<;>cases e;rw [l,i];simp only [nb,Bool.not_eq_true',decide_eq_false_iff_not]at k⊢;intro e;rcases T.loc _ d with q|⟨q,w⟩
  ·have:=S.lt f;omega
  ·exact k (S.inj _ _ f q (e.trans w))
 ·rename_i c n m
  obtain ⟨x,l,j⟩:=q9 S h n;obtain ⟨y,i,a⟩:=q9 p g m;rcases j with⟨A,e,f,rfl⟩|⟨e,v⟩<;>cases e;rcases a with⟨z,e,d,rfl⟩|⟨e,_⟩<;>cases e;rw [l,i];simp only [nb,Bool.not_eq_true',decide_eq_false_iff_not];intro e;exact (p.old d).2 (e▸(T.fz _ v).1)
 ·cases k
theorem RB {d:List AO} {W:List Nat} {acc:List (PF×PH×List Nat)} {w:List (Fr×AH)} {D:Cx} (h:nC d acc w D W) {k p q:Nat}
 (e:pck k p q (nth d p) (nth acc.reverse p) (nth acc.reverse (p+1)) (nth d q) (nth acc.reverse q) (nth acc.reverse (q+1))=true):jI d w.reverse (k,p,q)=true:=by
 unfold pck at e;split at e
 case h_2=>cases e
 rename_i op Y V Wp L I O F X T Z K H W' v N u M t f;simp only [aqX,aq6]at e;obtain ⟨U,e⟩:=e;obtain ⟨cs,«as»,a,h2,J,_⟩:=h.fam;obtain ⟨c,E,l,j⟩:=a _ _ N;obtain ⟨n,A,z,S⟩:=a _ _ u;obtain ⟨s,C,B,r⟩:=a _ _ t;obtain ⟨R,y,Q,P⟩:=a _ _ f;have G:=Ry f;rw [List.length_reverse]at G;simp only [jI,v,E,A,M,C,y];by_cases i:op.wanted («as» p)=true
 case neg=>simp [i]
 by_cases g:F.wanted («as» q)=true
 case neg=>simp [g]
 have m:=HP j i;have b:=HP r g;simp only at m b c s n;rw [m,b]at e;simp only [Bool.not_true,Bool.false_or]at e;rw [i,g];simp only [Bool.not_true,Bool.false_or]
 match k with
 |0=>
  simp only at e⊢;rw [←c]at e;obtain ⟨x,a,h2⟩:=RA (o:=op) l (h2 p (q+1) _ (by omega) f) j e;rw [a];exact h2
 |1=>
  simp only [aqX,Bool.not_eq_true']at e⊢;rw [←c,←n]at e;exact HT l z (h2 p (p+1) _ (by omega) u) (h2 (p+1) (q+1) _ (by omega) f) (J p op (by omega) v e.1) e.2
 |k+2=>
  simp only at e⊢;rw [←c,←s]at e;exact HU l B (h2 p q _ (by omega) t) j r e
theorem nC.chn {e:List AO} {W:List Nat} {acc:List (PF×PH×List Nat)} {d:List (Fr×AH)} {D:Cx} (h:nC e acc d D W):chain d.reverse=true:=by
 have snoc:∀(l:List (Fr×AH)) (a b:Fr×AH),chain (l++[a])=true→a.2.n0=b.2.n0→a.2.nx≤b.2.nx→chain (l++[a]++[b])=true:=by
  intro l
  induction l with
  |nil=>intro a b _ c h2;simp [A.chain,c,h2]
  |cons x l ih=>
   intro a b h c h2
   cases l with
   |nil=>simp only [List.cons_append,List.nil_append,A.chain,Bool.and_true,aqX]at h⊢;refine ⟨h,?_⟩;simp [c,h2]
   |cons y l=>
    simp only [List.cons_append,A.chain,aqX]at h⊢;exact ⟨h.1,by simpa using ih a b h.2 c h2⟩
 induction h with
 |one=>rfl
 | @cons C D acc d g i V W H0 T S R f ih=>
  cases H0 with
  |one=>simp [A.chain,T.n0,T.nx]
  |cons=>
   simp only [List.reverse_cons]at ih⊢;exact snoc _ _ _ ih T.n0.symm T.nx
theorem HV {a:List AO} {W:List Nat} {acc:List (PF×PH×List Nat)} {b:List (Fr×AH)} {D:Cx} (h:nC a acc b D W) {ck:List (Nat×Nat×Nat)} (e:Xp a ck acc=true):ts a ck b=true:=by
 unfold ts;rw [aqX];refine ⟨h.chn,?_⟩;unfold Xp at e;rw [ara]at e⊢;rintro ⟨k,p,q⟩ c;exact RB h (e _ c)
open Go Go.RowKit
theorem pK {H H':AH} {a:Addr} {vs:List Value} (h:H.st a vs=some H'):H'.nx=H.nx:=by
 unfold AH.st at h;split at h
 ·obtain ⟨_,h⟩:=aw h
  cases h;rfl
 ·cases h
theorem RC {o:cl} {m:X→Value} {H:AH} {b:Option (Value×AH)} {x:Value} {H':AH} (e:ar o m H=up b) (n:b=some (x,H')):H'.nx≤H.nx+1:=by
 subst n;simp only [up,Option.map_some]at e
 have app:∀{sz bytes:Nat} {s y z:Value} {H':AH},bc sz bytes H s y=some (z,H')→H'.nx≤H.nx+1:=by
  intro sz bytes s y z H' h;unfold bc at h;split at h
  case h_2=>cases h
  split at h
  ·obtain ⟨_,h⟩:=aw h;cases h;omega
  ·split at h
   ·cases h
   ·obtain ⟨_,h⟩:=aw h
    split at h
    ·split at h
     ·obtain ⟨_,h⟩:=aw h
      rename_i a _ _;obtain ⟨l,h2,f⟩:=aq4.1 h;cases f;have:=pK h2;omega
     ·cases h
    ·split at h
     ·obtain ⟨_,h⟩:=aw h;cases h;exact aqY _
     ·split at h
      ·obtain ⟨_,h⟩:=aw h
       obtain ⟨l,h2,f⟩:=aq4.1 h;cases f;exact aqY _
      ·cases h
 have g:∀{sz:Nat} {s y z:Value} {H':AH},jH sz H s y=some (z,H')→H'.nx≤H.nx+1:=by
  intro sz s y z H' h;unfold jH at h;split at h
  case h_2=>cases h
  obtain ⟨c,d,h⟩:=aq5.1 h;split at h
  ·simp only [Bool.cond_eq_ite]at h
   split at h
   ·cases h;exact arn _
   ·obtain ⟨l,h2,f⟩:=aq4.1 h
    cases f;have:=pK h2;omega
  ·cases h;exact arn _
 have i:∀{k:XK} {j:List Value} {z:Value} {H':AH},ET k j H=some (z,H')→H'.nx≤H.nx+1:=by
  intro k j z H' h;unfold ET at h;split at h
  ·obtain ⟨_,_,e⟩:=aq4.1 h;cases e;exact arn _
  ·split at h
   ·obtain ⟨_,_,e⟩:=aq4.1 h;cases e;exact arn _
   ·cases h
  ·cases h;exact aqY _
  ·cases h
 cases o<;>simp only [ar]at e
 all_goals first
  |(simp only [aqV,aq2,iH.v.injEq,reduceCtorEq,false_and]at e;done)
  |skip
 all_goals first
  |(simp only [aqV,aq2]at e;obtain ⟨_,rfl⟩:=e;first|exact arn _|exact aqY _)
  |(obtain ⟨r,d,h2⟩:=aq4.1 e;simp only [aq2]at h2;obtain ⟨_,rfl⟩:=h2;first|exact arn _|exact aqY _)
  |skip
 all_goals first
  |(obtain ⟨r,d,h2⟩:=aq4.1 e;simp only [aq2]at h2;obtain ⟨_,rfl⟩:=h2;exact i d)
  |skip
 all_goals try simp only [Bool.cond_eq_ite]at e
 all_goals try(repeat' split at e)
 all_goals first
  |(cases e;done)
  |(simp only [aqV,aq2]at e;obtain ⟨_,rfl⟩:=e;first|exact arn _|exact aqY _)
  |(obtain ⟨r,d,h2⟩:=aq4.1 e;simp only [aq2]at h2;obtain ⟨_,rfl⟩:=h2;first|exact arn _|(have:=pK d;omega)|exact app d|exact g d|exact i d)
  |skip
inductive Kp where
 |seq (c:AC)
 |aS (i:Nat)
 |lp (I:Nat→PF→PH→Prop) (k:Nat)
inductive Mp where
 |pl
 |d0
 |dr (l0:List AO) (ck:List (Nat×Nat×Nat)) (acc:List (PF×PH×List Nat)) (W:List Nat)
def Mp.up:Mp→List Nat→PF→PH→Mp
 | .pl,_,_,_=>.pl
 | .d0,_,_,_=>.d0
 | .dr l0 ck acc W,V,fr,h=>.dr l0 ck ((fr,h,V++W)::acc) (V++W)
inductive Cf where
 |code (c:AC) (ks:List Kp)
 |ops (m:Mp) (l:List AO) (ks:List Kp)
 |done (ex:Ex) (ks:List Kp)
def JD (E:Env) (O:jk) (f:Nat) (args:List PV) (h:PH) (W:Nat→Prop) (R:PV→PH→Prop):Prop:=
 ∀F H φ vs,dO ⟨F,H,φ,h⟩→cH ⟨F,H,φ,h⟩ args vs→Ca E O f vs H (fun x H'=>∃r h' F' dy,R r h'∧RV ⟨F',H',dy,h'⟩ r x∧dO ⟨F',H',dy,h'⟩∧dq h.length W ⟨F,H,φ,h⟩ ⟨F',H',dy,h'⟩)
abbrev tI:Nat→Prop:=fun _=>True
abbrev tt (E:Env) (O:jk) (f:Nat) (args:List PV) (h:PH) (R:PV→PH→Prop):Prop:=JD E O f args h tI R
def Gh (n:Nat) (fr:PF) (h:PH) (eV:PF) (h2:PH):Prop:=
 ∀F H φ af,dO ⟨F,H,φ,h⟩→mC ⟨F,H,φ,h⟩ fr af→∃F' dy,dO ⟨F',H,dy,h2⟩∧mC ⟨F',H,dy,h2⟩ eV af∧∀C0:Cx,C0.h.length=n→dq n tI C0 ⟨F,H,φ,h⟩→dq n tI C0 ⟨F',H,dy,h2⟩
theorem Gh.refl (n:Nat) (a:PF) (h:PH):Gh n a h a h:=fun F H b c S R=>⟨F,b,S,R,fun _ _ k=>k⟩
variable(E:Env) (O:jk) (n:Nat) (Q:Ex→PF→PH→Prop)
inductive PK:Cf→PF→PH→Prop where
 |skip {ks:List Kp} {fr:PF} {h:PH}:PK (.done .normal ks) fr h→PK (.code .skip ks) fr h
 |ret {ks:List Kp} {fr:PF} {h:PH}:PK (.done .ret ks) fr h→PK (.code .ret ks) fr h
 |exit {i:Nat} {ks:List Kp} {fr:PF} {h:PH}:PK (.done (.exit i) ks) fr h→PK (.code (.exit i) ks) fr h
 |bG {l:List AO} {ks:List Kp} {fr:PF} {h:PH}:PK (.ops .pl l ks) fr h→PK (.code (.bG l) ks) fr h
 |bQ {l:List AO} {c:Nat×Nat×Nat} {ck:List (Nat×Nat×Nat)} {ks:List Kp} {fr:PF} {h:PH}:PK (.ops (.dr l (c::ck) [(fr,h,[])] []) l ks) fr h→PK (.code (.bQ l (c::ck)) ks) fr h
 |B8 {l:List AO} {ks:List Kp} {fr:PF} {h:PH}:PK (.ops .d0 l ks) fr h→PK (.code (.bQ l []) ks) fr h
 |seq {a b:AC} {ks:List Kp} {fr:PF} {h:PH}:PK (.code a (.seq b::ks)) fr h→PK (.code (.seq a b) ks) fr h
 |block {i:Nat} {a:AC} {ks:List Kp} {fr:PF} {h:PH}:PK (.code a (.aS i::ks)) fr h→PK (.code (.block i a) ks) fr h
 |cond {x:X} {a b:AC} {t:Bool} {ks:List Kp} {fr:PF} {h:PH}:eW fr x= .v (.bool t)→PK (.code (bif t then a else b) ks) fr h→PK (.code (.cond x a b) ks) fr h
 |loop {a:AC} {ks:List Kp} {fr eV:PF} {h h2:PH} (I:Nat→PF→PH→Prop) (k:Nat):(∀k fr h,I k fr h→PK (.code a (.lp I k::ks)) fr h)→Gh n fr h eV h2→I k eV h2→PK (.code (.loop a) ks) fr h
 |L9 {ks:List Kp} {fr:PF} {h:PH}:PK (.done .normal ks) fr h→PK (.ops .pl [] ks) fr h
 |B9 {ks:List Kp} {fr:PF} {h:PH}:PK (.done .normal ks) fr h→PK (.ops .d0 [] ks) fr h
 |xY {l0:List AO} {ck:List (Nat×Nat×Nat)} {acc:List (PF×PH×List Nat)} {W:List Nat} {ks:List Kp} {fr:PF} {h:PH}:Xp l0 ck acc=true→PK (.done .normal ks) fr h→PK (.ops (.dr l0 ck acc W) [] ks) fr h
 |op {m:Mp} {d:Option Nat} {p:cl} {l:List AO} {ks:List Kp} {fr:PF} {h h':PH} {v:PV}:pop p (eW fr) h=some (v,h')→PK (.ops (m.up (vE p (eW fr)) (fr.aN d v) h') l ks) (fr.aN d v) h'→PK (.ops m (⟨none,d,p⟩::l) ks) fr h
 |Xq {m:Mp} {t:Nat} {b:Bool} {x:Value} {d:Option Nat} {p:cl} {l:List AO} {ks:List Kp} {fr:PF} {h:PH}:fr.get t= .v x→dZ b x=true→PK (.ops m (⟨none,d,p⟩::l) ks) fr h→PK (.ops m (⟨some (t,b),d,p⟩::l) ks) fr h
 |HW {m:Mp} {t:Nat} {b:Bool} {x:Value} {d:Option Nat} {p:cl} {l:List AO} {ks:List Kp} {fr:PF} {h:PH}:fr.get t= .v x→dZ b x=false→PK (.ops (m.up [] (fr.aN d (.v undef)) h) l ks) (fr.aN d (.v undef)) h→PK (.ops m (⟨some (t,b),d,p⟩::l) ks) fr h
 |call {m:Mp} {f:Nat} {«as»:List X} {d:Option Nat} {l:List AO} {ks:List Kp} {fr:PF} {h:PH} {W:List Nat} {R:PV→PH→Prop}:JD E O f («as».map (eW fr)) h (· ∈W) R→(∀r h',R r h'→PK (.ops (m.up W (fr.aN d r) h') l ks) (fr.aN d r) h')→PK (.ops m (⟨none,d,.call f «as»⟩::l) ks) fr h
 |callv {m:Mp} {f:Nat} {x:X} {first cap:List PV} {«as»:List X} {d:Option Nat} {l:List AO} {ks:List Kp} {fr:PF} {h:PH} {W:List Nat} {R:PV→PH→Prop}:eW fr x= .fn f first cap→JD E O f (first++«as».map (eW fr)++cap) h (· ∈W) R→(∀r h',R r h'→PK (.ops (m.up W (fr.aN d r) h') l ks) (fr.aN d r) h')→PK (.ops m (⟨none,d,.callv x «as»⟩::l) ks) fr h
 |Ma {ex:Ex} {fr:PF} {h:PH}:Q ex fr h→PK (.done ex []) fr h
 |dns {b:AC} {ks:List Kp} {fr:PF} {h:PH}:PK (.code b ks) fr h→PK (.done .normal (.seq b::ks)) fr h
 |dnb {i:Nat} {ks:List Kp} {fr:PF} {h:PH}:PK (.done .normal ks) fr h→PK (.done .normal (.aS i::ks)) fr h
 |Xr {I:Nat→PF→PH→Prop} {k j:Nat} {ks:List Kp} {fr eV:PF} {h h2:PH}:j<k→Gh n fr h eV h2→I j eV h2→PK (.done .normal (.lp I k::ks)) fr h
 |des {i:Nat} {b:AC} {ks:List Kp} {fr:PF} {h:PH}:PK (.done (.exit i) ks) fr h→PK (.done (.exit i) (.seq b::ks)) fr h
 |HX {i:Nat} {ks:List Kp} {fr:PF} {h:PH}:PK (.done .normal ks) fr h→PK (.done (.exit i) (.aS i::ks)) fr h
 |Mb {i j:Nat} {ks:List Kp} {fr:PF} {h:PH}:j≠i→PK (.done (.exit j) ks) fr h→PK (.done (.exit j) (.aS i::ks)) fr h
 |del {I:Nat→PF→PH→Prop} {k i:Nat} {ks:List Kp} {fr:PF} {h:PH}:PK (.done (.exit i) ks) fr h→PK (.done (.exit i) (.lp I k::ks)) fr h
 |Mc {k:Kp} {ks:List Kp} {fr:PF} {h:PH}:PK (.done .ret ks) fr h→PK (.done .ret (k::ks)) fr h
variable{E O n Q}
def Live (C0:Cx) (C:Cx):Prop:=dO C∧dq C0.h.length tI C0 C
theorem Live.step {C0 C D:Cx} (h:Live C0 C) {W:Nat→Prop} (S:dO D) (T:dq C.h.length W C D):Live C0 D:=
 ⟨S,h.2.trans (T.mono (h.2.len (aqY _)) (fun _ _=>trivial) fun _=>arh (h.2.len (aqY _)) (T.len (aqY _))) (aqY _) (fun _ h=>h) fun _ h=>h⟩
def UP (E:Env) (O:jk) (C0:Cx) (Q:Ex→PF→PH→Prop):Ex→List Kp→Fr→AH→Prop
 |ex,[],af,H=>∃fr F φ h,Q ex fr h∧Live C0 ⟨F,H,φ,h⟩∧mC ⟨F,H,φ,h⟩ fr af
 | .normal,.seq b::ks,af,H=>Wp E O b af H (fun ex rf H'=>UP E O C0 Q ex ks rf H')
 | .normal,.aS _::ks,af,H=>UP E O C0 Q .normal ks af H
 | .normal,.lp I k::ks,af,H=>∃j,j<k∧∃fr F φ h,I j fr h∧Live C0 ⟨F,H,φ,h⟩∧mC ⟨F,H,φ,h⟩ fr af
 | .exit j,.seq _::ks,af,H=>UP E O C0 Q (.exit j) ks af H
 | .exit j,.aS i::ks,af,H=>if j=i then UP E O C0 Q .normal ks af H else UP E O C0 Q (.exit j) ks af H
 | .exit j,.lp _ _::ks,af,H=>UP E O C0 Q (.exit j) ks af H
 | .ret,_::ks,af,H=>UP E O C0 Q .ret ks af H
def TT (l1 l:List AO):Prop:=l1=l∨∃g d p t,l=⟨none,d,p⟩::t∧l1=⟨g,d,p⟩::t
theorem TT.head {a t:List AO} {g:Option (Nat×Bool)} {d:Option Nat} {p:cl} (h:TT a (⟨g,d,p⟩::t)):∃b,a=⟨b,d,p⟩::t:=by
 rcases h with rfl|⟨b,i,f,c,e,rfl⟩
 ·exact ⟨_,rfl⟩
 ·cases e;exact ⟨_,rfl⟩
def Om (E:Env) (O:jk) (C0:Cx) (Q:Ex→PF→PH→Prop) (cf:Cf) (fr:PF) (h:PH):Prop:=∀F H φ af,Live C0 ⟨F,H,φ,h⟩→mC ⟨F,H,φ,h⟩ fr af→match cf with
 | .code c ks=>Wp E O c af H (fun ex rf H'=>UP E O C0 Q ex ks rf H')
 | .ops .pl l ks=>Wo E O l af H (fun rf H'=>UP E O C0 Q .normal ks rf H')
 | .ops .d0 l ks=>∀l0 acc ep W,nC l0 acc ep ⟨F,H,φ,h⟩ W→TT (l0.drop (acc.length- 1)) l→Wt E O l af H (fun ss=>ts l0 [] (ss.reverse++ep)=true∧UP E O C0 Q .normal ks (fH (af,H) ss).1 (fH (af,H) ss).2)
 | .ops (.dr l0 ck acc W) l ks=>∀ep,nC l0 acc ep ⟨F,H,φ,h⟩ W→TT (l0.drop (acc.length- 1)) l→Wt E O l af H (fun ss=>ts l0 ck (ss.reverse++ep)=true∧UP E O C0 Q .normal ks (fH (af,H) ss).1 (fH (af,H) ss).2)
 | .done ex ks=>UP E O C0 Q ex ks af H
theorem Om.step {C0:Cx} {m:Mp} {g:Option (Nat×Bool)} {d:Option Nat} {p:cl} {l:List AO} {J:List Kp} {K:PF} {h:PH} (one:∀F H φ v,Live C0 ⟨F,H,φ,h⟩→mC ⟨F,H,φ,h⟩ K v→qF E O ⟨g,d,p⟩ v H (fun f H'=>∃t s r i V,Live C0 ⟨s,H',r,i⟩∧mC ⟨s,H',r,i⟩ t f∧dq 0 (· ∈V) ⟨F,H,φ,h⟩ ⟨s,H',r,i⟩∧(p.aT=false→H'.nx≤H.nx+1)∧Om E O C0 Q (.ops (m.up V t i) l J) t i)):
 Om E O C0 Q (.ops m (⟨g,d,p⟩::l) J) K h:=by
 intro F H φ v L R
 have mono:∀{M Q2:Fr→AH→Prop},(∀a b,M a b→Q2 a b)→qF E O ⟨g,d,p⟩ v H M→qF E O ⟨g,d,p⟩ v H Q2:=fun k ⟨a,b,c,e,q⟩=>⟨a,b,c,e,k _ _ q⟩
 cases m with
 |pl=>
  refine Wo.cons (mono ?_ (one F H φ v L R));rintro f H' ⟨t,s,r,i,V,x,w,_,_,k⟩;exact k s H' r f x w
 |d0=>
  intro u acc B W C j;rw [iL];refine mono ?_ (one F H φ v L R);rintro f H' ⟨t,s,r,i,V,x,w,T,D,k⟩;have N:=C.length.2
  have y:nC u ((t,i,V++W)::acc) ((f,H')::B) ⟨s,H',r,i⟩ (V++W):=
   .cons C T x.1 w (fun o z I=>by
    obtain ⟨A,j⟩:=j.head
    have:u[acc.length- 1]?=some ⟨A,d,p⟩:=by
     have:=congrArg List.head? j
     simpa [List.head?_drop]using this
    rw [tW,this]at z;cases z
    exact D I)
  have G:TT (u.drop (((t,i,V++W)::acc).length- 1)) l:=by
   obtain ⟨A,j⟩:=j.head;left;simp only [List.length_cons,Nat.add_sub_cancel];rw [show acc.length=acc.length- 1+1 by omega,←List.drop_drop,j];rfl
  have:=k s H' r f x w u _ ((f,H')::B) _ y G;refine (fun⟨a,b,e,q⟩=>⟨a,b,e,?_⟩:Wt E O l f H' _→Wt E O l f H' _) this
  simpa [fH]using q
 |dr u P acc W=>
  intro B C j;rw [iL];refine mono ?_ (one F H φ v L R);rintro f H' ⟨t,s,r,i,V,x,w,T,D,k⟩;have N:=C.length.2
  have y:nC u ((t,i,V++W)::acc) ((f,H')::B) ⟨s,H',r,i⟩ (V++W):=
   .cons C T x.1 w (fun o z I=>by
    obtain ⟨A,j⟩:=j.head
    have:u[acc.length- 1]?=some ⟨A,d,p⟩:=by
     have:=congrArg List.head? j
     simpa [List.head?_drop]using this
    rw [tW,this]at z;cases z
    exact D I)
  have G:TT (u.drop (((t,i,V++W)::acc).length- 1)) l:=by
   obtain ⟨A,j⟩:=j.head;left;simp only [List.length_cons,Nat.add_sub_cancel];rw [show acc.length=acc.length- 1+1 by omega,←List.drop_drop,j];rfl
  have:=k s H' r f x w ((f,H')::B) y G;refine (fun⟨a,b,e,q⟩=>⟨a,b,e,?_⟩:Wt E O l f H' _→Wt E O l f H' _) this
  simpa [fH]using q
theorem PK.sound {C0:Cx} (M:n=C0.h.length):∀{cf:Cf} {u:PF} {h:PH},PK E O n Q cf u h→Om E O C0 Q cf u h:=by
 intro cf u h k
 induction k with
 |skip _ ih=>exact fun F H s o L R=>Wp.skip (ih F H s o L R)
 |ret _ ih=>exact fun F H s o L R=>Wp.ret (ih F H s o L R)
 |exit _ ih=>exact fun F H s o L R=>Wp.exit (ih F H s o L R)
 |bG _ ih=>exact fun F H s o L R=>Wp.bG (ih F H s o L R)
 | @bQ l c ck z u h _ ih=>
  intro F H s o L R;have:=ih F H s o L R [(o,H)] (.one L.1 R) (.inl rfl);refine Wp.bQ ?_;obtain ⟨a,ss,e,C,h2⟩:=this;unfold ts at C;simp only [List.reverse_append,List.reverse_cons,List.reverse_nil,List.nil_append,List.reverse_reverse,List.cons_append,aqX]at C;exact ⟨a,ss,e,C,h2⟩
 | @B8 l z u h _ ih=>
  intro F H s o L R;have:=ih F H s o L R l _ [(o,H)] _ (.one L.1 R) (.inl rfl);refine Wp.bQ ?_;obtain ⟨a,ss,e,C,h2⟩:=this;unfold ts at C;simp only [List.reverse_append,List.reverse_cons,List.reverse_nil,List.nil_append,List.reverse_reverse,List.cons_append,aqX]at C;exact ⟨a,ss,e,C,h2⟩
 | @seq a b z u h _ ih=>
  intro F H s o L R;refine Wp.seq ((ih F H s o L R).mono ?_);intro ex bP V q;cases ex<;>exact q
 | @block i a z u h _ ih=>
  intro F H s o L R;refine Wp.block ((ih F H s o L R).mono ?_);intro ex bP V q;cases ex<;>exact q
 | @cond x a b t z u h e _ ih=>
  intro F H s o L R;have w:=R.ev x;rw [e]at w
  exact Wp.cond w.qw (by
   have:=ih F H s o L R
   cases t<;>exact this)
 | @loop a z u eV h h2 I k _ g P ih=>
  intro F H s o L R;obtain ⟨F',N,S',A,T'⟩:=g F H s o L.1 R;refine Wp.loop (fun k o H=>∃u F s h,I k u h∧Live C0 ⟨F,H,s,h⟩∧mC ⟨F,H,s,h⟩ u o) ?_ k ⟨eV,F',N,h2,P,⟨S',M▸T' C0 M.symm (M▸L.2)⟩,A⟩;rintro k o H ⟨u,F,s,h,P,L,R⟩;refine (ih k u h P F H s o L R).mono ?_;intro ex rf V q;cases ex<;>exact q
 |L9 _ ih=>exact fun F H s o L R=>Wo.nil (ih F H s o L R)
 |B9 _ ih=>exact fun F H s o L R Y acc U W K B=>Wt.nil ⟨by have:=HV K (ck:=[]) rfl;simpa using this,ih F H s o L R⟩
 | @xY Y ck acc W z u h ok _ ih=>
  intro F H s o L R U K B;exact Wt.nil ⟨by simpa using HV K ok,ih F H s o L R⟩
 | @op m d p l z u h G v e _ ih=>
  refine Om.step fun F H s o L R=>?_
  obtain ⟨b,Z,x,V,N,rfl,w,S,T⟩:=Ru L.1 (R.ev) e;refine qF.val rfl Z ?_;exact ⟨_,F,N,G,_,L.step S T,(R.step T).aN w d,T.mono (aro _) (fun _ h=>h) (fun _=>aro _),fun _=>RC Z rfl,ih⟩
 | @Xq m t b x d p l z u h e hw _ ih=>
  have eqv:∀{o:Fr} {H:AH} {Q:Fr→AH→Prop},AO.wanted ⟨some (t,b),d,p⟩ o=true→qF E O ⟨none,d,p⟩ o H Q→qF E O ⟨some (t,b),d,p⟩ o H Q:=by
   intro o H Q C h2;rw [fK _ _ _ _ C];rwa [fK _ _ _ _ rfl]at h2
  intro F H s o L R;have w:=R t;rw [e]at w;have D:AO.wanted ⟨some (t,b),d,p⟩ o=true:=by rw [lZ,w.qw];exact hw
  have:=ih F H s o L R
  cases m with
  |pl=>
   refine Wo.cons (eqv D ?_);exact (gJ _ _ _ _ _).1 this
  |d0=>
   intro Y acc U W K B;rw [iL];obtain ⟨g',B⟩:=B.head;exact eqv D ((iL _ _ _ _ _).1 (this Y acc U W K (.inr ⟨g',d,p,l,rfl,B⟩)))
  |dr Y ck acc W=>
   intro U K B;rw [iL];obtain ⟨g',B⟩:=B.head;exact eqv D ((iL _ _ _ _ _).1 (this U K (.inr ⟨g',d,p,l,rfl,B⟩)))
 | @HW m t b x d p l z u h e hw _ ih=>
  refine Om.step fun F H s o L R=>?_
  have w:=R t;rw [e]at w;refine qF.off (by rw [lZ,w.qw];exact hw) ?_;exact ⟨_,F,s,h,[],L,R.aN (.v _) d,dq.refl _ _ _,fun _=>arn _,ih⟩
 | @call m f «as» d l z u h W R hc _ ih=>
  refine Om.step fun F H s o L A=>?_
  refine qF.call rfl rfl ?_;refine (hc F H s _ L.1 (cH.of A.ev «as»)).mono ?_;rintro x V ⟨r,G,F2,lP,hR,w,S2,J⟩;exact ⟨_,F2,lP,G,W,L.step S2 J,(A.step J).aN w d,J.mono (aro _) (fun _ h=>h) (fun _=>aro _),(fun q=>by cases q),ih r G hR⟩
 | @callv m f x first cap «as» d l z u h W R hf hc _ ih=>
  refine Om.step fun F H s o L A=>?_
  have w:=A.ev x;rw [hf]at w;revert w;generalize hy:X.ev o x=y;intro w
  cases w with| @fn _ _ _ xs ys ha Z=>
  refine qF.call rfl (f:=f) («as»:=xs++«as».map (X.ev o)++ys) (H1:=H) (by simp only [ar,hy]) ?_;refine (hc F H s _ L.1 ((ha.append (cH.of A.ev «as»)).append Z)).mono ?_;rintro x V ⟨r,G,F2,lP,hR,w,S2,J⟩;exact ⟨_,F2,lP,G,W,L.step S2 J,(A.step J).aN w d,J.mono (aro _) (fun _ h=>h) (fun _=>aro _),(fun q=>by cases q),ih r G hR⟩
 | @Ma ex u h q=>
  intro F H s o L R;simp only [UP];exact ⟨u,F,s,h,q,L,R⟩
 |dns _ ih=>exact fun F H s o L R=>ih F H s o L R
 |dnb _ ih=>exact fun F H s o L R=>ih F H s o L R
 | @Xr I k j z u eV h h2 hj g P=>
  intro F H s o L R;obtain ⟨F',N,S',A,T'⟩:=g F H s o L.1 R;exact ⟨j,hj,eV,F',N,h2,P,⟨S',M▸T' C0 M.symm (M▸L.2)⟩,A⟩
 |des _ ih=>exact fun F H s o L R=>ih F H s o L R
 | @HX i z u h _ ih=>
  intro F H s o L R;show(if i=i then _ else _);rw [if_pos rfl];exact ih F H s o L R
 | @Mb i j z u h hj _ ih=>
  intro F H s o L R;show(if j=i then _ else _);rw [if_neg hj];exact ih F H s o L R
 |del _ ih=>exact fun F H s o L R=>ih F H s o L R
 | @Mc k z u h _ ih=>
  intro F H s o L R;cases k<;>exact ih F H s o L R
end P
end Go.Proofs.YtppcmpmnglaleaaGreatDoor.A
