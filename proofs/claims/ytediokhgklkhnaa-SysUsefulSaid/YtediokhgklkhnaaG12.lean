/- Texts that stand one behind the other: AbsR, Pm0, Pm1, Pm2, Pm3, Pm4, Pm5, Pm6, Pm7. -/
import Derived.Test.YtediokhgklkhnaaG11
import Derived.SizedLaws
import Derived.OpenShut
import Derived.ProofKit
import Derived.ChangeOld
import Derived.ShutString
set_option linter.unusedVariables false
set_option linter.unusedSimpArgs false
namespace Go.Proofs.Ytediokhgklkhnaa.A
section
open Go Go.RowKit Go.WideShapes Go.ChangeShapes
section
variable{T:Type} {enc:TypeId×Value→T} {P:Program} {W:World}
theorem B4 {α:Type} {l:List α} (h:l.length=2):∃a b,l=[a,b]:=by
 match l,h with
 |[a,b],_=>exact ⟨a,b,rfl⟩
def Rd (enc:TypeId×Value→T) (P:Program) (W:World) (n:Nat) (t:TypeId) (cs:List Value) (d:DataW T):Prop:=∃ps,DataW.trod enc P W 0 (fun _=>true) true n t cs=some (d,ps)
def sg (P:Program) (t:TypeId) (d:DataW T):Prop:=∀n∈d.weights P t,n≤reachBytes
theorem jF {n:Nat} {t:TypeId} {k:IntKind} {cs:List Value} {d:DataW T} (a:P.underlying t=some (.int k)) (h:Rd enc P W n t cs d):∃m,cs=[.int k m]∧(Lit.int k m).wf=true:=by
 obtain ⟨ps,h⟩:=h;obtain ⟨m,b,_,h2⟩:=DataW.trod_int a h;exact ⟨m,b,h2⟩
theorem wf_i64 {m:Int} (h:(Lit.int .i64 m).wf=true):m7 m:=by
 have:=bounds_i64 h;unfold m7;omega
theorem oV {b o:Nat} {v:Value} (h:W.cell? ⟨b,o,none⟩=some v):∃arr ty d,W.heap[b]?=some (.cells arr ty d)∧arr[o]?=some v:=by
 unfold World.cell? at h;dsimp only at h;split at h
 ·rename_i c e f a
  simp at h;exact ⟨c,e,f,a,h⟩
 ·cases h
theorem u2 {b o n:Nat} {cs l:List Value} (m:0<n) (s:cs.length=n) (h:∀j,j<n→W.cell? ⟨b,o+j,none⟩=cs[j]?) (q:al W.heap.size cs=some l):b<W.heap.size∧(H0 W).ldn ⟨b,o,none⟩ n=some l:=by
 obtain ⟨arr,ty,u,f,t⟩:=oV (b:=b) (o:=o) (v:=cs[0]'(by omega)) (by have:=h 0 m;rw [Nat.add_zero]at this;rw [this];exact OG (by omega));have d:=(OV.1 f).1;refine ⟨d,?_⟩
 have c:∀j,j<n→arr[o+j]?=cs[j]?:=by
  intro j c;have:=h j c;obtain ⟨i,_,_,g,r⟩:=oV (v:=cs[j]'(by omega)) (by rw [this];exact OG (by omega));rw [f]at g;cases g;rw [r,OG (by omega)]
 have a:o+n≤arr.toList.length:=by
  have:=c (n- 1) (by omega);rw [OG (by omega)]at this;have:=(OV.1 this).1;rw [Array.length_toList];omega
 have k:(arr.toList.drop o).take n=cs:=by
  apply List.ext_getElem?;intro j;by_cases e:j<n
  ·rw [Pg,if_pos e,Pm,Array.getElem?_toList,c j e]
  ·rw [Pg,if_neg e,Pn (by omega)]
 have p:(H0 W).get b=some (.cells 1048576 arr.toList):=by
  rw [AH.b6 d,nJ];unfold ko;rw [f]
 unfold AH.ldn;dsimp only;rw [p];simp only [a,decide_true,cond_true,k];rw [show decide (b<(H0 W).n0)=true from decide_eq_true d,cond_true];exact q
inductive lh {α β:Type} (C:α→β→Prop):List α→List β→Prop where
 |nil:lh C [] []
 |cons {a:α} {b:β} {l:List α} {m:List β}:C a b→lh C l m→lh C (a::l) (b::m)
theorem lh.length {α β:Type} {C:α→β→Prop}:∀{l:List α} {m:List β},lh C l m→l.length=m.length
 |_,_,.nil=>rfl
 |_,_,.cons _ h=>by simp [lh.length h]
theorem u3 {α β:Type} {C:α→β→Prop} {l:List α}:(∀(i:Nat) (a:α),l[i]?=some a→∃b,C a b)→∃m,lh C l m:=by
 induction l with
 |nil=>exact fun _=>⟨[],.nil⟩
 |cons a l ih=>
  intro h;obtain ⟨b,e⟩:=h 0 a rfl;obtain ⟨m,d⟩:=ih fun i x c=>h (i+1) x (by simpa using c)
  exact ⟨b::m,.cons e d⟩
theorem oW {α:Type} {p:Nat→α→Prop}:∀n,(∀i,i<n→∃x,p i x)→∃l:List α,l.length=n∧∀i x,l[i]?=some x→p i x
 |0,_=>⟨[],rfl,by simp⟩
 |n+1,h=>by
  obtain ⟨l,b,d⟩:=oW n fun i hi=>h i (by omega)
  obtain ⟨x,c⟩:=h n (by omega);refine ⟨l++[x],by simp [b],fun i y a=>?_⟩;by_cases hi:i<n
  ·rw [OU (by omega)]at a;exact d i y a
  ·rw [OY (by omega)]at a
   have:i=n:=by
    have:=(ON.1 a).1;simp at this;omega
   subst this;simp [b]at a;subst a;exact c
theorem u4 {α:Type} {C:List Value→α→Prop} {t e:TypeId} {fuel:Nat} {cs:List Value} {d:DataW T} (D:P.underlying t=some (.slice e)) (I:0<P.cellsOf e) (Kc:0<P.bytesOf e)
 (h:Rd enc P W fuel t cs d) (M:sg P t d) (rd:∀m bt g,m<fuel→Rd enc P W m e bt g→sg P e g→∃l y,al W.heap.size bt=some l∧C l y):
 ∃v rows ys,al W.heap.size cs=some [v]∧Rows (H0 W) (P.cellsOf e) v rows∧lh C rows ys∧rows.length*P.bytesOf e≤reachBytes:=by
 obtain ⟨ps,h⟩:=h;rcases DataW.trod_slice D h with⟨rfl,_⟩|⟨a,len,cap,elems,rest,n,hf,rfl,q,_,Z,_,s,R,_,_⟩
 ·exact ⟨_,[],[],rfl,⟨_,_,rfl,by simp⟩,.nil,by simp⟩
 cases q
 have B:∀m∈((elems.map (·.1)).length+(rest.map (·.1)).length)*P.bytesOf e::(DataW.weightsAll P e (elems.map (·.1))++DataW.weightsAll P e (rest.map (·.1))),m≤reachBytes:=by
  intro m f;refine M m ?_;simp only [DataW.weights,D];exact f
 have U:len*P.bytesOf e≤reachBytes:=by
  have:=B _ (List.mem_cons_self ..);rw [List.length_map,s]at this;exact O3 (Nat.mul_le_mul_right _ (by omega)) this
 have X:∀(l:List (DataW T)) (x:DataW T),x∈l→∀m∈x.weights P e,m∈DataW.weightsAll P e l:=by
  intro l
  induction l with
  |nil=>intro x q;cases q
  |cons y l ih=>
   intro x q m f;simp only [DataW.weightsAll,O1];rcases OZ.1 q with rfl|q
   ·exact .inl f
   ·exact .inr (ih x q m f)
 by_cases Y:len=0
 ·subst Y
  cases E:(decide (a.block<W.heap.size)&&a.spot.isNone)with
  |true=>exact ⟨.slice (some a) 0 cap,[],[],by simp only [al,au,E,cond_true],⟨_,_,rfl,by simp⟩,.nil,by simp⟩
  |false=>exact ⟨.slice (some ⟨0,0,some 1⟩) 0 0,[],[],by simp [al,au,E],⟨_,_,rfl,by simp⟩,.nil,by simp⟩
 obtain ⟨b,o,spot⟩:=a
 have key:∀i,i<len→∃bt g,(∃m,m<fuel∧Rd enc P W m e bt g)∧sg P e g∧W.cells? 0 ((⟨b,o,spot⟩:Addr).add (i*P.cellsOf e)) (P.cellsOf e)=some bt:=by
  intro i hi;have:=R i hi;rw [OG (by omega)]at this;obtain ⟨bt,A,h2⟩:=OS.1 this;refine ⟨bt,(elems[i]'(by omega)).1,⟨n,by omega,⟨_,h2⟩⟩,fun m f=>?_,A⟩;refine B m (List.mem_cons_of_mem _ (List.mem_append_left _ (X _ _ ?_ m f)));exact List.mem_map_of_mem (List.getElem_mem _)
 have N:spot=none∧b<W.heap.size:=by
  obtain ⟨bt,g,_,_,z⟩:=key 0 (by omega);obtain ⟨_,H,w⟩:=World.cells?_some z;have:=w 0 I;rw [OG (by omega)]at this;simp only [Nat.zero_mul,Addr.add,if_true]at this;unfold World.cell? at this;dsimp only at this;split at this
  ·rename_i c ty fz S
   cases spot with
   |none=>exact ⟨rfl,(OV.1 S).1⟩
   |some x=>simp at this
  ·cases this
 obtain ⟨rfl,V⟩:=N
 have J:∀o k,(⟨b,o,none⟩:Addr).add k=⟨b,o+k,none⟩:=by
  intro o k;unfold Addr.add;split
  ·rename_i O;subst O;rfl
  ·rfl
 obtain ⟨rows,G,F⟩:=oW (p:=fun i (r:List Value)=>(∃y,C r y)∧(H0 W).ldn ⟨b,o+i*P.cellsOf e,none⟩ (P.cellsOf e)=some r) len (fun i hi=>by
  obtain ⟨bt,g,⟨m,f,u⟩,L,z⟩:=key i hi;obtain ⟨l,y,A,h2⟩:=rd m bt g f u L;obtain ⟨_,H,w⟩:=World.cells?_some z;refine ⟨l,⟨y,h2⟩,(u2 I H (fun j Q=>?_) A).2⟩;have:=w j Q;rw [J,J]at this
  exact this)
 obtain ⟨ys,K⟩:=u3 (l:=rows) (C:=C) fun i r u=>(F i r u).1
 refine ⟨.slice (some ⟨b,o,none⟩) len cap,rows,ys,?_,⟨_,_,by rw [G],fun i r hi=>⟨b,o,rfl,(F i r hi).2⟩⟩,K,by rw [G];exact U⟩;simp [al,au,V]
theorem qm {t:TypeId} {b:Array Field} {fuel:Nat} {cs:List Value} {d:DataW T} (a:P.underlying t=some (.struct b)) (h:Rd enc P W fuel t cs d) (e:sg P t d):
 cs.length=P.cellsOf t∧∃m,m<fuel∧∀(i:Nat) (f:Field),b[i]?=some f→∃di,Rd enc P W m f.type ((cs.drop f.offset).take (P.cellsOf f.type)) di∧sg P f.type di:=by
 obtain ⟨ps,h⟩:=h;obtain ⟨xs,n,q,c,k,o,l⟩:=DataW.trod_struct a h;cases c;refine ⟨k,n,by omega,fun i f hi=>?_⟩;have p:=(OV.1 hi).1;have:=l i f hi;rw [OG (by omega)]at this;refine ⟨_,⟨_,this⟩,fun m g=>e m ?_⟩;simp only [DataW.weights,a];exact DataW.weights_mem_each (j:=i) (t:=f.type) (d:=(xs[i]'(by omega)).1) (by simp [hi]) (by simp [OG (show i<xs.length by omega)]) m g
theorem dm {a:Nat} {k:IntKind} {m:Int} {cs l:List Value} (h:al a cs=some l):al a (.int k m::cs)=some (.int k m::l):=by simp [al,au,flat,h]
theorem eW {b:Nat} {c v:Value} {cs l:List Value} (a:al b [c]=some [v]) (h:al b cs=some l):al b (c::cs)=some (v::l):=by
 simp only [al]at a⊢;split at a
 ·rename_i x m h2 d
  simp only [OH]at d;subst d;simp only [OH,List.cons.injEq,and_true]at a;subst a;simp [h2,h]
 ·cases a
theorem u7 {c:Array Value} {l:List Value} (h:al W.heap.size c.toList=some l):V (jD W) (.agg l.toArray) (.agg c):=by
 obtain ⟨a,h2⟩:=ji (Gf W) (l:=c.toList) (m:=l) h;exact .agg (by simpa using a) (by simpa using h2)
end
end
namespace P
open Go Go.RowKit
def u9:Value→Bool
 | .bool _| .int _ _| .string _| .pointer _| .slice _ _ _| .map _| .nilFunc| .nilIface=>true
 |_=>false
inductive PV where
 |v (x:Value)
 |ref (b o t:Nat)
 |sl (sz b o n c:Nat)
 |mp (b:Nat)
 |fs (sz:Nat) (rows:List (List PV))
 |fp (cells:List PV)
 |agg (cs:List PV)
 |dB (cs:List PV)
 |fn (f:Nat) (first cap:List PV)
 |iT (t:Nat) (p:PV)
 |any
inductive PB where
 |cells (z:Nat) (cs:List PV)
 |map (es:List (Value×PV))
 |dead
abbrev PH:=List PB
structure Cx where
 F:Nat→Prop
 H:AH
 φ:Nat→Nat
 h:PH
mutual
inductive RF (F:Nat→Prop) (H:AH):PV→Value→Prop
 |v (x:Value):RF F H (.v x) x
 |fs {sz:Nat} {rows:List (List PV)} {a:Option Addr} {c:Nat} {rs:List (List Value)}:Rows H sz (.slice a rows.length c) rs→rows.length≤c→(∀d,a=some d→(d.spot=none∨c=0)∧(rows.length=0∨(F d.block∧H.gj d.block sz=true)))→fv F H rows rs→RF F H (.fs sz rows) (.slice a rows.length c)
inductive dV (F:Nat→Prop) (H:AH):List PV→List Value→Prop
 |nil:dV F H [] []
 |cons {p:PV} {x:Value} {ps:List PV} {xs:List Value}:RF F H p x→dV F H ps xs→dV F H (p::ps) (x::xs)
inductive fv (F:Nat→Prop) (H:AH):List (List PV)→List (List Value)→Prop
 |nil:fv F H [] []
 |cons {p:List PV} {x:List Value} {ps:List (List PV)} {xs:List (List Value)}:dV F H p x→fv F H ps xs→fv F H (p::ps) (x::xs)
end
def At (h:PH) (b t:Nat):Prop:=∃z cs,h[b]?=some (.cells z cs)∧cs.length=t
def Le (h:PH) (b t:Nat):Prop:=∀z cs,h[b]?=some (.cells z cs)→t≤cs.length
def ec (h:PH) (b:Nat):Prop:=∃es,h[b]?=some (.map es)
def aH (h:PH) (b:Nat):Prop:=ec h b∨∃t,At h b (t+1)
def Hf (a sz o n c:Nat) (x:Value):Prop:=(c=0∧n=0∧∃d:Option Addr,x= .slice d 0 0∧∀e,d=some e→e.spot=none)∨(0<c∧x= .slice (some ⟨a,o*sz,none⟩) n c)
def EB (n:Nat) (x:Value):Prop:=∃a c,x= .slice a n c
theorem EB.sm {n:Nat} {x:Value} (h:EB n x):u9 x=true:=by
 obtain ⟨_,_,rfl⟩:=h;rfl
mutual
inductive RV (C:Cx):PV→Value→Prop
 |v (x:Value):RV C (.v x) x
 |ref {b o t:Nat} {x:Value}:u9 x=true→b<C.h.length→Le C.h b t→(At C.h b t→x= .pointer (some ⟨C.φ b,o,none⟩))→RV C (.ref b o t) x
 |sl {sz b o n c:Nat} {x:Value}:EB n x→b<C.h.length→Le C.h b ((o+c)*sz)→(At C.h b ((o+c)*sz)→Hf (C.φ b) sz o n c x)→RV C (.sl sz b o n c) x
 |mp {b:Nat} {x:Value}:u9 x=true→b<C.h.length→(ec C.h b→x= .map (some (C.φ b)))→RV C (.mp b) x
 |fs {sz:Nat} {rows:List (List PV)} {x:Value}:RF C.F C.H (.fs sz rows) x→RV C (.fs sz rows) x
 |fp {cells:List PV} {b o:Nat} {vs:List Value}:C.F b→C.H.ldn ⟨b,o,none⟩ cells.length=some vs→dV C.F C.H cells vs→RV C (.fp cells) (.pointer (some ⟨b,o,none⟩))
 |agg {cs:List PV} {xs:List Value}:aZ C cs xs→RV C (.agg cs) (.agg xs.toArray)
 |dB {cs:List PV} {xs:List Value}:aZ C cs xs→RV C (.dB cs) (.tuple xs.toArray)
 |fn {f:Nat} {a b:List PV} {xs ys:List Value}:aZ C a xs→aZ C b ys→RV C (.fn f a b) (.func (.func f) xs.toArray ys.toArray)
 |iT {t:Nat} {p:PV} {x:Value}:RV C p x→RV C (.iT t p) (.iface t x)
 |any (x:Value):RV C .any x
inductive aZ (C:Cx):List PV→List Value→Prop
 |nil:aZ C [] []
 |cons {p:PV} {x:Value} {ps:List PV} {xs:List Value}:RV C p x→aZ C ps xs→aZ C (p::ps) (x::xs)
end
theorem aZ.length {C:Cx}:∀{ps:List PV} {xs:List Value},aZ C ps xs→ps.length=xs.length
 |_,_,.nil=>rfl
 |_,_,.cons _ h=>by simp [aZ.length h]
theorem dV.length {F:Nat→Prop} {H:AH}:∀{ps:List PV} {xs:List Value},dV F H ps xs→ps.length=xs.length
 |_,_,.nil=>rfl
 |_,_,.cons _ h=>by simp [dV.length h]
theorem fv.length {F:Nat→Prop} {H:AH}:∀{ps:List (List PV)} {xs:List (List Value)},fv F H ps xs→ps.length=xs.length
 |_,_,.nil=>rfl
 |_,_,.cons _ h=>by simp [fv.length h]
structure bI (C:Cx):Prop where
 wf:C.H.n0≤C.H.nx
 fz:∀x,C.F x→x<C.H.nx
 inj:∀b b',aH C.h b→aH C.h b'→C.φ b=C.φ b'→b=b'
 bF:∀b z cs,C.h[b]?=some (.cells z cs)→cs≠[]→∃vs,C.H.get (C.φ b)=some (.cells z vs)∧aZ C cs vs∧C.H.n0≤C.φ b∧¬ C.F (C.φ b)
 oX:∀b es,C.h[b]?=some (.map es)→∃ys,C.H.get (C.φ b)=some (.map ys)∧es.map (·.1)=ys.map (·.1)∧aZ C (es.map (·.2)) (ys.map (·.2))∧C.H.n0≤C.φ b∧¬ C.F (C.φ b)
def im (C:Cx) (W:Nat→Prop) (x:Nat):Prop:=∃b,W b∧aH C.h b∧C.φ b=x
structure bA (n:Nat) (W:Nat→Prop) (C D:Cx):Prop where
 n0:D.H.n0=C.H.n0
 nx:C.H.nx≤D.H.nx
 fz:∀x,C.F x→D.F x∧D.H.get x=C.H.get x
 fo:∀x,x<C.H.nx→¬ im C (fun _=>True) x→D.F x→C.F x
 out:∀x,x<C.H.nx→¬ im C W x→D.H.get x=C.H.get x
 loc:∀b,aH D.h b→C.H.nx≤D.φ b∨(aH C.h b∧D.φ b=C.φ b)
 len:n≤C.h.length→n≤D.h.length
 le:∀b,b<n→b<C.h.length→∀t,Le C.h b t→Le D.h b t
 lS:∀b,b<n→b<C.h.length→∀t,Le C.h b t→At D.h b t→At C.h b t∧D.φ b=C.φ b
 mu:∀b,b<n→b<C.h.length→ec D.h b→ec C.h b∧D.φ b=C.φ b
theorem bA.mono {n m:Nat} {W V:Nat→Prop} {C D:Cx} (h:bA n W C D) (c:m≤n) (f:∀b,W b→V b) (e:m≤C.h.length→m≤D.h.length):bA m V C D where
 n0:=h.n0
 nx:=h.nx
 fz:=h.fz
 fo:=h.fo
 out:=fun x d k=>h.out x d fun⟨b,a,q⟩=>k ⟨b,f b a,q⟩
 loc:=h.loc
 len:=e
 le:=fun b a=>h.le b (O4 a c)
 lS:=fun b a=>h.lS b (O4 a c)
 mu:=fun b a=>h.mu b (O4 a c)
theorem im.lt {C:Cx} (S:bI C) {W:Nat→Prop} {x:Nat} (h:im C W x):x<C.H.nx:=by
 obtain ⟨b,_,f,rfl⟩:=h;rcases f with⟨es,c⟩|⟨t,z,cs,c,d⟩
 ·obtain ⟨_,a,_⟩:=S.oX b es c
  exact AH.eM a
 ·obtain ⟨_,a,_⟩:=S.bF b z cs c (by intro e;subst e;simp at d)
  exact AH.eM a
theorem bA.refl (n:Nat) (W:Nat→Prop) (C:Cx):bA n W C C where
 n0:=rfl
 nx:=OL _
 fz:=fun x a=>⟨a,rfl⟩
 fo:=fun _ _ _ h=>h
 out:=fun _ _ _=>rfl
 loc:=fun b c=>.inr ⟨c,rfl⟩
 len:=id
 le:=fun _ _ _ _ h=>h
 lS:=fun _ _ _ _ _ h=>⟨h,rfl⟩
 mu:=fun _ _ _ h=>⟨h,rfl⟩
theorem bA.trans {n:Nat} {V W U:Nat→Prop} {C D X:Cx} (h:bA n V C D) (k:bA n W D X) (m:n≤C.h.length) (z:∀b,V b→U b) (y:∀b,W b→U b):bA n U C X where
 n0:=k.n0.trans h.n0
 nx:=O3 h.nx k.nx
 fz:=fun x i=>by
  obtain ⟨a,b⟩:=h.fz x i;obtain ⟨c,d⟩:=k.fz x a;exact ⟨c,d.trans b⟩
 fo:=fun x i hi w=>by
  refine h.fo x i hi (k.fo x (O4 i h.nx) ?_ w);rintro ⟨b,_,j,rfl⟩;rcases h.loc b j with q|⟨q,e⟩
  ·omega
  ·exact hi ⟨b,trivial,q,e.symm⟩
 out:=fun x i hi=>by
  have e:=h.out x i fun⟨b,f,q⟩=>hi ⟨b,z b f,q⟩
  rw [←e];refine k.out x (O4 i h.nx) ?_;rintro ⟨b,f,j,rfl⟩;rcases h.loc b j with q|⟨q,e⟩
  ·omega
  ·exact hi ⟨b,y b f,q,e.symm⟩
 loc:=fun b f=>by
  rcases k.loc b f with q|⟨j,e⟩
  ·exact .inl (O3 h.nx q)
  ·rcases h.loc b j with q|⟨v,A⟩
   ·exact .inl (by omega)
   ·exact .inr ⟨v,e.trans A⟩
 len:=fun g=>k.len (h.len g)
 le:=fun b f g t l=>k.le b f (O4 f (h.len m)) t (h.le b f g t l)
 lS:=fun b f g t l o=>by
  obtain ⟨u,s⟩:=k.lS b f (O4 f (h.len m)) t (h.le b f g t l) o;obtain ⟨r,p⟩:=h.lS b f g t l u;exact ⟨r,s.trans p⟩
 mu:=fun b f g o=>by
  obtain ⟨u,s⟩:=k.mu b f (O4 f (h.len m)) o;obtain ⟨r,p⟩:=h.mu b f g u;exact ⟨r,s.trans p⟩
theorem si {H a:AH} {b sz:Nat} (h:a.get b=H.get b):a.gj b sz=H.gj b sz:=by unfold AH.gj;rw [h]
section
variable{F F':Nat→Prop} {H H':AH} (n0:H'.n0=H.n0) (hF:∀x,F x→F' x∧H'.get x=H.get x)
theorem Rows.fz {sz:Nat} {a:Option Addr} {n c:Nat} {rs:List (List Value)} (n0:H'.n0=H.n0) (hF:∀x,F x→F' x∧H'.get x=H.get x) (h:Rows H sz (.slice a n c) rs) (k:∀d,a=some d→(d.spot=none∨c=0)∧(n=0∨(F d.block∧H.gj d.block sz=true))):Rows H' sz (.slice a n c) rs∧(∀d,a=some d→(d.spot=none∨c=0)∧(n=0∨(F' d.block∧H'.gj d.block sz=true))):=by
 obtain ⟨s,p,e,q⟩:=h.is;cases e;refine ⟨⟨_,_,rfl,fun i r hi=>?_⟩,fun d g=>?_⟩
 ·obtain ⟨b,o,rfl,m⟩:=q i r hi
  refine ⟨b,o,rfl,?_⟩;rcases (k _ rfl).2 with j|⟨f,_⟩
  ·have:=(ON.1 hi).1;omega
  ·rw [←m]
   exact cm (hF b f).2 n0
 ·refine ⟨(k d g).1,?_⟩
  rcases (k d g).2 with j|⟨f,l⟩
  ·exact .inl j
  ·exact .inr ⟨(hF _ f).1,by rw [si (hF _ f).2];exact l⟩
mutual
theorem RF.mono (n0:H'.n0=H.n0) (hF:∀x,F x→F' x∧H'.get x=H.get x):∀{p:PV} {x:Value},RF F H p x→RF F' H' p x
 |_,_,.v x=>.v x
 |_,_,.fs b c d a=>let q:=Rows.fz n0 hF b d; .fs q.1 c q.2 (fv.mono n0 hF a)
theorem dV.mono (n0:H'.n0=H.n0) (hF:∀x,F x→F' x∧H'.get x=H.get x):∀{p:List PV} {x:List Value},dV F H p x→dV F' H' p x
 |_,_,.nil=>.nil
 |_,_,.cons a b=>.cons (RF.mono n0 hF a) (dV.mono n0 hF b)
theorem fv.mono (n0:H'.n0=H.n0) (hF:∀x,F x→F' x∧H'.get x=H.get x):∀{p:List (List PV)} {x:List (List Value)},fv F H p x→fv F' H' p x
 |_,_,.nil=>.nil
 |_,_,.cons a b=>.cons (dV.mono n0 hF a) (fv.mono n0 hF b)
end
end
mutual
theorem RV.step {W:Nat→Prop} {C D:Cx} (h:bA C.h.length W C D):∀{p:PV} {x:Value},RV C p x→RV D p x
 |_,_, .v x=> .v x
 |_,_, .ref f c d k=> .ref f (O4 c (h.len (OL _))) (h.le _ c c _ d) fun e=>by
  obtain ⟨i,g⟩:=h.lS _ c c _ d e;rw [g];exact k i
 |_,_, .sl f c d k=> .sl f (O4 c (h.len (OL _))) (h.le _ c c _ d) fun e=>by
  obtain ⟨i,g⟩:=h.lS _ c c _ d e;rw [g];exact k i
 |_,_, .mp f c k=> .mp f (O4 c (h.len (OL _))) fun e=>by
  obtain ⟨i,g⟩:=h.mu _ c c e;rw [g];exact k i
 |_,_, .fs k=> .fs (k.mono h.n0 h.fz)
 |_,_, .fp j d k=> .fp (h.fz _ j).1 (by rw [←d];exact cm (h.fz _ j).2 h.n0) (k.mono h.n0 h.fz)
 |_,_, .agg k=> .agg (aZ.step h k)
 |_,_, .dB k=> .dB (aZ.step h k)
 |_,_, .fn a b=> .fn (aZ.step h a) (aZ.step h b)
 |_,_, .iT a=> .iT (RV.step h a)
 |_,_, .any x=> .any x
theorem aZ.step {W:Nat→Prop} {C D:Cx} (h:bA C.h.length W C D):∀{p:List PV} {x:List Value},aZ C p x→aZ D p x
 |_,_, .nil=> .nil
 |_,_, .cons a b=> .cons (RV.step h a) (aZ.step h b)
end
theorem aZ.get {C:Cx}:∀{ps:List PV} {xs:List Value},aZ C ps xs→∀{i:Nat} {p:PV},ps[i]?=some p→∃x,xs[i]?=some x∧RV C p x
 |_,_,.nil,i,p,h=>by simp at h
 |_,_,.cons a b,0,p,h=>by simp at h;subst h;exact ⟨_,rfl,a⟩
 |_,_,.cons a b,i+1,p,h=>by simpa using aZ.get b (by simpa using h)
theorem aZ.drop {C:Cx}:∀{ps:List PV} {xs:List Value},aZ C ps xs→∀n,aZ C (ps.drop n) (xs.drop n)
 |_,_,.nil,n=>by simp;exact .nil
 |_,_,.cons a b,0=>.cons a b
 |_,_,.cons a b,n+1=>by simpa using aZ.drop b n
theorem aZ.take {C:Cx}:∀{ps:List PV} {xs:List Value},aZ C ps xs→∀n,aZ C (ps.take n) (xs.take n)
 |_,_,.nil,n=>by simp;exact .nil
 |_,_,.cons a b,0=>.nil
 |_,_,.cons a b,n+1=>by simpa using aZ.cons a (aZ.take b n)
theorem aZ.append {C:Cx}:∀{ps:List PV} {xs:List Value} {c:List PV} {ys:List Value},aZ C ps xs→aZ C c ys→aZ C (ps++c) (xs++ys)
 |_,_,_,_,.nil,k=>k
 |_,_,_,_,.cons a b,k=>.cons a (aZ.append b k)
theorem aZ.lits {C:Cx}:∀(l:List Value),aZ C (l.map .v) l
 |[]=>.nil
 |x::l=>.cons (.v x) (aZ.lits l)
theorem aZ.B9 {C:Cx} {ps:List PV} {xs:List Value} (h:aZ C ps xs):∀n,aZ C (List.replicate n ps).flatten (List.replicate n xs).flatten
 |0=>.nil
 |n+1=>by simpa [List.replicate_succ]using h.append (h.B9 n)
theorem dV.iJ {C:Cx}:∀{ps:List PV} {xs:List Value},dV C.F C.H ps xs→aZ C ps xs
 |_,_,.nil=>.nil
 |_,_,.cons (.v x) b=>.cons (.v x) (dV.iJ b)
 |_,_,.cons (.fs a b c d) e=>.cons (.fs (.fs a b c d)) (dV.iJ e)
theorem RF.iJ {C:Cx}:∀{p:PV} {x:Value},RF C.F C.H p x→RV C p x
 |_,_,.v x=>.v x
 |_,_,.fs a b c d=>.fs (.fs a b c d)
theorem dV.drop {F:Nat→Prop} {H:AH}:∀{ps:List PV} {xs:List Value},dV F H ps xs→∀n,dV F H (ps.drop n) (xs.drop n)
 |_,_,.nil,n=>by simp;exact .nil
 |_,_,.cons a b,0=>.cons a b
 |_,_,.cons a b,n+1=>by simpa using dV.drop b n
theorem dV.take {F:Nat→Prop} {H:AH}:∀{ps:List PV} {xs:List Value},dV F H ps xs→∀n,dV F H (ps.take n) (xs.take n)
 |_,_,.nil,n=>by simp;exact .nil
 |_,_,.cons a b,0=>.nil
 |_,_,.cons a b,n+1=>by simpa using dV.cons a (dV.take b n)
theorem fv.get {F:Nat→Prop} {H:AH}:∀{ps:List (List PV)} {xs:List (List Value)},fv F H ps xs→∀{i:Nat} {p:List PV},ps[i]?=some p→∃x,xs[i]?=some x∧dV F H p x
 |_,_,.nil,i,p,h=>by simp at h
 |_,_,.cons a b,0,p,h=>by simp at h;subst h;exact ⟨_,rfl,a⟩
 |_,_,.cons a b,i+1,p,h=>by simpa using fv.get b (by simpa using h)
theorem fv.drop {F:Nat→Prop} {H:AH}:∀{ps:List (List PV)} {xs:List (List Value)},fv F H ps xs→∀n,fv F H (ps.drop n) (xs.drop n)
 |_,_,.nil,n=>by simp;exact .nil
 |_,_,.cons a b,0=>.cons a b
 |_,_,.cons a b,n+1=>by simpa using fv.drop b n
theorem fv.take {F:Nat→Prop} {H:AH}:∀{ps:List (List PV)} {xs:List (List Value)},fv F H ps xs→∀n,fv F H (ps.take n) (xs.take n)
 |_,_,.nil,n=>by simp;exact .nil
 |_,_,.cons a b,0=>.nil
 |_,_,.cons a b,n+1=>by simpa using fv.cons a (fv.take b n)
theorem fv.flat {F:Nat→Prop} {H:AH}:∀{ps:List (List PV)} {xs:List (List Value)},fv F H ps xs→dV F H ps.flatten xs.flatten
 |_,_,.nil=>.nil
 |_,_,.cons a b=>by
  have ap:∀{ps:List PV} {xs:List Value} {d:List PV} {c:List Value},dV F H ps xs→dV F H d c→dV F H (ps++d) (xs++c):=by
   intro ps xs d c h k
   induction ps generalizing xs with
   |nil=>cases h;exact k
   |cons p ps ih=>cases h with|cons a b=>exact .cons a (ih b)
  simpa using ap a (fv.flat b)
end P
namespace P
open Go Go.RowKit
theorem bS {h a:PH} {b:Nat} (e:a[b]?=h[b]?):aH a b↔aH h b:=by unfold aH ec At;rw [e]
theorem jG {h a:PH} {b t:Nat} (e:a[b]?=h[b]?):At a b t↔At h b t:=by unfold At;rw [e]
theorem jH {h a:PH} {b t:Nat} (e:a[b]?=h[b]?):Le a b t↔Le h b t:=by unfold Le;rw [e]
theorem dq {h a:PH} {b:Nat} (e:a[b]?=h[b]?):ec a b↔ec h b:=by unfold ec;rw [e]
theorem aO {h:PH} {b z:Nat} {cs:List PV} (e:h[b]?=some (.cells z cs)) (a:cs≠[]):aH h b:=by
 refine .inr ⟨cs.length- 1,z,cs,e,?_⟩;have:=List.length_pos_iff.2 a;omega
theorem b9 {h:PH} {b:Nat} {es:List (Value×PV)} (e:h[b]?=some (.map es)):aH h b:=.inl ⟨es,e⟩
theorem ee {h:PH} {b:Nat} (s:aH h b):(∃es,h[b]?=some (.map es))∨∃z cs,h[b]?=some (.cells z cs)∧cs≠[]:=by
 rcases s with⟨es,e⟩|⟨t,z,cs,e,a⟩
 ·exact .inl ⟨es,e⟩
 ·exact .inr ⟨z,cs,e,by rintro rfl;simp at a⟩
theorem aR {h:PH} {b:Nat} (s:aH h b):b<h.length:=by
 rcases ee s with⟨es,e⟩|⟨z,cs,e,_⟩<;>exact (ON.1 e).1
theorem bI.lt {C:Cx} (S:bI C) {b:Nat} (s:aH C.h b):C.φ b<C.H.nx:=im.lt S (W:=fun _=>True) ⟨b,trivial,s,rfl⟩
theorem bI.old {C:Cx} (S:bI C) {b:Nat} (s:aH C.h b):C.H.n0≤C.φ b∧¬ C.F (C.φ b):=by
 rcases ee s with⟨es,e⟩|⟨z,cs,e,c⟩
 ·obtain ⟨_,_,_,_,a,b⟩:=S.oX _ _ e;exact ⟨a,b⟩
 ·obtain ⟨_,_,_,a,b⟩:=S.bF _ _ _ e c;exact ⟨a,b⟩
theorem bI.of {C D:Cx} {W:Nat→Prop} (S:bI C) (T:bA C.h.length W C D) (o:D.F=C.F) (f:Nat) (g:∀b,b≠f→D.h[b]?=C.h[b]?∧D.φ b=C.φ b)
 (q:∀b,b≠f→aH C.h b→D.H.get (C.φ b)=C.H.get (C.φ b)) (p:∀b,b≠f→aH C.h b→aH D.h f→D.φ f≠C.φ b)
 (u:∀z cs,D.h[f]?=some (.cells z cs)→cs≠[]→∃vs,D.H.get (D.φ f)=some (.cells z vs)∧aZ C cs vs∧D.H.n0≤D.φ f∧¬ D.F (D.φ f))
 (t:∀es,D.h[f]?=some (.map es)→∃ys,D.H.get (D.φ f)=some (.map ys)∧es.map (·.1)=ys.map (·.1)∧aZ C (es.map (·.2)) (ys.map (·.2))∧D.H.n0≤D.φ f∧¬ D.F (D.φ f)):bI D where
 wf:=by rw [T.n0];exact O3 S.wf T.nx
 fz:=fun x r=>O4 (S.fz x (o▸r)) T.nx
 inj:=fun b k s m e=>by
  by_cases h:b=f
  ·by_cases i:k=f
   ·omega
   ·subst h
    have l:=(bS (g _ i).1).1 m;rw [(g _ i).2]at e;exact absurd e (p _ i l s)
  ·by_cases i:k=f
   ·subst i
    have l:=(bS (g _ h).1).1 s;rw [(g _ h).2]at e;exact absurd e.symm (p _ h l m)
   ·rw [(g _ h).2,(g _ i).2]at e
    exact S.inj _ _ ((bS (g _ h).1).1 s) ((bS (g _ i).1).1 m) e
 bF:=fun b z cs e n=>by
  by_cases h:b=f
  ·subst h
   obtain ⟨vs,a,b,c⟩:=u z cs e n;exact ⟨vs,a,b.step T,c⟩
  ·have j:=e
   rw [(g _ h).1]at j;obtain ⟨vs,a,k,c,d⟩:=S.bF _ _ _ j n;rw [(g _ h).2,o,T.n0];exact ⟨vs,(q _ h (aO j n)).trans a,k.step T,c,d⟩
 oX:=fun b es e=>by
  by_cases h:b=f
  ·subst h
   obtain ⟨ys,a,b,c,d⟩:=t es e;exact ⟨ys,a,b,c.step T,d⟩
  ·have j:=e
   rw [(g _ h).1]at j;obtain ⟨ys,a,k,c,d⟩:=S.oX _ _ j;rw [(g _ h).2,o,T.n0];exact ⟨ys,(q _ h (b9 j)).trans a,k,c.step T,d⟩
def oY (φ:Nat→Nat) (b x:Nat):Nat→Nat:=fun c=>if c=b then x else φ c
theorem cE (φ:Nat→Nat) (b x:Nat):oY φ b x b=x:=by simp [oY]
theorem eX {φ:Nat→Nat} {b x c:Nat} (h:c≠b):oY φ b x c=φ c:=by simp [oY,h]
theorem dR {h:PH} {P:PB} {b:Nat} (a:b≠h.length):(h++[P])[b]?=h[b]?:=by
 rcases Nat.lt_or_ge b h.length with k|k
 ·rw [OU k]
 ·rw [OY k,Pn (by simp;omega),Pn k]
theorem eA (h:PH) (P:PB):(h++[P])[h.length]?=some P:=by simp
theorem bI.new {C:Cx} (S:bI C) {P:PB} {B:jZ} (W:Nat→Prop)
 (i:(∃z cs vs,P= .cells z cs∧B= .cells z vs∧aZ C cs vs)∨(∃es ys,P= .map es∧B= .map ys∧es.map (·.1)=ys.map (·.1)∧aZ C (es.map (·.2)) (ys.map (·.2)))):
 bI ⟨C.F,C.H.alloc B,oY C.φ C.h.length C.H.nx,C.h++[P]⟩∧bA C.h.length W C ⟨C.F,C.H.alloc B,oY C.φ C.h.length C.H.nx,C.h++[P]⟩:=by
 have T:bA C.h.length W C ⟨C.F,C.H.alloc B,oY C.φ C.h.length C.H.nx,C.h++[P]⟩:={
  n0:=rfl
  nx:=O8 _
  fz:=fun x d=>⟨d,by have:=S.fz x d;rw [AH.cA,if_neg (by omega)]⟩
  fo:=fun _ _ _ h=>h
  out:=fun x d _=>by rw [AH.cA,if_neg (by omega)]
  loc:=fun b a=>by
   by_cases h:b=C.h.length
   ·subst h;left;show _≤oY _ _ _ _;rw [cE];exact OL _
   ·right;exact ⟨(bS (dR h)).1 a,eX h⟩
  len:=fun _=>by simp
  le:=fun b a _ t k=>(jH (dR (by omega))).2 k
  lS:=fun b a _ t _ g=>⟨(jG (dR (by omega))).1 g,eX (by omega)⟩
  mu:=fun b a _ g=>⟨(dq (dR (by omega))).1 g,eX (by omega)⟩}
 refine ⟨S.of T rfl C.h.length (fun b a=>⟨dR a,eX a⟩) (fun b a s=>?_) (fun b a s _=>?_) (fun z cs e o=>?_) (fun es e=>?_),T⟩
 ·have:=S.lt s;show(C.H.alloc B).get _=_;rw [AH.cA,if_neg (by omega)]
 ·have:=S.lt s;show oY _ _ _ _≠_;rw [cE];omega
 ·have e:some P=some (.cells z cs):=(eA _ _).symm.trans e
  cases e;rcases i with⟨j,n,vs,c,rfl,f⟩|⟨es,ys,c,_⟩
  ·cases c
   refine ⟨vs,?_,f,?_,?_⟩<;>dsimp only<;>rw [cE]
   ·exact fu _ _
   ·exact S.wf
   ·intro q;exact absurd (S.fz _ q) (Nat.lt_irrefl _)
  ·cases c
 ·have e:some P=some (.map es):=(eA _ _).symm.trans e
  cases e;rcases i with⟨j,n,vs,c,_⟩|⟨m,ys,c,rfl,l,f⟩
  ·cases c
  ·cases c
   refine ⟨ys,?_,l,f,?_,?_⟩<;>dsimp only<;>rw [cE]
   ·exact fu _ _
   ·exact S.wf
   ·intro q;exact absurd (S.fz _ q) (Nat.lt_irrefl _)
theorem bV {h:PH} {P:PB} {b c:Nat} (a:c≠b):(h.set b P)[c]?=h[c]?:=O5 (Ne.symm a)
theorem bT {h:PH} {P:PB} {b:Nat} (a:b<h.length):(h.set b P)[b]?=some P:=by simp [List.getElem?_set,a]
theorem bI.put {C:Cx} (S:bI C) {b z:Nat} {cs ds:List PV} {vs:List Value} {W:Nat→Prop} (v:W b) (l:C.h[b]?=some (.cells z cs)) (d:cs≠[]) (j:ds.length=cs.length) (r:aZ C ds vs):
 bI ⟨C.F,C.H.put (C.φ b) (some (.cells z vs)),C.φ,C.h.set b (.cells z ds)⟩∧bA C.h.length W C ⟨C.F,C.H.put (C.φ b) (some (.cells z vs)),C.φ,C.h.set b (.cells z ds)⟩:=by
 have a:=aO l d;have i:=S.lt a;have f:=aR a;have w:ds≠[]:=by intro e;subst e;simp at j;exact d (Pa.1 j.symm)
 have u:∀t,At (C.h.set b (.cells z ds)) b t→At C.h b t:=by
  rintro t ⟨m,q,e,rfl⟩;rw [bT f]at e;cases e;exact ⟨z,cs,l,j.symm⟩
 have T:bA C.h.length W C ⟨C.F,C.H.put (C.φ b) (some (.cells z vs)),C.φ,C.h.set b (.cells z ds)⟩:={
  n0:=rfl
  nx:=OL _
  fz:=fun x k=>⟨k,by rw [AH.aN _ _ _ _ i,if_neg];rintro rfl;exact (S.old a).2 k⟩
  fo:=fun _ _ _ h=>h
  out:=fun x k hi=>by rw [AH.aN _ _ _ _ i,if_neg];rintro rfl;exact hi ⟨b,v,a,rfl⟩
  loc:=fun c o=>by
   right;by_cases h:c=b
   ·subst h;exact ⟨a,rfl⟩
   ·exact ⟨(bS (bV h)).1 o,rfl⟩
  len:=fun _=>by simp
  le:=fun c p _ t n=>by
   by_cases h:c=b
   ·subst h
    intro m q e;rw [bT f]at e;cases e;rw [j];exact n _ _ l
   ·exact (jH (bV h)).2 n
  lS:=fun c p _ t _ g=>by
   by_cases h:c=b
   ·subst h;exact ⟨u t g,rfl⟩
   ·exact ⟨(jG (bV h)).1 g,rfl⟩
  mu:=fun c p _ g=>by
   by_cases h:c=b
   ·subst h;obtain ⟨es,e⟩:=g;rw [bT f]at e;cases e
   ·exact ⟨(dq (bV h)).1 g,rfl⟩}
 refine ⟨S.of T rfl b (fun c d=>⟨bV d,rfl⟩) (fun c d s=>?_) (fun c d s _ e=>d (S.inj _ _ s a e.symm)) (fun m q e o=>?_) (fun es e=>?_),T⟩
 ·show(C.H.put _ _).get _=_
  rw [AH.aN _ _ _ _ i,if_neg];exact fun e=>d (S.inj _ _ s a e)
 ·have e:=(bT f).symm.trans e
  cases e;refine ⟨vs,?_,r,(S.old a)⟩;show(C.H.put _ _).get _=_;rw [AH.aN _ _ _ _ i,if_pos rfl]
 ·have e:=(bT f).symm.trans e
  cases e
theorem bI.Hh {C:Cx} (S:bI C) {b:Nat} {es f:List (Value×PV)} {ys:List (Value×Value)} {W:Nat→Prop} (v:W b) (o:C.h[b]?=some (.map es)) (u:f.map (·.1)=ys.map (·.1)) (q:aZ C (f.map (·.2)) (ys.map (·.2))):
 bI ⟨C.F,C.H.put (C.φ b) (some (.map ys)),C.φ,C.h.set b (.map f)⟩∧bA C.h.length W C ⟨C.F,C.H.put (C.φ b) (some (.map ys)),C.φ,C.h.set b (.map f)⟩:=by
 have a:=b9 o;have g:=S.lt a;have i:=aR a
 have T:bA C.h.length W C ⟨C.F,C.H.put (C.φ b) (some (.map ys)),C.φ,C.h.set b (.map f)⟩:={
  n0:=rfl
  nx:=OL _
  fz:=fun x k=>⟨k,by rw [AH.aN _ _ _ _ g,if_neg];rintro rfl;exact (S.old a).2 k⟩
  fo:=fun _ _ _ h=>h
  out:=fun x k hi=>by rw [AH.aN _ _ _ _ g,if_neg];rintro rfl;exact hi ⟨b,v,a,rfl⟩
  loc:=fun c m=>by
   right;by_cases h:c=b
   ·subst h;exact ⟨a,rfl⟩
   ·exact ⟨(bS (bV h)).1 m,rfl⟩
  len:=fun _=>by simp
  le:=fun c n _ t r=>by
   by_cases h:c=b
   ·subst h
    intro l p e;rw [bT i]at e;cases e
   ·exact (jH (bV h)).2 r
  lS:=fun c n _ t _ j=>by
   by_cases h:c=b
   ·subst h;obtain ⟨l,p,e,_⟩:=j;rw [bT i]at e;cases e
   ·exact ⟨(jG (bV h)).1 j,rfl⟩
  mu:=fun c n _ j=>by
   by_cases h:c=b
   ·subst h;exact ⟨⟨es,o⟩,rfl⟩
   ·exact ⟨(dq (bV h)).1 j,rfl⟩}
 refine ⟨S.of T rfl b (fun c d=>⟨bV d,rfl⟩) (fun c d s=>?_) (fun c d s _ e=>d (S.inj _ _ s a e.symm)) (fun l p e m=>?_) (fun es e=>?_),T⟩
 ·show(C.H.put _ _).get _=_
  rw [AH.aN _ _ _ _ g,if_neg];exact fun e=>d (S.inj _ _ s a e)
 ·have e:=(bT i).symm.trans e
  cases e
 ·have e:=(bT i).symm.trans e
  cases e;refine ⟨ys,?_,u,q,(S.old a)⟩;show(C.H.put _ _).get _=_;rw [AH.aN _ _ _ _ g,if_pos rfl]
theorem bI.grow {C:Cx} (S:bI C) {b z:Nat} {cs ds:List PV} {vs:List Value} {H1:AH} {W:Nat→Prop} (A:W b) (j:C.h[b]?=some (.cells z cs)) (B:cs.length<ds.length) (w:aZ C ds vs)
 (k:(cs=[]∧H1=C.H)∨(cs≠[]∧H1=C.H.put (C.φ b) none)):
 bI ⟨C.F,H1.alloc (.cells z vs),oY C.φ b C.H.nx,C.h.set b (.cells z ds)⟩∧bA C.h.length W C ⟨C.F,H1.alloc (.cells z vs),oY C.φ b C.H.nx,C.h.set b (.cells z ds)⟩:=by
 have f:=(ON.1 j).1;have v:H1.nx=C.H.nx:=by rcases k with⟨_,rfl⟩|⟨_,rfl⟩<;>rfl
 have n:H1.n0=C.H.n0:=by rcases k with⟨_,rfl⟩|⟨_,rfl⟩<;>rfl
 have l:∀x,x<C.H.nx→(∀(_:aH C.h b),x≠C.φ b)→(H1.alloc (.cells z vs)).get x=C.H.get x:=by
  intro x d y;rw [AH.cA,if_neg (by omega)];rcases k with⟨_,rfl⟩|⟨a,rfl⟩
  ·rfl
  ·rw [AH.lV,if_neg (y (aO j a))]
 have T:bA C.h.length W C ⟨C.F,H1.alloc (.cells z vs),oY C.φ b C.H.nx,C.h.set b (.cells z ds)⟩:={
  n0:=n
  nx:=by show _≤H1.nx+1;omega
  fz:=fun x d=>⟨d,l x (S.fz x d) fun s e=>(S.old s).2 (e▸d)⟩
  fo:=fun _ _ _ h=>h
  out:=fun x d hi=>l x d fun s e=>hi ⟨b,A,s,e.symm⟩
  loc:=fun c o=>by
   by_cases h:c=b
   ·subst h;left;show _≤oY _ _ _ _;rw [cE];exact OL _
   ·right;exact ⟨(bS (bV h)).1 o,eX h⟩
  len:=fun _=>by simp
  le:=fun c p _ t i=>by
   by_cases h:c=b
   ·subst h
    intro m r e;rw [bT f]at e;cases e;have:=i _ _ j;omega
   ·exact (jH (bV h)).2 i
  lS:=fun c p _ t i g=>by
   by_cases h:c=b
   ·subst h
    obtain ⟨m,r,e,rfl⟩:=g;rw [bT f]at e;cases e;have:=i _ _ j;omega
   ·exact ⟨(jG (bV h)).1 g,eX h⟩
  mu:=fun c p _ g=>by
   by_cases h:c=b
   ·subst h;obtain ⟨es,e⟩:=g;rw [bT f]at e;cases e
   ·exact ⟨(dq (bV h)).1 g,eX h⟩}
 refine ⟨S.of T rfl b (fun c a=>⟨bV a,eX a⟩) (fun c a s=>?_) (fun c a s _=>?_) (fun m r e o=>?_) (fun es e=>?_),T⟩
 ·exact l _ (S.lt s) fun u e=>a (S.inj _ _ s u e)
 ·have:=S.lt s;show oY _ _ _ _≠_;rw [cE];omega
 ·have e:=(bT f).symm.trans e
  cases e;refine ⟨vs,?_,w,?_,?_⟩<;>dsimp only<;>rw [cE]
  ·rw [←v];exact fu _ _
  ·show H1.n0≤_;rw [n];exact S.wf
  ·intro q;exact absurd (S.fz _ q) (Nat.lt_irrefl _)
 ·have e:=(bT f).symm.trans e
  cases e
theorem bI.void {C:Cx} (S:bI C) (z:Nat) (W:Nat→Prop):bI ⟨C.F,C.H,C.φ,C.h++[.cells z []]⟩∧bA C.h.length W C ⟨C.F,C.H,C.φ,C.h++[.cells z []]⟩:=by
 have f:¬ aH (C.h++[.cells z []]) C.h.length:=fun s=>by
  rcases ee s with⟨es,e⟩|⟨k,cs,e,c⟩
  ·rw [eA]at e;cases e
  ·rw [eA]at e;cases e;exact c rfl
 have T:bA C.h.length W C ⟨C.F,C.H,C.φ,C.h++[.cells z []]⟩:={
  n0:=rfl
  nx:=OL _
  fz:=fun x g=>⟨g,rfl⟩
  fo:=fun _ _ _ h=>h
  out:=fun x g _=>rfl
  loc:=fun b a=>by
   by_cases h:b=C.h.length
   ·subst h;exact absurd a f
   ·right;exact ⟨(bS (dR h)).1 a,rfl⟩
  len:=fun _=>by simp
  le:=fun b a _ t j=>(jH (dR (by omega))).2 j
  lS:=fun b a _ t _ d=>⟨(jG (dR (by omega))).1 d,rfl⟩
  mu:=fun b a _ d=>⟨(dq (dR (by omega))).1 d,rfl⟩}
 refine ⟨S.of T rfl C.h.length (fun b a=>⟨dR a,rfl⟩) (fun b a s=>rfl) (fun b a s i=>absurd i f) (fun z cs e c=>?_) (fun es e=>?_),T⟩
 ·have e:=(eA _ _).symm.trans e;cases e;exact absurd rfl c
 ·have e:=(eA _ _).symm.trans e;cases e
open Go Go.RowKit
def ig {α:Type}:List α→Nat→List α→List α
 |c,0,vs=>vs++c.drop vs.length
 |x::c,k+1,vs=>x::ig c k vs
 |[],_+1,_=>[]
def lT:Value→PV
 | .agg cs=>.agg (cs.toList.map .v)
 |x=>.v x
def bh:PV→Option (List PV)
 | .agg cs=>some cs
 | .dB _=>none
 | .any=>none
 | .v (.agg cs)=>some (cs.toList.map .v)
 | .v (.tuple _)=>none
 |p=>some [p]
def gH:List PV→List (Nat×Nat×PV)→Option (List PV)
 |c,[]=>some c
 |c,(off,n,p)::l=>match bh p with
  |some ds=>if ds.length=n∧off+n≤c.length then gH (ig c off ds) l else none
  |none=>none
def sj:PV→PV→PV→Option PV
 | .v (.bool t),a,b=>some (bif t then a else b)
 |_,_,_=>none
def wW (h:PH):PV→Option PV
 | .ref b o t=>match h[b]? with
   |some (.cells _ cs)=>if cs.length=t then cs[o]? else none
   |_=>none
 | .fp cells=>cells.head?
 |_=>none
def lj (n:Nat) (h:PH):PV→Option PV
 | .ref b o t=>match h[b]? with
   |some (.cells _ cs)=>if cs.length=t∧o+n≤t∧0<t then some (.agg ((cs.drop o).take n))else none
   |_=>none
 | .fp cells=>if n≤cells.length then some (.agg (cells.take n))else none
 |_=>none
def yR (n:Nat) (h:PH):PV→PV→Option PH
 | .ref b o t,p=>match h[b]?,bh p with
   |some (.cells z cs),some ds=>if cs.length=t∧o+n≤t∧0<t∧ds.length=n then some (h.set b (.cells z (ig cs o ds)))else none
   |_,_=>none
 |_,_=>none
def bB (h:PH) (b:Nat):Option Nat:=match h[b]? with
 |some (.cells _ cs)=>some cs.length
 |_=>none
def oZ (h:PH):PV→Option PV
 | .ref b o t=>if bB h b=some t then some (.ref b o t)else none
 | .fp c=>some (.fp c)
 |_=>none
def va (op:BinOp):PV→PV→Option PV
 | .v x,.v y=>(ba op x y).map .v
 |_,_=>none
def lk:Nat→Value→Bool
 |1,.pointer none=>true
 |2,.slice none _ _=>true
 |3,.nilFunc=>true
 |4,.map none=>true
 |_,_=>false
def vc (h:PH) (k:Nat) (p:PV) (y:Value):Option Bool:=
 match p with
 | .v x=>cH k x y
 | .ref b _ t=>match h[b]? with
   |some (.cells _ cs)=>if cs.length=t∧k=1∧lk 1 y=true then some false else none
   |_=>none
 | .fp _=>if k=1∧lk 1 y=true then some false else none
 | .sl sz b o n c=>match h[b]? with
   |some (.cells _ cs)=>if(o+c)*sz=cs.length∧0<c∧k=2∧lk 2 y=true then some false else none
   |_=>none
 | .fs _ rows=>if rows≠[]∧k=2∧lk 2 y=true then some false else none
 | .fn _ _ _=>if k=3∧lk 3 y=true then some false else none
 | .mp b=>match h[b]? with
   |some (.map _)=>if k=4∧lk 4 y=true then some false else none
   |_=>none
 |_=>none
def vd (h:PH) (k:Nat):PV→PV→Option Bool
 |p,.v y=>vc h k p y
 |_,_=>none
def EC (op:UnOp):PV→Option PV
 | .v x=>(wb op x).map .v
 |_=>none
def vf (k:IntKind):PV→Option PV
 | .v (.int _ n)=>some (.v (.int k (k.wrap n)))
 |_=>none
def yS:PV→Option PV
 | .v (.int _ n)=>some (.v (.string (Utf8.encode n)))
 |_=>none
def Av (h:PH) (off:Nat):PV→Option PV
 | .ref b o t=>if bB h b=some t then some (.ref b (o+off) t)else none
 | .fp cells=>if off≤cells.length then some (.fp (cells.drop off))else none
 |_=>none
def Cb (h:PH) (sz:Nat):PV→PV→Option PV
 | .sl cz b o n c, .v (.int _ k)=>match h[b]? with
   |some (.cells _ cs)=>if cz=sz∧(o+c)*sz=cs.length∧0<c∧0≤k∧k<n then some (.ref b ((o+k.toNat)*sz) cs.length)else none
   |_=>none
 | .fs cz rows, .v (.int _ k)=>if cz=sz∧0≤k∧k<rows.length then(match rows[k.toNat]? with|some r=>some (.fp r)|none=>none)else none
 |_,_=>none
def sk (h:PH) (len sz:Nat):PV→PV→Option PV
 | .ref b o t,.v (.int _ k)=>if bB h b=some t∧0≤k∧k<len then some (.ref b (o+k.toNat*sz) t)else none
 | .fp cells,.v (.int _ k)=>if 0≤k∧k<len∧k.toNat*sz≤cells.length then some (.fp (cells.drop (k.toNat*sz)))else none
 |_,_=>none
def Hi:PV→PV→Option PV
 | .v x,.v y=>(Eg x y).map .v
 |_,_=>none
def vg:PV→Nat→Option PV
 | .dB ps,i=>ps[i]?
 |_,_=>none
def sn:PV→Option PV
 | .v x=>(oT x).map .v
 |_=>none
def dt (h:PH):PV→Bool
 | .sl sz b o _ c=>match h[b]? with
   |some (.cells _ cs)=>decide ((o+c)*sz=cs.length)
   |_=>false
 |_=>true
def iK:PV→Option Nat
 | .v (.slice none 0 0)=>some 0
 | .v (.string s)=>some s.size
 | .sl _ _ _ n _=>some n
 | .fs _ rows=>some rows.length
 |_=>none
def o3 (h:PH):PV→Option PV
 | .v x=>(oU x).map .v
 | .sl sz b o n c=>some (.v (.int .i64 n))
 | .fs _ rows=>some (.v (.int .i64 rows.length))
 |_=>none
def kz (k:Value):List (Value×PV)→Option (Option PV)
 |[]=>some none
 |(k',p)::es=>match dN k k' with
  |some true=>some (some p)
  |some false=>kz k es
  |none=>none
def nP (k:Value) (p:PV):List (Value×PV)→Option (List (Value×PV))
 |[]=>some [(k,p)]
 |(k',p')::es=>match dN k k' with
  |some true=>some ((k,p)::es)
  |some false=>(nP k p es).map fun l=>(k',p')::l
  |none=>none
def o4 (kk:Nat) (z:Value) (h:PH) (x k:PV) (ok:Bool):Option PV:=
 match x,k with
 | .v (.map none), .v kx=>if bf kk kx=true then some (bif ok then .dB [lT z, .v (.bool false)]else lT z)else none
 | .mp b, .v kx=>match h[b]? with
   |some (.map es)=>if bf kk kx=true then(match kz kx es with
    |some (some p)=>some (bif ok then .dB [p, .v (.bool true)]else p)
    |some none=>some (bif ok then .dB [lT z, .v (.bool false)]else lT z)
    |none=>none)else none
   |_=>none
 |_,_=>none
def so (kk:Nat) (h:PH) (x k p:PV):Option PH:=
 match x,k with
 | .mp b, .v kx=>match h[b]? with
   |some (.map es)=>if bf kk kx=true∧(bh p).isSome=true then(nP kx p es).map fun es'=>h.set b (.map es')else none
   |_=>none
 |_,_=>none
def wX:Option PV→Option (Option Value)
 |none=>some none
 |some (.v x)=>some (some x)
 |_=>none
def ED (sz:Nat) (h:PH) (x:PV) (lo hi mx:Option PV):Option (PV×PH):=
 match wX lo,wX hi,wX mx with
 |some lo,some hi,some mx=>match x with
  | .sl cz b o n c=>match h[b]?,aJ n c lo hi mx with
    |some (.cells z cs),some (l,e,m)=>if cz=sz∧0<sz∧z=sz∧(o+c)*sz=cs.length∧e≤m then
      (if c=0 then some (x,h)
      else if m=l then(if mx=none then some (.fs sz [],h)else some (.sl sz h.length 0 0 0,h++[.cells sz []]))
      else if m=c then some (.sl sz b (o+l) (e- l) (c- l),h)else none)else none
    |_,_=>none
  | .fs cz rows=>if cz=sz∧0<sz then
      (match mx with
      |none=>match aJ rows.length rows.length lo hi none with
       |some (l,e,_)=>if e≤rows.length then some (.fs sz ((rows.take e).drop l),h)else none
       |none=>none
      |some m=>if aJ rows.length rows.length lo hi (some m)=some (0,0,0)then(match rows with
       |[]=>some (.fs sz [],h)
       |_::_=>some (.sl sz h.length 0 0 0,h++[.cells sz []]))else none)else none
  | .v (.slice none 0 0)=>if 0<sz∧(aJ 0 0 lo hi mx).isSome=true then some (x,h)else none
  | .v (.string s)=>match mx with
    |some _=>none
    |none=>match aJ s.size s.size lo hi none with
     |some (l,e,_)=>if sz=0 then some (.v (.string (s.extract l e)),h)else none
     |none=>none
  |_=>none
 |_,_,_=>none
def cP (h:PH) (sz k:Nat):PV→Option (List PV)
 | .sl cz b o n c=>match h[b]? with
   |some (.cells _ cs)=>if cz=sz∧(o+c)*sz=cs.length∧k≤n∧n≤c then some ((cs.drop (o*sz)).take (k*sz))else none
   |_=>none
 | .fs cz rows=>if cz=sz∧k≤rows.length then some (rows.take k).flatten else none
 | .v (.string s)=>if sz=1 then some ((s.extract 0 k).data.toList.map fun b=> .v (.int .u8 b.toNat))else none
 | .v (.slice none 0 0)=>if k=0 then some []else none
 |_=>none
def ll (sz bytes:Nat) (h:PH) (s x:PV):Option (PV×PH):=
 match iK x with
 |none=>none
 |some k=>
  if k=0 then(if dt h x=true then match s with
   | .v (.slice none 0 0)=>some (s,h)
   | .sl cz b o n c=>match h[b]? with
     |some (.cells _ cs)=>if(o+c)*cz=cs.length∧n≤c then some (s,h)else none
     |_=>none
   | .fs _ _=>some (s,h)
   |_=>none
   else none)
  else match cP h sz k x with
  |none=>none
  |some new=>match s with
   | .v (.slice none 0 0)=>if 0<sz∧k*bytes≤2^47∧k<2^62 then some (.sl sz h.length 0 k k,h++[.cells sz new])else none
   | .sl cz b o n c=>match h[b]? with
     |some (.cells z cs)=>if cz=sz∧z=sz∧0<sz∧(o+c)*sz=cs.length∧n≤c∧(n+k)*bytes≤2^47∧n+k<2^62 then
       (if c=0 then(if o=0 then some (.sl sz b 0 k k,h.set b (.cells sz new))else none)
       else if n+k≤c then some (.sl sz b o (n+k) c,h.set b (.cells sz (ig cs ((o+n)*sz) new)))
       else if o=0 then some (.sl sz b 0 (n+k) (n+k),h.set b (.cells sz (cs.take (n*sz)++new)))else none)
       else none
     |_=>none
   |_=>none
def o5 (sz:Nat) (h:PH) (d s:PV):Option (PV×PH):=
 match(bif dt h s then iK s else none)with
 |none=>none
 |some m=>match d with
  | .v (.slice none 0 0)=>some (.v (.int .i64 0),h)
  | .sl cz b o n c=>match h[b]? with
    |some (.cells z cs)=>if cz=sz∧0<sz∧(o+c)*sz=cs.length∧n≤c then
      (if Nat.min m n=0 then some (.v (.int .i64 0),h)
      else match cP h sz (Nat.min m n) s with
       |some new=>some (.v (.int .i64 (Nat.min m n)),h.set b (.cells z (ig cs (o*sz) new)))
       |none=>none)else none
    |_=>none
  |_=>none
def o6 (sz bytes:Nat) (z:List Value) (h:PH):PV→Option (PV×PH)
 | .v (.int _ n)=>if 0≤n∧IntKind.i64.wrap n=n∧bytes*n≤2^47∧z.length=sz∧0<sz then some (.sl sz h.length 0 n.toNat n.toNat,h++[.cells sz (List.replicate n.toNat (z.map .v)).flatten])else none
 |_=>none
def vh (len sz:Nat) (z:List Value) (h:PH) (ps:List (Nat×Nat×PV)):Option (PV×PH):=
 match gH (z.map .v) ps with
 |some c=>if c.length=len*sz∧0<sz then some (.sl sz h.length 0 len len,h++[.cells sz c])else none
 |none=>none
def yT:List PV→Option (List Value)
 |[]=>some []
 | .v x::l=>(yT l).map fun m=>x::m
 |_=>none
def Cc (f:Value→List Value→Option Value) (x:PV) (l:List PV):Option PV:=
 match x,yT l with
 | .v x,some l=>(f x l).map .v
 |_,_=>none
def qn (cs ds:List PV):List (Nat×Nat)→Option Bool
 |[]=>some true
 |(o,kk)::l=>match cs[o]?,ds[o]? with
  |some (.v a),some (.v b)=>if bf kk a=true then(match dN a b with
   |some true=>qn cs ds l
   |some false=>some false
   |none=>none)else none
  |_,_=>none
def vi (neg:Bool) (offs:List (Nat×Nat)):PV→PV→Option PV
 | .agg cs,.agg ds=>(qn cs ds offs).map fun b=>.v (.bool (bif neg then !b else b))
 |_,_=>none
def vj (h:PH) (p:PV):Option (PV×PH):=
 match bh p with
 |some cs=>some (.ref h.length 0 cs.length,h++[.cells cs.length cs])
 |none=>none
def mw (l:List PV) (n:Nat) (ag:Bool):Option PV:=if l.length=n then(bif ag then some (.agg l)else match l with|[v]=>some v|_=>none)else none
def tY (h:PH):XK→List PV→Option PV
 | .pX o n ag,[.agg cs]=>mw ((cs.drop o).take n) n ag
 | .pY len n ag,[.agg cs,.v (.int _ i)]=>if 0≤i∧i<len then mw ((cs.drop (i.toNat*n)).take n) n ag else none
 | .lX len n,[.ref b 0 t]=>if bB h b=some t∧len*n=t∧0<len then some (.sl n b 0 len len)else none
 |_,_=>none
def wY:XK→List Value→Option Value
 | .pX o n ag,[.agg cs]=>iq ((cs.toList.drop o).take n) n ag
 | .pY len n ag,[.agg cs,.int _ i]=>if 0≤i∧i<len then iq ((cs.toList.drop (i.toNat*n)).take n) n ag else none
 | .lX len _,[.pointer (some a)]=>some (.slice (some a) len len)
 |_,_=>none
def vk (z:List Value) (h:PH):PV→Option PH
 | .v (.slice none 0 0)=>some h
 | .sl sz b o n c=>match h[b]? with
   |some (.cells zz cs)=>if sz=z.length∧0<sz∧(o+c)*sz=cs.length∧n≤c then(if n=0 then some h else some (h.set b (.cells zz (ig cs (o*sz) ((List.replicate n z).flatten.map .v)))))else none
   |_=>none
 |_=>none
def my:XK→List PV→Option (List Value×PV)
 | .mZ z,[p]=>some (z,p)
 |_,_=>none
def pop (p:aY) (ρ:X→PV) (h:PH):Option (PV×PH):=
 match p with
 | .mv x=>some (ρ x,h)
 | .pick c a b=>(sj (ρ c) (ρ a) (ρ b)).map fun v=>(v,h)
 | .alloc z=>some (.ref h.length 0 z.length,h++[.cells z.length (z.map .v)])
 | .box x=>vj h (ρ x)
 | .build z ps=>(gH (z.map .v) (ps.map fun p=>(p.1,p.2.1,ρ p.2.2))).map fun c=>(.agg c,h)
 | .bsl len sz z ps=>vh len sz z h (ps.map fun p=>(p.1,p.2.1,ρ p.2.2))
 | .ld x=>(wW h (ρ x)).map fun v=>(v,h)
 | .ldn n x=>(lj n h (ρ x)).map fun v=>(v,h)
 | .st n x v=>(yR n h (ρ x) (ρ v)).map fun h'=>(.v undef,h')
 | .cM x=>(oZ h (ρ x)).map fun v=>(v,h)
 | .bin op x y=>(va op (ρ x) (ρ y)).map fun v=>(v,h)
 | .eqk k neg x y=>(vd h k (ρ x) (ρ y)).map fun b=>(.v (.bool (bif neg then !b else b)),h)
 | .un op x=>(EC op (ρ x)).map fun v=>(v,h)
 | .j0 k x=>(vf k (ρ x)).map fun v=>(v,h)
 | .zZ x=>(yS (ρ x)).map fun v=>(v,h)
 | .mkf f first cap=>some (.fn f (first.map ρ) (cap.map ρ),h)
 | .mkmap=>some (.mp h.length,h++[.map []])
 | .mksl sz bytes z x=>o6 sz bytes z h (ρ x)
 | .sl sz x lo hi mx=>ED sz h (ρ x) (lo.map ρ) (hi.map ρ) (mx.map ρ)
 | .fa off x=>(Av h off (ρ x)).map fun v=>(v,h)
 | .ia sz x i=>(Cb h sz (ρ x) (ρ i)).map fun v=>(v,h)
 | .cv len sz x i=>(sk h len sz (ρ x) (ρ i)).map fun v=>(v,h)
 | .ix x i=>(Hi (ρ x) (ρ i)).map fun v=>(v,h)
 | .look kk z x k ok=>(o4 kk z h (ρ x) (ρ k) ok).map fun v=>(v,h)
 | .qF kk x k v=>(so kk h (ρ x) (ρ k) (ρ v)).map fun h'=>(.v undef,h')
 | .ext x i=>(vg (ρ x) i).map fun v=>(v,h)
 | .call _ _=>none
 | .callv _ _=>none
 | .app sz bytes s x=>ll sz bytes h (ρ s) (ρ x)
 | .copy sz d s=>o5 sz h (ρ d) (ρ s)
 | .lens x=>(sn (ρ x)).map fun v=>(v,h)
 | .eo x=>(o3 h (ρ x)).map fun v=>(v,h)
 | .z0 t x=>some (.iT t (ρ x),h)
 | .mxl x l=>(Cc wc (ρ x) (l.map ρ)).map fun v=>(v,h)
 | .mnl x l=>(Cc we (ρ x) (l.map ρ)).map fun v=>(v,h)
 | .eqs neg offs x y=>(vi neg offs (ρ x) (ρ y)).map fun v=>(v,h)
 | .xt k l=>match my k (l.map ρ)with
   |some (z,p)=>(vk z h p).map fun h'=>(.v (.tuple #[]),h')
   |none=>(tY h k (l.map ρ)).map fun v=>(v,h)
def kA (p:aY) (ρ:X→PV):List Nat:=
 match p with
 | .st _ x _=>match ρ x with| .ref b _ _=>[b]|_=>[]
 | .app _ _ s _=>match ρ s with| .sl _ b _ _ _=>[b]|_=>[]
 | .copy _ d _=>match ρ d with| .sl _ b _ _ _=>[b]|_=>[]
 | .qF _ x _ _=>match ρ x with| .mp b=>[b]|_=>[]
 | .xt k l=>match my k (l.map ρ)with|some (_,.sl _ b _ _ _)=>[b]|_=>[]
 |_=>[]
end P
namespace P
open Go Go.RowKit
def fM (C:Cx) (W:Nat→Prop) (r:Option (Value×AH)) (p:PV) (h':PH):Prop:=∃x H' bl,r=some (x,H')∧RV ⟨C.F,H',bl,h'⟩ p x∧bI ⟨C.F,H',bl,h'⟩∧bA C.h.length W C ⟨C.F,H',bl,h'⟩
theorem fM.val {C:Cx} {W:Nat→Prop} (S:bI C) {r:Option (Value×AH)} {p:PV} {x:Value} (k:RV C p x) (e:r=some (x,C.H)):fM C W r p C.h:=⟨x,C.H,C.φ,e,k,S,bA.refl _ _ _⟩
variable{C:Cx} {W:Nat→Prop}
theorem RV.iJ {x y:Value} (h:RV C (.v x) y):y=x:=by cases h;rfl
theorem nQ (x:Value):RV C (lT x) x:=by
 cases x with
 |agg cs=>exact .agg (xs:=cs.toList) (aZ.lits _)
 |_=>exact .v _
theorem yU {x:Value} (h:one x=true):aE x=[x]∧bu x=false:=by
 cases x<;>first
  |exact ⟨rfl,rfl⟩
  |(simp [one]at h)
theorem db {p:PV} {x:Value} {cs:List PV} (h:RV C p x) (k:bh p=some cs):aZ C cs (aE x)∧bu x=false:=by
 have go:∀{p:PV} {x:Value},RV C p x→(u9 x=true∨one x=true)→aZ C [p] (aE x)∧bu x=false:=by
  intro p x h c
  obtain ⟨a,b⟩:aE x=[x]∧bu x=false:=by
   rcases c with c|c
   ·cases x<;>first|exact ⟨rfl,rfl⟩|(simp [u9]at c)
   ·exact yU c
  rw [a];exact ⟨.cons h .nil,b⟩
 cases p with
 |v x=>
  cases h
  cases x with
  |agg d=>simp only [bh,OH]at k;subst k;exact ⟨aZ.lits _,rfl⟩
  |tuple=>simp [bh]at k
  |_=>simp only [bh,OH]at k;subst k;exact ⟨.cons (.v _) .nil,rfl⟩
 |agg=>cases h with|agg q=>simp only [bh,OH]at k;subst k;exact ⟨by simpa [aE]using q,rfl⟩
 |dB=>simp [bh]at k
 |any=>simp [bh]at k
 |ref=>simp only [bh,OH]at k;subst k;exact go h (by cases h;left;assumption)
 |sl=>simp only [bh,OH]at k;subst k;exact go h (by cases h with|sl a _ _ _=>exact .inl a.sm)
 |mp=>simp only [bh,OH]at k;subst k;exact go h (by cases h;left;assumption)
 |fs=>simp only [bh,OH]at k;subst k;exact go h (by cases h with|fs q=>cases q;exact .inr rfl)
 |fp=>simp only [bh,OH]at k;subst k;exact go h (by cases h;exact .inr rfl)
 |fn=>simp only [bh,OH]at k;subst k;exact go h (by cases h;exact .inr rfl)
 |iT=>simp only [bh,OH]at k;subst k;exact go h (by cases h;exact .inr rfl)
theorem aZ.ig {cs:List PV} {xs:List Value} (h:aZ C cs xs):∀{k:Nat} {ds:List PV} {ys:List Value},aZ C ds ys→aZ C (ig cs k ds) (bw xs k ys):=by
 have z:∀(xs ys:List Value),bw xs 0 ys=ys++xs.drop ys.length:=fun xs ys=>by cases xs<;>rfl
 have c:∀(xs ys:List PV),P.ig xs 0 ys=ys++xs.drop ys.length:=fun xs ys=>by cases xs<;>rfl
 intro k
 induction k generalizing cs xs with
 |zero=>
  intro ds ys q;rw [z,c,q.length];exact q.append (h.drop _)
 |succ k ih=>
  intro ds ys q
  cases h with
  |nil=>exact .nil
  |cons a b=>exact .cons a (ih b q)
theorem cF {α:Type}:∀{c:List α} {k:Nat} {vs:List α},k+vs.length≤c.length→(ig c k vs).length=c.length
 |c,0,vs,h=>by
  have:ig c 0 vs=vs++c.drop vs.length:=by cases c<;>rfl
  rw [this];simp;omega
 |[],k+1,vs,h=>by simp at h
 |x::c,k+1,vs,h=>by
  have:=cF (c:=c) (k:=k) (vs:=vs) (by simp at h;omega);simp [ig,this]
inductive vl (C:Cx):List (Nat×Nat×PV)→List (Nat×Nat×Value)→Prop
 |nil:vl C [] []
 |cons {o n:Nat} {p:PV} {x:Value} {l:List (Nat×Nat×PV)} {m:List (Nat×Nat×Value)}:RV C p x→vl C l m→vl C ((o,n,p)::l) ((o,n,x)::m)
theorem vl.of {a:X→PV} {b:X→Value} (h:∀x,RV C (a x) (b x)):∀(ps:List (Nat×Nat×X)),vl C (ps.map fun p=>(p.1,p.2.1,a p.2.2)) (ps.map fun p=>(p.1,p.2.1,b p.2.2))
 |[]=>.nil
 |p::ps=>.cons (h _) (vl.of h ps)
theorem aZ.of {a:X→PV} {b:X→Value} (h:∀x,RV C (a x) (b x)):∀(l:List X),aZ C (l.map a) (l.map b)
 |[]=>.nil
 |p::ps=>.cons (h _) (aZ.of h ps)
theorem o7 {ps:List (Nat×Nat×PV)} {g:List (Nat×Nat×Value)} (r:vl C ps g):∀{c d:List PV} {xs:List Value},aZ C c xs→gH c ps=some d→∃ys,eC xs g=some ys∧aZ C d ys:=by
 induction r with
 |nil=>intro c d xs h k;simp only [gH,OH]at k;subst k;exact ⟨xs,rfl,h⟩
 | @cons o n p x l m j _ ih=>
  intro c d xs h k;simp only [gH]at k
  cases f:bh p with
  |none=>simp [f]at k
  |some s=>
   simp only [f]at k;split at k
   case isFalse=>cases k
   rename_i i;obtain ⟨a,b⟩:=db j f;obtain ⟨ys,e,q⟩:=ih (h.ig a) k;refine ⟨ys,?_,q⟩;simp only [eC,nb];rw [←a.length,←h.length,b];simp [i.1,i.2,e]
theorem bI.cells (S:bI C) {b z t:Nat} {cs:List PV} (e:C.h[b]?=some (.cells z cs)) (d:0<cs.length):∃vs,C.H.get (C.φ b)=some (.cells z vs)∧aZ C cs vs∧C.H.n0≤C.φ b:=by
 obtain ⟨vs,a,b,c,_⟩:=S.bF _ _ _ e (List.length_pos_iff.1 d);exact ⟨vs,a,b,c⟩
theorem wZ (S:bI C) {p q:PV} {x:Value} (h:RV C p x) (k:wW C.h p=some q):∃y,GN C.H x=some y∧RV C q y:=by
 cases h with
 | @ref b o t x _ D d s=>
  simp only [wW]at k
  cases e:C.h[b]? with
  |none=>simp [e]at k
  |some B=>
   cases B with
   |cells z cs=>
    simp only [e]at k;split at k
    case isFalse=>cases k
    rename_i l;obtain ⟨f,n,i,u⟩:=S.cells (t:=t) e (by have:=(ON.1 k).1;omega);obtain ⟨y,g,m⟩:=i.get k;rw [s ⟨z,cs,e,l⟩];exact ⟨y,yH n u g,m⟩
   |map=>simp [e]at k
   |dead=>simp [e]at k
 | @fp cells b o f A d r=>
  simp only [wW]at k
  cases r with
  |nil=>simp at k
  | @cons w c ps xs a E=>
   simp only [List.head?_cons,OH]at k;subst k;refine ⟨c,?_,a.iJ⟩;have:=ic d (j:=0) (v:=c) rfl
   simpa using this
 |_=>simp [wW]at k
theorem iE {a:Nat}:∀{l vs:List Value},al a l=some vs→∀n,al a (l.take n)=some (vs.take n)
 |[],vs,h,n=>by simp [al]at h;subst h;simp [al]
 |y::l,vs,h,n=>by
  simp only [al]at h;split at h
  case h_2=>cases h
  rename_i d e b c;cases h
  cases n with
  |zero=>simp [al]
  |succ n=>simp [al,b,iE c n]
theorem iF {a:Nat}:∀{l vs:List Value},al a l=some vs→∀n,al a (l.drop n)=some (vs.drop n)
 |[],vs,h,n=>by simp [al]at h;subst h;simp [al]
 |y::l,vs,h,n=>by
  have c:=h;simp only [al]at h;split at h
  case h_2=>cases h
  rename_i d e f b;cases h
  cases n with
  |zero=>simpa using c
  |succ n=>simpa using iF b n
theorem nR (S:bI C) {n:Nat} {p q:PV} {x:Value} (h:RV C p x) (k:lj n C.h p=some q):∃y,qk n C.H x=some y∧RV C q y:=by
 cases h with
 | @ref b o t x _ w a r=>
  simp only [lj]at k
  cases e:C.h[b]? with
  |none=>simp [e]at k
  |some B=>
   cases B with
   |cells z cs=>
    simp only [e]at k;split at k
    case isFalse=>cases k
    rename_i j;cases k;obtain ⟨f,d,g,u⟩:=S.cells (t:=t) e (by omega);rw [r ⟨z,cs,e,j.1⟩];refine ⟨.agg ((f.drop o).take n).toArray,?_,.agg ((g.drop o).take n)⟩;simp only [qk];rw [ez d u (by have:=g.length;omega)];rfl
   |map=>simp [e]at k
   |dead=>simp [e]at k
 | @fp cells b o f v a m=>
  simp only [lj]at k;split at k
  case isFalse=>cases k
  rename_i l;cases k;refine ⟨.agg (f.take n).toArray,?_,.agg ((m.take n).iJ)⟩;simp only [qk]
  have:C.H.ldn ⟨b,o,none⟩ n=some (f.take n):=by
   unfold AH.ldn at a⊢;dsimp only at a⊢
   cases d:C.H.get b with
   |none=>simp [d]at a
   |some B=>
    cases B with
    |map=>simp [d]at a
    |cells z c=>
     simp only [d]at a⊢;obtain ⟨s,a⟩:=ai a;simp only [OT]at s;rw [show decide (o+n≤c.length)=true by simp;omega,cond_true];have e:(c.drop o).take n=((c.drop o).take cells.length).take n:=by rw [List.take_take,Nat.min_eq_left l]
     cases i:decide (b<C.H.n0)with
     |false=>
      rw [i]at a;simp only [cond_false,OH]at a⊢;rw [e,a]
     |true=>
      rw [i]at a;simp only [cond_true]at a⊢;rw [e];exact iE a n
  rw [this];rfl
 |_=>simp [lj]at k
theorem sq {H:AH} {b o n k:Nat} {vs:List Value} (h:H.ldn ⟨b,o,none⟩ n=some vs) (g:k≤n):H.ldn ⟨b,o+k,none⟩ (n- k)=some (vs.drop k):=by
 unfold AH.ldn at h⊢;dsimp only at h⊢
 cases a:H.get b with
 |none=>simp [a]at h
 |some B=>
  cases B with
  |map=>simp [a]at h
  |cells z c=>
   simp only [a]at h⊢;obtain ⟨f,h⟩:=ai h;simp only [OT]at f;rw [show decide (o+k+(n- k)≤c.length)=true by simp;omega,cond_true];have e:(c.drop (o+k)).take (n- k)=((c.drop o).take n).drop k:=by rw [List.drop_take,List.drop_drop]
   rw [e]
   cases d:decide (b<H.n0)with
   |false=>rw [d]at h;simp only [cond_false,OH]at h⊢;rw [h]
   |true=>rw [d]at h;simp only [cond_true]at h⊢;exact iF h k
theorem cellsOf {p:PV} {cs:List PV} {x:Value} (h:RV C p x) (a:bh p=some cs):∃ys,aE x=ys∧bu x=false∧aZ C cs ys:=⟨_,rfl,(db h a).2,(db h a).1⟩
theorem Cd (S:bI C) {n:Nat} {p q:PV} {x y:Value} {c:PH} (h:RV C p x) (g:RV C q y) (k:yR n C.h p q=some c) (u:∀b o t,p= .ref b o t→W b):∃d,BS n C.H x y=some d∧bI ⟨C.F,d,C.φ,c⟩∧bA C.h.length W C ⟨C.F,d,C.φ,c⟩:=by
 cases h with
 | @ref b o t x _ G E s=>
  simp only [yR]at k
  cases e:C.h[b]? with
  |none=>simp [e]at k
  |some B=>
   cases B with
   |cells z cs=>
    cases a:bh q with
    |none=>simp [e,a]at k
    |some I=>
     simp only [e,a]at k;split at k
     case isFalse=>cases k
     rename_i i;cases k;obtain ⟨m,r,f,v⟩:=S.cells (t:=t) e (by omega);obtain ⟨l,w⟩:=db g a;have j:=l.length;have D:=f.length;obtain ⟨A,B⟩:=S.put (W:=W) (u _ _ _ rfl) e (by intro q;subst q;simp at i;omega) (cF (by omega)) (f.ig (k:=o) l);rw [s ⟨z,cs,e,i.1⟩];refine ⟨_,?_,A,B⟩;rw [BU,if_pos ⟨by omega,w⟩];unfold AH.st;simp only [r];rw [show decide (C.H.n0≤C.φ b)=true by simp [v],show decide (o+(aE y).length≤m.length)=true by simp;omega];rfl
   |map=>simp [e]at k
   |dead=>simp [e]at k
 |_=>simp [yR]at k
theorem fx {k:Nat} {y:Value} (h:lk k y=true):(k=1∧y= .pointer none)∨(k=2∧∃n c,y= .slice none n c)∨(k=3∧y= .nilFunc)∨(k=4∧y= .map none):=by
 unfold lk at h;split at h<;>simp_all
theorem vm {k:Nat} {p q:PV} {x y:Value} {r:Bool} (h:RV C p x) (g:RV C q y) (e:vd C.h k p q=some r):cH k x y=some r:=by
 cases q with
 |v z=>
  cases g;replace e:vc C.h k p y=some r:=e;unfold vc at e
  cases p with
  |v w=>cases h;exact e
  |ref b o t=>
   cases h with|ref _ s m j=>
   dsimp only at e;split at e
   case h_2=>cases e
   rename_i l cs i;split at e
   case isFalse=>cases e
   rename_i d;cases e;rw [j ⟨l,cs,i,d.1⟩,d.2.1];rcases fx d.2.2 with⟨a,rfl⟩|⟨a,_⟩|⟨a,_⟩|⟨a,_⟩<;>first|rfl|cases a
  |fp cells=>
   cases h;dsimp only at e;split at e
   case isFalse=>cases e
   rename_i d;cases e;rw [d.1];rcases fx d.2 with⟨a,rfl⟩|⟨a,_⟩|⟨a,_⟩|⟨a,_⟩<;>first|rfl|cases a
  |sl sz b o n c=>
   cases h with|sl _ s m j=>
   dsimp only at e;split at e
   case h_2=>cases e
   rename_i l cs i;split at e
   case isFalse=>cases e
   rename_i d;cases e;rw [d.2.2.1];rcases j ⟨l,cs,i,d.1.symm⟩with⟨a,_⟩|⟨_,rfl⟩
   ·omega
   ·rcases fx d.2.2.2 with⟨a,_⟩|⟨a,B,A,rfl⟩|⟨a,_⟩|⟨a,_⟩<;>first|rfl|cases a
  |fs sz rows=>
   cases h with|fs q=>
   dsimp only at e;split at e
   case isFalse=>cases e
   rename_i d;cases e;rw [d.2.1]
   cases q with| @fs _ _ a c rs E m G D=>
   obtain ⟨H,A,u,F⟩:=E.is;simp only [Value.slice.injEq]at u;obtain ⟨rfl,_,rfl⟩:=u;have:0<rs.length:=by rw [←D.length];exact List.length_pos_iff.2 d.1
   obtain ⟨b,o,rfl,_⟩:=F 0 _ (OG this);rcases fx d.2.2 with⟨a,_⟩|⟨a,B,A,rfl⟩|⟨a,_⟩|⟨a,_⟩<;>first|rfl|cases a
  |fn f a b=>
   cases h;dsimp only at e;split at e
   case isFalse=>cases e
   rename_i d;cases e;rw [d.1];rcases fx d.2 with⟨a,_⟩|⟨a,_⟩|⟨a,rfl⟩|⟨a,_⟩<;>first|rfl|cases a
  |mp b=>
   cases h with|mp _ s j=>
   dsimp only at e;split at e
   case h_2=>cases e
   rename_i es i;split at e
   case isFalse=>cases e
   rename_i d;cases e;rw [d.1,j ⟨es,i⟩];rcases fx d.2 with⟨a,_⟩|⟨a,_⟩|⟨a,_⟩|⟨a,rfl⟩<;>first|rfl|cases a
  |_=>cases e
 |_=>cases e
theorem jI {b o t:Nat} {x:Value} (h:RV C (.ref b o t) x) (k:bB C.h b=some t):x= .pointer (some ⟨C.φ b,o,none⟩):=by
 cases h with|ref _ e d c=>
 unfold bB at k;split at k
 case h_2=>cases k
 rename_i z cs a;cases k;exact c ⟨z,cs,a,rfl⟩
theorem RV.Ce {b o a t:Nat} {x:Value} (h:RV C (.ref b o t) x):RV C (.ref b a t) (.pointer (some ⟨C.φ b,a,none⟩)):=by
 cases h with|ref _ d c e=>exact .ref rfl d c fun _=>rfl
theorem o8 {cells:List PV} {b o k:Nat} (c:k≤cells.length) (h:RV C (.fp cells) (.pointer (some ⟨b,o,none⟩))):RV C (.fp (cells.drop k)) (.pointer (some ⟨b,o+k,none⟩)):=by
 cases h with|fp d a e=>
 refine .fp d ?_ (e.drop k);rw [List.length_drop];exact sq a c
theorem Cg {off:Nat} {p q:PV} {x:Value} (h:RV C p x) (k:Av C.h off p=some q):∃y,Ee off x=some y∧RV C q y:=by
 cases p with
 |ref b o t=>
  simp only [Av]at k;split at k
  case isFalse=>cases k
  rename_i a;cases k;rw [jI h a];exact ⟨_,rfl,h.Ce⟩
 |fp cells=>
  simp only [Av]at k;split at k
  case isFalse=>cases k
  rename_i a;cases k;have c:=h
  cases h with|fp e d f=>
  exact ⟨_,rfl,o8 a c⟩
 |_=>cases k
theorem vn {p q:PV} {x:Value} (h:RV C p x) (k:oZ C.h p=some q):r8 x=some x∧RV C q x:=by
 cases p with
 |ref b o t=>
  simp only [oZ]at k;split at k
  case isFalse=>cases k
  rename_i a;cases k;refine ⟨?_,h⟩;rw [jI h a];rfl
 |fp cells=>
  cases k;exact ⟨by cases h;rfl,h⟩
 |_=>cases k
theorem yV {len sz:Nat} {p q r:PV} {x y:Value} (h:RV C p x) (g:RV C q y) (k:sk C.h len sz p q=some r):∃z,uM len sz x y=some z∧RV C r z:=by
 unfold sk at k;split at k
 ·rename_i b o t kk n
  cases g;split at k
  case isFalse=>cases k
  rename_i a;cases k;rw [jI h a.1];refine ⟨_,?_,h.Ce⟩;rw [r9,if_pos ⟨a.2.1,a.2.2⟩]
 ·rename_i cells kk n
  cases g;split at k
  case isFalse=>cases k
  rename_i a;cases k;have c:=h
  cases h with|fp e d f=>
  refine ⟨_,?_,o8 a.2.2 c⟩;rw [r9,if_pos ⟨a.1,a.2.1⟩]
 ·cases k
theorem Ch {sz:Nat} {p q r:PV} {x y:Value} (h:RV C p x) (g:RV C q y) (k:Cb C.h sz p q=some r):∃z,Ef sz x y=some z∧RV C r z:=by
 unfold Cb at k;split at k
 ·rename_i v b o n c kk m
  cases g;split at k
  case h_2=>cases k
  rename_i u cs F;split at k
  case isFalse=>cases k
  rename_i f;cases k;obtain ⟨rfl,d,h2,J,I⟩:=f
  cases h with|sl N G s H=>
  rcases H ⟨u,cs,F,d.symm⟩with⟨a,_⟩|⟨_,rfl⟩
  ·omega
  ·refine ⟨_,by rw [wS,if_pos ⟨J,I⟩],?_⟩
   rw [←Nat.add_mul];exact .ref rfl G (by rw [←d];exact s) fun _=>rfl
 ·rename_i v rows kk m
  cases g;split at k
  case isFalse=>cases k
  rename_i f;obtain ⟨rfl,d,h2⟩:=f;split at k
  case h_2=>cases k
  rename_i L j;cases k
  cases h with|fs q=>
  cases q with| @fs _ _ a c rs D s E A=>
  obtain ⟨K,w,i⟩:=A.get j;obtain ⟨P,O,e,B⟩:=D.is;simp only [Value.slice.injEq]at e;obtain ⟨rfl,_,rfl⟩:=e;obtain ⟨b,o,rfl,l⟩:=B _ _ w;have M:=(ON.1 j).1;refine ⟨_,by rw [wS,if_pos ⟨d,h2⟩],?_⟩;refine .fp ?_ ?_ i
  ·rcases (E _ rfl).2 with t|t
   ·omega
   ·exact t.1
  ·rw [i.length,(bQ l).2]
   exact l
 ·cases k
theorem mz {h:PH} {sz b o n c:Nat} (k:dt h (.sl sz b o n c)=true):At h b ((o+c)*sz):=by
 unfold dt at k;dsimp only at k;split at k
 ·rename_i z cs e;exact ⟨z,cs,e,by simpa using(of_decide_eq_true k).symm⟩
 ·cases k
theorem sr {p:PV} {x:Value} {n:Nat} (h:RV C p x) (k:iK p=some n) (a:dt C.h p=true):fR x=some n:=by
 unfold iK at k;split at k
 ·cases h;cases k;rfl
 ·cases h;cases k;rfl
 ·cases k
  cases h with|sl _ e c b=>
  rcases b (mz a)with⟨_,rfl,d,rfl,_⟩|⟨_,rfl⟩<;>rfl
 ·cases k
  cases h with|fs q=>cases q;rfl
 ·cases k
end P
namespace P
open Go Go.RowKit
variable{C:Cx} {W:Nat→Prop}
theorem iG {sz b o n c:Nat} {x:Value} (h:RV C (.sl sz b o n c) x) {z:Nat} {cs:List PV} (e:C.h[b]?=some (.cells z cs)) (a:(o+c)*sz=cs.length):Hf (C.φ b) sz o n c x:=by
 cases h with|sl _ g f d=>exact d ⟨z,cs,e,a.symm⟩
theorem RV.Nk {sz b o n c a d c':Nat} {x y:Value} (h:RV C (.sl sz b o n c) x) (e:a+c'=o+c) (f:EB d y) (k:Hf (C.φ b) sz a d c' y):RV C (.sl sz b a d c') y:=by
 cases h with|sl _ i g j=>exact .sl f i (by rw [e];exact g) fun _=>k
theorem o9:∀(l:List UInt8),aZ C (l.map fun b=>.v (.int .u8 b.toNat)) (l.map fun b=>.int .u8 b.toNat)
 |[]=>.nil
 |b::l=>.cons (.v _) (o9 l)
theorem jJ (S:bI C) {sz m:Nat} {p:PV} {x:Value} {new:List PV} (h:RV C p x) (k:cP C.h sz m p=some new) (D:0<m) (u:0<sz):
 ∃ys,dM C.H sz m x=some ys∧aZ C new ys∧(iK p=some m→je C.H sz x=some ys∧fR x=some m∧ys.length=m*sz)∧(∀q,fR x=some q→m≤q→ys.length=m*sz):=by
 have B:¬ m*sz=0:=by have:=Nat.mul_pos D u;omega
 unfold cP at k;split at k
 ·rename_i cz b o n c
  split at k
  case h_2=>cases k
  rename_i z cs E;split at k
  case isFalse=>cases k
  rename_i g;cases k;obtain ⟨rfl,G,h2,P⟩:=g;have f:(o+m)*cz≤(o+c)*cz:=Nat.mul_le_mul_right _ (by omega);rw [Nat.add_mul]at f;obtain ⟨j,K,w,L⟩:=S.cells (t:=0) E (by have:=Nat.mul_pos (show 0<o+c by omega) u;omega);have N:=w.length;rcases iG h E G with⟨a,_⟩|⟨_,rfl⟩
  ·omega
  have l:C.H.ldn ⟨C.φ b,o*cz,none⟩ (m*cz)=some ((j.drop (o*cz)).take (m*cz)):=ez K L (by omega);have d:((j.drop (o*cz)).take (m*cz)).length=m*cz:=by simp;omega
  refine ⟨(j.drop (o*cz)).take (m*cz),?_,(w.drop _).take _,fun e=>?_,fun q e A=>d⟩
  ·simp only [dM,nb,B,decide_false,cond_false,l]
  ·simp only [iK,OH]at e
   subst e;refine ⟨?_,rfl,d⟩;simp only [je,nb,show¬ n=0 by omega,decide_false,cond_false,l]
 ·rename_i cz rows
  split at k
  case isFalse=>cases k
  rename_i g;cases k;obtain ⟨rfl,G⟩:=g
  cases h with|fs q=>
  cases q with| @fs _ _ a c rs i l O y=>
  have d:=y.length;obtain ⟨R,Q,I,M⟩:=i.is;simp only [Value.slice.injEq]at I;obtain ⟨rfl,_,rfl⟩:=I;obtain ⟨b,o,rfl,_⟩:=M 0 _ (OG (by omega));rw [d]at i;have v:=i.whole m (by omega) D
  have F:(rs.take m).flatten.length=m*cz:=by
   rw [bR (sz:=cz) fun r J=>i.sd r (List.mem_of_mem_take J),List.length_take,Nat.min_eq_left (by omega)]
  refine ⟨(rs.take m).flatten,?_,(y.take m).flat.iJ,fun e=>?_,fun _ _ _=>F⟩
  ·simp only [dM,nb,B,decide_false,cond_false,v]
  ·simp only [iK,OH]at e
   refine ⟨?_,by simp [fR,e],F⟩;simp only [je,nb,show¬ rows.length=0 by omega,decide_false,cond_false];rw [e,v]
 ·rename_i s
  split at k
  case isFalse=>cases k
  rename_i g;cases k;subst g;cases h;refine ⟨(s.extract 0 m).data.toList.map fun b=>.int .u8 b.toNat,rfl,o9 _,fun e=>?_,fun q e A=>?_⟩
  ·simp only [iK,OH]at e
   subst e;refine ⟨?_,rfl,by simp⟩;simp [je]
  ·simp only [fR,OH]at e
   subst e;simp [A]
 ·split at k
  case isFalse=>cases k
  omega
 ·cases k
theorem yW (S:bI C) {sz bytes:Nat} {p q r:PV} {x y:Value} {h':PH} (s:RV C p x) (R:RV C q y) (k:ll sz bytes C.h p q=some (r,h')) (hW:∀sz b o n c,p= .sl sz b o n c→W b):
 fM C W (aK sz bytes C.H x y) r h':=by
 unfold ll at k;split at k
 ·cases k
 rename_i m X;split at k
 ·rename_i N
  subst N;split at k
  case isFalse=>cases k
  rename_i hv;have f:=sr R X hv;split at k
  ·cases k
   cases s;exact fM.val S (.v _) (by simp [aK,f])
  ·rename_i cz b o n c
   split at k
   case h_2=>cases k
   rename_i z cs j;split at k
   case isFalse=>cases k
   rename_i w;cases k;have G:=iG s j w.1;refine fM.val S s ?_;rcases G with⟨_,rfl,d,rfl,_⟩|⟨_,rfl⟩
   ·simp [aK,f]
   ·simp [aK,f,w.2]
  ·cases k
   refine fM.val S s ?_
   cases s with|fs g=>
   cases g with|fs hr hl hk m8=>simp [aK,f,hl]
  ·cases k
 rename_i N;have E:0<m:=by omega
 split at k
 ·cases k
 rename_i new sf;split at k
 ·split at k
  case isFalse=>cases k
  rename_i w;cases k;obtain ⟨u,K,L⟩:=w;obtain ⟨O,_,l,i,_⟩:=jJ S R sf E u;obtain ⟨i,f,Ax⟩:=i X;cases s;obtain ⟨A,B⟩:=S.new (P:=.cells sz new) (B:=.cells sz O) W (.inl ⟨_,_,_,rfl,rfl,l⟩);refine ⟨.slice (some ⟨C.H.nx,0,none⟩) m m,_,_,?_,.sl ⟨_,_,rfl⟩ (by simp) ?_ (fun _=>.inr ⟨E,?_⟩),A,B⟩
  ·have:¬ m=0:=N
   simp [aK,f,this,i,nb,K,L]
  ·intro z cs e
   rw [show(C.h++[PB.cells sz new])[C.h.length]?=_ from eA _ _]at e;cases e;have:=l.length;simp;omega
  ·simp [cE]
 ·rename_i cz b o n c
  split at k
  case h_2=>cases k
  rename_i z cs j;split at k
  case isFalse=>cases k
  rename_i w;obtain ⟨rfl,rfl,u,M,h2,K,L⟩:=w;obtain ⟨O,_,l,i,_⟩:=jJ S R sf E u;obtain ⟨i,f,Ax⟩:=i X;have G:=iG s j M;have D:=(ON.1 j).1;have qH:=l.length;have Z:=hW _ _ _ _ _ rfl;have V:¬ m=0:=N;split at k
  ·rename_i Y
   split at k
   case isFalse=>cases k
   rename_i T;cases k;subst Y;subst T;obtain rfl:n=0:=by omega
   have F:cs=[]:=Pa.1 (by simpa using M.symm);rcases G with⟨_,_,d,rfl,hd⟩|⟨a,_⟩
   case inr=>omega
   obtain ⟨A,B⟩:=S.grow (H1:=C.H) Z j (by rw [F,qH,Ax];simpa using Nat.mul_pos E u) l (.inl ⟨F,rfl⟩);refine ⟨.slice (some ⟨C.H.nx,0,none⟩) m m,_,_,?_,.sl ⟨_,_,rfl⟩ (by simpa using D) ?_ (fun _=>.inr ⟨E,?_⟩),A,B⟩
   ·simp only [aK,f,if_neg V,i]
    rw [show decide ((0+m)*bytes≤2^47)=true by simpa using K,show decide (0+m<2^62)=true by simpa using L];simp only [Bool.and_self,cond_true];rw [if_neg (by omega)]
    cases d with
    |none=>simp
    |some d=>simp [hd d rfl]
   ·intro z bt e
    rw [bT D]at e;cases e;simp;omega
   ·simp [cE]
  rename_i Y;rcases G with⟨a,_⟩|⟨_,rfl⟩
  ·omega
  have gD:0<cs.length:=by rw [←M];exact Nat.mul_pos (by omega) u
  have F:cs≠[]:=List.length_pos_iff.1 gD;obtain ⟨vs,J,Q,U⟩:=S.cells (t:=0) j gD;have Aw:=Q.length;have ql:C.H.gj (C.φ b) z=true:=by unfold AH.gj;rw [J];simp
  have d1:decide ((n+m)*bytes≤2^47)=true:=by simpa using K
  have d2:decide (n+m<2^62)=true:=by simpa using L
  have vo:n*z≤c*z:=Nat.mul_le_mul_right _ h2;have Nl:(o+c)*z=o*z+c*z:=Nat.add_mul ..;have Hl:(o+n)*z=o*z+n*z:=Nat.add_mul ..;have Ok:(n+m)*z=n*z+m*z:=Nat.add_mul ..;split at k
  ·rename_i I
   cases k;have Hm:(n+m)*z≤c*z:=Nat.mul_le_mul_right _ I;obtain ⟨A,B⟩:=S.put Z j F (cF (by omega)) (Q.ig (k:=(o+n)*z) l);refine ⟨.slice (some ⟨C.φ b,o*z,none⟩) (n+m) c,_,_,?_,.sl ⟨_,_,rfl⟩ (by simpa using D) ?_ (fun _=>.inr ⟨by omega,rfl⟩),A,B⟩
   ·simp only [aK,f,if_neg V,i,d1,d2,Bool.and_self,cond_true,if_pos I,ql,Option.isNone_none]
    unfold AH.st;simp only [J];rw [show decide (C.H.n0≤C.φ b)=true by simp [U],show decide (o*z+n*z+O.length≤vs.length)=true by simp;omega,Hl];rfl
   ·intro z9 bt e
    rw [bT D]at e;cases e;rw [cF (by omega)];omega
  ·rename_i I
   split at k
   case isFalse=>cases k
   rename_i T;cases k;subst T;simp only [Nat.zero_mul,Nat.zero_add]at Nl Hl J M;have Hm:c*z<(n+m)*z:=Nat.mul_lt_mul_of_pos_right (by omega) u;have Cj:(cs.take (n*z)++new).length=(n+m)*z:=by rw [OQ,List.length_take,Nat.min_eq_left (by omega)];omega
   obtain ⟨A,B⟩:=S.grow (H1:=C.H.put (C.φ b) none) Z j (ds:=cs.take (n*z)++new) (by omega) ((Q.take _).append l) (.inr ⟨F,rfl⟩);refine ⟨.slice (some ⟨C.H.nx,0,none⟩) (n+m) (n+m),_,_,?_,.sl ⟨_,_,rfl⟩ (by simpa using D) ?_ (fun _=>.inr ⟨by omega,?_⟩),A,B⟩
   ·have fI:C.H.ldn ⟨C.φ b,0,none⟩ (n*z)=some (vs.take (n*z)):=by
     rw [ez J U (by omega)];simp
    simp only [aK,f,if_neg V,i,d1,d2,Bool.and_self,cond_true,if_neg I,if_neg Y,ql,Option.isNone_none,Nat.zero_mul,fI];rw [show decide (C.H.n0≤C.φ b)=true by simp [U]];rfl
   ·intro z9 bt e
    rw [bT D]at e;cases e;rw [Cj];simp
   ·simp [cE]
 ·cases k
end P
namespace P
open Go Go.RowKit
variable{C:Cx} {W:Nat→Prop}
theorem yY (S:bI C) {z:List Value} {p:PV} {x:Value} {h':PH} (j:RV C p x) (k:vk z C.h p=some h') (D:∀sz b o n c,p= .sl sz b o n c→W b):
 fM C W (kJ (.mZ z) [x] C.H) (.v (.tuple #[])) h':=by
 unfold vk at k;split at k
 ·cases k
  cases j;exact fM.val S (.v _) rfl
 ·rename_i sz b o n c
  split at k
  case h_2=>cases k
  rename_i E cs e;split at k
  case isFalse=>cases k
  rename_i y;obtain ⟨rfl,f,m,h2⟩:=y;have i:=iG j e m;split at k
  ·rename_i a
   cases k;subst a;refine fM.val S (.v _) ?_;rcases i with⟨_,_,d,rfl,_⟩|⟨_,rfl⟩
   ·cases d<;>simp [kJ]
   ·simp [kJ]
  ·rename_i a
   cases k;rcases i with⟨_,rfl,_⟩|⟨_,rfl⟩
   ·exact absurd rfl a
   have l:0<cs.length:=by rw [←m];exact Nat.mul_pos (by omega) f
   obtain ⟨q,w,g,u⟩:=S.cells (t:=0) e l;have F:=g.length;have G:(List.replicate n z).flatten.length=n*z.length:=by simp
   have r:(o+n)*z.length≤(o+c)*z.length:=Nat.mul_le_mul_right _ (by omega);rw [Nat.add_mul]at r;obtain ⟨A,B⟩:=S.put (D _ _ _ _ _ rfl) e (List.length_pos_iff.1 l) (cF (by simp only [List.length_map];omega)) (g.ig (k:=o*z.length) (aZ.lits (List.replicate n z).flatten));refine ⟨.tuple #[],_,_,?_,.v _,A,B⟩
   have s:(Nat.beq n 0||z.isEmpty)=false:=by
    rw [nb]
    cases z with
    |nil=>simp at f
    |cons=>simp [a]
   simp only [kJ,s,cond_false];unfold AH.st;simp only [w];rw [show decide (C.H.n0≤C.φ b)=true by simp [u],show decide (o*z.length+(List.replicate n z).flatten.length≤q.length)=true by simp only [OT];omega];rfl
 ·cases k
theorem vq (S:bI C) {sz:Nat} {p q r:PV} {x y:Value} {h':PH} (K:RV C p x) (J:RV C q y) (k:o5 sz C.h p q=some (r,h')) (hW:∀sz b o n c,p= .sl sz b o n c→W b):
 fM C W (eN sz C.H x y) r h':=by
 unfold o5 at k;split at k
 ·cases k
 rename_i m w;obtain ⟨R,w⟩:=ai w;have e:=sr J w R
 have F:∃l,dM C.H sz 0 y=some l∧l.length=0:=by
  cases y with
  |slice a n c=>cases a<;>simp [dM,nb]
  |string s=>exact ⟨[],by simp [dM]⟩
  |_=>simp [fR]at e
 split at k
 ·cases k
  cases K;obtain ⟨l,g,M⟩:=F;refine fM.val S (.v _) ?_;simp only [eN,e,Nat.min_zero];rw [g];rfl
 ·rename_i cz b o n c
  split at k
  case h_2=>cases k
  rename_i z cs D;split at k
  case isFalse=>cases k
  rename_i hc;obtain ⟨rfl,j,O,h2⟩:=hc;have I:=iG K D O;split at k
  ·rename_i f
   cases k;obtain ⟨l,g,M⟩:=F;refine fM.val S (.v _) ?_;have:l=[]:=Pa.1 M;subst this;rcases I with⟨_,rfl,d,rfl,_⟩|⟨_,rfl⟩
   ·simp only [eN,e,f,g]
    cases d<;>rfl
   ·simp only [eN,e,f,g]
    rfl
  ·rename_i f
   split at k
   case h_2=>cases k
   rename_i new T;cases k;have L:0<Nat.min m n:=by omega
   have X:Nat.min m n≤n:=Nat.min_le_right _ _;obtain ⟨i,Z,E,_,u⟩:=jJ S J T L j;have u:=u m e (Nat.min_le_left _ _);rcases I with⟨_,rfl,_⟩|⟨_,rfl⟩
   ·simp at f
   have N:0<cs.length:=by rw [←O];exact Nat.mul_pos (by omega) j
   obtain ⟨P,Y,G,V⟩:=S.cells (t:=0) D N;have Aw:=G.length;have qH:=E.length;have Q:(o+Nat.min m n)*cz≤(o+c)*cz:=Nat.mul_le_mul_right _ (by omega);rw [Nat.add_mul]at Q;obtain ⟨A,B⟩:=S.put (hW _ _ _ _ _ rfl) D (List.length_pos_iff.1 N) (cF (by omega)) (G.ig (k:=o*cz) E);refine ⟨.int .i64 (Nat.min m n),_,_,?_,.v _,A,B⟩;simp only [eN,e,Z]
   have U:i.isEmpty=false:=by
    cases i with
    |nil=>simp at u;have:=Nat.mul_pos L j;omega
    |cons=>rfl
   simp only [Option.bind_some,U,cond_false];unfold AH.st;simp only [Y];rw [show decide (C.H.n0≤C.φ b)=true by simp [V],show decide (o*cz+i.length≤P.length)=true by simp;omega];rfl
 ·cases k
theorem nS {a:X→PV} {b:X→Value} (h:∀x,RV C (a x) (b x)) {o:Option X} {r:Option Value} (k:wX (o.map a)=some r):o.map b=r:=by
 cases o with
 |none=>simpa [wX]using k
 |some x=>
  have c:=h x;simp only [Option.map_some]at k⊢;revert k;generalize a x=p at c;intro k
  cases p<;>first
   |(simp [wX]at k;done)
   |skip
  cases c
  simpa [wX]using k
theorem pa {v:Value} {y z n:Nat} (h:dL v y=some n) (a:n≤z):dL v z=some n:=by
 unfold dL at h⊢;cases v<;>simp_all;omega
theorem dF {v:Value} {y n:Nat} (h:dL v y=some n):n≤y:=by
 unfold dL at h;cases v<;>simp_all;omega
theorem qo {n c:Nat} {lo hi:Option Value} {l e m:Nat} (h:aJ n n lo hi none=some (l,e,m)) (j:n≤c):aJ n c lo hi none=some (l,e,c)∧m=n∧l≤e∧e≤n:=by
 have k:=h;unfold aJ at h;obtain ⟨i,g,h⟩:=OS.1 h;obtain ⟨e',h2,h⟩:=OS.1 h;obtain ⟨b,a,h⟩:=OS.1 h;simp only [OH,OP]at h;obtain ⟨rfl,rfl,rfl⟩:=h
 have d:b≤e':=by
  cases lo with
  |none=>simp only [OH]at a;omega
  |some v=>exact dF a
 have f:e'≤n:=by
  cases hi with
  |none=>simp only [OH]at h2;omega
  |some v=>exact dF h2
 refine ⟨?_,by simpa using g.symm,d,f⟩;unfold aJ;refine OS.2 ⟨c,rfl,OS.2 ⟨e',?_,OS.2 ⟨b,a,rfl⟩⟩⟩
 cases hi with
 |none=>exact h2
 |some v=>exact pa h2 (by omega)
theorem su {n c:Nat} {lo hi:Option Value} {v:Value} (h:aJ n n lo hi (some v)=some (0,0,0)) (f:n≤c):aJ n c lo hi (some v)=some (0,0,0):=by
 unfold aJ at h;obtain ⟨d,b,h⟩:=OS.1 h;obtain ⟨g,h2,h⟩:=OS.1 h;obtain ⟨e,a,h⟩:=OS.1 h;simp only [OH,OP]at h;obtain ⟨rfl,rfl,rfl⟩:=h;unfold aJ;refine OS.2 ⟨0,pa b (by omega),OS.2 ⟨0,?_,OS.2 ⟨0,a,rfl⟩⟩⟩
 cases hi with
 |none=>exact h2
 |some v=>exact h2
theorem kB {n c:Nat} {lo hi mx:Option Value} {l e m:Nat} (h:aJ n c lo hi mx=some (l,e,m)) (i:n≤c):m≤c∧(mx=none→m=c)∧l≤e∧e≤m:=by
 unfold aJ at h;obtain ⟨b,f,h⟩:=OS.1 h;obtain ⟨j,h2,h⟩:=OS.1 h;obtain ⟨g,d,h⟩:=OS.1 h;simp only [OH,OP]at h;obtain ⟨rfl,rfl,rfl⟩:=h
 have a:b≤c∧(mx=none→b=c):=by
  cases mx with
  |none=>simp only [OH]at f;omega
  |some v=>exact ⟨dF f,fun h=>by cases h⟩
 refine ⟨a.1,a.2, ?_, ?_⟩
 · cases lo with
   |none=>simp only [OH]at d;omega
   |some v=>exact dF d
 · cases hi with
   |none=>cases mx with
    |none=>simp only [OH]at h2;have:=a.2 rfl;omega
    |some v=>cases h2
   |some v=>cases mx with
    |none=>have:=dF h2;have:=a.2 rfl;omega
    |some w=>exact dF h2
theorem mA {sz:Nat} {a:Option Addr} {n c:Nat} {rs:List (List Value)} {F:Nat→Prop} {H:AH} (f:Rows H sz (.slice a n c) rs) (g:∀d,a=some d→(d.spot=none∨c=0)∧(n=0∨(F d.block∧H.gj d.block sz=true))) (m:0<n):∃b o,a=some ⟨b,o,none⟩∧rs.length=n∧F b∧H.gj b sz=true∧∀i r,rs[i]?=some r→H.ldn ⟨b,o+i*sz,none⟩ sz=some r:=by
 obtain ⟨u,s,e,q⟩:=f.is;simp only [Value.slice.injEq]at e;obtain ⟨rfl,h,rfl⟩:=e;obtain ⟨b,o,rfl,_⟩:=q 0 _ (OG (by omega));rcases (g _ rfl).2 with p|⟨j,h2⟩
 ·omega
 ·exact ⟨b,o,rfl,h.symm,j,h2,fun i r hi=>by obtain ⟨t,l,e,k⟩:=q i r hi;cases e;exact k⟩
theorem ln {sz:Nat} {a:Option Addr} {c:Nat} (h:∀d,a=some d→d.spot=none∨c=0):RF C.F C.H (.fs sz []) (.slice a 0 c):=
 .fs (rows:=[]) (rs:=[]) ⟨_,_,rfl,by simp⟩ (O9 _) (fun d b=>⟨h d b,.inl rfl⟩) .nil
theorem Ck (S:bI C) {sz:Nat} {p r:PV} {x:Value} {h':PH} {lo hi mx:Option X} {F:X→PV} {G:X→Value} (J:∀x,RV C (F x) (G x)) (w:RV C p x) (k:ED sz C.h p (lo.map F) (hi.map F) (mx.map F)=some (r,h')):
 fM C W ((a5 sz C.H x (lo.map G) (hi.map G) (mx.map G)).map fun v=>(v,C.H)) r h':=by
 unfold ED at k;split at k
 case h_2=>cases k
 rename_i I j4 Z P O e3;rw [nS J P,nS J O,nS J e3];clear P O e3 J;split at k
 ·rename_i g b o n c
  split at k
  case h_2=>cases k
  rename_i z cs l e m hh f;split at k
  case isFalse=>cases k
  rename_i E;obtain ⟨rfl,K,rfl,N,h2⟩:=E;have kc:=iG w hh N;split at k
  ·rename_i kO
   cases k;refine fM.val S w ?_;rcases kc with⟨_,rfl,d,rfl,j⟩|⟨a,_⟩
   case inr=>omega
   subst kO;obtain ⟨u,b2,b3,b4⟩:=kB f (OL _);obtain ⟨rfl,rfl,rfl⟩:l=0∧e=0∧m=0:=by omega
   simp only [a5,f,nb,show¬ z=0 by omega,decide_false,Bool.not_false,OL,decide_true,Bool.and_self,cond_true]
   cases d with
   |none=>rfl
   |some d=>simp
  rename_i kO;rcases kc with⟨a,_⟩|⟨_,rfl⟩
  ·omega
  have D:0<cs.length:=by rw [←N];exact Nat.mul_pos (by omega) K
  obtain ⟨vs,hg,j2,gl⟩:=S.cells (t:=0) hh D;have ql:C.H.gj (C.φ b) z=true:=by unfold AH.gj;rw [hg];simp
  split at k
  ·rename_i L
   split at k
   ·rename_i Q
    cases k;subst Q;refine fM.val S (x:=.slice (some ⟨C.φ b,o*z,some 1⟩) 0 0) (.fs (ln fun _ _=>.inr rfl)) ?_
    have hm:m=c:=by
     unfold aJ at f;obtain ⟨m',V,f⟩:=OS.1 f;obtain ⟨e',uo,f⟩:=OS.1 f;obtain ⟨l',y,f⟩:=OS.1 f;simp only [OH,OP]at f V;omega
    simp only [a5,f,nb,show¬ z=0 by omega,decide_false,Bool.not_false,h2,decide_true,Bool.and_self,cond_true,if_pos L,Option.isNone_none,true_and];rw [if_pos (by omega)];rfl
   ·rename_i Q
    cases k;obtain ⟨A,B⟩:=S.void z W
    have R:l≤e:=by
     unfold aJ at f;obtain ⟨m',V,f⟩:=OS.1 f;obtain ⟨e',uo,f⟩:=OS.1 f;obtain ⟨l',y,f⟩:=OS.1 f;simp only [OH,OP]at f;obtain ⟨rfl,rfl,rfl⟩:=f
     cases I with
     |none=>simp only [OH]at y;omega
     |some v=>exact dF y
    refine ⟨.slice (some ⟨C.φ b,o*z,none⟩) 0 0,_,_,?_,.sl ⟨_,_,rfl⟩ (by simp) ?_ (fun _=>.inl ⟨rfl,rfl,_,rfl,by rintro e ⟨⟩;rfl⟩),A,B⟩
    ·have:Z.isNone=false:=by cases Z with
      |none=>exact absurd rfl Q
      |some _=>rfl
     simp only [a5,f,nb,show¬ z=0 by omega,decide_false,Bool.not_false,h2,decide_true,Bool.and_self,cond_true,if_pos L,this];simp;omega
    ·intro z9 Hn e9
     simp
  ·rename_i L
   split at k
   case isFalse=>cases k
   rename_i IH;cases k;subst IH
   have R:l≤m:=by
    unfold aJ at f;obtain ⟨m',V,f⟩:=OS.1 f;obtain ⟨e',uo,f⟩:=OS.1 f;obtain ⟨l',y,f⟩:=OS.1 f;simp only [OH,OP]at f;obtain ⟨rfl,rfl,rfl⟩:=f
    cases I with
    |none=>simp only [OH]at y;omega
    |some v=>have:=dF y;omega
   refine fM.val S (x:=.slice (some ⟨C.φ b,(o+l)*z,none⟩) (e- l) (m- l)) (w.Nk (by omega) ⟨_,_,rfl⟩ (.inr ⟨by omega,rfl⟩)) ?_;simp only [a5,f,nb,show¬ z=0 by omega,decide_false,Bool.not_false,h2,decide_true,Bool.and_self,cond_true,if_neg L,Option.isNone_none,ql,Bool.or_true,Nat.add_mul];rfl
 ·rename_i g rows
  split at k
  case isFalse=>cases k
  rename_i E;obtain ⟨rfl,K⟩:=E
  cases w with|fs q=>
  cases q with| @fs _ _ a c rs hr hl M m8=>
  have hlen:=m8.length;split at k
  ·split at k
   case h_2=>cases k
   rename_i l e m f;split at k
   case isFalse=>cases k
   cases k;obtain ⟨u,rfl,b3,b4⟩:=qo f hl;have T:e≤c:=by omega
   by_cases D:c=l
   ·have kv:(rows.take e).drop l=[]:=Pf (by simp;omega)
    rw [kv]
    have j:∃d,a5 g C.H (.slice a rows.length c) I j4 none=some (.slice d 0 0):=by
     simp only [a5,u,nb,show¬ g=0 by omega,decide_false,Bool.not_false,T,decide_true,Bool.and_self,cond_true]
     cases a with
     |none=>exact ⟨none,by simp;omega⟩
     |some a=>
      simp only [if_pos D];split
      ·exact ⟨_,rfl⟩
      ·exact ⟨some a,by rw [show e- l=0 by omega]⟩
    obtain ⟨d,j⟩:=j;refine fM.val S (x:=.slice d 0 0) (.fs (ln fun _ _=>.inr rfl)) (by rw [j];rfl)
   ·by_cases hn:rows.length=0
    ·obtain ⟨rfl,rfl⟩:l=0∧e=0:=by omega
     have:(rows.take 0).drop 0=[]:=by simp
     rw [this];refine fM.val S (x:=.slice a 0 c) (.fs (ln fun d j=>(M d j).1)) ?_;simp only [a5,u,nb,show¬ g=0 by omega,decide_false,Bool.not_false,T,decide_true,Bool.and_self,cond_true]
     cases a with
     |none=>simp
     |some a=>
      rcases (M _ rfl).1 with Y|Y
      ·obtain ⟨bb,oo,ss⟩:=a
       simp only at Y;subst Y;simp [if_neg D]
      ·omega
    ·obtain ⟨b,o,rfl,N,h2,U,h4⟩:=mA hr M (by omega)
     refine fM.val S (x:=.slice (some ⟨b,o+l*g,none⟩) (e- l) (c- l)) ?_ ?_
     ·have P:((rows.take e).drop l).length=e- l:=by simp;omega
      have O:((rs.take e).drop l).length=((rows.take e).drop l).length:=by simp;omega
      rw [←P];refine .fs (.fs (rs:=(rs.take e).drop l) ⟨_,_,by rw [O],fun i r hi=>⟨b,o+l*g,rfl,?_⟩⟩ (by omega) ?_ ((m8.take e).drop l))
      ·rw [Pm,Pg]at hi
       split at hi
       case isFalse=>cases hi
       have:=h4 _ _ hi;rw [Nat.add_mul]at this;rw [←this];congr 2;omega
      ·rintro d ⟨⟩
       exact ⟨.inl rfl,.inr ⟨h2,U⟩⟩
     ·simp only [a5,u,nb,show¬ g=0 by omega,decide_false,Bool.not_false,T,decide_true,Bool.and_self,cond_true,if_neg D,Option.isNone_none,U,Bool.or_true]
      rfl
  ·split at k
   case isFalse=>cases k
   rename_i f;have u:=su f hl;split at k
   ·cases k
    have j:∃d,a5 g C.H (.slice a 0 c) I j4 (some ‹Value›)=some (.slice d 0 0):=by
     simp only [List.length_nil]at u;simp only [a5,u,nb,show¬ g=0 by omega,decide_false,Bool.not_false,OL,decide_true,Bool.and_self,cond_true]
     cases a with
     |none=>exact ⟨none,rfl⟩
     |some a=>exact ⟨some a,by simp⟩
    obtain ⟨d,j⟩:=j;refine fM.val S (x:=.slice d 0 0) (.fs (ln fun _ _=>.inr rfl)) (by simp only [List.length_nil];rw [j];rfl)
   ·rename_i r0 rows
    cases k;obtain ⟨b,o,rfl,N,h2,U,h4⟩:=mA hr M (by simp);obtain ⟨A,B⟩:=S.void g W;refine ⟨.slice (some ⟨b,o,none⟩) 0 0,_,_,?_,.sl ⟨_,_,rfl⟩ (by simp) ?_ (fun _=>.inl ⟨rfl,rfl,_,rfl,by rintro e ⟨⟩;rfl⟩),A,B⟩
    ·simp only [a5,u,nb,show¬ g=0 by omega,decide_false,Bool.not_false,OL,decide_true,Bool.and_self,cond_true]
     simp
    ·intro z9 Hn e9
     simp
 ·split at k
  case isFalse=>cases k
  rename_i E;cases k;cases w;refine fM.val S (.v _) ?_;obtain ⟨⟨l,e,m⟩,f⟩:=Pk.1 E.2;obtain ⟨u,b2,b3,b4⟩:=kB f (OL _);obtain ⟨rfl,rfl,rfl⟩:l=0∧e=0∧m=0:=by omega
  simp only [a5,f,nb,show¬ sz=0 by omega,decide_false,Bool.not_false,OL,decide_true,Bool.and_self,cond_true];rfl
 ·rename_i s
  split at k
  ·cases k
  ·split at k
   case h_2=>cases k
   rename_i l e m f;split at k
   case isFalse=>cases k
   rename_i K;cases k;subst K;cases w;refine fM.val S (.v _) ?_;simp only [a5,f];rfl
 ·cases k
end P
namespace P
open Go Go.RowKit
variable{C:Cx} {W:Nat→Prop}
theorem pd {k:Value}:∀{es:List (Value×PV)} {ys:List (Value×Value)} {r:Option PV},es.map (·.1)=ys.map (·.1)→aZ C (es.map (·.2)) (ys.map (·.2))→kz k es=some r→(r=none∧dW k ys=some none)∨∃p v,r=some p∧dW k ys=some (some v)∧RV C p v
 |[],ys,r,h,_,e=>by
  cases ys with
  |nil=>cases e;exact .inl ⟨rfl,rfl⟩
  |cons=>simp at h
 |(n,p)::es,ys,r,h,g,e=>by
  cases ys with
  |nil=>simp at h
  |cons y ys=>
   obtain ⟨m,v⟩:=y;simp only [List.map_cons,List.cons.injEq]at h;obtain ⟨rfl,h⟩:=h;simp only [List.map_cons]at g
   cases g with|cons l j=>
   simp only [kz]at e;split at e
   ·rename_i d
    cases e;exact .inr ⟨p,v,rfl,by simp [dW,d],l⟩
   ·rename_i d
    rcases pd h j e with⟨a,b⟩|⟨i,f,a,b,c⟩
    ·exact .inl ⟨a,by simp [dW,d,b]⟩
    ·exact .inr ⟨i,f,a,by simp [dW,d,b],c⟩
   ·cases e
theorem sw {k:Value} {p:PV} {v:Value} (j:RV C p v):∀{es f:List (Value×PV)} {ys:List (Value×Value)},es.map (·.1)=ys.map (·.1)→aZ C (es.map (·.2)) (ys.map (·.2))→nP k p es=some f→∃d,iI k v ys=some d∧f.map (·.1)=d.map (·.1)∧aZ C (f.map (·.2)) (d.map (·.2))
 |[],f,ys,h,_,e=>by
  cases ys with
  |nil=>cases e;exact ⟨[(k,v)],rfl,rfl,.cons j .nil⟩
  |cons=>simp at h
 |(o,r)::es,f,ys,h,g,e=>by
  cases ys with
  |nil=>simp at h
  |cons y ys=>
   obtain ⟨s,n⟩:=y;simp only [List.map_cons,List.cons.injEq]at h;obtain ⟨rfl,h⟩:=h;simp only [List.map_cons]at g
   cases g with|cons q m=>
   simp only [nP]at e;split at e
   ·rename_i i
    cases e;exact ⟨(k,v)::ys,by simp [iI,i],by simp [h],.cons j m⟩
   ·rename_i i
    cases l:nP k p es with
    |none=>simp [l]at e
    |some t=>
     simp only [l,Option.map_some,OH]at e;subst e;obtain ⟨d,a,b,c⟩:=sw j h m l;exact ⟨(o,n)::d,by simp [iI,i,a],by simp [b],.cons q c⟩
   ·cases e
theorem sx {b:Nat} {x:Value} {es:List (Value×PV)} (h:RV C (.mp b) x) (e:C.h[b]?=some (.map es)):x= .map (some (C.φ b)):=by
 cases h with|mp _ c a=>exact a ⟨es,e⟩
theorem vu (S:bI C) {kk:Nat} {z:Value} {p q r:PV} {x y:Value} {ok:Bool} (h:RV C p x) (g:RV C q y) (k:o4 kk z C.h p q ok=some r):∃w,kr kk z C.H x y ok=some w∧RV C r w:=by
 have s:∃w,(bif ok then Value.tuple #[z,.bool false]else z)=w∧RV C (bif ok then .dB [lT z,.v (.bool false)]else lT z) w:=by
  refine ⟨_,rfl,?_⟩;cases ok
  ·exact nQ z
  ·exact .dB (xs:=[z,.bool false]) (.cons (nQ z) (.cons (.v _) .nil))
 obtain ⟨i,j,l⟩:=s;unfold o4 at k;split at k
 ·cases h;cases g
  split at k
  case isFalse=>cases k
  rename_i a;cases k;exact ⟨i,by simp [kr,a,←j],l⟩
 ·rename_i b B
  cases g;split at k
  case h_2=>cases k
  rename_i es n;split at k
  case isFalse=>cases k
  rename_i a;rw [sx h n];obtain ⟨A,o,u,t,f,_⟩:=S.oX _ _ n;have d:decide (C.H.n0≤C.φ b)=true:=by simp [f]
  cases c:kz y es with
  |none=>simp [c]at k
  |some q=>
   rcases pd u t c with⟨rfl,e⟩|⟨p,v,rfl,e,m⟩
   ·simp only [c,OH]at k
    subst k;exact ⟨i,by simp [kr,o,a,f,e,←j],l⟩
   ·simp only [c,OH]at k
    subst k;refine ⟨(bif ok then Value.tuple #[v,.bool true]else v),by simp [kr,o,a,f,e],?_⟩;cases ok
    ·exact m
    ·exact .dB (xs:=[v,.bool true]) (.cons m (.cons (.v _) .nil))
 ·cases k
theorem yZ (S:bI C) {kk:Nat} {p q r:PV} {x y z:Value} {i:PH} (h:RV C p x) (g:RV C q y) (f:RV C r z) (k:so kk C.h p q r=some i) (u:∀b,p= .mp b→W b):∃j,uQ kk C.H x y z=some j∧bI ⟨C.F,j,C.φ,i⟩∧bA C.h.length W C ⟨C.F,j,C.φ,i⟩:=by
 unfold so at k;split at k
 ·rename_i b E
  cases g;split at k
  case h_2=>cases k
  rename_i es d;split at k
  case isFalse=>cases k
  rename_i l;rw [sx h d];obtain ⟨D,s,o,m,n,_⟩:=S.oX _ _ d
  cases e:nP y r es with
  |none=>simp [e]at k
  |some G=>
   simp only [e,Option.map_some,OH]at k;subst k;obtain ⟨w,a,v,c⟩:=sw f o m e;obtain ⟨A,B⟩:=S.Hh (u _ rfl) d v c;refine ⟨_,?_,A,B⟩;obtain ⟨cs,t⟩:=Pk.1 l.2;simp [uQ,s,l.1,n,a,(db f t).2]
 ·cases k
theorem sy (S:bI C) (W:Nat→Prop) {z:Nat} {cs:List PV} {vs:List Value} (h:aZ C cs vs):fM C W (some (.pointer (some ⟨C.H.nx,0,none⟩),C.H.alloc (.cells z vs))) (.ref C.h.length 0 cs.length) (C.h++[.cells z cs]):=by
 obtain ⟨A,B⟩:=S.new (P:=.cells z cs) (B:=.cells z vs) W (.inl ⟨_,_,_,rfl,rfl,h⟩);refine ⟨_,_,_,rfl,.ref rfl (by simp) ?_ (fun _=>by simp [cE]),A,B⟩;intro b c a;rw [show(C.h++[PB.cells z cs])[C.h.length]?=_ from eA _ _]at a;cases a;exact OL _
theorem pe (S:bI C) (W:Nat→Prop) {sz len:Nat} {cs:List PV} {vs:List Value} (h:aZ C cs vs) (b:cs.length=len*sz) (f:0<sz):fM C W (some (.slice (some ⟨C.H.nx,0,none⟩) len len,C.H.alloc (.cells sz vs))) (.sl sz C.h.length 0 len len) (C.h++[.cells sz cs]):=by
 obtain ⟨A,B⟩:=S.new (P:=.cells sz cs) (B:=.cells sz vs) W (.inl ⟨_,_,_,rfl,rfl,h⟩);refine ⟨_,_,_,rfl,.sl ⟨_,_,rfl⟩ (by simp) ?_ (fun _=>?_),A,B⟩
 ·intro d g a
  rw [show(C.h++[PB.cells sz cs])[C.h.length]?=_ from eA _ _]at a;cases a;simp [b]
 ·by_cases c:len=0
  ·subst c;exact .inl ⟨rfl,rfl,_,rfl,by rintro e ⟨⟩;rfl⟩
  ·exact .inr ⟨by omega,by simp [cE]⟩
theorem sA:∀{ps:List PV} {l xs:List Value},yT ps=some l→aZ C ps xs→xs=l
 |[],l,xs,h,g=>by cases g;cases h;rfl
 |p::ps,l,xs,h,g=>by
  cases g with|cons b a=>
  cases p with
  |v x=>
   cases b;simp only [yT]at h
   cases h2:yT ps with
   |none=>simp [h2]at h
   |some m=>
    simp only [h2,Option.map_some,OH]at h;rw [←h,sA h2 a]
  |_=>simp [yT]at h
theorem pf {cs ds:List PV} {xs ys:List Value} (h:aZ C cs xs) (g:aZ C ds ys):∀{offs:List (Nat×Nat)} {b:Bool},qn cs ds offs=some b→bq xs ys offs=some b
 |[],b,e=>e
 |(o,kk)::l,b,e=>by
  simp only [qn]at e;split at e
  case h_2=>cases e
  rename_i a m k h2;obtain ⟨x,i,rx⟩:=h.get k;obtain ⟨y,f,d⟩:=g.get h2;cases rx;cases d;split at e
  case isFalse=>cases e
  rename_i j;simp only [bq,i,f,j,cond_true];split at e
  ·rename_i c;rw [c];exact pf h g e
  ·rename_i c;rw [c];exact e
  ·cases e
theorem w7 {f:Value→List Value→Option Value} {p r:PV} {x:Value} {ps:List PV} {xs:List Value} (h:RV C p x) (g:aZ C ps xs) (k:Cc f p ps=some r):∃y,f x xs=some y∧RV C r y:=by
 unfold Cc at k;split at k
 ·rename_i c b e
  cases h;rw [sA e g]
  cases a:f x b with
  |none=>simp [a]at k
  |some y=>simp only [a,Option.map_some,OH]at k;subst k;exact ⟨y,rfl,.v _⟩
 ·cases k
def up (r:Option (Value×AH)):Option (dw×AH):=r.map fun q=>(.v q.1,q.2)
theorem vw (o n:Nat) (c:Bool) (vs:List Value) (H:AH):kJ (.pX o n c) vs H=(wY (.pX o n c) vs).map fun v=>(v,H):=by
 match vs with
 |[]=>rfl
 |[a]=>cases a<;>rfl
 |a::b::l=>cases a<;>rfl
theorem vx (len n:Nat) (d:Bool) (vs:List Value) (H:AH):kJ (.pY len n d) vs H=(wY (.pY len n d) vs).map fun v=>(v,H):=by
 match vs with
 |[]=>rfl
 |[a]=>cases a<;>rfl
 |[a,b]=>
  cases a<;>first|rfl|skip
  cases b<;>first|rfl|skip
  simp only [kJ,wY];split<;>rfl
 |a::b::c::l=>cases a<;>first|rfl|(cases b<;>rfl)
theorem vy (len n:Nat) (vs:List Value) (H:AH):kJ (.lX len n) vs H=(wY (.lX len n) vs).map fun v=>(v,H):=by
 match vs with
 |[]=>rfl
 |[a]=>cases a<;>first|rfl|(rename_i q;cases q<;>rfl)
 |a::b::l=>cases a<;>first|rfl|(rename_i q;cases q<;>rfl)
theorem pg {C:Cx} {ps:List PV} {vs:List Value} {n:Nat} {c:Bool} {q:PV} (h:aZ C ps vs) (e:mw ps n c=some q):∃y,iq vs n c=some y∧RV C q y:=by
 unfold mw at e;split at e
 case isFalse=>cases e
 rename_i f;have d:vs.length=n:=by rw [←h.length];exact f
 unfold iq;rw [nb,decide_eq_true d,cond_true]
 cases c with
 |true=>
  simp only [cond_true,OH]at e;subst e;exact ⟨_,rfl,.agg h⟩
 |false=>
  simp only [cond_false]at e⊢;split at e
  ·cases e
   cases h with|cons a b=>
   cases b;exact ⟨_,rfl,a⟩
  ·cases e
theorem bj {C:Cx} (S:bI C) {p:PV} {h':PH} {r:Option PV} {r':Option Value} {a:Option (dw×AH)} (f:a=r'.map fun v=>(.v v,C.H)) (k:(r.map fun v=>(v,C.h))=some (p,h')) (e:∀q,r=some q→∃y,r'=some y∧RV C q y):∃b,a=up b∧fM C W b p h':=by
 cases c:r with
 |none=>simp [c]at k
 |some q=>
  simp only [c,Option.map_some,OH,OP]at k;obtain ⟨rfl,rfl⟩:=k;obtain ⟨y,d,g⟩:=e q c;refine ⟨some (y,C.H),by rw [f,d];rfl,fM.val S g rfl⟩
theorem y4 {H:AH} {b:X→Value} {sz:Nat} {x i:X}:aB (.ia sz x i) b H=(Ef sz (b x) (b i)).map fun v=>(.v v,H):=by
 simp only [aB]
 cases b x with
 |slice a len c=>
  cases a with
  |none=>rfl
  |some a=>
   cases b i<;>first
    |rfl
    |(simp only [Ef];split<;>first|rfl|(cases a.spot.isNone<;>rfl))
 |_=>rfl
theorem vA {H:AH} {b:X→Value} {len sz:Nat} {x i:X}:aB (.cv len sz x i) b H=(uM len sz (b x) (b i)).map fun v=>(.v v,H):=by
 simp only [aB]
 cases b x with
 |pointer a=>
  cases a with
  |none=>rfl
  |some a=>
   cases b i<;>first
    |rfl
    |(simp only [uM];split<;>first|rfl|(cases a.spot.isNone<;>rfl))
 |_=>rfl
theorem rY {H:AH} {a:X→Value} {x i:X}:aB (.ix x i) a H=(Eg (a x) (a i)).map fun v=>(.v v,H):=by
 simp only [aB]
 cases a x with
 |string s=>
  cases a i<;>first
   |rfl
   |(simp only [Eg];rename_i n;cases s[n.toNat]?<;>(split<;>rfl))
 |_=>rfl
theorem sB {H:AH} {a:X→Value} {kk:Nat} {z:Value} {x c:X} {ok:Bool}:aB (.look kk z x c ok) a H=(kr kk z H (a x) (a c) ok).map fun v=>(.v v,H):=by
 simp only [aB,kr]
 cases a x with
 |map r=>
  cases r with
  |none=>dsimp only;cases bf kk (a c)<;>rfl
  |some r=>
   dsimp only
   cases H.get r with
   |none=>rfl
   |some b=>
    cases b with
    |cells=>rfl
    |map es=>
     dsimp only;cases bf kk (a c)&&decide (H.n0≤r)
     ·rfl
     ·cases dW (a c) es with
      |none=>rfl
      |some q=>cases q<;>rfl
 |_=>rfl
theorem vB {H:AH} {c:X→Value} {neg:Bool} {offs:List (Nat×Nat)} {x y:X}:aB (.eqs neg offs x y) c H=(uP neg offs (c x) (c y)).map fun v=>(.v v,H):=by
 simp only [aB]
 cases c x<;>cases c y<;>first
  |rfl
  |(simp only [uP];rename_i a b;cases bq a.toList b.toList offs<;>rfl)
theorem y5 {C:Cx} (S:bI C) {o:aY} {F:X→PV} {u:X→Value} {p:PV} {h':PH} (h:∀x,RV C (F x) (u x)) (k:pop o F C.h=some (p,h')):∃b,aB o u C.H=up b∧fM C (· ∈kA o F) b p h':=by
 cases o with
 |mv x=>cases k;exact ⟨some (u x,C.H),rfl,fM.val S (h x) rfl⟩
 |pick c a b=>
  refine bj S (r':=wO (u c) (u a) (u b)) (by simp only [aB];cases u c<;>rfl) k fun q j=> ?_
  have I:=h c;revert j I;generalize F c=pc;intro j I
  cases pc<;>first
   |(cases j;done)
   |skip
  rename_i w
  cases w<;>first
   |(cases j;done)
   |skip
  rename_i t;cases j;rw [I.iJ];refine ⟨_,rfl, ?_⟩;cases t
  · exact h b
  · exact h a
 |alloc z=>
  cases k;refine ⟨some (.pointer (some ⟨C.H.nx,0,none⟩),C.H.alloc (.cells z.length z)),rfl, ?_⟩;have:=sy S (· ∈kA (.alloc z) F) (z:=z.length) (aZ.lits z);rw [List.length_map]at this;exact this
 |box x=>
  simp only [pop,vj]at k;split at k
  case h_2=>cases k
  rename_i cs I;cases k;obtain ⟨a,b⟩:=db (h x) I;refine ⟨some (.pointer (some ⟨C.H.nx,0,none⟩),C.H.alloc (.cells (aE (u x)).length (aE (u x)))),by simp [aB,b,up], ?_⟩;rw [←a.length];exact sy S _ a
 |build z ps=>
  cases T:gH (z.map .v) (ps.map fun p=>(p.1,p.2.1,F p.2.2))with
  |none=>simp [pop,T]at k
  |some d=>
   simp only [pop,T,Option.map_some,OH,OP]at k;obtain ⟨rfl,rfl⟩:=k;obtain ⟨R,e,g⟩:=o7 (vl.of h ps) (aZ.lits z) T;exact ⟨some (.agg R.toArray,C.H),by simp [aB,e,up],fM.val S (.agg g) rfl⟩
 |bsl len sz z ps=>
  simp only [pop,vh]at k;split at k
  case h_2=>cases k
  rename_i d T;split at k
  case isFalse=>cases k
  rename_i I;cases k;obtain ⟨R,e,g⟩:=o7 (vl.of h ps) (aZ.lits z) T;exact ⟨some (.slice (some ⟨C.H.nx,0,none⟩) len len,C.H.alloc (.cells sz R)),by simp [aB,e,up],pe S _ g I.1 I.2⟩
 |ld x=>exact bj S (r':=GN C.H (u x)) (by
   simp only [aB]
   cases u x with
   |pointer a=>cases a<;>rfl
   |_=>rfl) k fun q j=>wZ S (h x) j
 |ldn n x=>exact bj S (r':=qk n C.H (u x)) (by
   simp only [aB]
   cases u x with
   |pointer a=>
    cases a with
    |none=>rfl
    |some a=>simp only [qk];cases C.H.ldn a n<;>rfl
   |_=>rfl) k fun q j=>nR S (h x) j
 |st n x v=>
  cases K:yR n C.h (F x) (F v)with
  |none=>simp [pop,K]at k
  |some h2=>
   simp only [pop,K,Option.map_some,OH,OP]at k;obtain ⟨rfl,rfl⟩:=k;obtain ⟨O,e,A,B⟩:=Cd (W:=(· ∈kA (.st n x v) F)) S (h x) (h v) K (fun b o t e=>by simp [kA,e]);refine ⟨some (undef,O), ?_,undef,O,C.φ,rfl, .v _,A,B⟩
   have:aB (.st n x v) u C.H=(BS n C.H (u x) (u v)).map fun O=>(.v undef,O):=by
    simp only [aB]
    cases u x with
    |pointer a=>
     cases a with
     |none=>rfl
     |some a=>simp only [BS];cases (Nat.beq (aE (u v)).length n&& !bu (u v))<;>simp
    |_=>rfl
   rw [this,e];rfl
 |cM x=>
  refine bj S (r':=r8 (u x)) (by
   simp only [aB]
   cases u x with
   |pointer a=>cases a<;>rfl
   |_=>rfl) k fun q j=> ?_
  obtain ⟨a,b⟩:=vn (h x) j;exact ⟨_,a,b⟩
 |bin op x y=>
  refine bj S (r':=ba op (u x) (u y)) rfl k fun q j=> ?_
  have D:=h x;have M:=h y;unfold va at j;split at j
  · rename_i a b E L
    rw [E]at D;rw [L]at M;rw [D.iJ,M.iJ]
    cases G:ba op a b with
    |none=>simp [G]at j
    |some w=>simp only [G,Option.map_some,OH]at j;subst j;exact ⟨w,rfl, .v _⟩
  · cases j
 |eqk kk neg x y=>
  cases K:vd C.h kk (F x) (F y)with
  |none=>simp [pop,K]at k
  |some b=>
   simp only [pop,K,Option.map_some,OH,OP]at k;obtain ⟨rfl,rfl⟩:=k;exact ⟨some (.bool (bif neg then !b else b),C.H),by simp only [aB];rw [vm (h x) (h y) K];rfl,fM.val S (.v _) rfl⟩
 |un op x=>
  refine bj S (r':=wb op (u x)) rfl k fun q j=> ?_
  have D:=h x;unfold EC at j;split at j
  · rename_i a E
    rw [E]at D;rw [D.iJ]
    cases G:wb op a with
    |none=>simp [G]at j
    |some w=>simp only [G,Option.map_some,OH]at j;subst j;exact ⟨w,rfl, .v _⟩
  · cases j
 |j0 kk x=>
  refine bj S (r':=BV kk (u x)) (by simp only [aB];cases u x<;>rfl) k fun q j=> ?_
  have D:=h x;unfold vf at j;split at j
  · rename_i V n E
    rw [E]at D;rw [D.iJ];cases j;exact ⟨_,rfl, .v _⟩
  · cases j
 |zZ x=>
  refine bj S (r':=BW (u x)) (by simp only [aB];cases u x<;>rfl) k fun q j=> ?_
  have D:=h x;unfold yS at j;split at j
  · rename_i V n E
    rw [E]at D;rw [D.iJ];cases j;exact ⟨_,rfl, .v _⟩
  · cases j
 |mkf f first cap=>cases k;exact ⟨some (.func (.func f) (first.map u).toArray (cap.map u).toArray,C.H),rfl,fM.val S (.fn (aZ.of h first) (aZ.of h cap)) rfl⟩
 |mkmap=>
  cases k;obtain ⟨A,B⟩:=S.new (P:= .map []) (B:= .map []) (· ∈kA .mkmap F) (.inr ⟨[],[],rfl,rfl,rfl, .nil⟩);exact ⟨some (.map (some C.H.nx),C.H.alloc (.map [])),rfl,_,_,_,rfl, .mp rfl (by simp) (fun _=>by simp [cE]),A,B⟩
 |mksl sz bytes z x=>
  have D:=h x;simp only [pop]at k;unfold o6 at k;split at k
  · rename_i V n E
    rw [E]at D;split at k
    case isFalse=>cases k
    rename_i I;cases k;refine ⟨some (.slice (some ⟨C.H.nx,0,none⟩) n.toNat n.toNat,C.H.alloc (.cells sz (List.replicate n.toNat z).flatten)), ?_,pe S _ ((aZ.lits z).B9 _) ?_ I.2.2.2.2⟩
    · have d3:decide ((bytes:Int)*n≤2^47)=true:=decide_eq_true I.2.2.1
      simp only [aB,D.iJ,decide_eq_true I.1,decide_eq_true I.2.1,d3,Bool.and_self,cond_true];rfl
    · have Y:=I.2.2.2.1
      clear I D E
      induction n.toNat with
      |zero=>simp
      |succ m ih=>simp only [List.replicate_succ,List.flatten_cons,OQ,List.length_map,ih,Nat.succ_mul];omega
  · cases k
 |sl sz x lo hi mx=>exact ⟨_,by simp only [aB,up,Option.map_map];rfl,Ck S h (h x) k⟩
 |fa off x=>
  refine bj S (r':=Ee off (u x)) ?_ k fun q j=>Cg (h x) j
  simp only [aB]
  cases u x with
  |pointer a=>
   cases a with
   |none=>rfl
   |some a=>simp only [Ee];cases a.spot.isNone<;>rfl
  |_=>rfl
 |ia sz x i=>exact bj S y4 k fun q j=>Ch (h x) (h i) j
 |cv len sz x i=>exact bj S vA k fun q j=>yV (h x) (h i) j
 |ix x i=>
  refine bj S rY k fun q j=> ?_
  have D:=h x;have M:=h i;unfold Hi at j;split at j
  · rename_i a b E L
    rw [E]at D;rw [L]at M;rw [D.iJ,M.iJ]
    cases G:Eg a b with
    |none=>simp [G]at j
    |some w=>simp only [G,Option.map_some,OH]at j;subst j;exact ⟨w,rfl, .v _⟩
  · cases j
 |look kk z x N ok=>exact bj S sB k fun q j=>vu S (h x) (h N) j
 |qF kk x N v=>
  cases K:so kk C.h (F x) (F N) (F v)with
  |none=>simp [pop,K]at k
  |some h2=>
   simp only [pop,K,Option.map_some,OH,OP]at k;obtain ⟨rfl,rfl⟩:=k;obtain ⟨O,e,A,B⟩:=yZ (W:=(· ∈kA (.qF kk x N v) F)) S (h x) (h N) (h v) K (fun b e=>by simp [kA,e]);refine ⟨some (undef,O), ?_,undef,O,C.φ,rfl, .v _,A,B⟩
   have:aB (.qF kk x N v) u C.H=(uQ kk C.H (u x) (u N) (u v)).map fun O=>(.v undef,O):=by
    simp only [aB,uQ]
    cases u x with
    |map r=>
     cases r with
     |none=>rfl
     |some r=>
      dsimp only
      cases C.H.get r with
      |none=>rfl
      |some b=>
       cases b with
       |cells=>rfl
       |map es=>
        dsimp only;cases (bf kk (u N)&&decide (C.H.n0≤r)&& !bu (u v))
        · rfl
        · simp only [cond_true]
          cases iI (u N) (u v) es<;>rfl
    |_=>rfl
   rw [this,e];rfl
 |ext x i=>
  refine bj S (r':=uN (u x) i) (by
   simp only [aB]
   cases u x with
   |tuple vs=>simp only [uN];cases vs.toList[i]?<;>rfl
   |_=>rfl) k fun q j=> ?_
  have D:=h x;unfold vg at j;split at j
  · rename_i ps i' E
    rw [E]at D;revert D;generalize u x=y;intro D
    cases D with|dB g=>
    obtain ⟨z,Y,gz⟩:=g.get j;exact ⟨z,by simpa [uN]using Y,gz⟩
  · cases j
 |xt Z l=>
  have J:=aZ.of h l
  cases Z with
  |bad=>simp only [pop,tY]at k;cases k
  |j9=>simp only [pop,tY]at k;cases k
  |pX o n Q=>
   refine bj S (r':=wY (.pX o n Q) (l.map u)) (by simp only [aB,vw,Option.map_map];rfl) k fun q j=> ?_
   unfold tY at j;split at j
   case h_2=>cases ‹XK.pX o n Q=XK.pY _ _ _›
   case h_3=>cases ‹XK.pX o n Q=XK.lX _ _›
   case h_4=>cases j
   rename_i o' U Nn cs E L;cases E;rw [L]at J;generalize l.map u=R at J
   cases J with|cons a b=>
   cases b
   cases a with|agg g=>
   obtain ⟨v,e,r⟩:=pg ((g.drop o).take n) j;exact ⟨v,e,r⟩
  |pY len n Q=>
   refine bj S (r':=wY (.pY len n Q) (l.map u)) (by simp only [aB,vx,Option.map_map];rfl) k fun q j=> ?_
   unfold tY at j;split at j
   case h_1=>cases ‹XK.pY len n Q=XK.pX _ _ _›
   case h_3=>cases ‹XK.pY len n Q=XK.lX _ _›
   case h_4=>cases j
   rename_i Hr U Nn cs ki i E L;cases E;rw [L]at J;generalize l.map u=R at J
   cases J with|cons a b=>
   cases b with|cons b c=>
   cases c;cases b
   cases a with|agg g=>
   split at j
   · rename_i hi
     obtain ⟨v,e,r⟩:=pg ((g.drop (i.toNat*n)).take n) j;refine ⟨v, ?_,r⟩;simp only [wY,if_pos hi];exact e
   · cases j
  |lX len n=>
   refine bj S (r':=wY (.lX len n) (l.map u)) (by simp only [aB,vy,Option.map_map];rfl) k fun q j=> ?_
   unfold tY at j;split at j
   case h_1=>cases ‹XK.lX len n=XK.pX _ _ _›
   case h_2=>cases ‹XK.lX len n=XK.pY _ _ _›
   case h_4=>cases j
   rename_i Hr U b t E L;cases E;rw [L]at J;generalize l.map u=R at J
   cases J with|cons a c=>
   cases c;split at j
   case isFalse=>cases j
   rename_i hi;obtain ⟨hi,ht,h0⟩:=hi;simp only [OH]at j;subst j
   have Hg:At C.h b t:=by
    unfold bB at hi;split at hi
    · rename_i z cs q
      exact ⟨z,cs,q,by simpa using hi⟩
    · cases hi
   cases a with
   |ref q1 hb hL hA=>
    rw [hA Hg];exact ⟨_,rfl, .sl ⟨_,_,rfl⟩ hb (by rw [Nat.zero_add,ht];exact hL) (fun _=> .inr ⟨h0,by simp⟩)⟩
  |mZ z=>
   simp only [pop]at k
   cases D:my (.mZ z) (l.map F)with
   |none=>
    have:tY C.h (.mZ z) (l.map F)=none:=by
     unfold tY;split<;>first|rfl|contradiction
    simp [D,this]at k
   |some q=>
    obtain ⟨z',p0⟩:=q;simp only [D]at k;obtain ⟨h2,hk,e⟩:=OR.1 k;cases e
    match l,D,J with
    |[],D,J=>simp [my]at D
    |_::_::_,D,J=>simp [my]at D
    |[x],D,J=>
     simp only [List.map_cons,List.map_nil,my,OH,OP]at D;obtain ⟨rfl,rfl⟩:=D;refine ⟨_,rfl,yY (W:=(· ∈kA (.xt (.mZ z) [x]) F)) S (h x) hk (fun sz b o n c e=> ?_)⟩;simp [kA,my,e]
 |call f «as»=>cases k
 |callv x «as»=>cases k
 |app sz bytes s x=>exact ⟨_,rfl,yW S (h s) (h x) k (fun sz b o n c e=>by simp [kA,e])⟩
 |copy sz d s=>exact ⟨_,rfl,vq S (h d) (h s) k (fun sz b o n c e=>by simp [kA,e])⟩
 |lens x=>
  refine bj S (r':=oT (u x)) (by simp only [aB];cases u x<;>rfl) k fun q j=> ?_
  have D:=h x;unfold sn at j;split at j
  · rename_i a E
    rw [E]at D;rw [D.iJ]
    cases G:oT a with
    |none=>simp [G]at j
    |some w=>simp only [G,Option.map_some,OH]at j;subst j;exact ⟨w,rfl, .v _⟩
  · cases j
 |eo x=>
  refine bj S (r':=oU (u x)) (by simp only [aB];cases u x<;>rfl) k fun q j=> ?_
  have D:=h x;unfold o3 at j;split at j
  · rename_i a E
    rw [E]at D;rw [D.iJ]
    cases G:oU a with
    |none=>simp [G]at j
    |some w=>simp only [G,Option.map_some,OH]at j;subst j;exact ⟨w,rfl, .v _⟩
  · rename_i sz b o n c E
    rw [E]at D;cases j;revert D;generalize u x=y;intro D
    cases D with|sl hn _ _ _=>
    obtain ⟨_,_,rfl⟩:=hn;exact ⟨_,rfl, .v _⟩
  · rename_i sz rows E
    rw [E]at D;cases j;revert D;generalize u x=y;intro D
    cases D with|fs g=>
    cases g;exact ⟨_,rfl, .v _⟩
  · cases j
 |z0 t x=>cases k;exact ⟨some (.iface t (u x),C.H),rfl,fM.val S (.iT (h x)) rfl⟩
 |mxl x l=>exact bj S (r':=wc (u x) (l.map u)) rfl k fun q j=>w7 (h x) (aZ.of h l) j
 |mnl x l=>exact bj S (r':=we (u x) (l.map u)) rfl k fun q j=>w7 (h x) (aZ.of h l) j
 |eqs neg offs x y=>
  refine bj S vB k fun q j=> ?_
  have D:=h x;have M:=h y;unfold vi at j;split at j
  · rename_i cs ds E L
    rw [E]at D;rw [L]at M;revert D M;generalize u x=a;generalize u y=b;intro D M
    cases D with|agg gx=>
    cases M with|agg gy=>
    cases G:qn cs ds offs with
    |none=>simp [G]at j
    |some w=>
     simp only [G,Option.map_some,OH]at j;subst j;exact ⟨_,by simp only [uP,List.toList_toArray];rw [pf gx gy G];rfl, .v _⟩
  · cases j
end P
namespace P
open Go Go.RowKit
structure PF where
 g:Nat→PV
def PF.get (f:PF) (n:Nat):PV:=f.g n
def PF.put (f:PF) (n:Nat) (p:PV):PF:=⟨fun m=>if m=n then p else f.g m⟩
def PF.aw (f:PF) (d:Option Nat) (p:PV):PF:=match d with|some n=>f.put n p|none=>f
def PF.of (l:List PV):PF:=⟨fun n=>l.getD n .any⟩
theorem PF.aN (f:PF) (n m:Nat) (p:PV):(f.put n p).get m=if m=n then p else f.get m:=rfl
theorem PF.b6 (l:List PV) (n:Nat):(PF.of l).get n=l.getD n .any:=rfl
def bX (f:PF):X→PV
 | .t n=>f.get n
 | .k v=>lT v
 | .f n=>.fn n [] []
def fF (C:Cx) (fr:PF) (af:Fr):Prop:=∀t,RV C (fr.get t) (af.get t)
theorem fF.ev {C:Cx} {a:PF} {b:Fr} (h:fF C a b):∀x,RV C (bX a x) (X.ev b x)
 | .t n=>h n
 | .k v=>nQ v
 | .f n=>.fn (xs:=[]) (ys:=[]) .nil .nil
theorem fF.put {C:Cx} {a:PF} {b:Fr} (h:fF C a b) {p:PV} {x:Value} (k:RV C p x) (n:Nat):fF C (a.put n p) (b.put n x):=by
 intro t;rw [PF.aN,Fr.aN];split
 ·exact k
 ·exact h t
theorem fF.aw {C:Cx} {a:PF} {b:Fr} (h:fF C a b) {p:PV} {x:Value} (k:RV C p x) (d:Option Nat):fF C (a.aw d p) (b.aw d x):=by
 cases d with
 |none=>exact h
 |some n=>exact h.put k n
theorem fF.step {W:Nat→Prop} {C D:Cx} {a:PF} {af:Fr} (h:fF C a af) (T:bA C.h.length W C D):fF D a af:=fun t=>(h t).step T
theorem fF.of {C:Cx} {ps:List PV} {xs:List Value} (h:aZ C ps xs):fF C (PF.of ps) (Fr.of xs):=by
 intro t;rw [PF.b6,Fr.b6];rw [List.getD_eq_getElem?_getD,List.getD_eq_getElem?_getD]
 cases e:ps[t]? with
 |none=>exact .any _
 |some p=>
  obtain ⟨x,a,r⟩:=h.get e;rw [a];exact r
def y6:PV→Bool
 | .v x=>u9 x
 | .ref _ _ _| .sl _ _ _ _ _| .mp _| .fs _ _| .fp _=>true
 |_=>false
def sC (o:AO) (fr:PF):Bool:=match o.g with
 |none=>true
 |some (t,b)=>match fr.get t with| .v x=>dj b x|_=>true
def qp (n:Nat) (p:PV) (h:PH) (W:List Nat):Bool:=match p with
 | .ref b o t=>match h[b]? with
   |some (.cells _ cs)=>decide (cs.length=t)&&decide (o+n≤t)&&decide (0<t)&& !W.contains b&&((cs.drop o).take n).all y6
   |_=>false
 | .fp cells=>decide (n≤cells.length)&&(cells.take n).all y6
 |_=>false
def y7 (o:aY) (fr:PF) (h:PH) (W:List Nat):Bool:=match o with
 | .ld x=>qp 1 (bX fr x) h W
 | .ldn n x=>qp n (bX fr x) h W
 |_=>false
def vC (b:Nat) (h:PH) (W:List Nat):Bool:=!W.contains b&&(match h[b]? with
 |some (.cells _ (c::cs))=>y6 c&&cs.all y6
 |some (.map [])=>true
 |_=>false)
def mB (o:aY) (fr:PF) (h:PH):Option (Option Nat):=match o with
 | .st _ x _| .ld x| .ldn _ x=>match bX fr x with
   | .ref b _ t=>if bB h b=some t∧0<t then some (some b)else none
   | .fp _=>some none
   |_=>none
 | .look _ _ x _ _=>match bX fr x with
   | .mp b=>match h[b]? with|some (.map _)=>some (some b)|_=>none
   |_=>none
 | .sl _ x _ _ _=>match bX fr x with
   | .sl sz b o n c=>if dt h (.sl sz b o n c)=true∧0<c∧0<sz then some (some b)else none
   |_=>none
 |_=>none
def lq:Option (Option Nat)→Option (Option Nat)→Bool
 |some (some b),some (some c)=>!Nat.beq b c
 |some none,some (some _)=>true
 |_,_=>false
def EG (k p q:Nat):Option AO→Option (PF×PH×List Nat)→Option (PF×PH×List Nat)→Option AO→Option (PF×PH×List Nat)→Option (PF×PH×List Nat)→Bool
 |some op,some (fp,hp,_),some (_,Ki,_),some oq,some (fq,hq,_),some (_,_,W)=>
  decide (p<q)&&(!sC op fp|| !sC oq fq||(match k with
   |0=>y7 op.o fp hp W
   |1=>!op.o.av&&vC hp.length Ki W
   |_=>lq (mB op.o fp hp) (mB oq.o fq hq)))
 |_,_,_,_,_,_=>false
def Cn (l:List AO) (ck:List (Nat×Nat×Nat)) (acc:List (PF×PH×List Nat)):Bool:=
 ck.all fun c=>EG c.1 c.2.1 c.2.2 (nth l c.2.1) (nth acc.reverse c.2.1) (nth acc.reverse (c.2.1+1)) (nth l c.2.2) (nth acc.reverse c.2.2) (nth acc.reverse (c.2.2+1))
inductive gd (l0:List AO):List (PF×PH×List Nat)→List (Fr×AH)→Cx→List Nat→Prop
 |one {C:Cx} {fr:PF} {af:Fr}:bI C→fF C fr af→gd l0 [(fr,C.h,[])] [(af,C.H)] C []
 |cons {C D:Cx} {acc:List (PF×PH×List Nat)} {bJ:List (Fr×AH)} {fr:PF} {af:Fr} {V W:List Nat}:gd l0 acc bJ C W→bA 0 (· ∈V) C D→bI D→fF D fr af→(∀o,nth l0 (acc.length- 1)=some o→o.o.av=false→D.H.nx≤C.H.nx+1)→gd l0 ((fr,D.h,V++W)::acc) ((af,D.H)::bJ) D (V++W)
theorem gd.length {d:List AO} {W:List Nat} {acc:List (PF×PH×List Nat)} {c:List (Fr×AH)} {C:Cx} (h:gd d acc c C W):acc.length=c.length∧0<acc.length:=by
 induction h with
 |one a b=>exact ⟨rfl,Nat.one_pos⟩
 |cons _ T S R e ih=>simp [ih.1]
theorem jK {α:Type} (l:List α) (x:α) (i:Nat):nth (l++[x]) i=if i<l.length then nth l i else if i=l.length then some x else none:=by
 rw [ku,ku];split
 ·rw [OU (by assumption)]
 ·rw [OY (by omega)]
  split
  ·rename_i h;subst h;simp
  ·rw [Pn (by simp;omega)]
theorem gd.No {k:List AO} {W:List Nat} {acc:List (PF×PH×List Nat)} {g:List (Fr×AH)} {D:Cx} (h:gd k acc g D W):∃(cs:Nat→Cx) («as»:Nat→Fr),
 (∀i s,nth acc.reverse i=some s→(cs i).h=s.2.1∧nth g.reverse i=some («as» i,(cs i).H)∧bI (cs i)∧fF (cs i) s.1 («as» i))∧
 (∀i j s,i≤j→nth acc.reverse j=some s→bA 0 (· ∈s.2.2) (cs i) (cs j))∧
 (∀i o,i+1<acc.length→nth k i=some o→o.o.av=false→(cs (i+1)).H.nx≤(cs i).H.nx+1)∧cs (acc.length- 1)=D∧∀i,i<acc.length→bA 0 (· ∈W) (cs i) D:=by
 induction h with
 | @one C y f a b=>
  refine ⟨fun _=>C,fun _=>f,fun i s e=>?_,fun _ _ _ _ _=>bA.refl _ _ _,fun i o hi=>by simp at hi,rfl,fun _ _=>bA.refl _ _ _⟩
  cases i with
  |zero=>simp only [List.reverse_singleton,BZ,OH]at e;subst e;exact ⟨rfl,rfl,a,b⟩
  |succ i=>simp [nth]at e
 | @cons C D acc g y f V W H0 T S R p ih=>
  obtain ⟨cs,«as»,x,h2,w,v,u⟩:=ih;have r:=H0.length;have m:∀i,i<acc.length→bA 0 (· ∈V++W) (cs i) D:=fun i hi=>(u i hi).trans T (O9 _) (fun _ q=>List.mem_append_right _ q) (fun _ q=>List.mem_append_left _ q)
  refine ⟨fun i=>if i<acc.length then cs i else D,fun i=>if i<acc.length then «as» i else f,fun i s e=>?_,fun i j s t e=>?_,fun i o hi l n=>?_,by simp,fun i hi=>?_⟩
  ·rw [List.reverse_cons,jK,List.length_reverse]at e
   rw [List.reverse_cons,jK,List.length_reverse,←r.1];split at e
   ·rename_i hi
    simp only [if_pos hi];exact x i s e
   ·rename_i hi
    split at e
    case isFalse=>cases e
    rename_i c;cases e;simp only [if_neg hi,if_pos c];exact ⟨trivial,trivial,S,R⟩
  ·rw [List.reverse_cons,jK,List.length_reverse]at e
   split at e
   ·rename_i d
    simp only [if_pos d,if_pos (show i<acc.length by omega)];exact h2 i j s t e
   ·rename_i d
    split at e
    case isFalse=>cases e
    cases e;simp only [if_neg d];by_cases hi:i<acc.length
    ·simp only [if_pos hi];exact m i hi
    ·simp only [if_neg hi];exact bA.refl _ _ _
  ·simp only [List.length_cons]at hi
   by_cases c:i+1<acc.length
   ·simp only [if_pos c,if_pos (show i<acc.length by omega)]
    exact w i o c l n
   ·simp only [if_neg c,if_pos (show i<acc.length by omega)]
    have e:i=acc.length- 1:=by omega
    have:=p o (by rw [←e];exact l) n;rw [e,v];exact this
  ·by_cases c:i<acc.length
   ·simp only [if_pos c];exact m i c
   ·simp only [if_neg c];exact bA.refl _ _ _
theorem y8 {α:Type} {l:List α} {i:Nat} {x:α} (h:nth l i=some x):i<l.length:=by
 rw [ku]at h;exact (ON.1 h).1
theorem sD {x:Value} (h:u9 x=true):jf x x=true:=by
 cases x<;>first
  |(simp [u9]at h;done)
  |simp [jf]
theorem y9 {C:Cx} {p:PV} {x:Value} (h:RV C p x) (k:y6 p=true):jf x x=true:=by
 apply sD
 cases p with
 |v y=>cases h;exact k
 |ref=>cases h;assumption
 |sl=>cases h with|sl a _ _ _=>exact a.sm
 |mp=>cases h;assumption
 |fs=>cases h with|fs q=>cases q;rfl
 |fp=>cases h;rfl
 |_=>cases k
theorem lr {C:Cx}:∀{ps:List PV} {xs:List Value},aZ C ps xs→ps.all y6=true→dd xs xs=true
 |_,_,.nil,_=>rfl
 |_,_,.cons a b,h=>by
  simp only [List.all_cons,OK]at h;simp only [dd,OK];exact ⟨y9 a h.1,lr b h.2⟩
theorem sE {C:Cx} {a:PF} {c:Fr} (h:fF C a c) {o:AO} (k:o.wanted c=true):sC o a=true:=by
 obtain ⟨g,d,p⟩:=o
 cases g with
 |none=>rfl
 |some q=>
  obtain ⟨t,b⟩:=q;simp only [sC];have:=h t;split
  ·rename_i x e
   rw [e]at this;rw [ie,this.iJ]at k;exact k
  ·rfl
theorem sG {C:Cx} (S:bI C) {W:List Nat} {b:Nat} (c:aH C.h b) (f:b∉W):¬ im C (· ∈W) (C.φ b):=by
 rintro ⟨g,d,a,e⟩;exact f (S.inj _ _ a c e▸d)
theorem sI {C D:Cx} {W:List Nat} (S:bI C) (T:bA 0 (· ∈W) C D) {n:Nat} {p:PV} {x:Value} (h:RV C p x) (k:qp n p C.h W=true):
 ∃a l,x= .pointer (some a)∧C.H.ldn a n=some l∧sameAt D.H (a,l)=true:=by
 cases p with
 |ref b o t=>
  simp only [qp]at k;split at k
  case h_2=>cases k
  rename_i z cs r;simp only [OK,OT,Bool.not_eq_true',List.contains_eq_mem,decide_eq_false_iff_not]at k;obtain ⟨⟨⟨⟨s,U⟩,R⟩,F⟩,E⟩:=k;obtain ⟨c,I,f,M⟩:=S.cells (t:=t) r (by omega);have V:=f.length;have G:=jI h (t:=t) (by unfold bB;rw [r];simp [s]);have d:C.H.ldn ⟨C.φ b,o,none⟩ n=some ((c.drop o).take n):=ez I M (by omega);have u:=aO r (by intro e;subst e;simp at s;omega);have L:=T.out _ (S.lt u) (sG S u F);refine ⟨_,_,G,d,?_⟩;rw [mr,cm L T.n0,show((c.drop o).take n).length=n by simp;omega,d];exact lr ((f.drop o).take n) E
 |fp cells=>
  simp only [qp,OK,OT]at k;have N:=h
  cases h with| @fp _ b o c J d K=>
  have A:C.H.ldn ⟨b,o,none⟩ n=some (c.take n):=by
   have:=nR S N (n:=n) (q:=.agg (cells.take n)) (by simp [lj,k.1]);obtain ⟨y,m,X⟩:=this;simp only [yI]at m
   cases i:C.H.ldn ⟨b,o,none⟩ n with
   |none=>rw [i]at m;cases m
   |some l=>
    have O:l=c.take n:=by
     have P:∀(j:Nat) (v:Value),l[j]?=some v→(c.take n)[j]?=some v:=by
      intro j v g;have Y:=(bQ i).2;have Z:=(ON.1 g).1;have Q:=ic i g;have f:j<c.length:=by have:=(bQ d).2;omega
      have B:=ic d (j:=j) (OG f);rw [Q]at B;rw [Pg,if_pos (by omega),OG f];exact B.symm
     have w:l.length=(c.take n).length:=by
      have:=(bQ i).2;have:=(bQ d).2;simp;omega
     apply List.ext_getElem?;intro j;by_cases g:j<l.length
     ·rw [P j _ (OG g),OG g]
     ·rw [Pn (by omega),Pn (by omega)]
    rw [O]
  refine ⟨⟨b,o,none⟩,c.take n,rfl,A,?_⟩;rw [mr,cm (T.fz _ J).2 T.n0,show(c.take n).length=n by have:=(bQ d).2;simp;omega,A];exact lr (K.take n).iJ k.2
 |_=>cases k
theorem za {C D:Cx} {W:List Nat} (S:bI C) (T:bA 0 (· ∈W) C D) {o:AO} {f:PF} {i:Fr} (h:fF C f i) (k:y7 o.o f C.h W=true):∃x,et o i C.H=some x∧sameAt D.H x=true:=by
 obtain ⟨g,d,p⟩:=o
 cases p<;>first
  |(cases k;done)
  |skip
 ·obtain ⟨a,l,e,c,b⟩:=sI S T (h.ev _) k
  exact ⟨(a,l),by simp only [et,e,c];rfl,b⟩
 ·obtain ⟨a,l,e,c,b⟩:=sI S T (h.ev _) k
  exact ⟨(a,l),by simp only [et,e,c];rfl,b⟩
theorem sJ {z:Nat} {vs:List Value} (h:dd vs vs=true):gm (some (.cells z vs)) (some (.cells z vs))=true:=by simp [gm,h,nb]
theorem sK {C X D:Cx} {V W:List Nat} (S:bI C) (g:bI X) (T:bA 0 (· ∈V) C X) (p:bA 0 (· ∈W) X D) (s:X.H.nx≤C.H.nx+1) (k:vC C.h.length X.h W=true):gm (X.H.get C.H.nx) (D.H.get C.H.nx)=true:=by
 simp only [vC,OK,Bool.not_eq_true',List.contains_eq_mem,decide_eq_false_iff_not]at k;obtain ⟨m,i⟩:=k
 have key:∀(d:aH X.h C.h.length),X.φ C.h.length=C.H.nx∧D.H.get C.H.nx=X.H.get C.H.nx:=by
  intro d
  have e:X.φ C.h.length=C.H.nx:=by
   rcases T.loc _ d with q|⟨q,_⟩
   ·have:=g.lt d;omega
   ·exact absurd (aR q) (Nat.lt_irrefl _)
  refine ⟨e,?_⟩;have:=p.out _ (g.lt d) (sG g d m);rwa [e]at this
 split at i
 ·rename_i z c cs f
  obtain ⟨a,b⟩:=key (aO f (by simp));obtain ⟨r,j,n,_⟩:=g.cells (t:=0) f (by simp);rw [b,←a,j];exact sJ (lr n (by simpa using i))
 ·rename_i f
  obtain ⟨a,b⟩:=key (b9 f);obtain ⟨l,j,o,_⟩:=g.oX _ _ f;rw [b,←a,j]
  cases l with
  |nil=>rfl
  |cons=>simp at o
 ·cases i
theorem iV {C:Cx} (S:bI C) {o:AO} {m:PF} {l:Fr} (h:fF C m l) {r:Option Nat} (k:mB o.o m C.h=some r):∃a,bg o l=some a∧((∃b,r=some b∧aH C.h b∧a=C.φ b)∨(r=none∧C.F a)):=by
 have go:∀x:X,(match bX m x with| .ref b _ t=>if bB C.h b=some t∧0<t then some (some b)else none| .fp _=>some none|_=>none)=some r→
  ∃a,(match x.ev l with| .pointer (some a)=>some a.block|_=>none)=some a∧((∃b,r=some b∧aH C.h b∧a=C.φ b)∨(r=none∧C.F a)):=by
  intro x k;have f:=h.ev x;split at k
  ·rename_i b o t e
   rw [e]at f;split at k
   case isFalse=>cases k
   rename_i j;cases k;rw [jI f j.1];refine ⟨_,rfl,.inl ⟨b,rfl,?_,rfl⟩⟩;have:=j.1;unfold bB at this;split at this
   ·rename_i z cs i
    cases this;exact aO i (List.length_pos_iff.1 j.2)
   ·cases this
  ·rename_i c e
   rw [e]at f;cases k;revert f;generalize x.ev l=y;intro f;cases f with|fp u _ _=>exact ⟨_,rfl,.inr ⟨rfl,u⟩⟩
  ·cases k
 obtain ⟨g,d,p⟩:=o
 cases p<;>first
  |(cases k;done)
  |exact go _ k
  |skip
 ·rename_i sz x lo hi mx
  simp only [mB]at k;have f:=h.ev x;split at k
  case h_2=>cases k
  rename_i v b o n c e;rw [e]at f;split at k
  case isFalse=>cases k
  rename_i s;cases k;obtain ⟨z,cs,i,j⟩:=mz s.1;rcases iG f i j.symm with⟨q,_⟩|⟨_,q⟩
  ·omega
  ·refine ⟨C.φ b,by simp only [bg,q];rfl,.inl ⟨b,rfl,aO i ?_,rfl⟩⟩
   intro e;subst e;have:=Nat.mul_pos (show 0<o+c by omega) s.2.2;simp at j;omega
 ·rename_i kk z x w ok
  simp only [mB]at k;have f:=h.ev x;split at k
  case h_2=>cases k
  rename_i b e;rw [e]at f;split at k
  case h_2=>cases k
  rename_i es i;cases k;exact ⟨C.φ b,by simp only [bg,sx f i],.inl ⟨b,rfl,b9 i,rfl⟩⟩
theorem sL {C D:Cx} {W:Nat→Prop} (S:bI C) (p:bI D) (T:bA 0 W C D) {o q:AO} {s r:PF} {u t:Fr} (h:fF C s u) (g:fF D r t) (k:lq (mB o.o s C.h) (mB q.o r D.h)=true):
 (match bg o u,bg q t with|some b,some b'=>!Nat.beq b b'|_,_=>true)=true:=by
 unfold lq at k;split at k
 ·rename_i b c n m
  obtain ⟨x,l,j⟩:=iV S h n;obtain ⟨y,i,f⟩:=iV p g m;rcases j with⟨A,e,d,rfl⟩|⟨e,_⟩<;>cases e;rcases f with⟨z,e,a,rfl⟩|⟨e,_⟩<;>cases e;rw [l,i];simp only [nb,Bool.not_eq_true',decide_eq_false_iff_not]at k⊢;intro e;rcases T.loc _ a with q|⟨q,w⟩
  ·have:=S.lt d;omega
  ·exact k (S.inj _ _ d q (e.trans w))
 ·rename_i c n m
  obtain ⟨x,l,j⟩:=iV S h n;obtain ⟨y,i,f⟩:=iV p g m;rcases j with⟨A,e,d,rfl⟩|⟨e,v⟩<;>cases e;rcases f with⟨z,e,a,rfl⟩|⟨e,_⟩<;>cases e;rw [l,i];simp only [nb,Bool.not_eq_true',decide_eq_false_iff_not];intro e;exact (p.old a).2 (e▸(T.fz _ v).1)
 ·cases k
theorem zc {c:List AO} {W:List Nat} {acc:List (PF×PH×List Nat)} {w:List (Fr×AH)} {D:Cx} (h:gd c acc w D W) {k p q:Nat}
 (e:EG k p q (nth c p) (nth acc.reverse p) (nth acc.reverse (p+1)) (nth c q) (nth acc.reverse q) (nth acc.reverse (q+1))=true):kK c w.reverse (k,p,q)=true:=by
 unfold EG at e;split at e
 case h_2=>cases e
 rename_i op X S Wp V R Z F U P Y T O W' v J u I t d;simp only [OK,OT]at e;obtain ⟨Q,e⟩:=e;obtain ⟨cs,«as»,a,h2,H,_⟩:=h.No;obtain ⟨b,E,j,i⟩:=a _ _ J;obtain ⟨n,A,z,N⟩:=a _ _ u;obtain ⟨s,C,B,r⟩:=a _ _ t;obtain ⟨M,y,L,K⟩:=a _ _ d;have G:=y8 d;rw [List.length_reverse]at G;simp only [kK,v,E,A,I,C,y];by_cases g:op.wanted («as» p)=true
 case neg=>simp [g]
 by_cases f:F.wanted («as» q)=true
 case neg=>simp [f]
 have m:=sE i g;have l:=sE r f;simp only at m l b s n;rw [m,l]at e;simp only [Bool.not_true,Bool.false_or]at e;rw [g,f];simp only [Bool.not_true,Bool.false_or]
 match k with
 |0=>
  simp only at e⊢;rw [←b]at e;obtain ⟨x,a,h2⟩:=za (o:=op) j (h2 p (q+1) _ (by omega) d) i e;rw [a];exact h2
 |1=>
  simp only [OK,Bool.not_eq_true']at e⊢;rw [←b,←n]at e;exact sK j z (h2 p (p+1) _ (by omega) u) (h2 (p+1) (q+1) _ (by omega) d) (H p op (by omega) v e.1) e.2
 |k+2=>
  simp only at e⊢;rw [←b,←s]at e;exact sL j B (h2 p q _ (by omega) t) i r e
theorem gd.Nq {e:List AO} {W:List Nat} {acc:List (PF×PH×List Nat)} {d:List (Fr×AH)} {D:Cx} (h:gd e acc d D W):chain d.reverse=true:=by
 have snoc:∀(l:List (Fr×AH)) (a b:Fr×AH),chain (l++[a])=true→a.2.n0=b.2.n0→a.2.nx≤b.2.nx→chain (l++[a]++[b])=true:=by
  intro l
  induction l with
  |nil=>intro a b _ c h2;simp [A.chain,c,h2]
  |cons x l ih=>
   intro a b h c h2
   cases l with
   |nil=>simp only [List.cons_append,List.nil_append,A.chain,Bool.and_true,OK]at h⊢;refine ⟨h,?_⟩;simp [c,h2]
   |cons y l=>
    simp only [List.cons_append,A.chain,OK]at h⊢;exact ⟨h.1,by simpa using ih a b h.2 c h2⟩
 induction h with
 |one=>rfl
 | @cons C D acc d g i V W H0 T S R f ih=>
  cases H0 with
  |one=>simp [A.chain,T.n0,T.nx]
  |cons=>
   simp only [List.reverse_cons]at ih⊢;exact snoc _ _ _ ih T.n0.symm T.nx
theorem sM {a:List AO} {W:List Nat} {acc:List (PF×PH×List Nat)} {b:List (Fr×AH)} {D:Cx} (h:gd a acc b D W) {ck:List (Nat×Nat×Nat)} (e:Cn a ck acc=true):yi a ck b=true:=by
 unfold yi;rw [OK];refine ⟨h.Nq,?_⟩;unfold Cn at e;rw [OX]at e⊢;rintro ⟨k,p,q⟩ c;exact zc h (e _ c)
end P
end Go.Proofs.Ytediokhgklkhnaa.A
