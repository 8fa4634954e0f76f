/- Texts that stand one behind the other: AbsR, Pm0, Pm1, Pm2, Pm3, Pm4, Pm5, Pm6, Pm7. -/
import Derived.Test.YtediokhgklkhnaaG11
import Derived.SizedLaws
import Derived.OpenShut
import Derived.ProofKit
import Derived.ChangeOld
import Derived.ShutString
set_option linter.unusedVariables false
set_option linter.unusedSimpArgs false
namespace Go.Proofs.Ytediokhgklkhnaa.A
section
open Go Go.RowKit Go.WideShapes Go.ChangeShapes
section
variable{T:Type} {enc:TypeId×Value→T} {P:Program} {W:World}
theorem Av {α:Type} {l:List α} (h:l.length=2):∃a b,l=[a,b]:=by
 match l,h with
 |[a,b],_=>exact ⟨a,b,rfl⟩
def Rd (enc:TypeId×Value→T) (P:Program) (W:World) (n:Nat) (t:TypeId) (cs:List Value) (d:DataW T):Prop:=∃ps,DataW.trod enc P W 0 (fun _=>true) true n t cs=some (d,ps)
def qP (P:Program) (t:TypeId) (d:DataW T):Prop:=∀n∈d.weights P t,n≤reachBytes
theorem iW {n:Nat} {t:TypeId} {k:IntKind} {cs:List Value} {d:DataW T} (a:P.underlying t=some (.int k)) (h:Rd enc P W n t cs d):∃m,cs=[.int k m]∧(Lit.int k m).wf=true:=by
 obtain ⟨ps,h⟩:=h;obtain ⟨m,b,_,h2⟩:=DataW.trod_int a h;exact ⟨m,b,h2⟩
theorem wf_i64 {m:Int} (h:(Lit.int .i64 m).wf=true):o8 m:=by
 have:=bounds_i64 h;unfold o8;omega
theorem nL {b o:Nat} {v:Value} (h:W.cell? ⟨b,o,none⟩=some v):∃arr ty d,W.heap[b]?=some (.cells arr ty d)∧arr[o]?=some v:=by
 unfold World.cell? at h;dsimp only at h;split at h
 ·rename_i c e f a
  simp at h;exact ⟨c,e,f,a,h⟩
 ·cases h
theorem tC {b o n:Nat} {cs l:List Value} (m:0<n) (s:cs.length=n) (h:∀j,j<n→W.cell? ⟨b,o+j,none⟩=cs[j]?) (q:aj W.heap.size cs=some l):b<W.heap.size∧(H0 W).ldn ⟨b,o,none⟩ n=some l:=by
 obtain ⟨arr,ty,u,f,t⟩:=nL (b:=b) (o:=o) (v:=cs[0]'(by omega)) (by have:=h 0 m;rw [Nat.add_zero]at this;rw [this];exact MG (by omega));have d:=(MW.1 f).1;refine ⟨d,?_⟩
 have c:∀j,j<n→arr[o+j]?=cs[j]?:=by
  intro j c;have:=h j c;obtain ⟨i,_,_,g,r⟩:=nL (v:=cs[j]'(by omega)) (by rw [this];exact MG (by omega));rw [f]at g;cases g;rw [r,MG (by omega)]
 have a:o+n≤arr.toList.length:=by
  have:=c (n- 1) (by omega);rw [MG (by omega)]at this;have:=(MW.1 this).1;rw [Array.length_toList];omega
 have k:(arr.toList.drop o).take n=cs:=by
  apply List.ext_getElem?;intro j;by_cases e:j<n
  ·rw [Nj,if_pos e,No,Array.getElem?_toList,c j e]
  ·rw [Nj,if_neg e,Np (by omega)]
 have p:(H0 W).get b=some (.cells 1048576 arr.toList):=by
  rw [AH.bO d,mM];unfold jL;rw [f]
 unfold AH.ldn;dsimp only;rw [p];simp only [a,decide_true,cond_true,k];rw [show decide (b<(H0 W).n0)=true from decide_eq_true d,cond_true];exact q
inductive ko {α β:Type} (C:α→β→Prop):List α→List β→Prop where
 |nil:ko C [] []
 |cons {a:α} {b:β} {l:List α} {m:List β}:C a b→ko C l m→ko C (a::l) (b::m)
theorem ko.length {α β:Type} {C:α→β→Prop}:∀{l:List α} {m:List β},ko C l m→l.length=m.length
 |_,_,.nil=>rfl
 |_,_,.cons _ h=>by simp [ko.length h]
theorem tD {α β:Type} {C:α→β→Prop} {l:List α}:(∀(i:Nat) (a:α),l[i]?=some a→∃b,C a b)→∃m,ko C l m:=by
 induction l with
 |nil=>exact fun _=>⟨[],.nil⟩
 |cons a l ih=>
  intro h;obtain ⟨b,e⟩:=h 0 a rfl;obtain ⟨m,d⟩:=ih fun i x c=>h (i+1) x (by simpa using c)
  exact ⟨b::m,.cons e d⟩
theorem nM {α:Type} {p:Nat→α→Prop}:∀n,(∀i,i<n→∃x,p i x)→∃l:List α,l.length=n∧∀i x,l[i]?=some x→p i x
 |0,_=>⟨[],rfl,by simp⟩
 |n+1,h=>by
  obtain ⟨l,b,d⟩:=nM n fun i hi=>h i (by omega)
  obtain ⟨x,c⟩:=h n (by omega);refine ⟨l++[x],by simp [b],fun i y a=>?_⟩;by_cases hi:i<n
  ·rw [MV (by omega)]at a;exact d i y a
  ·rw [MZ (by omega)]at a
   have:i=n:=by
    have:=(MO.1 a).1;simp at this;omega
   subst this;simp [b]at a;subst a;exact c
theorem tE {α:Type} {C:List Value→α→Prop} {t e:TypeId} {fuel:Nat} {cs:List Value} {d:DataW T} (D:P.underlying t=some (.slice e)) (I:0<P.cellsOf e) (It:0<P.bytesOf e)
 (h:Rd enc P W fuel t cs d) (M:qP P t d) (rd:∀m bf g,m<fuel→Rd enc P W m e bf g→qP P e g→∃l y,aj W.heap.size bf=some l∧C l y):
 ∃v rows ys,aj W.heap.size cs=some [v]∧Rows (H0 W) (P.cellsOf e) v rows∧ko C rows ys∧rows.length*P.bytesOf e≤reachBytes:=by
 obtain ⟨ps,h⟩:=h;rcases DataW.trod_slice D h with⟨rfl,_⟩|⟨a,len,cap,elems,rest,n,hf,rfl,q,_,Z,_,s,R,_,_⟩
 ·exact ⟨_,[],[],rfl,⟨_,_,rfl,by simp⟩,.nil,by simp⟩
 cases q
 have B:∀m∈((elems.map (·.1)).length+(rest.map (·.1)).length)*P.bytesOf e::(DataW.weightsAll P e (elems.map (·.1))++DataW.weightsAll P e (rest.map (·.1))),m≤reachBytes:=by
  intro m f;refine M m ?_;simp only [DataW.weights,D];exact f
 have U:len*P.bytesOf e≤reachBytes:=by
  have:=B _ (List.mem_cons_self ..);rw [List.length_map,s]at this;exact M5 (Nat.mul_le_mul_right _ (by omega)) this
 have X:∀(l:List (DataW T)) (x:DataW T),x∈l→∀m∈x.weights P e,m∈DataW.weightsAll P e l:=by
  intro l
  induction l with
  |nil=>intro x q;cases q
  |cons y l ih=>
   intro x q m f;simp only [DataW.weightsAll,M3];rcases M0.1 q with rfl|q
   ·exact .inl f
   ·exact .inr (ih x q m f)
 by_cases Y:len=0
 ·subst Y
  cases E:(decide (a.block<W.heap.size)&&a.spot.isNone)with
  |true=>exact ⟨.slice (some a) 0 cap,[],[],by simp only [aj,al,E,cond_true],⟨_,_,rfl,by simp⟩,.nil,by simp⟩
  |false=>exact ⟨.slice (some ⟨0,0,some 1⟩) 0 0,[],[],by simp [aj,al,E],⟨_,_,rfl,by simp⟩,.nil,by simp⟩
 obtain ⟨b,o,spot⟩:=a
 have key:∀i,i<len→∃bf g,(∃m,m<fuel∧Rd enc P W m e bf g)∧qP P e g∧W.cells? 0 ((⟨b,o,spot⟩:Addr).add (i*P.cellsOf e)) (P.cellsOf e)=some bf:=by
  intro i hi;have:=R i hi;rw [MG (by omega)]at this;obtain ⟨bf,A,h2⟩:=MT.1 this;refine ⟨bf,(elems[i]'(by omega)).1,⟨n,by omega,⟨_,h2⟩⟩,fun m f=>?_,A⟩;refine B m (List.mem_cons_of_mem _ (List.mem_append_left _ (X _ _ ?_ m f)));exact List.mem_map_of_mem (List.getElem_mem _)
 have N:spot=none∧b<W.heap.size:=by
  obtain ⟨bf,g,_,_,z⟩:=key 0 (by omega);obtain ⟨_,H,w⟩:=World.cells?_some z;have:=w 0 I;rw [MG (by omega)]at this;simp only [Nat.zero_mul,Addr.add,if_true]at this;unfold World.cell? at this;dsimp only at this;split at this
  ·rename_i c ty fz S
   cases spot with
   |none=>exact ⟨rfl,(MW.1 S).1⟩
   |some x=>simp at this
  ·cases this
 obtain ⟨rfl,V⟩:=N
 have J:∀o k,(⟨b,o,none⟩:Addr).add k=⟨b,o+k,none⟩:=by
  intro o k;unfold Addr.add;split
  ·rename_i O;subst O;rfl
  ·rfl
 obtain ⟨rows,G,F⟩:=nM (p:=fun i (r:List Value)=>(∃y,C r y)∧(H0 W).ldn ⟨b,o+i*P.cellsOf e,none⟩ (P.cellsOf e)=some r) len (fun i hi=>by
  obtain ⟨bf,g,⟨m,f,u⟩,L,z⟩:=key i hi;obtain ⟨l,y,A,h2⟩:=rd m bf g f u L;obtain ⟨_,H,w⟩:=World.cells?_some z;refine ⟨l,⟨y,h2⟩,(tC I H (fun j Q=>?_) A).2⟩;have:=w j Q;rw [J,J]at this
  exact this)
 obtain ⟨ys,K⟩:=tD (l:=rows) (C:=C) fun i r u=>(F i r u).1
 refine ⟨.slice (some ⟨b,o,none⟩) len cap,rows,ys,?_,⟨_,_,by rw [G],fun i r hi=>⟨b,o,rfl,(F i r hi).2⟩⟩,K,by rw [G];exact U⟩;simp [aj,al,V]
theorem pd {t:TypeId} {b:Array Field} {fuel:Nat} {cs:List Value} {d:DataW T} (a:P.underlying t=some (.struct b)) (h:Rd enc P W fuel t cs d) (e:qP P t d):
 cs.length=P.cellsOf t∧∃m,m<fuel∧∀(i:Nat) (f:Field),b[i]?=some f→∃di,Rd enc P W m f.type ((cs.drop f.offset).take (P.cellsOf f.type)) di∧qP P f.type di:=by
 obtain ⟨ps,h⟩:=h;obtain ⟨xs,n,q,c,k,o,l⟩:=DataW.trod_struct a h;cases c;refine ⟨k,n,by omega,fun i f hi=>?_⟩;have p:=(MW.1 hi).1;have:=l i f hi;rw [MG (by omega)]at this;refine ⟨_,⟨_,this⟩,fun m g=>e m ?_⟩;simp only [DataW.weights,a];exact DataW.weights_mem_each (j:=i) (t:=f.type) (d:=(xs[i]'(by omega)).1) (by simp [hi]) (by simp [MG (show i<xs.length by omega)]) m g
theorem cU {a:Nat} {k:IntKind} {m:Int} {cs l:List Value} (h:aj a cs=some l):aj a (.int k m::cs)=some (.int k m::l):=by simp [aj,al,flat,h]
theorem eu {b:Nat} {c v:Value} {cs l:List Value} (a:aj b [c]=some [v]) (h:aj b cs=some l):aj b (c::cs)=some (v::l):=by
 simp only [aj]at a⊢;split at a
 ·rename_i x m h2 d
  simp only [MH]at d;subst d;simp only [MH,List.cons.injEq,and_true]at a;subst a;simp [h2,h]
 ·cases a
theorem tF {c:Array Value} {l:List Value} (h:aj W.heap.size c.toList=some l):V (iU W) (.agg l.toArray) (.agg c):=by
 obtain ⟨a,h2⟩:=iB (Ei W) (l:=c.toList) (m:=l) h;exact .agg (by simpa using a) (by simpa using h2)
end
end
namespace P
open Go Go.RowKit
def tG:Value→Bool
 | .bool _| .int _ _| .string _| .pointer _| .slice _ _ _| .map _| .nilFunc| .nilIface=>true
 |_=>false
inductive PV where
 |v (x:Value)
 |ref (b o t:Nat)
 |sl (sz b o n c:Nat)
 |mp (b:Nat)
 |fs (sz:Nat) (rows:List (List PV))
 |fp (cells:List PV)
 |agg (cs:List PV)
 |dw (cs:List PV)
 |fn (f:Nat) (first cap:List PV)
 |ie (t:Nat) (p:PV)
 |any
inductive PB where
 |cells (z:Nat) (cs:List PV)
 |map (es:List (Value×PV))
 |dead
abbrev PH:=List PB
structure Cx where
 F:Nat→Prop
 H:AH
 φ:Nat→Nat
 h:PH
mutual
inductive RF (F:Nat→Prop) (H:AH):PV→Value→Prop
 |v (x:Value):RF F H (.v x) x
 |fs {sz:Nat} {rows:List (List PV)} {a:Option Addr} {c:Nat} {rs:List (List Value)}:Rows H sz (.slice a rows.length c) rs→rows.length≤c→(∀d,a=some d→(d.spot=none∨c=0)∧(rows.length=0∨(F d.block∧H.fE d.block sz=true)))→eK F H rows rs→RF F H (.fs sz rows) (.slice a rows.length c)
inductive dE (F:Nat→Prop) (H:AH):List PV→List Value→Prop
 |nil:dE F H [] []
 |cons {p:PV} {x:Value} {ps:List PV} {xs:List Value}:RF F H p x→dE F H ps xs→dE F H (p::ps) (x::xs)
inductive eK (F:Nat→Prop) (H:AH):List (List PV)→List (List Value)→Prop
 |nil:eK F H [] []
 |cons {p:List PV} {x:List Value} {ps:List (List PV)} {xs:List (List Value)}:dE F H p x→eK F H ps xs→eK F H (p::ps) (x::xs)
end
def At (h:PH) (b t:Nat):Prop:=∃z cs,h[b]?=some (.cells z cs)∧cs.length=t
def Le (h:PH) (b t:Nat):Prop:=∀z cs,h[b]?=some (.cells z cs)→t≤cs.length
def dJ (h:PH) (b:Nat):Prop:=∃es,h[b]?=some (.map es)
def aA (h:PH) (b:Nat):Prop:=dJ h b∨∃t,At h b (t+1)
def Fg (a sz o n c:Nat) (x:Value):Prop:=(c=0∧n=0∧∃d:Option Addr,x= .slice d 0 0∧∀e,d=some e→e.spot=none)∨(0<c∧x= .slice (some ⟨a,o*sz,none⟩) n c)
def CF (n:Nat) (x:Value):Prop:=∃a c,x= .slice a n c
theorem CF.sm {n:Nat} {x:Value} (h:CF n x):tG x=true:=by
 obtain ⟨_,_,rfl⟩:=h;rfl
mutual
inductive RV (C:Cx):PV→Value→Prop
 |v (x:Value):RV C (.v x) x
 |ref {b o t:Nat} {x:Value}:tG x=true→b<C.h.length→Le C.h b t→(At C.h b t→x= .pointer (some ⟨C.φ b,o,none⟩))→RV C (.ref b o t) x
 |sl {sz b o n c:Nat} {x:Value}:CF n x→b<C.h.length→Le C.h b ((o+c)*sz)→(At C.h b ((o+c)*sz)→Fg (C.φ b) sz o n c x)→RV C (.sl sz b o n c) x
 |mp {b:Nat} {x:Value}:tG x=true→b<C.h.length→(dJ C.h b→x= .map (some (C.φ b)))→RV C (.mp b) x
 |fs {sz:Nat} {rows:List (List PV)} {x:Value}:RF C.F C.H (.fs sz rows) x→RV C (.fs sz rows) x
 |fp {cells:List PV} {b o:Nat} {vs:List Value}:C.F b→C.H.ldn ⟨b,o,none⟩ cells.length=some vs→dE C.F C.H cells vs→RV C (.fp cells) (.pointer (some ⟨b,o,none⟩))
 |agg {cs:List PV} {xs:List Value}:aT C cs xs→RV C (.agg cs) (.agg xs.toArray)
 |dw {cs:List PV} {xs:List Value}:aT C cs xs→RV C (.dw cs) (.tuple xs.toArray)
 |fn {f:Nat} {a b:List PV} {xs ys:List Value}:aT C a xs→aT C b ys→RV C (.fn f a b) (.func (.func f) xs.toArray ys.toArray)
 |ie {t:Nat} {p:PV} {x:Value}:RV C p x→RV C (.ie t p) (.iface t x)
 |any (x:Value):RV C .any x
inductive aT (C:Cx):List PV→List Value→Prop
 |nil:aT C [] []
 |cons {p:PV} {x:Value} {ps:List PV} {xs:List Value}:RV C p x→aT C ps xs→aT C (p::ps) (x::xs)
end
theorem aT.length {C:Cx}:∀{ps:List PV} {xs:List Value},aT C ps xs→ps.length=xs.length
 |_,_,.nil=>rfl
 |_,_,.cons _ h=>by simp [aT.length h]
theorem dE.length {F:Nat→Prop} {H:AH}:∀{ps:List PV} {xs:List Value},dE F H ps xs→ps.length=xs.length
 |_,_,.nil=>rfl
 |_,_,.cons _ h=>by simp [dE.length h]
theorem eK.length {F:Nat→Prop} {H:AH}:∀{ps:List (List PV)} {xs:List (List Value)},eK F H ps xs→ps.length=xs.length
 |_,_,.nil=>rfl
 |_,_,.cons _ h=>by simp [eK.length h]
structure bA (C:Cx):Prop where
 wf:C.H.n0≤C.H.nx
 fz:∀x,C.F x→x<C.H.nx
 inj:∀b b',aA C.h b→aA C.h b'→C.φ b=C.φ b'→b=b'
 bw:∀b z cs,C.h[b]?=some (.cells z cs)→cs≠[]→∃vs,C.H.get (C.φ b)=some (.cells z vs)∧aT C cs vs∧C.H.n0≤C.φ b∧¬ C.F (C.φ b)
 nN:∀b es,C.h[b]?=some (.map es)→∃ys,C.H.get (C.φ b)=some (.map ys)∧es.map (·.1)=ys.map (·.1)∧aT C (es.map (·.2)) (ys.map (·.2))∧C.H.n0≤C.φ b∧¬ C.F (C.φ b)
def im (C:Cx) (W:Nat→Prop) (x:Nat):Prop:=∃b,W b∧aA C.h b∧C.φ b=x
structure bp (n:Nat) (W:Nat→Prop) (C D:Cx):Prop where
 n0:D.H.n0=C.H.n0
 nx:C.H.nx≤D.H.nx
 fz:∀x,C.F x→D.F x∧D.H.get x=C.H.get x
 fo:∀x,x<C.H.nx→¬ im C (fun _=>True) x→D.F x→C.F x
 out:∀x,x<C.H.nx→¬ im C W x→D.H.get x=C.H.get x
 loc:∀b,aA D.h b→C.H.nx≤D.φ b∨(aA C.h b∧D.φ b=C.φ b)
 len:n≤C.h.length→n≤D.h.length
 le:∀b,b<n→b<C.h.length→∀t,Le C.h b t→Le D.h b t
 lB:∀b,b<n→b<C.h.length→∀t,Le C.h b t→At D.h b t→At C.h b t∧D.φ b=C.φ b
 ma:∀b,b<n→b<C.h.length→dJ D.h b→dJ C.h b∧D.φ b=C.φ b
theorem bp.mono {n m:Nat} {W V:Nat→Prop} {C D:Cx} (h:bp n W C D) (c:m≤n) (f:∀b,W b→V b) (e:m≤C.h.length→m≤D.h.length):bp m V C D where
 n0:=h.n0
 nx:=h.nx
 fz:=h.fz
 fo:=h.fo
 out:=fun x d k=>h.out x d fun⟨b,a,q⟩=>k ⟨b,f b a,q⟩
 loc:=h.loc
 len:=e
 le:=fun b a=>h.le b (M6 a c)
 lB:=fun b a=>h.lB b (M6 a c)
 ma:=fun b a=>h.ma b (M6 a c)
theorem im.lt {C:Cx} (S:bA C) {W:Nat→Prop} {x:Nat} (h:im C W x):x<C.H.nx:=by
 obtain ⟨b,_,f,rfl⟩:=h;rcases f with⟨es,c⟩|⟨t,z,cs,c,d⟩
 ·obtain ⟨_,a,_⟩:=S.nN b es c
  exact AH.ec a
 ·obtain ⟨_,a,_⟩:=S.bw b z cs c (by intro e;subst e;simp at d)
  exact AH.ec a
theorem bp.refl (n:Nat) (W:Nat→Prop) (C:Cx):bp n W C C where
 n0:=rfl
 nx:=MM _
 fz:=fun x a=>⟨a,rfl⟩
 fo:=fun _ _ _ h=>h
 out:=fun _ _ _=>rfl
 loc:=fun b c=>.inr ⟨c,rfl⟩
 len:=id
 le:=fun _ _ _ _ h=>h
 lB:=fun _ _ _ _ _ h=>⟨h,rfl⟩
 ma:=fun _ _ _ h=>⟨h,rfl⟩
theorem bp.trans {n:Nat} {V W U:Nat→Prop} {C D X:Cx} (h:bp n V C D) (k:bp n W D X) (m:n≤C.h.length) (z:∀b,V b→U b) (y:∀b,W b→U b):bp n U C X where
 n0:=k.n0.trans h.n0
 nx:=M5 h.nx k.nx
 fz:=fun x i=>by
  obtain ⟨a,b⟩:=h.fz x i;obtain ⟨c,d⟩:=k.fz x a;exact ⟨c,d.trans b⟩
 fo:=fun x i hi w=>by
  refine h.fo x i hi (k.fo x (M6 i h.nx) ?_ w);rintro ⟨b,_,j,rfl⟩;rcases h.loc b j with q|⟨q,e⟩
  ·omega
  ·exact hi ⟨b,trivial,q,e.symm⟩
 out:=fun x i hi=>by
  have e:=h.out x i fun⟨b,f,q⟩=>hi ⟨b,z b f,q⟩
  rw [←e];refine k.out x (M6 i h.nx) ?_;rintro ⟨b,f,j,rfl⟩;rcases h.loc b j with q|⟨q,e⟩
  ·omega
  ·exact hi ⟨b,y b f,q,e.symm⟩
 loc:=fun b f=>by
  rcases k.loc b f with q|⟨j,e⟩
  ·exact .inl (M5 h.nx q)
  ·rcases h.loc b j with q|⟨v,A⟩
   ·exact .inl (by omega)
   ·exact .inr ⟨v,e.trans A⟩
 len:=fun g=>k.len (h.len g)
 le:=fun b f g t l=>k.le b f (M6 f (h.len m)) t (h.le b f g t l)
 lB:=fun b f g t l o=>by
  obtain ⟨u,s⟩:=k.lB b f (M6 f (h.len m)) t (h.le b f g t l) o;obtain ⟨r,p⟩:=h.lB b f g t l u;exact ⟨r,s.trans p⟩
 ma:=fun b f g o=>by
  obtain ⟨u,s⟩:=k.ma b f (M6 f (h.len m)) o;obtain ⟨r,p⟩:=h.ma b f g u;exact ⟨r,s.trans p⟩
theorem qQ {H a:AH} {b sz:Nat} (h:a.get b=H.get b):a.fE b sz=H.fE b sz:=by unfold AH.fE;rw [h]
section
variable{F F':Nat→Prop} {H H':AH} (n0:H'.n0=H.n0) (hF:∀x,F x→F' x∧H'.get x=H.get x)
theorem Rows.fz {sz:Nat} {a:Option Addr} {n c:Nat} {rs:List (List Value)} (n0:H'.n0=H.n0) (hF:∀x,F x→F' x∧H'.get x=H.get x) (h:Rows H sz (.slice a n c) rs) (k:∀d,a=some d→(d.spot=none∨c=0)∧(n=0∨(F d.block∧H.fE d.block sz=true))):Rows H' sz (.slice a n c) rs∧(∀d,a=some d→(d.spot=none∨c=0)∧(n=0∨(F' d.block∧H'.fE d.block sz=true))):=by
 obtain ⟨s,p,e,q⟩:=h.is;cases e;refine ⟨⟨_,_,rfl,fun i r hi=>?_⟩,fun d g=>?_⟩
 ·obtain ⟨b,o,rfl,m⟩:=q i r hi
  refine ⟨b,o,rfl,?_⟩;rcases (k _ rfl).2 with j|⟨f,_⟩
  ·have:=(MO.1 hi).1;omega
  ·rw [←m]
   exact bX (hF b f).2 n0
 ·refine ⟨(k d g).1,?_⟩
  rcases (k d g).2 with j|⟨f,l⟩
  ·exact .inl j
  ·exact .inr ⟨(hF _ f).1,by rw [qQ (hF _ f).2];exact l⟩
mutual
theorem RF.mono (n0:H'.n0=H.n0) (hF:∀x,F x→F' x∧H'.get x=H.get x):∀{p:PV} {x:Value},RF F H p x→RF F' H' p x
 |_,_,.v x=>.v x
 |_,_,.fs b c d a=>let q:=Rows.fz n0 hF b d; .fs q.1 c q.2 (eK.mono n0 hF a)
theorem dE.mono (n0:H'.n0=H.n0) (hF:∀x,F x→F' x∧H'.get x=H.get x):∀{p:List PV} {x:List Value},dE F H p x→dE F' H' p x
 |_,_,.nil=>.nil
 |_,_,.cons a b=>.cons (RF.mono n0 hF a) (dE.mono n0 hF b)
theorem eK.mono (n0:H'.n0=H.n0) (hF:∀x,F x→F' x∧H'.get x=H.get x):∀{p:List (List PV)} {x:List (List Value)},eK F H p x→eK F' H' p x
 |_,_,.nil=>.nil
 |_,_,.cons a b=>.cons (dE.mono n0 hF a) (eK.mono n0 hF b)
end
end
mutual
theorem RV.step {W:Nat→Prop} {C D:Cx} (h:bp C.h.length W C D):∀{p:PV} {x:Value},RV C p x→RV D p x
 |_,_, .v x=> .v x
 |_,_, .ref f c d k=> .ref f (M6 c (h.len (MM _))) (h.le _ c c _ d) fun e=>by
  obtain ⟨i,g⟩:=h.lB _ c c _ d e;rw [g];exact k i
 |_,_, .sl f c d k=> .sl f (M6 c (h.len (MM _))) (h.le _ c c _ d) fun e=>by
  obtain ⟨i,g⟩:=h.lB _ c c _ d e;rw [g];exact k i
 |_,_, .mp f c k=> .mp f (M6 c (h.len (MM _))) fun e=>by
  obtain ⟨i,g⟩:=h.ma _ c c e;rw [g];exact k i
 |_,_, .fs k=> .fs (k.mono h.n0 h.fz)
 |_,_, .fp j d k=> .fp (h.fz _ j).1 (by rw [←d];exact bX (h.fz _ j).2 h.n0) (k.mono h.n0 h.fz)
 |_,_, .agg k=> .agg (aT.step h k)
 |_,_, .dw k=> .dw (aT.step h k)
 |_,_, .fn a b=> .fn (aT.step h a) (aT.step h b)
 |_,_, .ie a=> .ie (RV.step h a)
 |_,_, .any x=> .any x
theorem aT.step {W:Nat→Prop} {C D:Cx} (h:bp C.h.length W C D):∀{p:List PV} {x:List Value},aT C p x→aT D p x
 |_,_, .nil=> .nil
 |_,_, .cons a b=> .cons (RV.step h a) (aT.step h b)
end
theorem aT.get {C:Cx}:∀{ps:List PV} {xs:List Value},aT C ps xs→∀{i:Nat} {p:PV},ps[i]?=some p→∃x,xs[i]?=some x∧RV C p x
 |_,_,.nil,i,p,h=>by simp at h
 |_,_,.cons a b,0,p,h=>by simp at h;subst h;exact ⟨_,rfl,a⟩
 |_,_,.cons a b,i+1,p,h=>by simpa using aT.get b (by simpa using h)
theorem aT.drop {C:Cx}:∀{ps:List PV} {xs:List Value},aT C ps xs→∀n,aT C (ps.drop n) (xs.drop n)
 |_,_,.nil,n=>by simp;exact .nil
 |_,_,.cons a b,0=>.cons a b
 |_,_,.cons a b,n+1=>by simpa using aT.drop b n
theorem aT.take {C:Cx}:∀{ps:List PV} {xs:List Value},aT C ps xs→∀n,aT C (ps.take n) (xs.take n)
 |_,_,.nil,n=>by simp;exact .nil
 |_,_,.cons a b,0=>.nil
 |_,_,.cons a b,n+1=>by simpa using aT.cons a (aT.take b n)
theorem aT.append {C:Cx}:∀{ps:List PV} {xs:List Value} {c:List PV} {ys:List Value},aT C ps xs→aT C c ys→aT C (ps++c) (xs++ys)
 |_,_,_,_,.nil,k=>k
 |_,_,_,_,.cons a b,k=>.cons a (aT.append b k)
theorem aT.lits {C:Cx}:∀(l:List Value),aT C (l.map .v) l
 |[]=>.nil
 |x::l=>.cons (.v x) (aT.lits l)
theorem aT.AA {C:Cx} {ps:List PV} {xs:List Value} (h:aT C ps xs):∀n,aT C (List.replicate n ps).flatten (List.replicate n xs).flatten
 |0=>.nil
 |n+1=>by simpa [List.replicate_succ]using h.append (h.AA n)
theorem dE.g9 {C:Cx}:∀{ps:List PV} {xs:List Value},dE C.F C.H ps xs→aT C ps xs
 |_,_,.nil=>.nil
 |_,_,.cons (.v x) b=>.cons (.v x) (dE.g9 b)
 |_,_,.cons (.fs a b c d) e=>.cons (.fs (.fs a b c d)) (dE.g9 e)
theorem RF.g9 {C:Cx}:∀{p:PV} {x:Value},RF C.F C.H p x→RV C p x
 |_,_,.v x=>.v x
 |_,_,.fs a b c d=>.fs (.fs a b c d)
theorem dE.drop {F:Nat→Prop} {H:AH}:∀{ps:List PV} {xs:List Value},dE F H ps xs→∀n,dE F H (ps.drop n) (xs.drop n)
 |_,_,.nil,n=>by simp;exact .nil
 |_,_,.cons a b,0=>.cons a b
 |_,_,.cons a b,n+1=>by simpa using dE.drop b n
theorem dE.take {F:Nat→Prop} {H:AH}:∀{ps:List PV} {xs:List Value},dE F H ps xs→∀n,dE F H (ps.take n) (xs.take n)
 |_,_,.nil,n=>by simp;exact .nil
 |_,_,.cons a b,0=>.nil
 |_,_,.cons a b,n+1=>by simpa using dE.cons a (dE.take b n)
theorem eK.get {F:Nat→Prop} {H:AH}:∀{ps:List (List PV)} {xs:List (List Value)},eK F H ps xs→∀{i:Nat} {p:List PV},ps[i]?=some p→∃x,xs[i]?=some x∧dE F H p x
 |_,_,.nil,i,p,h=>by simp at h
 |_,_,.cons a b,0,p,h=>by simp at h;subst h;exact ⟨_,rfl,a⟩
 |_,_,.cons a b,i+1,p,h=>by simpa using eK.get b (by simpa using h)
theorem eK.drop {F:Nat→Prop} {H:AH}:∀{ps:List (List PV)} {xs:List (List Value)},eK F H ps xs→∀n,eK F H (ps.drop n) (xs.drop n)
 |_,_,.nil,n=>by simp;exact .nil
 |_,_,.cons a b,0=>.cons a b
 |_,_,.cons a b,n+1=>by simpa using eK.drop b n
theorem eK.take {F:Nat→Prop} {H:AH}:∀{ps:List (List PV)} {xs:List (List Value)},eK F H ps xs→∀n,eK F H (ps.take n) (xs.take n)
 |_,_,.nil,n=>by simp;exact .nil
 |_,_,.cons a b,0=>.nil
 |_,_,.cons a b,n+1=>by simpa using eK.cons a (eK.take b n)
theorem eK.flat {F:Nat→Prop} {H:AH}:∀{ps:List (List PV)} {xs:List (List Value)},eK F H ps xs→dE F H ps.flatten xs.flatten
 |_,_,.nil=>.nil
 |_,_,.cons a b=>by
  have ap:∀{ps:List PV} {xs:List Value} {d:List PV} {c:List Value},dE F H ps xs→dE F H d c→dE F H (ps++d) (xs++c):=by
   intro ps xs d c h k
   induction ps generalizing xs with
   |nil=>cases h;exact k
   |cons p ps ih=>cases h with|cons a b=>exact .cons a (ih b)
  simpa using ap a (eK.flat b)
end P
namespace P
open Go Go.RowKit
theorem bG {h a:PH} {b:Nat} (e:a[b]?=h[b]?):aA a b↔aA h b:=by unfold aA dJ At;rw [e]
theorem iX {h a:PH} {b t:Nat} (e:a[b]?=h[b]?):At a b t↔At h b t:=by unfold At;rw [e]
theorem iY {h a:PH} {b t:Nat} (e:a[b]?=h[b]?):Le a b t↔Le h b t:=by unfold Le;rw [e]
theorem cV {h a:PH} {b:Nat} (e:a[b]?=h[b]?):dJ a b↔dJ h b:=by unfold dJ;rw [e]
theorem aJ {h:PH} {b z:Nat} {cs:List PV} (e:h[b]?=some (.cells z cs)) (a:cs≠[]):aA h b:=by
 refine .inr ⟨cs.length- 1,z,cs,e,?_⟩;have:=List.length_pos_iff.2 a;omega
theorem bR {h:PH} {b:Nat} {es:List (Value×PV)} (e:h[b]?=some (.map es)):aA h b:=.inl ⟨es,e⟩
theorem dK {h:PH} {b:Nat} (s:aA h b):(∃es,h[b]?=some (.map es))∨∃z cs,h[b]?=some (.cells z cs)∧cs≠[]:=by
 rcases s with⟨es,e⟩|⟨t,z,cs,e,a⟩
 ·exact .inl ⟨es,e⟩
 ·exact .inr ⟨z,cs,e,by rintro rfl;simp at a⟩
theorem aN {h:PH} {b:Nat} (s:aA h b):b<h.length:=by
 rcases dK s with⟨es,e⟩|⟨z,cs,e,_⟩<;>exact (MO.1 e).1
theorem bA.lt {C:Cx} (S:bA C) {b:Nat} (s:aA C.h b):C.φ b<C.H.nx:=im.lt S (W:=fun _=>True) ⟨b,trivial,s,rfl⟩
theorem bA.old {C:Cx} (S:bA C) {b:Nat} (s:aA C.h b):C.H.n0≤C.φ b∧¬ C.F (C.φ b):=by
 rcases dK s with⟨es,e⟩|⟨z,cs,e,c⟩
 ·obtain ⟨_,_,_,_,a,b⟩:=S.nN _ _ e;exact ⟨a,b⟩
 ·obtain ⟨_,_,_,a,b⟩:=S.bw _ _ _ e c;exact ⟨a,b⟩
theorem bA.of {C D:Cx} {W:Nat→Prop} (S:bA C) (T:bp C.h.length W C D) (o:D.F=C.F) (f:Nat) (g:∀b,b≠f→D.h[b]?=C.h[b]?∧D.φ b=C.φ b)
 (q:∀b,b≠f→aA C.h b→D.H.get (C.φ b)=C.H.get (C.φ b)) (p:∀b,b≠f→aA C.h b→aA D.h f→D.φ f≠C.φ b)
 (u:∀z cs,D.h[f]?=some (.cells z cs)→cs≠[]→∃vs,D.H.get (D.φ f)=some (.cells z vs)∧aT C cs vs∧D.H.n0≤D.φ f∧¬ D.F (D.φ f))
 (t:∀es,D.h[f]?=some (.map es)→∃ys,D.H.get (D.φ f)=some (.map ys)∧es.map (·.1)=ys.map (·.1)∧aT C (es.map (·.2)) (ys.map (·.2))∧D.H.n0≤D.φ f∧¬ D.F (D.φ f)):bA D where
 wf:=by rw [T.n0];exact M5 S.wf T.nx
 fz:=fun x r=>M6 (S.fz x (o▸r)) T.nx
 inj:=fun b k s m e=>by
  by_cases h:b=f
  ·by_cases i:k=f
   ·omega
   ·subst h
    have l:=(bG (g _ i).1).1 m;rw [(g _ i).2]at e;exact absurd e (p _ i l s)
  ·by_cases i:k=f
   ·subst i
    have l:=(bG (g _ h).1).1 s;rw [(g _ h).2]at e;exact absurd e.symm (p _ h l m)
   ·rw [(g _ h).2,(g _ i).2]at e
    exact S.inj _ _ ((bG (g _ h).1).1 s) ((bG (g _ i).1).1 m) e
 bw:=fun b z cs e n=>by
  by_cases h:b=f
  ·subst h
   obtain ⟨vs,a,b,c⟩:=u z cs e n;exact ⟨vs,a,b.step T,c⟩
  ·have j:=e
   rw [(g _ h).1]at j;obtain ⟨vs,a,k,c,d⟩:=S.bw _ _ _ j n;rw [(g _ h).2,o,T.n0];exact ⟨vs,(q _ h (aJ j n)).trans a,k.step T,c,d⟩
 nN:=fun b es e=>by
  by_cases h:b=f
  ·subst h
   obtain ⟨ys,a,b,c,d⟩:=t es e;exact ⟨ys,a,b,c.step T,d⟩
  ·have j:=e
   rw [(g _ h).1]at j;obtain ⟨ys,a,k,c,d⟩:=S.nN _ _ j;rw [(g _ h).2,o,T.n0];exact ⟨ys,(q _ h (bR j)).trans a,k,c.step T,d⟩
def nO (φ:Nat→Nat) (b x:Nat):Nat→Nat:=fun c=>if c=b then x else φ c
theorem ch (φ:Nat→Nat) (b x:Nat):nO φ b x b=x:=by simp [nO]
theorem ew {φ:Nat→Nat} {b x c:Nat} (h:c≠b):nO φ b x c=φ c:=by simp [nO,h]
theorem dz {h:PH} {P:PB} {b:Nat} (a:b≠h.length):(h++[P])[b]?=h[b]?:=by
 rcases Nat.lt_or_ge b h.length with k|k
 ·rw [MV k]
 ·rw [MZ k,Np (by simp;omega),Np k]
theorem dS (h:PH) (P:PB):(h++[P])[h.length]?=some P:=by simp
theorem bA.new {C:Cx} (S:bA C) {P:PB} {B:jo} (W:Nat→Prop)
 (i:(∃z cs vs,P= .cells z cs∧B= .cells z vs∧aT C cs vs)∨(∃es ys,P= .map es∧B= .map ys∧es.map (·.1)=ys.map (·.1)∧aT C (es.map (·.2)) (ys.map (·.2)))):
 bA ⟨C.F,C.H.alloc B,nO C.φ C.h.length C.H.nx,C.h++[P]⟩∧bp C.h.length W C ⟨C.F,C.H.alloc B,nO C.φ C.h.length C.H.nx,C.h++[P]⟩:=by
 have T:bp C.h.length W C ⟨C.F,C.H.alloc B,nO C.φ C.h.length C.H.nx,C.h++[P]⟩:={
  n0:=rfl
  nx:=Na _
  fz:=fun x d=>⟨d,by have:=S.fz x d;rw [AH.b9,if_neg (by omega)]⟩
  fo:=fun _ _ _ h=>h
  out:=fun x d _=>by rw [AH.b9,if_neg (by omega)]
  loc:=fun b a=>by
   by_cases h:b=C.h.length
   ·subst h;left;show _≤nO _ _ _ _;rw [ch];exact MM _
   ·right;exact ⟨(bG (dz h)).1 a,ew h⟩
  len:=fun _=>by simp
  le:=fun b a _ t k=>(iY (dz (by omega))).2 k
  lB:=fun b a _ t _ g=>⟨(iX (dz (by omega))).1 g,ew (by omega)⟩
  ma:=fun b a _ g=>⟨(cV (dz (by omega))).1 g,ew (by omega)⟩}
 refine ⟨S.of T rfl C.h.length (fun b a=>⟨dz a,ew a⟩) (fun b a s=>?_) (fun b a s _=>?_) (fun z cs e o=>?_) (fun es e=>?_),T⟩
 ·have:=S.lt s;show(C.H.alloc B).get _=_;rw [AH.b9,if_neg (by omega)]
 ·have:=S.lt s;show nO _ _ _ _≠_;rw [ch];omega
 ·have e:some P=some (.cells z cs):=(dS _ _).symm.trans e
  cases e;rcases i with⟨j,n,vs,c,rfl,f⟩|⟨es,ys,c,_⟩
  ·cases c
   refine ⟨vs,?_,f,?_,?_⟩<;>dsimp only<;>rw [ch]
   ·exact eJ _ _
   ·exact S.wf
   ·intro q;exact absurd (S.fz _ q) (Nat.lt_irrefl _)
  ·cases c
 ·have e:some P=some (.map es):=(dS _ _).symm.trans e
  cases e;rcases i with⟨j,n,vs,c,_⟩|⟨m,ys,c,rfl,l,f⟩
  ·cases c
  ·cases c
   refine ⟨ys,?_,l,f,?_,?_⟩<;>dsimp only<;>rw [ch]
   ·exact eJ _ _
   ·exact S.wf
   ·intro q;exact absurd (S.fz _ q) (Nat.lt_irrefl _)
theorem bK {h:PH} {P:PB} {b c:Nat} (a:c≠b):(h.set b P)[c]?=h[c]?:=M7 (Ne.symm a)
theorem bH {h:PH} {P:PB} {b:Nat} (a:b<h.length):(h.set b P)[b]?=some P:=by simp [List.getElem?_set,a]
theorem bA.put {C:Cx} (S:bA C) {b z:Nat} {cs ds:List PV} {vs:List Value} {W:Nat→Prop} (v:W b) (l:C.h[b]?=some (.cells z cs)) (d:cs≠[]) (j:ds.length=cs.length) (r:aT C ds vs):
 bA ⟨C.F,C.H.put (C.φ b) (some (.cells z vs)),C.φ,C.h.set b (.cells z ds)⟩∧bp C.h.length W C ⟨C.F,C.H.put (C.φ b) (some (.cells z vs)),C.φ,C.h.set b (.cells z ds)⟩:=by
 have a:=aJ l d;have i:=S.lt a;have f:=aN a;have w:ds≠[]:=by intro e;subst e;simp at j;exact d (Nc.1 j.symm)
 have u:∀t,At (C.h.set b (.cells z ds)) b t→At C.h b t:=by
  rintro t ⟨m,q,e,rfl⟩;rw [bH f]at e;cases e;exact ⟨z,cs,l,j.symm⟩
 have T:bp C.h.length W C ⟨C.F,C.H.put (C.φ b) (some (.cells z vs)),C.φ,C.h.set b (.cells z ds)⟩:={
  n0:=rfl
  nx:=MM _
  fz:=fun x k=>⟨k,by rw [AH.aG _ _ _ _ i,if_neg];rintro rfl;exact (S.old a).2 k⟩
  fo:=fun _ _ _ h=>h
  out:=fun x k hi=>by rw [AH.aG _ _ _ _ i,if_neg];rintro rfl;exact hi ⟨b,v,a,rfl⟩
  loc:=fun c o=>by
   right;by_cases h:c=b
   ·subst h;exact ⟨a,rfl⟩
   ·exact ⟨(bG (bK h)).1 o,rfl⟩
  len:=fun _=>by simp
  le:=fun c p _ t n=>by
   by_cases h:c=b
   ·subst h
    intro m q e;rw [bH f]at e;cases e;rw [j];exact n _ _ l
   ·exact (iY (bK h)).2 n
  lB:=fun c p _ t _ g=>by
   by_cases h:c=b
   ·subst h;exact ⟨u t g,rfl⟩
   ·exact ⟨(iX (bK h)).1 g,rfl⟩
  ma:=fun c p _ g=>by
   by_cases h:c=b
   ·subst h;obtain ⟨es,e⟩:=g;rw [bH f]at e;cases e
   ·exact ⟨(cV (bK h)).1 g,rfl⟩}
 refine ⟨S.of T rfl b (fun c d=>⟨bK d,rfl⟩) (fun c d s=>?_) (fun c d s _ e=>d (S.inj _ _ s a e.symm)) (fun m q e o=>?_) (fun es e=>?_),T⟩
 ·show(C.H.put _ _).get _=_
  rw [AH.aG _ _ _ _ i,if_neg];exact fun e=>d (S.inj _ _ s a e)
 ·have e:=(bH f).symm.trans e
  cases e;refine ⟨vs,?_,r,(S.old a)⟩;show(C.H.put _ _).get _=_;rw [AH.aG _ _ _ _ i,if_pos rfl]
 ·have e:=(bH f).symm.trans e
  cases e
theorem bA.Fi {C:Cx} (S:bA C) {b:Nat} {es f:List (Value×PV)} {ys:List (Value×Value)} {W:Nat→Prop} (v:W b) (o:C.h[b]?=some (.map es)) (u:f.map (·.1)=ys.map (·.1)) (q:aT C (f.map (·.2)) (ys.map (·.2))):
 bA ⟨C.F,C.H.put (C.φ b) (some (.map ys)),C.φ,C.h.set b (.map f)⟩∧bp C.h.length W C ⟨C.F,C.H.put (C.φ b) (some (.map ys)),C.φ,C.h.set b (.map f)⟩:=by
 have a:=bR o;have g:=S.lt a;have i:=aN a
 have T:bp C.h.length W C ⟨C.F,C.H.put (C.φ b) (some (.map ys)),C.φ,C.h.set b (.map f)⟩:={
  n0:=rfl
  nx:=MM _
  fz:=fun x k=>⟨k,by rw [AH.aG _ _ _ _ g,if_neg];rintro rfl;exact (S.old a).2 k⟩
  fo:=fun _ _ _ h=>h
  out:=fun x k hi=>by rw [AH.aG _ _ _ _ g,if_neg];rintro rfl;exact hi ⟨b,v,a,rfl⟩
  loc:=fun c m=>by
   right;by_cases h:c=b
   ·subst h;exact ⟨a,rfl⟩
   ·exact ⟨(bG (bK h)).1 m,rfl⟩
  len:=fun _=>by simp
  le:=fun c n _ t r=>by
   by_cases h:c=b
   ·subst h
    intro l p e;rw [bH i]at e;cases e
   ·exact (iY (bK h)).2 r
  lB:=fun c n _ t _ j=>by
   by_cases h:c=b
   ·subst h;obtain ⟨l,p,e,_⟩:=j;rw [bH i]at e;cases e
   ·exact ⟨(iX (bK h)).1 j,rfl⟩
  ma:=fun c n _ j=>by
   by_cases h:c=b
   ·subst h;exact ⟨⟨es,o⟩,rfl⟩
   ·exact ⟨(cV (bK h)).1 j,rfl⟩}
 refine ⟨S.of T rfl b (fun c d=>⟨bK d,rfl⟩) (fun c d s=>?_) (fun c d s _ e=>d (S.inj _ _ s a e.symm)) (fun l p e m=>?_) (fun es e=>?_),T⟩
 ·show(C.H.put _ _).get _=_
  rw [AH.aG _ _ _ _ g,if_neg];exact fun e=>d (S.inj _ _ s a e)
 ·have e:=(bH i).symm.trans e
  cases e
 ·have e:=(bH i).symm.trans e
  cases e;refine ⟨ys,?_,u,q,(S.old a)⟩;show(C.H.put _ _).get _=_;rw [AH.aG _ _ _ _ g,if_pos rfl]
theorem bA.grow {C:Cx} (S:bA C) {b z:Nat} {cs ds:List PV} {vs:List Value} {H1:AH} {W:Nat→Prop} (A:W b) (j:C.h[b]?=some (.cells z cs)) (B:cs.length<ds.length) (w:aT C ds vs)
 (k:(cs=[]∧H1=C.H)∨(cs≠[]∧H1=C.H.put (C.φ b) none)):
 bA ⟨C.F,H1.alloc (.cells z vs),nO C.φ b C.H.nx,C.h.set b (.cells z ds)⟩∧bp C.h.length W C ⟨C.F,H1.alloc (.cells z vs),nO C.φ b C.H.nx,C.h.set b (.cells z ds)⟩:=by
 have f:=(MO.1 j).1;have v:H1.nx=C.H.nx:=by rcases k with⟨_,rfl⟩|⟨_,rfl⟩<;>rfl
 have n:H1.n0=C.H.n0:=by rcases k with⟨_,rfl⟩|⟨_,rfl⟩<;>rfl
 have l:∀x,x<C.H.nx→(∀(_:aA C.h b),x≠C.φ b)→(H1.alloc (.cells z vs)).get x=C.H.get x:=by
  intro x d y;rw [AH.b9,if_neg (by omega)];rcases k with⟨_,rfl⟩|⟨a,rfl⟩
  ·rfl
  ·rw [AH.kX,if_neg (y (aJ j a))]
 have T:bp C.h.length W C ⟨C.F,H1.alloc (.cells z vs),nO C.φ b C.H.nx,C.h.set b (.cells z ds)⟩:={
  n0:=n
  nx:=by show _≤H1.nx+1;omega
  fz:=fun x d=>⟨d,l x (S.fz x d) fun s e=>(S.old s).2 (e▸d)⟩
  fo:=fun _ _ _ h=>h
  out:=fun x d hi=>l x d fun s e=>hi ⟨b,A,s,e.symm⟩
  loc:=fun c o=>by
   by_cases h:c=b
   ·subst h;left;show _≤nO _ _ _ _;rw [ch];exact MM _
   ·right;exact ⟨(bG (bK h)).1 o,ew h⟩
  len:=fun _=>by simp
  le:=fun c p _ t i=>by
   by_cases h:c=b
   ·subst h
    intro m r e;rw [bH f]at e;cases e;have:=i _ _ j;omega
   ·exact (iY (bK h)).2 i
  lB:=fun c p _ t i g=>by
   by_cases h:c=b
   ·subst h
    obtain ⟨m,r,e,rfl⟩:=g;rw [bH f]at e;cases e;have:=i _ _ j;omega
   ·exact ⟨(iX (bK h)).1 g,ew h⟩
  ma:=fun c p _ g=>by
   by_cases h:c=b
   ·subst h;obtain ⟨es,e⟩:=g;rw [bH f]at e;cases e
   ·exact ⟨(cV (bK h)).1 g,ew h⟩}
 refine ⟨S.of T rfl b (fun c a=>⟨bK a,ew a⟩) (fun c a s=>?_) (fun c a s _=>?_) (fun m r e o=>?_) (fun es e=>?_),T⟩
 ·exact l _ (S.lt s) fun u e=>a (S.inj _ _ s u e)
 ·have:=S.lt s;show nO _ _ _ _≠_;rw [ch];omega
 ·have e:=(bH f).symm.trans e
  cases e;refine ⟨vs,?_,w,?_,?_⟩<;>dsimp only<;>rw [ch]
  ·rw [←v];exact eJ _ _
  ·show H1.n0≤_;rw [n];exact S.wf
  ·intro q;exact absurd (S.fz _ q) (Nat.lt_irrefl _)
 ·have e:=(bH f).symm.trans e
  cases e
theorem bA.void {C:Cx} (S:bA C) (z:Nat) (W:Nat→Prop):bA ⟨C.F,C.H,C.φ,C.h++[.cells z []]⟩∧bp C.h.length W C ⟨C.F,C.H,C.φ,C.h++[.cells z []]⟩:=by
 have f:¬ aA (C.h++[.cells z []]) C.h.length:=fun s=>by
  rcases dK s with⟨es,e⟩|⟨k,cs,e,c⟩
  ·rw [dS]at e;cases e
  ·rw [dS]at e;cases e;exact c rfl
 have T:bp C.h.length W C ⟨C.F,C.H,C.φ,C.h++[.cells z []]⟩:={
  n0:=rfl
  nx:=MM _
  fz:=fun x g=>⟨g,rfl⟩
  fo:=fun _ _ _ h=>h
  out:=fun x g _=>rfl
  loc:=fun b a=>by
   by_cases h:b=C.h.length
   ·subst h;exact absurd a f
   ·right;exact ⟨(bG (dz h)).1 a,rfl⟩
  len:=fun _=>by simp
  le:=fun b a _ t j=>(iY (dz (by omega))).2 j
  lB:=fun b a _ t _ d=>⟨(iX (dz (by omega))).1 d,rfl⟩
  ma:=fun b a _ d=>⟨(cV (dz (by omega))).1 d,rfl⟩}
 refine ⟨S.of T rfl C.h.length (fun b a=>⟨dz a,rfl⟩) (fun b a s=>rfl) (fun b a s i=>absurd i f) (fun z cs e c=>?_) (fun es e=>?_),T⟩
 ·have e:=(dS _ _).symm.trans e;cases e;exact absurd rfl c
 ·have e:=(dS _ _).symm.trans e;cases e
open Go Go.RowKit
def jC {α:Type}:List α→Nat→List α→List α
 |c,0,vs=>vs++c.drop vs.length
 |x::c,k+1,vs=>x::jC c k vs
 |[],_+1,_=>[]
def kU:Value→PV
 | .agg cs=>.agg (cs.toList.map .v)
 |x=>.v x
def a5:PV→Option (List PV)
 | .agg cs=>some cs
 | .dw _=>none
 | .any=>none
 | .v (.agg cs)=>some (cs.toList.map .v)
 | .v (.tuple _)=>none
 |p=>some [p]
def fR:List PV→List (Nat×Nat×PV)→Option (List PV)
 |c,[]=>some c
 |c,(off,n,p)::l=>match a5 p with
  |some ds=>if ds.length=n∧off+n≤c.length then fR (jC c off ds) l else none
  |none=>none
def qR:PV→PV→PV→Option PV
 | .v (.bool t),a,b=>some (bif t then a else b)
 |_,_,_=>none
def vm (h:PH):PV→Option PV
 | .ref b o t=>match h[b]? with
   |some (.cells _ cs)=>if cs.length=t then cs[o]? else none
   |_=>none
 | .fp cells=>cells.head?
 |_=>none
def kr (n:Nat) (h:PH):PV→Option PV
 | .ref b o t=>match h[b]? with
   |some (.cells _ cs)=>if cs.length=t∧o+n≤t∧0<t then some (.agg ((cs.drop o).take n))else none
   |_=>none
 | .fp cells=>if n≤cells.length then some (.agg (cells.take n))else none
 |_=>none
def xu (n:Nat) (h:PH):PV→PV→Option PH
 | .ref b o t,p=>match h[b]?,a5 p with
   |some (.cells z cs),some ds=>if cs.length=t∧o+n≤t∧0<t∧ds.length=n then some (h.set b (.cells z (jC cs o ds)))else none
   |_,_=>none
 |_,_=>none
def bm (h:PH) (b:Nat):Option Nat:=match h[b]? with
 |some (.cells _ cs)=>some cs.length
 |_=>none
def nP (h:PH):PV→Option PV
 | .ref b o t=>if bm h b=some t then some (.ref b o t)else none
 | .fp c=>some (.fp c)
 |_=>none
def tH (op:BinOp):PV→PV→Option PV
 | .v x,.v y=>(aW op x y).map .v
 |_,_=>none
def ku:Nat→Value→Bool
 |1,.pointer none=>true
 |2,.slice none _ _=>true
 |3,.nilFunc=>true
 |4,.map none=>true
 |_,_=>false
def tI (h:PH) (k:Nat) (p:PV) (y:Value):Option Bool:=
 match p with
 | .v x=>ca k x y
 | .ref b _ t=>match h[b]? with
   |some (.cells _ cs)=>if cs.length=t∧k=1∧ku 1 y=true then some false else none
   |_=>none
 | .fp _=>if k=1∧ku 1 y=true then some false else none
 | .sl sz b o n c=>match h[b]? with
   |some (.cells _ cs)=>if(o+c)*sz=cs.length∧0<c∧k=2∧ku 2 y=true then some false else none
   |_=>none
 | .fs _ rows=>if rows≠[]∧k=2∧ku 2 y=true then some false else none
 | .fn _ _ _=>if k=3∧ku 3 y=true then some false else none
 | .mp b=>match h[b]? with
   |some (.map _)=>if k=4∧ku 4 y=true then some false else none
   |_=>none
 |_=>none
def qS (h:PH) (k:Nat):PV→PV→Option Bool
 |p,.v y=>tI h k p y
 |_,_=>none
def CG (op:UnOp):PV→Option PV
 | .v x=>(uL op x).map .v
 |_=>none
def tJ (k:IntKind):PV→Option PV
 | .v (.int _ n)=>some (.v (.int k (k.wrap n)))
 |_=>none
def xv:PV→Option PV
 | .v (.int _ n)=>some (.v (.string (Utf8.encode n)))
 |_=>none
def yS (h:PH) (off:Nat):PV→Option PV
 | .ref b o t=>if bm h b=some t then some (.ref b (o+off) t)else none
 | .fp cells=>if off≤cells.length then some (.fp (cells.drop off))else none
 |_=>none
def AB (h:PH) (sz:Nat):PV→PV→Option PV
 | .sl b8 b o n c, .v (.int _ k)=>match h[b]? with
   |some (.cells _ cs)=>if b8=sz∧(o+c)*sz=cs.length∧0<c∧0≤k∧k<n then some (.ref b ((o+k.toNat)*sz) cs.length)else none
   |_=>none
 | .fs b8 rows, .v (.int _ k)=>if b8=sz∧0≤k∧k<rows.length then(match rows[k.toNat]? with|some r=>some (.fp r)|none=>none)else none
 |_,_=>none
def qT (h:PH) (len sz:Nat):PV→PV→Option PV
 | .ref b o t,.v (.int _ k)=>if bm h b=some t∧0≤k∧k<len then some (.ref b (o+k.toNat*sz) t)else none
 | .fp cells,.v (.int _ k)=>if 0≤k∧k<len∧k.toNat*sz≤cells.length then some (.fp (cells.drop (k.toNat*sz)))else none
 |_,_=>none
def Fj:PV→PV→Option PV
 | .v x,.v y=>(Ck x y).map .v
 |_,_=>none
def tK:PV→Nat→Option PV
 | .dw ps,i=>ps[i]?
 |_,_=>none
def qU:PV→Option PV
 | .v x=>(nJ x).map .v
 |_=>none
def cW (h:PH):PV→Bool
 | .sl sz b o _ c=>match h[b]? with
   |some (.cells _ cs)=>decide ((o+c)*sz=cs.length)
   |_=>false
 |_=>true
def hC:PV→Option Nat
 | .v (.slice none 0 0)=>some 0
 | .v (.string s)=>some s.size
 | .sl _ _ _ n _=>some n
 | .fs _ rows=>some rows.length
 |_=>none
def nQ (h:PH):PV→Option PV
 | .v x=>(nK x).map .v
 | .sl sz b o n c=>some (.v (.int .i64 n))
 | .fs _ rows=>some (.v (.int .i64 rows.length))
 |_=>none
def jP (k:Value):List (Value×PV)→Option (Option PV)
 |[]=>some none
 |(k',p)::es=>match cv k k' with
  |some true=>some (some p)
  |some false=>jP k es
  |none=>none
def mS (k:Value) (p:PV):List (Value×PV)→Option (List (Value×PV))
 |[]=>some [(k,p)]
 |(k',p')::es=>match cv k k' with
  |some true=>some ((k,p)::es)
  |some false=>(mS k p es).map fun l=>(k',p')::l
  |none=>none
def nR (kk:Nat) (z:Value) (h:PH) (x k:PV) (ok:Bool):Option PV:=
 match x,k with
 | .v (.map none), .v kx=>if aR kk kx=true then some (bif ok then .dw [kU z, .v (.bool false)]else kU z)else none
 | .mp b, .v kx=>match h[b]? with
   |some (.map es)=>if aR kk kx=true then(match jP kx es with
    |some (some p)=>some (bif ok then .dw [p, .v (.bool true)]else p)
    |some none=>some (bif ok then .dw [kU z, .v (.bool false)]else kU z)
    |none=>none)else none
   |_=>none
 |_,_=>none
def qV (kk:Nat) (h:PH) (x k p:PV):Option PH:=
 match x,k with
 | .mp b, .v kx=>match h[b]? with
   |some (.map es)=>if aR kk kx=true∧(a5 p).isSome=true then(mS kx p es).map fun es'=>h.set b (.map es')else none
   |_=>none
 |_,_=>none
def vn:Option PV→Option (Option Value)
 |none=>some none
 |some (.v x)=>some (some x)
 |_=>none
def CH (sz:Nat) (h:PH) (x:PV) (lo hi mx:Option PV):Option (PV×PH):=
 match vn lo,vn hi,vn mx with
 |some lo,some hi,some mx=>match x with
  | .sl b8 b o n c=>match h[b]?,aC n c lo hi mx with
    |some (.cells z cs),some (l,e,m)=>if b8=sz∧0<sz∧z=sz∧(o+c)*sz=cs.length∧e≤m then
      (if c=0 then some (x,h)
      else if m=l then(if mx=none then some (.fs sz [],h)else some (.sl sz h.length 0 0 0,h++[.cells sz []]))
      else if m=c then some (.sl sz b (o+l) (e- l) (c- l),h)else none)else none
    |_,_=>none
  | .fs b8 rows=>if b8=sz∧0<sz then
      (match mx with
      |none=>match aC rows.length rows.length lo hi none with
       |some (l,e,_)=>if e≤rows.length then some (.fs sz ((rows.take e).drop l),h)else none
       |none=>none
      |some m=>if aC rows.length rows.length lo hi (some m)=some (0,0,0)then(match rows with
       |[]=>some (.fs sz [],h)
       |_::_=>some (.sl sz h.length 0 0 0,h++[.cells sz []]))else none)else none
  | .v (.slice none 0 0)=>if 0<sz∧(aC 0 0 lo hi mx).isSome=true then some (x,h)else none
  | .v (.string s)=>match mx with
    |some _=>none
    |none=>match aC s.size s.size lo hi none with
     |some (l,e,_)=>if sz=0 then some (.v (.string (s.extract l e)),h)else none
     |none=>none
  |_=>none
 |_,_,_=>none
def cA (h:PH) (sz k:Nat):PV→Option (List PV)
 | .sl b8 b o n c=>match h[b]? with
   |some (.cells _ cs)=>if b8=sz∧(o+c)*sz=cs.length∧k≤n∧n≤c then some ((cs.drop (o*sz)).take (k*sz))else none
   |_=>none
 | .fs b8 rows=>if b8=sz∧k≤rows.length then some (rows.take k).flatten else none
 | .v (.string s)=>if sz=1 then some ((s.extract 0 k).data.toList.map fun b=> .v (.int .u8 b.toNat))else none
 | .v (.slice none 0 0)=>if k=0 then some []else none
 |_=>none
def kv (sz bytes:Nat) (h:PH) (s x:PV):Option (PV×PH):=
 match hC x with
 |none=>none
 |some k=>
  if k=0 then(if cW h x=true then match s with
   | .v (.slice none 0 0)=>some (s,h)
   | .sl b8 b o n c=>match h[b]? with
     |some (.cells _ cs)=>if(o+c)*b8=cs.length∧n≤c then some (s,h)else none
     |_=>none
   | .fs _ _=>some (s,h)
   |_=>none
   else none)
  else match cA h sz k x with
  |none=>none
  |some new=>match s with
   | .v (.slice none 0 0)=>if 0<sz∧k*bytes≤2^47∧k<2^62 then some (.sl sz h.length 0 k k,h++[.cells sz new])else none
   | .sl b8 b o n c=>match h[b]? with
     |some (.cells z cs)=>if b8=sz∧z=sz∧0<sz∧(o+c)*sz=cs.length∧n≤c∧(n+k)*bytes≤2^47∧n+k<2^62 then
       (if c=0 then(if o=0 then some (.sl sz b 0 k k,h.set b (.cells sz new))else none)
       else if n+k≤c then some (.sl sz b o (n+k) c,h.set b (.cells sz (jC cs ((o+n)*sz) new)))
       else if o=0 then some (.sl sz b 0 (n+k) (n+k),h.set b (.cells sz (cs.take (n*sz)++new)))else none)
       else none
     |_=>none
   |_=>none
def nS (sz:Nat) (h:PH) (d s:PV):Option (PV×PH):=
 match(bif cW h s then hC s else none)with
 |none=>none
 |some m=>match d with
  | .v (.slice none 0 0)=>some (.v (.int .i64 0),h)
  | .sl b8 b o n c=>match h[b]? with
    |some (.cells z cs)=>if b8=sz∧0<sz∧(o+c)*sz=cs.length∧n≤c then
      (if Nat.min m n=0 then some (.v (.int .i64 0),h)
      else match cA h sz (Nat.min m n) s with
       |some new=>some (.v (.int .i64 (Nat.min m n)),h.set b (.cells z (jC cs (o*sz) new)))
       |none=>none)else none
    |_=>none
  |_=>none
def nT (sz bytes:Nat) (z:List Value) (h:PH):PV→Option (PV×PH)
 | .v (.int _ n)=>if 0≤n∧IntKind.i64.wrap n=n∧bytes*n≤2^47∧z.length=sz∧0<sz then some (.sl sz h.length 0 n.toNat n.toNat,h++[.cells sz (List.replicate n.toNat (z.map .v)).flatten])else none
 |_=>none
def tL (len sz:Nat) (z:List Value) (h:PH) (ps:List (Nat×Nat×PV)):Option (PV×PH):=
 match fR (z.map .v) ps with
 |some c=>if c.length=len*sz∧0<sz then some (.sl sz h.length 0 len len,h++[.cells sz c])else none
 |none=>none
def xw:List PV→Option (List Value)
 |[]=>some []
 | .v x::l=>(xw l).map fun m=>x::m
 |_=>none
def vo (f:Value→List Value→Option Value) (x:PV) (l:List PV):Option PV:=
 match x,xw l with
 | .v x,some l=>(f x l).map .v
 |_,_=>none
def iZ (cs ds:List PV):List (Nat×Nat)→Option Bool
 |[]=>some true
 |(o,kk)::l=>match cs[o]?,ds[o]? with
  |some (.v a),some (.v b)=>if aR kk a=true then(match cv a b with
   |some true=>iZ cs ds l
   |some false=>some false
   |none=>none)else none
  |_,_=>none
def gw (neg:Bool) (offs:List (Nat×Nat)):PV→PV→Option PV
 | .agg cs,.agg ds=>(iZ cs ds offs).map fun b=>.v (.bool (bif neg then !b else b))
 |_,_=>none
def tM (h:PH) (p:PV):Option (PV×PH):=
 match a5 p with
 |some cs=>some (.ref h.length 0 cs.length,h++[.cells cs.length cs])
 |none=>none
def lC (l:List PV) (n:Nat) (ag:Bool):Option PV:=if l.length=n then(bif ag then some (.agg l)else match l with|[v]=>some v|_=>none)else none
def sC (h:PH):XK→List PV→Option PV
 | .oO o n ag,[.agg cs]=>lC ((cs.drop o).take n) n ag
 | .oP len n ag,[.agg cs,.v (.int _ i)]=>if 0≤i∧i<len then lC ((cs.drop (i.toNat*n)).take n) n ag else none
 | .kZ len n,[.ref b 0 t]=>if bm h b=some t∧len*n=t∧0<len then some (.sl n b 0 len len)else none
 |_,_=>none
def vp:XK→List Value→Option Value
 | .oO o n ag,[.agg cs]=>gI ((cs.toList.drop o).take n) n ag
 | .oP len n ag,[.agg cs,.int _ i]=>if 0≤i∧i<len then gI ((cs.toList.drop (i.toNat*n)).take n) n ag else none
 | .kZ len _,[.pointer (some a)]=>some (.slice (some a) len len)
 |_,_=>none
def tN (z:List Value) (h:PH):PV→Option PH
 | .v (.slice none 0 0)=>some h
 | .sl sz b o n c=>match h[b]? with
   |some (.cells zz cs)=>if sz=z.length∧0<sz∧(o+c)*sz=cs.length∧n≤c then(if n=0 then some h else some (h.set b (.cells zz (jC cs (o*sz) ((List.replicate n z).flatten.map .v)))))else none
   |_=>none
 |_=>none
def lD:XK→List PV→Option (List Value×PV)
 | .l6 z,[p]=>some (z,p)
 |_,_=>none
def pop (p:aS) (ρ:X→PV) (h:PH):Option (PV×PH):=
 match p with
 | .mv x=>some (ρ x,h)
 | .pick c a b=>(qR (ρ c) (ρ a) (ρ b)).map fun v=>(v,h)
 | .alloc z=>some (.ref h.length 0 z.length,h++[.cells z.length (z.map .v)])
 | .box x=>tM h (ρ x)
 | .build z ps=>(fR (z.map .v) (ps.map fun p=>(p.1,p.2.1,ρ p.2.2))).map fun c=>(.agg c,h)
 | .bsl len sz z ps=>tL len sz z h (ps.map fun p=>(p.1,p.2.1,ρ p.2.2))
 | .ld x=>(vm h (ρ x)).map fun v=>(v,h)
 | .ldn n x=>(kr n h (ρ x)).map fun v=>(v,h)
 | .st n x v=>(xu n h (ρ x) (ρ v)).map fun h'=>(.v undef,h')
 | .cw x=>(nP h (ρ x)).map fun v=>(v,h)
 | .bin op x y=>(tH op (ρ x) (ρ y)).map fun v=>(v,h)
 | .eqk k neg x y=>(qS h k (ρ x) (ρ y)).map fun b=>(.v (.bool (bif neg then !b else b)),h)
 | .un op x=>(CG op (ρ x)).map fun v=>(v,h)
 | .jq k x=>(tJ k (ρ x)).map fun v=>(v,h)
 | .yr x=>(xv (ρ x)).map fun v=>(v,h)
 | .mkf f first cap=>some (.fn f (first.map ρ) (cap.map ρ),h)
 | .mkmap=>some (.mp h.length,h++[.map []])
 | .mksl sz bytes z x=>nT sz bytes z h (ρ x)
 | .sl sz x lo hi mx=>CH sz h (ρ x) (lo.map ρ) (hi.map ρ) (mx.map ρ)
 | .fa off x=>(yS h off (ρ x)).map fun v=>(v,h)
 | .ia sz x i=>(AB h sz (ρ x) (ρ i)).map fun v=>(v,h)
 | .cx len sz x i=>(qT h len sz (ρ x) (ρ i)).map fun v=>(v,h)
 | .ix x i=>(Fj (ρ x) (ρ i)).map fun v=>(v,h)
 | .look kk z x k ok=>(nR kk z h (ρ x) (ρ k) ok).map fun v=>(v,h)
 | .pt kk x k v=>(qV kk h (ρ x) (ρ k) (ρ v)).map fun h'=>(.v undef,h')
 | .ext x i=>(tK (ρ x) i).map fun v=>(v,h)
 | .call _ _=>none
 | .callv _ _=>none
 | .app sz bytes s x=>kv sz bytes h (ρ s) (ρ x)
 | .copy sz d s=>nS sz h (ρ d) (ρ s)
 | .lens x=>(qU (ρ x)).map fun v=>(v,h)
 | .fg x=>(nQ h (ρ x)).map fun v=>(v,h)
 | .yt t x=>some (.ie t (ρ x),h)
 | .mxl x l=>(vo pK (ρ x) (l.map ρ)).map fun v=>(v,h)
 | .mnl x l=>(vo uM (ρ x) (l.map ρ)).map fun v=>(v,h)
 | .eqs neg offs x y=>(gw neg offs (ρ x) (ρ y)).map fun v=>(v,h)
 | .xt k l=>match lD k (l.map ρ)with
   |some (z,p)=>(tN z h p).map fun h'=>(.v (.tuple #[]),h')
   |none=>(sC h k (l.map ρ)).map fun v=>(v,h)
def jQ (p:aS) (ρ:X→PV):List Nat:=
 match p with
 | .st _ x _=>match ρ x with| .ref b _ _=>[b]|_=>[]
 | .app _ _ s _=>match ρ s with| .sl _ b _ _ _=>[b]|_=>[]
 | .copy _ d _=>match ρ d with| .sl _ b _ _ _=>[b]|_=>[]
 | .pt _ x _ _=>match ρ x with| .mp b=>[b]|_=>[]
 | .xt k l=>match lD k (l.map ρ)with|some (_,.sl _ b _ _ _)=>[b]|_=>[]
 |_=>[]
end P
namespace P
open Go Go.RowKit
def e7 (C:Cx) (W:Nat→Prop) (r:Option (Value×AH)) (p:PV) (h':PH):Prop:=∃x H' aZ,r=some (x,H')∧RV ⟨C.F,H',aZ,h'⟩ p x∧bA ⟨C.F,H',aZ,h'⟩∧bp C.h.length W C ⟨C.F,H',aZ,h'⟩
theorem e7.val {C:Cx} {W:Nat→Prop} (S:bA C) {r:Option (Value×AH)} {p:PV} {x:Value} (k:RV C p x) (e:r=some (x,C.H)):e7 C W r p C.h:=⟨x,C.H,C.φ,e,k,S,bp.refl _ _ _⟩
variable{C:Cx} {W:Nat→Prop}
theorem RV.g9 {x y:Value} (h:RV C (.v x) y):y=x:=by cases h;rfl
theorem mT (x:Value):RV C (kU x) x:=by
 cases x with
 |agg cs=>exact .agg (xs:=cs.toList) (aT.lits _)
 |_=>exact .v _
theorem xy {x:Value} (h:one x=true):av x=[x]∧bg x=false:=by
 cases x<;>first
  |exact ⟨rfl,rfl⟩
  |(simp [one]at h)
theorem cL {p:PV} {x:Value} {cs:List PV} (h:RV C p x) (k:a5 p=some cs):aT C cs (av x)∧bg x=false:=by
 have go:∀{p:PV} {x:Value},RV C p x→(tG x=true∨one x=true)→aT C [p] (av x)∧bg x=false:=by
  intro p x h c
  obtain ⟨a,b⟩:av x=[x]∧bg x=false:=by
   rcases c with c|c
   ·cases x<;>first|exact ⟨rfl,rfl⟩|(simp [tG]at c)
   ·exact xy c
  rw [a];exact ⟨.cons h .nil,b⟩
 cases p with
 |v x=>
  cases h
  cases x with
  |agg d=>simp only [a5,MH]at k;subst k;exact ⟨aT.lits _,rfl⟩
  |tuple=>simp [a5]at k
  |_=>simp only [a5,MH]at k;subst k;exact ⟨.cons (.v _) .nil,rfl⟩
 |agg=>cases h with|agg q=>simp only [a5,MH]at k;subst k;exact ⟨by simpa [av]using q,rfl⟩
 |dw=>simp [a5]at k
 |any=>simp [a5]at k
 |ref=>simp only [a5,MH]at k;subst k;exact go h (by cases h;left;assumption)
 |sl=>simp only [a5,MH]at k;subst k;exact go h (by cases h with|sl a _ _ _=>exact .inl a.sm)
 |mp=>simp only [a5,MH]at k;subst k;exact go h (by cases h;left;assumption)
 |fs=>simp only [a5,MH]at k;subst k;exact go h (by cases h with|fs q=>cases q;exact .inr rfl)
 |fp=>simp only [a5,MH]at k;subst k;exact go h (by cases h;exact .inr rfl)
 |fn=>simp only [a5,MH]at k;subst k;exact go h (by cases h;exact .inr rfl)
 |ie=>simp only [a5,MH]at k;subst k;exact go h (by cases h;exact .inr rfl)
theorem aT.jC {cs:List PV} {xs:List Value} (h:aT C cs xs):∀{k:Nat} {ds:List PV} {ys:List Value},aT C ds ys→aT C (jC cs k ds) (bh xs k ys):=by
 have z:∀(xs ys:List Value),bh xs 0 ys=ys++xs.drop ys.length:=fun xs ys=>by cases xs<;>rfl
 have c:∀(xs ys:List PV),P.jC xs 0 ys=ys++xs.drop ys.length:=fun xs ys=>by cases xs<;>rfl
 intro k
 induction k generalizing cs xs with
 |zero=>
  intro ds ys q;rw [z,c,q.length];exact q.append (h.drop _)
 |succ k ih=>
  intro ds ys q
  cases h with
  |nil=>exact .nil
  |cons a b=>exact .cons a (ih b q)
theorem cj {α:Type}:∀{c:List α} {k:Nat} {vs:List α},k+vs.length≤c.length→(jC c k vs).length=c.length
 |c,0,vs,h=>by
  have:jC c 0 vs=vs++c.drop vs.length:=by cases c<;>rfl
  rw [this];simp;omega
 |[],k+1,vs,h=>by simp at h
 |x::c,k+1,vs,h=>by
  have:=cj (c:=c) (k:=k) (vs:=vs) (by simp at h;omega);simp [jC,this]
inductive tO (C:Cx):List (Nat×Nat×PV)→List (Nat×Nat×Value)→Prop
 |nil:tO C [] []
 |cons {o n:Nat} {p:PV} {x:Value} {l:List (Nat×Nat×PV)} {m:List (Nat×Nat×Value)}:RV C p x→tO C l m→tO C ((o,n,p)::l) ((o,n,x)::m)
theorem tO.of {a:X→PV} {b:X→Value} (h:∀x,RV C (a x) (b x)):∀(ps:List (Nat×Nat×X)),tO C (ps.map fun p=>(p.1,p.2.1,a p.2.2)) (ps.map fun p=>(p.1,p.2.1,b p.2.2))
 |[]=>.nil
 |p::ps=>.cons (h _) (tO.of h ps)
theorem aT.of {a:X→PV} {b:X→Value} (h:∀x,RV C (a x) (b x)):∀(l:List X),aT C (l.map a) (l.map b)
 |[]=>.nil
 |p::ps=>.cons (h _) (aT.of h ps)
theorem nU {ps:List (Nat×Nat×PV)} {g:List (Nat×Nat×Value)} (r:tO C ps g):∀{c d:List PV} {xs:List Value},aT C c xs→fR c ps=some d→∃ys,dV xs g=some ys∧aT C d ys:=by
 induction r with
 |nil=>intro c d xs h k;simp only [fR,MH]at k;subst k;exact ⟨xs,rfl,h⟩
 | @cons o n p x l m j _ ih=>
  intro c d xs h k;simp only [fR]at k
  cases f:a5 p with
  |none=>simp [f]at k
  |some s=>
   simp only [f]at k;split at k
   case isFalse=>cases k
   rename_i i;obtain ⟨a,b⟩:=cL j f;obtain ⟨ys,e,q⟩:=ih (h.jC a) k;refine ⟨ys,?_,q⟩;simp only [dV,nb];rw [←a.length,←h.length,b];simp [i.1,i.2,e]
theorem bA.cells (S:bA C) {b z t:Nat} {cs:List PV} (e:C.h[b]?=some (.cells z cs)) (d:0<cs.length):∃vs,C.H.get (C.φ b)=some (.cells z vs)∧aT C cs vs∧C.H.n0≤C.φ b:=by
 obtain ⟨vs,a,b,c,_⟩:=S.bw _ _ _ e (List.length_pos_iff.1 d);exact ⟨vs,a,b,c⟩
theorem vq (S:bA C) {p q:PV} {x:Value} (h:RV C p x) (k:vm C.h p=some q):∃y,ER C.H x=some y∧RV C q y:=by
 cases h with
 | @ref b o t x _ D d s=>
  simp only [vm]at k
  cases e:C.h[b]? with
  |none=>simp [e]at k
  |some B=>
   cases B with
   |cells z cs=>
    simp only [e]at k;split at k
    case isFalse=>cases k
    rename_i l;obtain ⟨f,n,i,u⟩:=S.cells (t:=t) e (by have:=(MO.1 k).1;omega);obtain ⟨y,g,m⟩:=i.get k;rw [s ⟨z,cs,e,l⟩];exact ⟨y,xf n u g,m⟩
   |map=>simp [e]at k
   |dead=>simp [e]at k
 | @fp cells b o f A d r=>
  simp only [vm]at k
  cases r with
  |nil=>simp at k
  | @cons w c ps xs a E=>
   simp only [List.head?_cons,MH]at k;subst k;refine ⟨c,?_,a.g9⟩;have:=gu d (j:=0) (v:=c) rfl
   simpa using this
 |_=>simp [vm]at k
theorem gU {a:Nat}:∀{l vs:List Value},aj a l=some vs→∀n,aj a (l.take n)=some (vs.take n)
 |[],vs,h,n=>by simp [aj]at h;subst h;simp [aj]
 |y::l,vs,h,n=>by
  simp only [aj]at h;split at h
  case h_2=>cases h
  rename_i d e b c;cases h
  cases n with
  |zero=>simp [aj]
  |succ n=>simp [aj,b,gU c n]
theorem gV {a:Nat}:∀{l vs:List Value},aj a l=some vs→∀n,aj a (l.drop n)=some (vs.drop n)
 |[],vs,h,n=>by simp [aj]at h;subst h;simp [aj]
 |y::l,vs,h,n=>by
  have c:=h;simp only [aj]at h;split at h
  case h_2=>cases h
  rename_i d e f b;cases h
  cases n with
  |zero=>simpa using c
  |succ n=>simpa using gV b n
theorem mU (S:bA C) {n:Nat} {p q:PV} {x:Value} (h:RV C p x) (k:kr n C.h p=some q):∃y,o9 n C.H x=some y∧RV C q y:=by
 cases h with
 | @ref b o t x _ w a r=>
  simp only [kr]at k
  cases e:C.h[b]? with
  |none=>simp [e]at k
  |some B=>
   cases B with
   |cells z cs=>
    simp only [e]at k;split at k
    case isFalse=>cases k
    rename_i j;cases k;obtain ⟨f,d,g,u⟩:=S.cells (t:=t) e (by omega);rw [r ⟨z,cs,e,j.1⟩];refine ⟨.agg ((f.drop o).take n).toArray,?_,.agg ((g.drop o).take n)⟩;simp only [o9];rw [eI d u (by have:=g.length;omega)];rfl
   |map=>simp [e]at k
   |dead=>simp [e]at k
 | @fp cells b o f v a m=>
  simp only [kr]at k;split at k
  case isFalse=>cases k
  rename_i l;cases k;refine ⟨.agg (f.take n).toArray,?_,.agg ((m.take n).g9)⟩;simp only [o9]
  have:C.H.ldn ⟨b,o,none⟩ n=some (f.take n):=by
   unfold AH.ldn at a⊢;dsimp only at a⊢
   cases d:C.H.get b with
   |none=>simp [d]at a
   |some B=>
    cases B with
    |map=>simp [d]at a
    |cells z c=>
     simp only [d]at a⊢;obtain ⟨s,a⟩:=ae a;simp only [MU]at s;rw [show decide (o+n≤c.length)=true by simp;omega,cond_true];have e:(c.drop o).take n=((c.drop o).take cells.length).take n:=by rw [List.take_take,Nat.min_eq_left l]
     cases i:decide (b<C.H.n0)with
     |false=>
      rw [i]at a;simp only [cond_false,MH]at a⊢;rw [e,a]
     |true=>
      rw [i]at a;simp only [cond_true]at a⊢;rw [e];exact gU a n
  rw [this];rfl
 |_=>simp [kr]at k
theorem qW {H:AH} {b o n k:Nat} {vs:List Value} (h:H.ldn ⟨b,o,none⟩ n=some vs) (g:k≤n):H.ldn ⟨b,o+k,none⟩ (n- k)=some (vs.drop k):=by
 unfold AH.ldn at h⊢;dsimp only at h⊢
 cases a:H.get b with
 |none=>simp [a]at h
 |some B=>
  cases B with
  |map=>simp [a]at h
  |cells z c=>
   simp only [a]at h⊢;obtain ⟨f,h⟩:=ae h;simp only [MU]at f;rw [show decide (o+k+(n- k)≤c.length)=true by simp;omega,cond_true];have e:(c.drop (o+k)).take (n- k)=((c.drop o).take n).drop k:=by rw [List.drop_take,List.drop_drop]
   rw [e]
   cases d:decide (b<H.n0)with
   |false=>rw [d]at h;simp only [cond_false,MH]at h⊢;rw [h]
   |true=>rw [d]at h;simp only [cond_true]at h⊢;exact gV h k
theorem cellsOf {p:PV} {cs:List PV} {x:Value} (h:RV C p x) (a:a5 p=some cs):∃ys,av x=ys∧bg x=false∧aT C cs ys:=⟨_,rfl,(cL h a).2,(cL h a).1⟩
theorem AD (S:bA C) {n:Nat} {p q:PV} {x y:Value} {c:PH} (h:RV C p x) (g:RV C q y) (k:xu n C.h p q=some c) (u:∀b o t,p= .ref b o t→W b):∃d,Ak n C.H x y=some d∧bA ⟨C.F,d,C.φ,c⟩∧bp C.h.length W C ⟨C.F,d,C.φ,c⟩:=by
 cases h with
 | @ref b o t x _ G E s=>
  simp only [xu]at k
  cases e:C.h[b]? with
  |none=>simp [e]at k
  |some B=>
   cases B with
   |cells z cs=>
    cases a:a5 q with
    |none=>simp [e,a]at k
    |some I=>
     simp only [e,a]at k;split at k
     case isFalse=>cases k
     rename_i i;cases k;obtain ⟨m,r,f,v⟩:=S.cells (t:=t) e (by omega);obtain ⟨l,w⟩:=cL g a;have j:=l.length;have D:=f.length;obtain ⟨A,B⟩:=S.put (W:=W) (u _ _ _ rfl) e (by intro q;subst q;simp at i;omega) (cj (by omega)) (f.jC (k:=o) l);rw [s ⟨z,cs,e,i.1⟩];refine ⟨_,?_,A,B⟩;rw [Al,if_pos ⟨by omega,w⟩];unfold AH.st;simp only [r];rw [show decide (C.H.n0≤C.φ b)=true by simp [v],show decide (o+(av y).length≤m.length)=true by simp;omega];rfl
   |map=>simp [e]at k
   |dead=>simp [e]at k
 |_=>simp [xu]at k
theorem eM {k:Nat} {y:Value} (h:ku k y=true):(k=1∧y= .pointer none)∨(k=2∧∃n c,y= .slice none n c)∨(k=3∧y= .nilFunc)∨(k=4∧y= .map none):=by
 unfold ku at h;split at h<;>simp_all
theorem tP {k:Nat} {p q:PV} {x y:Value} {r:Bool} (h:RV C p x) (g:RV C q y) (e:qS C.h k p q=some r):ca k x y=some r:=by
 cases q with
 |v z=>
  cases g;replace e:tI C.h k p y=some r:=e;unfold tI at e
  cases p with
  |v w=>cases h;exact e
  |ref b o t=>
   cases h with|ref _ s m j=>
   dsimp only at e;split at e
   case h_2=>cases e
   rename_i l cs i;split at e
   case isFalse=>cases e
   rename_i d;cases e;rw [j ⟨l,cs,i,d.1⟩,d.2.1];rcases eM d.2.2 with⟨a,rfl⟩|⟨a,_⟩|⟨a,_⟩|⟨a,_⟩<;>first|rfl|cases a
  |fp cells=>
   cases h;dsimp only at e;split at e
   case isFalse=>cases e
   rename_i d;cases e;rw [d.1];rcases eM d.2 with⟨a,rfl⟩|⟨a,_⟩|⟨a,_⟩|⟨a,_⟩<;>first|rfl|cases a
  |sl sz b o n c=>
   cases h with|sl _ s m j=>
   dsimp only at e;split at e
   case h_2=>cases e
   rename_i l cs i;split at e
   case isFalse=>cases e
   rename_i d;cases e;rw [d.2.2.1];rcases j ⟨l,cs,i,d.1.symm⟩with⟨a,_⟩|⟨_,rfl⟩
   ·omega
   ·rcases eM d.2.2.2 with⟨a,_⟩|⟨a,B,A,rfl⟩|⟨a,_⟩|⟨a,_⟩<;>first|rfl|cases a
  |fs sz rows=>
   cases h with|fs q=>
   dsimp only at e;split at e
   case isFalse=>cases e
   rename_i d;cases e;rw [d.2.1]
   cases q with| @fs _ _ a c rs E m G D=>
   obtain ⟨H,A,u,F⟩:=E.is;simp only [Value.slice.injEq]at u;obtain ⟨rfl,_,rfl⟩:=u;have:0<rs.length:=by rw [←D.length];exact List.length_pos_iff.2 d.1
   obtain ⟨b,o,rfl,_⟩:=F 0 _ (MG this);rcases eM d.2.2 with⟨a,_⟩|⟨a,B,A,rfl⟩|⟨a,_⟩|⟨a,_⟩<;>first|rfl|cases a
  |fn f a b=>
   cases h;dsimp only at e;split at e
   case isFalse=>cases e
   rename_i d;cases e;rw [d.1];rcases eM d.2 with⟨a,_⟩|⟨a,_⟩|⟨a,rfl⟩|⟨a,_⟩<;>first|rfl|cases a
  |mp b=>
   cases h with|mp _ s j=>
   dsimp only at e;split at e
   case h_2=>cases e
   rename_i es i;split at e
   case isFalse=>cases e
   rename_i d;cases e;rw [d.1,j ⟨es,i⟩];rcases eM d.2 with⟨a,_⟩|⟨a,_⟩|⟨a,_⟩|⟨a,rfl⟩<;>first|rfl|cases a
  |_=>cases e
 |_=>cases e
theorem ja {b o t:Nat} {x:Value} (h:RV C (.ref b o t) x) (k:bm C.h b=some t):x= .pointer (some ⟨C.φ b,o,none⟩):=by
 cases h with|ref _ e d c=>
 unfold bm at k;split at k
 case h_2=>cases k
 rename_i z cs a;cases k;exact c ⟨z,cs,a,rfl⟩
theorem RV.AE {b o a t:Nat} {x:Value} (h:RV C (.ref b o t) x):RV C (.ref b a t) (.pointer (some ⟨C.φ b,a,none⟩)):=by
 cases h with|ref _ d c e=>exact .ref rfl d c fun _=>rfl
theorem nV {cells:List PV} {b o k:Nat} (c:k≤cells.length) (h:RV C (.fp cells) (.pointer (some ⟨b,o,none⟩))):RV C (.fp (cells.drop k)) (.pointer (some ⟨b,o+k,none⟩)):=by
 cases h with|fp d a e=>
 refine .fp d ?_ (e.drop k);rw [List.length_drop];exact qW a c
theorem AG {off:Nat} {p q:PV} {x:Value} (h:RV C p x) (k:yS C.h off p=some q):∃y,Ci off x=some y∧RV C q y:=by
 cases p with
 |ref b o t=>
  simp only [yS]at k;split at k
  case isFalse=>cases k
  rename_i a;cases k;rw [ja h a];exact ⟨_,rfl,h.AE⟩
 |fp cells=>
  simp only [yS]at k;split at k
  case isFalse=>cases k
  rename_i a;cases k;have c:=h
  cases h with|fp e d f=>
  exact ⟨_,rfl,nV a c⟩
 |_=>cases k
theorem tQ {p q:PV} {x:Value} (h:RV C p x) (k:nP C.h p=some q):qI x=some x∧RV C q x:=by
 cases p with
 |ref b o t=>
  simp only [nP]at k;split at k
  case isFalse=>cases k
  rename_i a;cases k;refine ⟨?_,h⟩;rw [ja h a];rfl
 |fp cells=>
  cases k;exact ⟨by cases h;rfl,h⟩
 |_=>cases k
theorem xz {len sz:Nat} {p q r:PV} {x y:Value} (h:RV C p x) (g:RV C q y) (k:qT C.h len sz p q=some r):∃z,ti len sz x y=some z∧RV C r z:=by
 unfold qT at k;split at k
 ·rename_i b o t kk n
  cases g;split at k
  case isFalse=>cases k
  rename_i a;cases k;rw [ja h a.1];refine ⟨_,?_,h.AE⟩;rw [qJ,if_pos ⟨a.2.1,a.2.2⟩]
 ·rename_i cells kk n
  cases g;split at k
  case isFalse=>cases k
  rename_i a;cases k;have c:=h
  cases h with|fp e d f=>
  refine ⟨_,?_,nV a.2.2 c⟩;rw [qJ,if_pos ⟨a.1,a.2.1⟩]
 ·cases k
theorem AI {sz:Nat} {p q r:PV} {x y:Value} (h:RV C p x) (g:RV C q y) (k:AB C.h sz p q=some r):∃z,Cj sz x y=some z∧RV C r z:=by
 unfold AB at k;split at k
 ·rename_i v b o n c kk m
  cases g;split at k
  case h_2=>cases k
  rename_i u cs F;split at k
  case isFalse=>cases k
  rename_i f;cases k;obtain ⟨rfl,d,h2,J,I⟩:=f
  cases h with|sl N G s H=>
  rcases H ⟨u,cs,F,d.symm⟩with⟨a,_⟩|⟨_,rfl⟩
  ·omega
  ·refine ⟨_,by rw [vi,if_pos ⟨J,I⟩],?_⟩
   rw [←Nat.add_mul];exact .ref rfl G (by rw [←d];exact s) fun _=>rfl
 ·rename_i v rows kk m
  cases g;split at k
  case isFalse=>cases k
  rename_i f;obtain ⟨rfl,d,h2⟩:=f;split at k
  case h_2=>cases k
  rename_i L j;cases k
  cases h with|fs q=>
  cases q with| @fs _ _ a c rs D s E A=>
  obtain ⟨K,w,i⟩:=A.get j;obtain ⟨P,O,e,B⟩:=D.is;simp only [Value.slice.injEq]at e;obtain ⟨rfl,_,rfl⟩:=e;obtain ⟨b,o,rfl,l⟩:=B _ _ w;have M:=(MO.1 j).1;refine ⟨_,by rw [vi,if_pos ⟨d,h2⟩],?_⟩;refine .fp ?_ ?_ i
  ·rcases (E _ rfl).2 with t|t
   ·omega
   ·exact t.1
  ·rw [i.length,(bE l).2]
   exact l
 ·cases k
theorem lE {h:PH} {sz b o n c:Nat} (k:cW h (.sl sz b o n c)=true):At h b ((o+c)*sz):=by
 unfold cW at k;dsimp only at k;split at k
 ·rename_i z cs e;exact ⟨z,cs,e,by simpa using(of_decide_eq_true k).symm⟩
 ·cases k
theorem qX {p:PV} {x:Value} {n:Nat} (h:RV C p x) (k:hC p=some n) (a:cW C.h p=true):ff x=some n:=by
 unfold hC at k;split at k
 ·cases h;cases k;rfl
 ·cases h;cases k;rfl
 ·cases k
  cases h with|sl _ e c b=>
  rcases b (lE a)with⟨_,rfl,d,rfl,_⟩|⟨_,rfl⟩<;>rfl
 ·cases k
  cases h with|fs q=>cases q;rfl
 ·cases k
end P
namespace P
open Go Go.RowKit
variable{C:Cx} {W:Nat→Prop}
theorem gW {sz b o n c:Nat} {x:Value} (h:RV C (.sl sz b o n c) x) {z:Nat} {cs:List PV} (e:C.h[b]?=some (.cells z cs)) (a:(o+c)*sz=cs.length):Fg (C.φ b) sz o n c x:=by
 cases h with|sl _ g f d=>exact d ⟨z,cs,e,a.symm⟩
theorem RV.Lj {sz b o n c a d c':Nat} {x y:Value} (h:RV C (.sl sz b o n c) x) (e:a+c'=o+c) (f:CF d y) (k:Fg (C.φ b) sz a d c' y):RV C (.sl sz b a d c') y:=by
 cases h with|sl _ i g j=>exact .sl f i (by rw [e];exact g) fun _=>k
theorem nW:∀(l:List UInt8),aT C (l.map fun b=>.v (.int .u8 b.toNat)) (l.map fun b=>.int .u8 b.toNat)
 |[]=>.nil
 |b::l=>.cons (.v _) (nW l)
theorem jc (S:bA C) {sz m:Nat} {p:PV} {x:Value} {new:List PV} (h:RV C p x) (k:cA C.h sz m p=some new) (D:0<m) (u:0<sz):
 ∃ys,dq C.H sz m x=some ys∧aT C new ys∧(hC p=some m→iw C.H sz x=some ys∧ff x=some m∧ys.length=m*sz)∧(∀q,ff x=some q→m≤q→ys.length=m*sz):=by
 have B:¬ m*sz=0:=by have:=Nat.mul_pos D u;omega
 unfold cA at k;split at k
 ·rename_i b8 b o n c
  split at k
  case h_2=>cases k
  rename_i z cs E;split at k
  case isFalse=>cases k
  rename_i g;cases k;obtain ⟨rfl,G,h2,P⟩:=g;have f:(o+m)*b8≤(o+c)*b8:=Nat.mul_le_mul_right _ (by omega);rw [Nat.add_mul]at f;obtain ⟨j,K,w,L⟩:=S.cells (t:=0) E (by have:=Nat.mul_pos (show 0<o+c by omega) u;omega);have N:=w.length;rcases gW h E G with⟨a,_⟩|⟨_,rfl⟩
  ·omega
  have l:C.H.ldn ⟨C.φ b,o*b8,none⟩ (m*b8)=some ((j.drop (o*b8)).take (m*b8)):=eI K L (by omega);have d:((j.drop (o*b8)).take (m*b8)).length=m*b8:=by simp;omega
  refine ⟨(j.drop (o*b8)).take (m*b8),?_,(w.drop _).take _,fun e=>?_,fun q e A=>d⟩
  ·simp only [dq,nb,B,decide_false,cond_false,l]
  ·simp only [hC,MH]at e
   subst e;refine ⟨?_,rfl,d⟩;simp only [iw,nb,show¬ n=0 by omega,decide_false,cond_false,l]
 ·rename_i b8 rows
  split at k
  case isFalse=>cases k
  rename_i g;cases k;obtain ⟨rfl,G⟩:=g
  cases h with|fs q=>
  cases q with| @fs _ _ a c rs i l O y=>
  have d:=y.length;obtain ⟨R,Q,I,M⟩:=i.is;simp only [Value.slice.injEq]at I;obtain ⟨rfl,_,rfl⟩:=I;obtain ⟨b,o,rfl,_⟩:=M 0 _ (MG (by omega));rw [d]at i;have v:=i.whole m (by omega) D
  have F:(rs.take m).flatten.length=m*b8:=by
   rw [bF (sz:=b8) fun r J=>i.qM r (List.mem_of_mem_take J),List.length_take,Nat.min_eq_left (by omega)]
  refine ⟨(rs.take m).flatten,?_,(y.take m).flat.g9,fun e=>?_,fun _ _ _=>F⟩
  ·simp only [dq,nb,B,decide_false,cond_false,v]
  ·simp only [hC,MH]at e
   refine ⟨?_,by simp [ff,e],F⟩;simp only [iw,nb,show¬ rows.length=0 by omega,decide_false,cond_false];rw [e,v]
 ·rename_i s
  split at k
  case isFalse=>cases k
  rename_i g;cases k;subst g;cases h;refine ⟨(s.extract 0 m).data.toList.map fun b=>.int .u8 b.toNat,rfl,nW _,fun e=>?_,fun q e A=>?_⟩
  ·simp only [hC,MH]at e
   subst e;refine ⟨?_,rfl,by simp⟩;simp [iw]
  ·simp only [ff,MH]at e
   subst e;simp [A]
 ·split at k
  case isFalse=>cases k
  omega
 ·cases k
theorem xA (S:bA C) {sz bytes:Nat} {p q r:PV} {x y:Value} {h':PH} (s:RV C p x) (R:RV C q y) (k:kv sz bytes C.h p q=some (r,h')) (hW:∀sz b o n c,p= .sl sz b o n c→W b):
 e7 C W (aD sz bytes C.H x y) r h':=by
 unfold kv at k;split at k
 ·cases k
 rename_i m X;split at k
 ·rename_i N
  subst N;split at k
  case isFalse=>cases k
  rename_i hv;have f:=qX R X hv;split at k
  ·cases k
   cases s;exact e7.val S (.v _) (by simp [aD,f])
  ·rename_i b8 b o n c
   split at k
   case h_2=>cases k
   rename_i z cs j;split at k
   case isFalse=>cases k
   rename_i w;cases k;have G:=gW s j w.1;refine e7.val S s ?_;rcases G with⟨_,rfl,d,rfl,_⟩|⟨_,rfl⟩
   ·simp [aD,f]
   ·simp [aD,f,w.2]
  ·cases k
   refine e7.val S s ?_
   cases s with|fs g=>
   cases g with|fs hr hl hk mb=>simp [aD,f,hl]
  ·cases k
 rename_i N;have E:0<m:=by omega
 split at k
 ·cases k
 rename_i new qO;split at k
 ·split at k
  case isFalse=>cases k
  rename_i w;cases k;obtain ⟨u,K,L⟩:=w;obtain ⟨O,_,l,i,_⟩:=jc S R qO E u;obtain ⟨i,f,yU⟩:=i X;cases s;obtain ⟨A,B⟩:=S.new (P:=.cells sz new) (B:=.cells sz O) W (.inl ⟨_,_,_,rfl,rfl,l⟩);refine ⟨.slice (some ⟨C.H.nx,0,none⟩) m m,_,_,?_,.sl ⟨_,_,rfl⟩ (by simp) ?_ (fun _=>.inr ⟨E,?_⟩),A,B⟩
  ·have:¬ m=0:=N
   simp [aD,f,this,i,nb,K,L]
  ·intro z cs e
   rw [show(C.h++[PB.cells sz new])[C.h.length]?=_ from dS _ _]at e;cases e;have:=l.length;simp;omega
  ·simp [ch]
 ·rename_i b8 b o n c
  split at k
  case h_2=>cases k
  rename_i z cs j;split at k
  case isFalse=>cases k
  rename_i w;obtain ⟨rfl,rfl,u,M,h2,K,L⟩:=w;obtain ⟨O,_,l,i,_⟩:=jc S R qO E u;obtain ⟨i,f,yU⟩:=i X;have G:=gW s j M;have D:=(MO.1 j).1;have so:=l.length;have Z:=hW _ _ _ _ _ rfl;have V:¬ m=0:=N;split at k
  ·rename_i Y
   split at k
   case isFalse=>cases k
   rename_i T;cases k;subst Y;subst T;obtain rfl:n=0:=by omega
   have F:cs=[]:=Nc.1 (by simpa using M.symm);rcases G with⟨_,_,d,rfl,hd⟩|⟨a,_⟩
   case inr=>omega
   obtain ⟨A,B⟩:=S.grow (H1:=C.H) Z j (by rw [F,so,yU];simpa using Nat.mul_pos E u) l (.inl ⟨F,rfl⟩);refine ⟨.slice (some ⟨C.H.nx,0,none⟩) m m,_,_,?_,.sl ⟨_,_,rfl⟩ (by simpa using D) ?_ (fun _=>.inr ⟨E,?_⟩),A,B⟩
   ·simp only [aD,f,if_neg V,i]
    rw [show decide ((0+m)*bytes≤2^47)=true by simpa using K,show decide (0+m<2^62)=true by simpa using L];simp only [Bool.and_self,cond_true];rw [if_neg (by omega)]
    cases d with
    |none=>simp
    |some d=>simp [hd d rfl]
   ·intro z bf e
    rw [bH D]at e;cases e;simp;omega
   ·simp [ch]
  rename_i Y;rcases G with⟨a,_⟩|⟨_,rfl⟩
  ·omega
  have g8:0<cs.length:=by rw [←M];exact Nat.mul_pos (by omega) u
  have F:cs≠[]:=List.length_pos_iff.1 g8;obtain ⟨vs,J,Q,U⟩:=S.cells (t:=0) j g8;have yT:=Q.length;have pa:C.H.fE (C.φ b) z=true:=by unfold AH.fE;rw [J];simp
  have d1:decide ((n+m)*bytes≤2^47)=true:=by simpa using K
  have d2:decide (n+m<2^62)=true:=by simpa using L
  have tR:n*z≤c*z:=Nat.mul_le_mul_right _ h2;have Lk:(o+c)*z=o*z+c*z:=Nat.add_mul ..;have Fm:(o+n)*z=o*z+n*z:=Nat.add_mul ..;have Mj:(n+m)*z=n*z+m*z:=Nat.add_mul ..;split at k
  ·rename_i I
   cases k;have Fp:(n+m)*z≤c*z:=Nat.mul_le_mul_right _ I;obtain ⟨A,B⟩:=S.put Z j F (cj (by omega)) (Q.jC (k:=(o+n)*z) l);refine ⟨.slice (some ⟨C.φ b,o*z,none⟩) (n+m) c,_,_,?_,.sl ⟨_,_,rfl⟩ (by simpa using D) ?_ (fun _=>.inr ⟨by omega,rfl⟩),A,B⟩
   ·simp only [aD,f,if_neg V,i,d1,d2,Bool.and_self,cond_true,if_pos I,pa,Option.isNone_none]
    unfold AH.st;simp only [J];rw [show decide (C.H.n0≤C.φ b)=true by simp [U],show decide (o*z+n*z+O.length≤vs.length)=true by simp;omega,Fm];rfl
   ·intro z9 bf e
    rw [bH D]at e;cases e;rw [cj (by omega)];omega
  ·rename_i I
   split at k
   case isFalse=>cases k
   rename_i T;cases k;subst T;simp only [Nat.zero_mul,Nat.zero_add]at Lk Fm J M;have Fp:c*z<(n+m)*z:=Nat.mul_lt_mul_of_pos_right (by omega) u;have Ll:(cs.take (n*z)++new).length=(n+m)*z:=by rw [MR,List.length_take,Nat.min_eq_left (by omega)];omega
   obtain ⟨A,B⟩:=S.grow (H1:=C.H.put (C.φ b) none) Z j (ds:=cs.take (n*z)++new) (by omega) ((Q.take _).append l) (.inr ⟨F,rfl⟩);refine ⟨.slice (some ⟨C.H.nx,0,none⟩) (n+m) (n+m),_,_,?_,.sl ⟨_,_,rfl⟩ (by simpa using D) ?_ (fun _=>.inr ⟨by omega,?_⟩),A,B⟩
   ·have eW:C.H.ldn ⟨C.φ b,0,none⟩ (n*z)=some (vs.take (n*z)):=by
     rw [eI J U (by omega)];simp
    simp only [aD,f,if_neg V,i,d1,d2,Bool.and_self,cond_true,if_neg I,if_neg Y,pa,Option.isNone_none,Nat.zero_mul,eW];rw [show decide (C.H.n0≤C.φ b)=true by simp [U]];rfl
   ·intro z9 bf e
    rw [bH D]at e;cases e;rw [Ll];simp
   ·simp [ch]
 ·cases k
end P
namespace P
open Go Go.RowKit
variable{C:Cx} {W:Nat→Prop}
theorem xC (S:bA C) {z:List Value} {p:PV} {x:Value} {h':PH} (j:RV C p x) (k:tN z C.h p=some h') (D:∀sz b o n c,p= .sl sz b o n c→W b):
 e7 C W (jY (.l6 z) [x] C.H) (.v (.tuple #[])) h':=by
 unfold tN at k;split at k
 ·cases k
  cases j;exact e7.val S (.v _) rfl
 ·rename_i sz b o n c
  split at k
  case h_2=>cases k
  rename_i E cs e;split at k
  case isFalse=>cases k
  rename_i y;obtain ⟨rfl,f,m,h2⟩:=y;have i:=gW j e m;split at k
  ·rename_i a
   cases k;subst a;refine e7.val S (.v _) ?_;rcases i with⟨_,_,d,rfl,_⟩|⟨_,rfl⟩
   ·cases d<;>simp [jY]
   ·simp [jY]
  ·rename_i a
   cases k;rcases i with⟨_,rfl,_⟩|⟨_,rfl⟩
   ·exact absurd rfl a
   have l:0<cs.length:=by rw [←m];exact Nat.mul_pos (by omega) f
   obtain ⟨q,w,g,u⟩:=S.cells (t:=0) e l;have F:=g.length;have G:(List.replicate n z).flatten.length=n*z.length:=by simp
   have r:(o+n)*z.length≤(o+c)*z.length:=Nat.mul_le_mul_right _ (by omega);rw [Nat.add_mul]at r;obtain ⟨A,B⟩:=S.put (D _ _ _ _ _ rfl) e (List.length_pos_iff.1 l) (cj (by simp only [List.length_map];omega)) (g.jC (k:=o*z.length) (aT.lits (List.replicate n z).flatten));refine ⟨.tuple #[],_,_,?_,.v _,A,B⟩
   have s:(Nat.beq n 0||z.isEmpty)=false:=by
    rw [nb]
    cases z with
    |nil=>simp at f
    |cons=>simp [a]
   simp only [jY,s,cond_false];unfold AH.st;simp only [w];rw [show decide (C.H.n0≤C.φ b)=true by simp [u],show decide (o*z.length+(List.replicate n z).flatten.length≤q.length)=true by simp only [MU];omega];rfl
 ·cases k
theorem tS (S:bA C) {sz:Nat} {p q r:PV} {x y:Value} {h':PH} (K:RV C p x) (J:RV C q y) (k:nS sz C.h p q=some (r,h')) (hW:∀sz b o n c,p= .sl sz b o n c→W b):
 e7 C W (ee sz C.H x y) r h':=by
 unfold nS at k;split at k
 ·cases k
 rename_i m w;obtain ⟨R,w⟩:=ae w;have e:=qX J w R
 have F:∃l,dq C.H sz 0 y=some l∧l.length=0:=by
  cases y with
  |slice a n c=>cases a<;>simp [dq,nb]
  |string s=>exact ⟨[],by simp [dq]⟩
  |_=>simp [ff]at e
 split at k
 ·cases k
  cases K;obtain ⟨l,g,M⟩:=F;refine e7.val S (.v _) ?_;simp only [ee,e,Nat.min_zero];rw [g];rfl
 ·rename_i b8 b o n c
  split at k
  case h_2=>cases k
  rename_i z cs D;split at k
  case isFalse=>cases k
  rename_i hc;obtain ⟨rfl,j,O,h2⟩:=hc;have I:=gW K D O;split at k
  ·rename_i f
   cases k;obtain ⟨l,g,M⟩:=F;refine e7.val S (.v _) ?_;have:l=[]:=Nc.1 M;subst this;rcases I with⟨_,rfl,d,rfl,_⟩|⟨_,rfl⟩
   ·simp only [ee,e,f,g]
    cases d<;>rfl
   ·simp only [ee,e,f,g]
    rfl
  ·rename_i f
   split at k
   case h_2=>cases k
   rename_i new T;cases k;have L:0<Nat.min m n:=by omega
   have X:Nat.min m n≤n:=Nat.min_le_right _ _;obtain ⟨i,Z,E,_,u⟩:=jc S J T L j;have u:=u m e (Nat.min_le_left _ _);rcases I with⟨_,rfl,_⟩|⟨_,rfl⟩
   ·simp at f
   have N:0<cs.length:=by rw [←O];exact Nat.mul_pos (by omega) j
   obtain ⟨P,Y,G,V⟩:=S.cells (t:=0) D N;have yT:=G.length;have so:=E.length;have Q:(o+Nat.min m n)*b8≤(o+c)*b8:=Nat.mul_le_mul_right _ (by omega);rw [Nat.add_mul]at Q;obtain ⟨A,B⟩:=S.put (hW _ _ _ _ _ rfl) D (List.length_pos_iff.1 N) (cj (by omega)) (G.jC (k:=o*b8) E);refine ⟨.int .i64 (Nat.min m n),_,_,?_,.v _,A,B⟩;simp only [ee,e,Z]
   have U:i.isEmpty=false:=by
    cases i with
    |nil=>simp at u;have:=Nat.mul_pos L j;omega
    |cons=>rfl
   simp only [Option.bind_some,U,cond_false];unfold AH.st;simp only [Y];rw [show decide (C.H.n0≤C.φ b)=true by simp [V],show decide (o*b8+i.length≤P.length)=true by simp;omega];rfl
 ·cases k
theorem mV {a:X→PV} {b:X→Value} (h:∀x,RV C (a x) (b x)) {o:Option X} {r:Option Value} (k:vn (o.map a)=some r):o.map b=r:=by
 cases o with
 |none=>simpa [vn]using k
 |some x=>
  have c:=h x;simp only [Option.map_some]at k⊢;revert k;generalize a x=p at c;intro k
  cases p<;>first
   |(simp [vn]at k;done)
   |skip
  cases c
  simpa [vn]using k
theorem nX {v:Value} {y z n:Nat} (h:dm v y=some n) (a:n≤z):dm v z=some n:=by
 unfold dm at h⊢;cases v<;>simp_all;omega
theorem dh {v:Value} {y n:Nat} (h:dm v y=some n):n≤y:=by
 unfold dm at h;cases v<;>simp_all;omega
theorem pe {n c:Nat} {lo hi:Option Value} {l e m:Nat} (h:aC n n lo hi none=some (l,e,m)) (j:n≤c):aC n c lo hi none=some (l,e,c)∧m=n∧l≤e∧e≤n:=by
 have k:=h;unfold aC at h;obtain ⟨i,g,h⟩:=MT.1 h;obtain ⟨e',h2,h⟩:=MT.1 h;obtain ⟨b,a,h⟩:=MT.1 h;simp only [MH,MQ]at h;obtain ⟨rfl,rfl,rfl⟩:=h
 have d:b≤e':=by
  cases lo with
  |none=>simp only [MH]at a;omega
  |some v=>exact dh a
 have f:e'≤n:=by
  cases hi with
  |none=>simp only [MH]at h2;omega
  |some v=>exact dh h2
 refine ⟨?_,by simpa using g.symm,d,f⟩;unfold aC;refine MT.2 ⟨c,rfl,MT.2 ⟨e',?_,MT.2 ⟨b,a,rfl⟩⟩⟩
 cases hi with
 |none=>exact h2
 |some v=>exact nX h2 (by omega)
theorem qY {n c:Nat} {lo hi:Option Value} {v:Value} (h:aC n n lo hi (some v)=some (0,0,0)) (f:n≤c):aC n c lo hi (some v)=some (0,0,0):=by
 unfold aC at h;obtain ⟨d,b,h⟩:=MT.1 h;obtain ⟨g,h2,h⟩:=MT.1 h;obtain ⟨e,a,h⟩:=MT.1 h;simp only [MH,MQ]at h;obtain ⟨rfl,rfl,rfl⟩:=h;unfold aC;refine MT.2 ⟨0,nX b (by omega),MT.2 ⟨0,?_,MT.2 ⟨0,a,rfl⟩⟩⟩
 cases hi with
 |none=>exact h2
 |some v=>exact h2
theorem jR {n c:Nat} {lo hi mx:Option Value} {l e m:Nat} (h:aC n c lo hi mx=some (l,e,m)) (i:n≤c):m≤c∧(mx=none→m=c)∧l≤e∧e≤m:=by
 unfold aC at h;obtain ⟨b,f,h⟩:=MT.1 h;obtain ⟨j,h2,h⟩:=MT.1 h;obtain ⟨g,d,h⟩:=MT.1 h;simp only [MH,MQ]at h;obtain ⟨rfl,rfl,rfl⟩:=h
 have a:b≤c∧(mx=none→b=c):=by
  cases mx with
  |none=>simp only [MH]at f;omega
  |some v=>exact ⟨dh f,fun h=>by cases h⟩
 refine ⟨a.1,a.2, ?_, ?_⟩
 · cases lo with
   |none=>simp only [MH]at d;omega
   |some v=>exact dh d
 · cases hi with
   |none=>cases mx with
    |none=>simp only [MH]at h2;have:=a.2 rfl;omega
    |some v=>cases h2
   |some v=>cases mx with
    |none=>have:=dh h2;have:=a.2 rfl;omega
    |some w=>exact dh h2
theorem lG {sz:Nat} {a:Option Addr} {n c:Nat} {rs:List (List Value)} {F:Nat→Prop} {H:AH} (f:Rows H sz (.slice a n c) rs) (g:∀d,a=some d→(d.spot=none∨c=0)∧(n=0∨(F d.block∧H.fE d.block sz=true))) (m:0<n):∃b o,a=some ⟨b,o,none⟩∧rs.length=n∧F b∧H.fE b sz=true∧∀i r,rs[i]?=some r→H.ldn ⟨b,o+i*sz,none⟩ sz=some r:=by
 obtain ⟨u,s,e,q⟩:=f.is;simp only [Value.slice.injEq]at e;obtain ⟨rfl,h,rfl⟩:=e;obtain ⟨b,o,rfl,_⟩:=q 0 _ (MG (by omega));rcases (g _ rfl).2 with p|⟨j,h2⟩
 ·omega
 ·exact ⟨b,o,rfl,h.symm,j,h2,fun i r hi=>by obtain ⟨t,l,e,k⟩:=q i r hi;cases e;exact k⟩
theorem kz {sz:Nat} {a:Option Addr} {c:Nat} (h:∀d,a=some d→d.spot=none∨c=0):RF C.F C.H (.fs sz []) (.slice a 0 c):=
 .fs (rows:=[]) (rs:=[]) ⟨_,_,rfl,by simp⟩ (Nb _) (fun d b=>⟨h d b,.inl rfl⟩) .nil
theorem AK (S:bA C) {sz:Nat} {p r:PV} {x:Value} {h':PH} {lo hi mx:Option X} {F:X→PV} {G:X→Value} (J:∀x,RV C (F x) (G x)) (w:RV C p x) (k:CH sz C.h p (lo.map F) (hi.map F) (mx.map F)=some (r,h')):
 e7 C W ((aU sz C.H x (lo.map G) (hi.map G) (mx.map G)).map fun v=>(v,C.H)) r h':=by
 unfold CH at k;split at k
 case h_2=>cases k
 rename_i I ju Z P O e3;rw [mV J P,mV J O,mV J e3];clear P O e3 J;split at k
 ·rename_i g b o n c
  split at k
  case h_2=>cases k
  rename_i z cs l e m hh f;split at k
  case isFalse=>cases k
  rename_i E;obtain ⟨rfl,K,rfl,N,h2⟩:=E;have lF:=gW w hh N;split at k
  ·rename_i j3
   cases k;refine e7.val S w ?_;rcases lF with⟨_,rfl,d,rfl,j⟩|⟨a,_⟩
   case inr=>omega
   subst j3;obtain ⟨u,b2,b3,b4⟩:=jR f (MM _);obtain ⟨rfl,rfl,rfl⟩:l=0∧e=0∧m=0:=by omega
   simp only [aU,f,nb,show¬ z=0 by omega,decide_false,Bool.not_false,MM,decide_true,Bool.and_self,cond_true]
   cases d with
   |none=>rfl
   |some d=>simp
  rename_i j3;rcases lF with⟨a,_⟩|⟨_,rfl⟩
  ·omega
  have D:0<cs.length:=by rw [←N];exact Nat.mul_pos (by omega) K
  obtain ⟨vs,hg,js,fG⟩:=S.cells (t:=0) hh D;have pa:C.H.fE (C.φ b) z=true:=by unfold AH.fE;rw [hg];simp
  split at k
  ·rename_i L
   split at k
   ·rename_i Q
    cases k;subst Q;refine e7.val S (x:=.slice (some ⟨C.φ b,o*z,some 1⟩) 0 0) (.fs (kz fun _ _=>.inr rfl)) ?_
    have hm:m=c:=by
     unfold aC at f;obtain ⟨m',V,f⟩:=MT.1 f;obtain ⟨e',sQ,f⟩:=MT.1 f;obtain ⟨l',y,f⟩:=MT.1 f;simp only [MH,MQ]at f V;omega
    simp only [aU,f,nb,show¬ z=0 by omega,decide_false,Bool.not_false,h2,decide_true,Bool.and_self,cond_true,if_pos L,Option.isNone_none,true_and];rw [if_pos (by omega)];rfl
   ·rename_i Q
    cases k;obtain ⟨A,B⟩:=S.void z W
    have R:l≤e:=by
     unfold aC at f;obtain ⟨m',V,f⟩:=MT.1 f;obtain ⟨e',sQ,f⟩:=MT.1 f;obtain ⟨l',y,f⟩:=MT.1 f;simp only [MH,MQ]at f;obtain ⟨rfl,rfl,rfl⟩:=f
     cases I with
     |none=>simp only [MH]at y;omega
     |some v=>exact dh y
    refine ⟨.slice (some ⟨C.φ b,o*z,none⟩) 0 0,_,_,?_,.sl ⟨_,_,rfl⟩ (by simp) ?_ (fun _=>.inl ⟨rfl,rfl,_,rfl,by rintro e ⟨⟩;rfl⟩),A,B⟩
    ·have:Z.isNone=false:=by cases Z with
      |none=>exact absurd rfl Q
      |some _=>rfl
     simp only [aU,f,nb,show¬ z=0 by omega,decide_false,Bool.not_false,h2,decide_true,Bool.and_self,cond_true,if_pos L,this];simp;omega
    ·intro z9 Fq e9
     simp
  ·rename_i L
   split at k
   case isFalse=>cases k
   rename_i GL;cases k;subst GL
   have R:l≤m:=by
    unfold aC at f;obtain ⟨m',V,f⟩:=MT.1 f;obtain ⟨e',sQ,f⟩:=MT.1 f;obtain ⟨l',y,f⟩:=MT.1 f;simp only [MH,MQ]at f;obtain ⟨rfl,rfl,rfl⟩:=f
    cases I with
    |none=>simp only [MH]at y;omega
    |some v=>have:=dh y;omega
   refine e7.val S (x:=.slice (some ⟨C.φ b,(o+l)*z,none⟩) (e- l) (m- l)) (w.Lj (by omega) ⟨_,_,rfl⟩ (.inr ⟨by omega,rfl⟩)) ?_;simp only [aU,f,nb,show¬ z=0 by omega,decide_false,Bool.not_false,h2,decide_true,Bool.and_self,cond_true,if_neg L,Option.isNone_none,pa,Bool.or_true,Nat.add_mul];rfl
 ·rename_i g rows
  split at k
  case isFalse=>cases k
  rename_i E;obtain ⟨rfl,K⟩:=E
  cases w with|fs q=>
  cases q with| @fs _ _ a c rs hr hl M mb=>
  have hlen:=mb.length;split at k
  ·split at k
   case h_2=>cases k
   rename_i l e m f;split at k
   case isFalse=>cases k
   cases k;obtain ⟨u,rfl,b3,b4⟩:=pe f hl;have T:e≤c:=by omega
   by_cases D:c=l
   ·have jO:(rows.take e).drop l=[]:=Ni (by simp;omega)
    rw [jO]
    have j:∃d,aU g C.H (.slice a rows.length c) I ju none=some (.slice d 0 0):=by
     simp only [aU,u,nb,show¬ g=0 by omega,decide_false,Bool.not_false,T,decide_true,Bool.and_self,cond_true]
     cases a with
     |none=>exact ⟨none,by simp;omega⟩
     |some a=>
      simp only [if_pos D];split
      ·exact ⟨_,rfl⟩
      ·exact ⟨some a,by rw [show e- l=0 by omega]⟩
    obtain ⟨d,j⟩:=j;refine e7.val S (x:=.slice d 0 0) (.fs (kz fun _ _=>.inr rfl)) (by rw [j];rfl)
   ·by_cases hn:rows.length=0
    ·obtain ⟨rfl,rfl⟩:l=0∧e=0:=by omega
     have:(rows.take 0).drop 0=[]:=by simp
     rw [this];refine e7.val S (x:=.slice a 0 c) (.fs (kz fun d j=>(M d j).1)) ?_;simp only [aU,u,nb,show¬ g=0 by omega,decide_false,Bool.not_false,T,decide_true,Bool.and_self,cond_true]
     cases a with
     |none=>simp
     |some a=>
      rcases (M _ rfl).1 with Y|Y
      ·obtain ⟨bb,oo,ss⟩:=a
       simp only at Y;subst Y;simp [if_neg D]
      ·omega
    ·obtain ⟨b,o,rfl,N,h2,U,h4⟩:=lG hr M (by omega)
     refine e7.val S (x:=.slice (some ⟨b,o+l*g,none⟩) (e- l) (c- l)) ?_ ?_
     ·have P:((rows.take e).drop l).length=e- l:=by simp;omega
      have O:((rs.take e).drop l).length=((rows.take e).drop l).length:=by simp;omega
      rw [←P];refine .fs (.fs (rs:=(rs.take e).drop l) ⟨_,_,by rw [O],fun i r hi=>⟨b,o+l*g,rfl,?_⟩⟩ (by omega) ?_ ((mb.take e).drop l))
      ·rw [No,Nj]at hi
       split at hi
       case isFalse=>cases hi
       have:=h4 _ _ hi;rw [Nat.add_mul]at this;rw [←this];congr 2;omega
      ·rintro d ⟨⟩
       exact ⟨.inl rfl,.inr ⟨h2,U⟩⟩
     ·simp only [aU,u,nb,show¬ g=0 by omega,decide_false,Bool.not_false,T,decide_true,Bool.and_self,cond_true,if_neg D,Option.isNone_none,U,Bool.or_true]
      rfl
  ·split at k
   case isFalse=>cases k
   rename_i f;have u:=qY f hl;split at k
   ·cases k
    have j:∃d,aU g C.H (.slice a 0 c) I ju (some ‹Value›)=some (.slice d 0 0):=by
     simp only [List.length_nil]at u;simp only [aU,u,nb,show¬ g=0 by omega,decide_false,Bool.not_false,MM,decide_true,Bool.and_self,cond_true]
     cases a with
     |none=>exact ⟨none,rfl⟩
     |some a=>exact ⟨some a,by simp⟩
    obtain ⟨d,j⟩:=j;refine e7.val S (x:=.slice d 0 0) (.fs (kz fun _ _=>.inr rfl)) (by simp only [List.length_nil];rw [j];rfl)
   ·rename_i r0 rows
    cases k;obtain ⟨b,o,rfl,N,h2,U,h4⟩:=lG hr M (by simp);obtain ⟨A,B⟩:=S.void g W;refine ⟨.slice (some ⟨b,o,none⟩) 0 0,_,_,?_,.sl ⟨_,_,rfl⟩ (by simp) ?_ (fun _=>.inl ⟨rfl,rfl,_,rfl,by rintro e ⟨⟩;rfl⟩),A,B⟩
    ·simp only [aU,u,nb,show¬ g=0 by omega,decide_false,Bool.not_false,MM,decide_true,Bool.and_self,cond_true]
     simp
    ·intro z9 Fq e9
     simp
 ·split at k
  case isFalse=>cases k
  rename_i E;cases k;cases w;refine e7.val S (.v _) ?_;obtain ⟨⟨l,e,m⟩,f⟩:=Nm.1 E.2;obtain ⟨u,b2,b3,b4⟩:=jR f (MM _);obtain ⟨rfl,rfl,rfl⟩:l=0∧e=0∧m=0:=by omega
  simp only [aU,f,nb,show¬ sz=0 by omega,decide_false,Bool.not_false,MM,decide_true,Bool.and_self,cond_true];rfl
 ·rename_i s
  split at k
  ·cases k
  ·split at k
   case h_2=>cases k
   rename_i l e m f;split at k
   case isFalse=>cases k
   rename_i K;cases k;subst K;cases w;refine e7.val S (.v _) ?_;simp only [aU,f];rfl
 ·cases k
end P
namespace P
open Go Go.RowKit
variable{C:Cx} {W:Nat→Prop}
theorem nY {k:Value}:∀{es:List (Value×PV)} {ys:List (Value×Value)} {r:Option PV},es.map (·.1)=ys.map (·.1)→aT C (es.map (·.2)) (ys.map (·.2))→jP k es=some r→(r=none∧dF k ys=some none)∨∃p v,r=some p∧dF k ys=some (some v)∧RV C p v
 |[],ys,r,h,_,e=>by
  cases ys with
  |nil=>cases e;exact .inl ⟨rfl,rfl⟩
  |cons=>simp at h
 |(n,p)::es,ys,r,h,g,e=>by
  cases ys with
  |nil=>simp at h
  |cons y ys=>
   obtain ⟨m,v⟩:=y;simp only [List.map_cons,List.cons.injEq]at h;obtain ⟨rfl,h⟩:=h;simp only [List.map_cons]at g
   cases g with|cons l j=>
   simp only [jP]at e;split at e
   ·rename_i d
    cases e;exact .inr ⟨p,v,rfl,by simp [dF,d],l⟩
   ·rename_i d
    rcases nY h j e with⟨a,b⟩|⟨i,f,a,b,c⟩
    ·exact .inl ⟨a,by simp [dF,d,b]⟩
    ·exact .inr ⟨i,f,a,by simp [dF,d,b],c⟩
   ·cases e
theorem qZ {k:Value} {p:PV} {v:Value} (j:RV C p v):∀{es f:List (Value×PV)} {ys:List (Value×Value)},es.map (·.1)=ys.map (·.1)→aT C (es.map (·.2)) (ys.map (·.2))→mS k p es=some f→∃d,gZ k v ys=some d∧f.map (·.1)=d.map (·.1)∧aT C (f.map (·.2)) (d.map (·.2))
 |[],f,ys,h,_,e=>by
  cases ys with
  |nil=>cases e;exact ⟨[(k,v)],rfl,rfl,.cons j .nil⟩
  |cons=>simp at h
 |(o,r)::es,f,ys,h,g,e=>by
  cases ys with
  |nil=>simp at h
  |cons y ys=>
   obtain ⟨s,n⟩:=y;simp only [List.map_cons,List.cons.injEq]at h;obtain ⟨rfl,h⟩:=h;simp only [List.map_cons]at g
   cases g with|cons q m=>
   simp only [mS]at e;split at e
   ·rename_i i
    cases e;exact ⟨(k,v)::ys,by simp [gZ,i],by simp [h],.cons j m⟩
   ·rename_i i
    cases l:mS k p es with
    |none=>simp [l]at e
    |some t=>
     simp only [l,Option.map_some,MH]at e;subst e;obtain ⟨d,a,b,c⟩:=qZ j h m l;exact ⟨(o,n)::d,by simp [gZ,i,a],by simp [b],.cons q c⟩
   ·cases e
theorem q6 {b:Nat} {x:Value} {es:List (Value×PV)} (h:RV C (.mp b) x) (e:C.h[b]?=some (.map es)):x= .map (some (C.φ b)):=by
 cases h with|mp _ c a=>exact a ⟨es,e⟩
theorem tU (S:bA C) {kk:Nat} {z:Value} {p q r:PV} {x y:Value} {ok:Bool} (h:RV C p x) (g:RV C q y) (k:nR kk z C.h p q ok=some r):∃w,jM kk z C.H x y ok=some w∧RV C r w:=by
 have s:∃w,(bif ok then Value.tuple #[z,.bool false]else z)=w∧RV C (bif ok then .dw [kU z,.v (.bool false)]else kU z) w:=by
  refine ⟨_,rfl,?_⟩;cases ok
  ·exact mT z
  ·exact .dw (xs:=[z,.bool false]) (.cons (mT z) (.cons (.v _) .nil))
 obtain ⟨i,j,l⟩:=s;unfold nR at k;split at k
 ·cases h;cases g
  split at k
  case isFalse=>cases k
  rename_i a;cases k;exact ⟨i,by simp [jM,a,←j],l⟩
 ·rename_i b B
  cases g;split at k
  case h_2=>cases k
  rename_i es n;split at k
  case isFalse=>cases k
  rename_i a;rw [q6 h n];obtain ⟨A,o,u,t,f,_⟩:=S.nN _ _ n;have d:decide (C.H.n0≤C.φ b)=true:=by simp [f]
  cases c:jP y es with
  |none=>simp [c]at k
  |some q=>
   rcases nY u t c with⟨rfl,e⟩|⟨p,v,rfl,e,m⟩
   ·simp only [c,MH]at k
    subst k;exact ⟨i,by simp [jM,o,a,f,e,←j],l⟩
   ·simp only [c,MH]at k
    subst k;refine ⟨(bif ok then Value.tuple #[v,.bool true]else v),by simp [jM,o,a,f,e],?_⟩;cases ok
    ·exact m
    ·exact .dw (xs:=[v,.bool true]) (.cons m (.cons (.v _) .nil))
 ·cases k
theorem xD (S:bA C) {kk:Nat} {p q r:PV} {x y z:Value} {i:PH} (h:RV C p x) (g:RV C q y) (f:RV C r z) (k:qV kk C.h p q r=some i) (u:∀b,p= .mp b→W b):∃j,tn kk C.H x y z=some j∧bA ⟨C.F,j,C.φ,i⟩∧bp C.h.length W C ⟨C.F,j,C.φ,i⟩:=by
 unfold qV at k;split at k
 ·rename_i b E
  cases g;split at k
  case h_2=>cases k
  rename_i es d;split at k
  case isFalse=>cases k
  rename_i l;rw [q6 h d];obtain ⟨D,s,o,m,n,_⟩:=S.nN _ _ d
  cases e:mS y r es with
  |none=>simp [e]at k
  |some G=>
   simp only [e,Option.map_some,MH]at k;subst k;obtain ⟨w,a,v,c⟩:=qZ f o m e;obtain ⟨A,B⟩:=S.Fi (u _ rfl) d v c;refine ⟨_,?_,A,B⟩;obtain ⟨cs,t⟩:=Nm.1 l.2;simp [tn,s,l.1,n,a,(cL f t).2]
 ·cases k
theorem q7 (S:bA C) (W:Nat→Prop) {z:Nat} {cs:List PV} {vs:List Value} (h:aT C cs vs):e7 C W (some (.pointer (some ⟨C.H.nx,0,none⟩),C.H.alloc (.cells z vs))) (.ref C.h.length 0 cs.length) (C.h++[.cells z cs]):=by
 obtain ⟨A,B⟩:=S.new (P:=.cells z cs) (B:=.cells z vs) W (.inl ⟨_,_,_,rfl,rfl,h⟩);refine ⟨_,_,_,rfl,.ref rfl (by simp) ?_ (fun _=>by simp [ch]),A,B⟩;intro b c a;rw [show(C.h++[PB.cells z cs])[C.h.length]?=_ from dS _ _]at a;cases a;exact MM _
theorem nZ (S:bA C) (W:Nat→Prop) {sz len:Nat} {cs:List PV} {vs:List Value} (h:aT C cs vs) (b:cs.length=len*sz) (f:0<sz):e7 C W (some (.slice (some ⟨C.H.nx,0,none⟩) len len,C.H.alloc (.cells sz vs))) (.sl sz C.h.length 0 len len) (C.h++[.cells sz cs]):=by
 obtain ⟨A,B⟩:=S.new (P:=.cells sz cs) (B:=.cells sz vs) W (.inl ⟨_,_,_,rfl,rfl,h⟩);refine ⟨_,_,_,rfl,.sl ⟨_,_,rfl⟩ (by simp) ?_ (fun _=>?_),A,B⟩
 ·intro d g a
  rw [show(C.h++[PB.cells sz cs])[C.h.length]?=_ from dS _ _]at a;cases a;simp [b]
 ·by_cases c:len=0
  ·subst c;exact .inl ⟨rfl,rfl,_,rfl,by rintro e ⟨⟩;rfl⟩
  ·exact .inr ⟨by omega,by simp [ch]⟩
theorem q8:∀{ps:List PV} {l xs:List Value},xw ps=some l→aT C ps xs→xs=l
 |[],l,xs,h,g=>by cases g;cases h;rfl
 |p::ps,l,xs,h,g=>by
  cases g with|cons b a=>
  cases p with
  |v x=>
   cases b;simp only [xw]at h
   cases h2:xw ps with
   |none=>simp [h2]at h
   |some m=>
    simp only [h2,Option.map_some,MH]at h;rw [←h,q8 h2 a]
  |_=>simp [xw]at h
theorem n4 {cs ds:List PV} {xs ys:List Value} (h:aT C cs xs) (g:aT C ds ys):∀{offs:List (Nat×Nat)} {b:Bool},iZ cs ds offs=some b→bd xs ys offs=some b
 |[],b,e=>e
 |(o,kk)::l,b,e=>by
  simp only [iZ]at e;split at e
  case h_2=>cases e
  rename_i a m k h2;obtain ⟨x,i,rx⟩:=h.get k;obtain ⟨y,f,d⟩:=g.get h2;cases rx;cases d;split at e
  case isFalse=>cases e
  rename_i j;simp only [bd,i,f,j,cond_true];split at e
  ·rename_i c;rw [c];exact n4 h g e
  ·rename_i c;rw [c];exact e
  ·cases e
theorem vr {f:Value→List Value→Option Value} {p r:PV} {x:Value} {ps:List PV} {xs:List Value} (h:RV C p x) (g:aT C ps xs) (k:vo f p ps=some r):∃y,f x xs=some y∧RV C r y:=by
 unfold vo at k;split at k
 ·rename_i c b e
  cases h;rw [q8 e g]
  cases a:f x b with
  |none=>simp [a]at k
  |some y=>simp only [a,Option.map_some,MH]at k;subst k;exact ⟨y,rfl,.v _⟩
 ·cases k
def up (r:Option (Value×AH)):Option (db×AH):=r.map fun q=>(.v q.1,q.2)
theorem tV (o n:Nat) (c:Bool) (vs:List Value) (H:AH):jY (.oO o n c) vs H=(vp (.oO o n c) vs).map fun v=>(v,H):=by
 match vs with
 |[]=>rfl
 |[a]=>cases a<;>rfl
 |a::b::l=>cases a<;>rfl
theorem tW (len n:Nat) (d:Bool) (vs:List Value) (H:AH):jY (.oP len n d) vs H=(vp (.oP len n d) vs).map fun v=>(v,H):=by
 match vs with
 |[]=>rfl
 |[a]=>cases a<;>rfl
 |[a,b]=>
  cases a<;>first|rfl|skip
  cases b<;>first|rfl|skip
  simp only [jY,vp];split<;>rfl
 |a::b::c::l=>cases a<;>first|rfl|(cases b<;>rfl)
theorem tX (len n:Nat) (vs:List Value) (H:AH):jY (.kZ len n) vs H=(vp (.kZ len n) vs).map fun v=>(v,H):=by
 match vs with
 |[]=>rfl
 |[a]=>cases a<;>first|rfl|(rename_i q;cases q<;>rfl)
 |a::b::l=>cases a<;>first|rfl|(rename_i q;cases q<;>rfl)
theorem n5 {C:Cx} {ps:List PV} {vs:List Value} {n:Nat} {c:Bool} {q:PV} (h:aT C ps vs) (e:lC ps n c=some q):∃y,gI vs n c=some y∧RV C q y:=by
 unfold lC at e;split at e
 case isFalse=>cases e
 rename_i f;have d:vs.length=n:=by rw [←h.length];exact f
 unfold gI;rw [nb,decide_eq_true d,cond_true]
 cases c with
 |true=>
  simp only [cond_true,MH]at e;subst e;exact ⟨_,rfl,.agg h⟩
 |false=>
  simp only [cond_false]at e⊢;split at e
  ·cases e
   cases h with|cons a b=>
   cases b;exact ⟨_,rfl,a⟩
  ·cases e
theorem a7 {C:Cx} (S:bA C) {p:PV} {h':PH} {r:Option PV} {r':Option Value} {a:Option (db×AH)} (f:a=r'.map fun v=>(.v v,C.H)) (k:(r.map fun v=>(v,C.h))=some (p,h')) (e:∀q,r=some q→∃y,r'=some y∧RV C q y):∃b,a=up b∧e7 C W b p h':=by
 cases c:r with
 |none=>simp [c]at k
 |some q=>
  simp only [c,Option.map_some,MH,MQ]at k;obtain ⟨rfl,rfl⟩:=k;obtain ⟨y,d,g⟩:=e q c;refine ⟨some (y,C.H),by rw [f,d];rfl,e7.val S g rfl⟩
theorem xE {H:AH} {b:X→Value} {sz:Nat} {x i:X}:ar (.ia sz x i) b H=(Cj sz (b x) (b i)).map fun v=>(.v v,H):=by
 simp only [ar]
 cases b x with
 |slice a len c=>
  cases a with
  |none=>rfl
  |some a=>
   cases b i<;>first
    |rfl
    |(simp only [Cj];split<;>first|rfl|(cases a.spot.isNone<;>rfl))
 |_=>rfl
theorem tY {H:AH} {b:X→Value} {len sz:Nat} {x i:X}:ar (.cx len sz x i) b H=(ti len sz (b x) (b i)).map fun v=>(.v v,H):=by
 simp only [ar]
 cases b x with
 |pointer a=>
  cases a with
  |none=>rfl
  |some a=>
   cases b i<;>first
    |rfl
    |(simp only [ti];split<;>first|rfl|(cases a.spot.isNone<;>rfl))
 |_=>rfl
theorem qD {H:AH} {a:X→Value} {x i:X}:ar (.ix x i) a H=(Ck (a x) (a i)).map fun v=>(.v v,H):=by
 simp only [ar]
 cases a x with
 |string s=>
  cases a i<;>first
   |rfl
   |(simp only [Ck];rename_i n;cases s[n.toNat]?<;>(split<;>rfl))
 |_=>rfl
theorem q9 {H:AH} {a:X→Value} {kk:Nat} {z:Value} {x c:X} {ok:Bool}:ar (.look kk z x c ok) a H=(jM kk z H (a x) (a c) ok).map fun v=>(.v v,H):=by
 simp only [ar,jM]
 cases a x with
 |map r=>
  cases r with
  |none=>dsimp only;cases aR kk (a c)<;>rfl
  |some r=>
   dsimp only
   cases H.get r with
   |none=>rfl
   |some b=>
    cases b with
    |cells=>rfl
    |map es=>
     dsimp only;cases aR kk (a c)&&decide (H.n0≤r)
     ·rfl
     ·cases dF (a c) es with
      |none=>rfl
      |some q=>cases q<;>rfl
 |_=>rfl
theorem tZ {H:AH} {c:X→Value} {neg:Bool} {offs:List (Nat×Nat)} {x y:X}:ar (.eqs neg offs x y) c H=(tm neg offs (c x) (c y)).map fun v=>(.v v,H):=by
 simp only [ar]
 cases c x<;>cases c y<;>first
  |rfl
  |(simp only [tm];rename_i a b;cases bd a.toList b.toList offs<;>rfl)
theorem xF {C:Cx} (S:bA C) {o:aS} {F:X→PV} {u:X→Value} {p:PV} {h':PH} (h:∀x,RV C (F x) (u x)) (k:pop o F C.h=some (p,h')):∃b,ar o u C.H=up b∧e7 C (· ∈jQ o F) b p h':=by
 cases o with
 |mv x=>cases k;exact ⟨some (u x,C.H),rfl,e7.val S (h x) rfl⟩
 |pick c a b=>
  refine a7 S (r':=ve (u c) (u a) (u b)) (by simp only [ar];cases u c<;>rfl) k fun q j=> ?_
  have I:=h c;revert j I;generalize F c=pc;intro j I
  cases pc<;>first
   |(cases j;done)
   |skip
  rename_i w
  cases w<;>first
   |(cases j;done)
   |skip
  rename_i t;cases j;rw [I.g9];refine ⟨_,rfl, ?_⟩;cases t
  · exact h b
  · exact h a
 |alloc z=>
  cases k;refine ⟨some (.pointer (some ⟨C.H.nx,0,none⟩),C.H.alloc (.cells z.length z)),rfl, ?_⟩;have:=q7 S (· ∈jQ (.alloc z) F) (z:=z.length) (aT.lits z);rw [List.length_map]at this;exact this
 |box x=>
  simp only [pop,tM]at k;split at k
  case h_2=>cases k
  rename_i cs I;cases k;obtain ⟨a,b⟩:=cL (h x) I;refine ⟨some (.pointer (some ⟨C.H.nx,0,none⟩),C.H.alloc (.cells (av (u x)).length (av (u x)))),by simp [ar,b,up], ?_⟩;rw [←a.length];exact q7 S _ a
 |build z ps=>
  cases T:fR (z.map .v) (ps.map fun p=>(p.1,p.2.1,F p.2.2))with
  |none=>simp [pop,T]at k
  |some d=>
   simp only [pop,T,Option.map_some,MH,MQ]at k;obtain ⟨rfl,rfl⟩:=k;obtain ⟨R,e,g⟩:=nU (tO.of h ps) (aT.lits z) T;exact ⟨some (.agg R.toArray,C.H),by simp [ar,e,up],e7.val S (.agg g) rfl⟩
 |bsl len sz z ps=>
  simp only [pop,tL]at k;split at k
  case h_2=>cases k
  rename_i d T;split at k
  case isFalse=>cases k
  rename_i I;cases k;obtain ⟨R,e,g⟩:=nU (tO.of h ps) (aT.lits z) T;exact ⟨some (.slice (some ⟨C.H.nx,0,none⟩) len len,C.H.alloc (.cells sz R)),by simp [ar,e,up],nZ S _ g I.1 I.2⟩
 |ld x=>exact a7 S (r':=ER C.H (u x)) (by
   simp only [ar]
   cases u x with
   |pointer a=>cases a<;>rfl
   |_=>rfl) k fun q j=>vq S (h x) j
 |ldn n x=>exact a7 S (r':=o9 n C.H (u x)) (by
   simp only [ar]
   cases u x with
   |pointer a=>
    cases a with
    |none=>rfl
    |some a=>simp only [o9];cases C.H.ldn a n<;>rfl
   |_=>rfl) k fun q j=>mU S (h x) j
 |st n x v=>
  cases K:xu n C.h (F x) (F v)with
  |none=>simp [pop,K]at k
  |some h2=>
   simp only [pop,K,Option.map_some,MH,MQ]at k;obtain ⟨rfl,rfl⟩:=k;obtain ⟨O,e,A,B⟩:=AD (W:=(· ∈jQ (.st n x v) F)) S (h x) (h v) K (fun b o t e=>by simp [jQ,e]);refine ⟨some (undef,O), ?_,undef,O,C.φ,rfl, .v _,A,B⟩
   have:ar (.st n x v) u C.H=(Ak n C.H (u x) (u v)).map fun O=>(.v undef,O):=by
    simp only [ar]
    cases u x with
    |pointer a=>
     cases a with
     |none=>rfl
     |some a=>simp only [Ak];cases (Nat.beq (av (u v)).length n&& !bg (u v))<;>simp
    |_=>rfl
   rw [this,e];rfl
 |cw x=>
  refine a7 S (r':=qI (u x)) (by
   simp only [ar]
   cases u x with
   |pointer a=>cases a<;>rfl
   |_=>rfl) k fun q j=> ?_
  obtain ⟨a,b⟩:=tQ (h x) j;exact ⟨_,a,b⟩
 |bin op x y=>
  refine a7 S (r':=aW op (u x) (u y)) rfl k fun q j=> ?_
  have D:=h x;have M:=h y;unfold tH at j;split at j
  · rename_i a b E L
    rw [E]at D;rw [L]at M;rw [D.g9,M.g9]
    cases G:aW op a b with
    |none=>simp [G]at j
    |some w=>simp only [G,Option.map_some,MH]at j;subst j;exact ⟨w,rfl, .v _⟩
  · cases j
 |eqk kk neg x y=>
  cases K:qS C.h kk (F x) (F y)with
  |none=>simp [pop,K]at k
  |some b=>
   simp only [pop,K,Option.map_some,MH,MQ]at k;obtain ⟨rfl,rfl⟩:=k;exact ⟨some (.bool (bif neg then !b else b),C.H),by simp only [ar];rw [tP (h x) (h y) K];rfl,e7.val S (.v _) rfl⟩
 |un op x=>
  refine a7 S (r':=uL op (u x)) rfl k fun q j=> ?_
  have D:=h x;unfold CG at j;split at j
  · rename_i a E
    rw [E]at D;rw [D.g9]
    cases G:uL op a with
    |none=>simp [G]at j
    |some w=>simp only [G,Option.map_some,MH]at j;subst j;exact ⟨w,rfl, .v _⟩
  · cases j
 |jq kk x=>
  refine a7 S (r':=Am kk (u x)) (by simp only [ar];cases u x<;>rfl) k fun q j=> ?_
  have D:=h x;unfold tJ at j;split at j
  · rename_i V n E
    rw [E]at D;rw [D.g9];cases j;exact ⟨_,rfl, .v _⟩
  · cases j
 |yr x=>
  refine a7 S (r':=An (u x)) (by simp only [ar];cases u x<;>rfl) k fun q j=> ?_
  have D:=h x;unfold xv at j;split at j
  · rename_i V n E
    rw [E]at D;rw [D.g9];cases j;exact ⟨_,rfl, .v _⟩
  · cases j
 |mkf f first cap=>cases k;exact ⟨some (.func (.func f) (first.map u).toArray (cap.map u).toArray,C.H),rfl,e7.val S (.fn (aT.of h first) (aT.of h cap)) rfl⟩
 |mkmap=>
  cases k;obtain ⟨A,B⟩:=S.new (P:= .map []) (B:= .map []) (· ∈jQ .mkmap F) (.inr ⟨[],[],rfl,rfl,rfl, .nil⟩);exact ⟨some (.map (some C.H.nx),C.H.alloc (.map [])),rfl,_,_,_,rfl, .mp rfl (by simp) (fun _=>by simp [ch]),A,B⟩
 |mksl sz bytes z x=>
  have D:=h x;simp only [pop]at k;unfold nT at k;split at k
  · rename_i V n E
    rw [E]at D;split at k
    case isFalse=>cases k
    rename_i I;cases k;refine ⟨some (.slice (some ⟨C.H.nx,0,none⟩) n.toNat n.toNat,C.H.alloc (.cells sz (List.replicate n.toNat z).flatten)), ?_,nZ S _ ((aT.lits z).AA _) ?_ I.2.2.2.2⟩
    · have d3:decide ((bytes:Int)*n≤2^47)=true:=decide_eq_true I.2.2.1
      simp only [ar,D.g9,decide_eq_true I.1,decide_eq_true I.2.1,d3,Bool.and_self,cond_true];rfl
    · have Y:=I.2.2.2.1
      clear I D E
      induction n.toNat with
      |zero=>simp
      |succ m ih=>simp only [List.replicate_succ,List.flatten_cons,MR,List.length_map,ih,Nat.succ_mul];omega
  · cases k
 |sl sz x lo hi mx=>exact ⟨_,by simp only [ar,up,Option.map_map];rfl,AK S h (h x) k⟩
 |fa off x=>
  refine a7 S (r':=Ci off (u x)) ?_ k fun q j=>AG (h x) j
  simp only [ar]
  cases u x with
  |pointer a=>
   cases a with
   |none=>rfl
   |some a=>simp only [Ci];cases a.spot.isNone<;>rfl
  |_=>rfl
 |ia sz x i=>exact a7 S xE k fun q j=>AI (h x) (h i) j
 |cx len sz x i=>exact a7 S tY k fun q j=>xz (h x) (h i) j
 |ix x i=>
  refine a7 S qD k fun q j=> ?_
  have D:=h x;have M:=h i;unfold Fj at j;split at j
  · rename_i a b E L
    rw [E]at D;rw [L]at M;rw [D.g9,M.g9]
    cases G:Ck a b with
    |none=>simp [G]at j
    |some w=>simp only [G,Option.map_some,MH]at j;subst j;exact ⟨w,rfl, .v _⟩
  · cases j
 |look kk z x N ok=>exact a7 S q9 k fun q j=>tU S (h x) (h N) j
 |pt kk x N v=>
  cases K:qV kk C.h (F x) (F N) (F v)with
  |none=>simp [pop,K]at k
  |some h2=>
   simp only [pop,K,Option.map_some,MH,MQ]at k;obtain ⟨rfl,rfl⟩:=k;obtain ⟨O,e,A,B⟩:=xD (W:=(· ∈jQ (.pt kk x N v) F)) S (h x) (h N) (h v) K (fun b e=>by simp [jQ,e]);refine ⟨some (undef,O), ?_,undef,O,C.φ,rfl, .v _,A,B⟩
   have:ar (.pt kk x N v) u C.H=(tn kk C.H (u x) (u N) (u v)).map fun O=>(.v undef,O):=by
    simp only [ar,tn]
    cases u x with
    |map r=>
     cases r with
     |none=>rfl
     |some r=>
      dsimp only
      cases C.H.get r with
      |none=>rfl
      |some b=>
       cases b with
       |cells=>rfl
       |map es=>
        dsimp only;cases (aR kk (u N)&&decide (C.H.n0≤r)&& !bg (u v))
        · rfl
        · simp only [cond_true]
          cases gZ (u N) (u v) es<;>rfl
    |_=>rfl
   rw [this,e];rfl
 |ext x i=>
  refine a7 S (r':=tj (u x) i) (by
   simp only [ar]
   cases u x with
   |tuple vs=>simp only [tj];cases vs.toList[i]?<;>rfl
   |_=>rfl) k fun q j=> ?_
  have D:=h x;unfold tK at j;split at j
  · rename_i ps i' E
    rw [E]at D;revert D;generalize u x=y;intro D
    cases D with|dw g=>
    obtain ⟨z,Y,gz⟩:=g.get j;exact ⟨z,by simpa [tj]using Y,gz⟩
  · cases j
 |xt Z l=>
  have J:=aT.of h l
  cases Z with
  |bad=>simp only [pop,sC]at k;cases k
  |jz=>simp only [pop,sC]at k;cases k
  |oO o n Q=>
   refine a7 S (r':=vp (.oO o n Q) (l.map u)) (by simp only [ar,tV,Option.map_map];rfl) k fun q j=> ?_
   unfold sC at j;split at j
   case h_2=>cases ‹XK.oO o n Q=XK.oP _ _ _›
   case h_3=>cases ‹XK.oO o n Q=XK.kZ _ _›
   case h_4=>cases j
   rename_i o' U Ln cs E L;cases E;rw [L]at J;generalize l.map u=R at J
   cases J with|cons a b=>
   cases b
   cases a with|agg g=>
   obtain ⟨v,e,r⟩:=n5 ((g.drop o).take n) j;exact ⟨v,e,r⟩
  |oP len n Q=>
   refine a7 S (r':=vp (.oP len n Q) (l.map u)) (by simp only [ar,tW,Option.map_map];rfl) k fun q j=> ?_
   unfold sC at j;split at j
   case h_1=>cases ‹XK.oP len n Q=XK.oO _ _ _›
   case h_3=>cases ‹XK.oP len n Q=XK.kZ _ _›
   case h_4=>cases j
   rename_i Fu U Ln cs ki i E L;cases E;rw [L]at J;generalize l.map u=R at J
   cases J with|cons a b=>
   cases b with|cons b c=>
   cases c;cases b
   cases a with|agg g=>
   split at j
   · rename_i hi
     obtain ⟨v,e,r⟩:=n5 ((g.drop (i.toNat*n)).take n) j;refine ⟨v, ?_,r⟩;simp only [vp,if_pos hi];exact e
   · cases j
  |kZ len n=>
   refine a7 S (r':=vp (.kZ len n) (l.map u)) (by simp only [ar,tX,Option.map_map];rfl) k fun q j=> ?_
   unfold sC at j;split at j
   case h_1=>cases ‹XK.kZ len n=XK.oO _ _ _›
   case h_2=>cases ‹XK.kZ len n=XK.oP _ _ _›
   case h_4=>cases j
   rename_i Fu U b t E L;cases E;rw [L]at J;generalize l.map u=R at J
   cases J with|cons a c=>
   cases c;split at j
   case isFalse=>cases j
   rename_i hi;obtain ⟨hi,ht,h0⟩:=hi;simp only [MH]at j;subst j
   have Fh:At C.h b t:=by
    unfold bm at hi;split at hi
    · rename_i z cs q
      exact ⟨z,cs,q,by simpa using hi⟩
    · cases hi
   cases a with
   |ref q1 hb hL hA=>
    rw [hA Fh];exact ⟨_,rfl, .sl ⟨_,_,rfl⟩ hb (by rw [Nat.zero_add,ht];exact hL) (fun _=> .inr ⟨h0,by simp⟩)⟩
  |l6 z=>
   simp only [pop]at k
   cases D:lD (.l6 z) (l.map F)with
   |none=>
    have:sC C.h (.l6 z) (l.map F)=none:=by
     unfold sC;split<;>first|rfl|contradiction
    simp [D,this]at k
   |some q=>
    obtain ⟨z',p0⟩:=q;simp only [D]at k;obtain ⟨h2,hk,e⟩:=MS.1 k;cases e
    match l,D,J with
    |[],D,J=>simp [lD]at D
    |_::_::_,D,J=>simp [lD]at D
    |[x],D,J=>
     simp only [List.map_cons,List.map_nil,lD,MH,MQ]at D;obtain ⟨rfl,rfl⟩:=D;refine ⟨_,rfl,xC (W:=(· ∈jQ (.xt (.l6 z) [x]) F)) S (h x) hk (fun sz b o n c e=> ?_)⟩;simp [jQ,lD,e]
 |call f «as»=>cases k
 |callv x «as»=>cases k
 |app sz bytes s x=>exact ⟨_,rfl,xA S (h s) (h x) k (fun sz b o n c e=>by simp [jQ,e])⟩
 |copy sz d s=>exact ⟨_,rfl,tS S (h d) (h s) k (fun sz b o n c e=>by simp [jQ,e])⟩
 |lens x=>
  refine a7 S (r':=nJ (u x)) (by simp only [ar];cases u x<;>rfl) k fun q j=> ?_
  have D:=h x;unfold qU at j;split at j
  · rename_i a E
    rw [E]at D;rw [D.g9]
    cases G:nJ a with
    |none=>simp [G]at j
    |some w=>simp only [G,Option.map_some,MH]at j;subst j;exact ⟨w,rfl, .v _⟩
  · cases j
 |fg x=>
  refine a7 S (r':=nK (u x)) (by simp only [ar];cases u x<;>rfl) k fun q j=> ?_
  have D:=h x;unfold nQ at j;split at j
  · rename_i a E
    rw [E]at D;rw [D.g9]
    cases G:nK a with
    |none=>simp [G]at j
    |some w=>simp only [G,Option.map_some,MH]at j;subst j;exact ⟨w,rfl, .v _⟩
  · rename_i sz b o n c E
    rw [E]at D;cases j;revert D;generalize u x=y;intro D
    cases D with|sl hn _ _ _=>
    obtain ⟨_,_,rfl⟩:=hn;exact ⟨_,rfl, .v _⟩
  · rename_i sz rows E
    rw [E]at D;cases j;revert D;generalize u x=y;intro D
    cases D with|fs g=>
    cases g;exact ⟨_,rfl, .v _⟩
  · cases j
 |yt t x=>cases k;exact ⟨some (.iface t (u x),C.H),rfl,e7.val S (.ie (h x)) rfl⟩
 |mxl x l=>exact a7 S (r':=pK (u x) (l.map u)) rfl k fun q j=>vr (h x) (aT.of h l) j
 |mnl x l=>exact a7 S (r':=uM (u x) (l.map u)) rfl k fun q j=>vr (h x) (aT.of h l) j
 |eqs neg offs x y=>
  refine a7 S tZ k fun q j=> ?_
  have D:=h x;have M:=h y;unfold gw at j;split at j
  · rename_i cs ds E L
    rw [E]at D;rw [L]at M;revert D M;generalize u x=a;generalize u y=b;intro D M
    cases D with|agg gx=>
    cases M with|agg gy=>
    cases G:iZ cs ds offs with
    |none=>simp [G]at j
    |some w=>
     simp only [G,Option.map_some,MH]at j;subst j;exact ⟨_,by simp only [tm,List.toList_toArray];rw [n4 gx gy G];rfl, .v _⟩
  · cases j
end P
namespace P
open Go Go.RowKit
structure PF where
 g:Nat→PV
def PF.get (f:PF) (n:Nat):PV:=f.g n
def PF.put (f:PF) (n:Nat) (p:PV):PF:=⟨fun m=>if m=n then p else f.g m⟩
def PF.aq (f:PF) (d:Option Nat) (p:PV):PF:=match d with|some n=>f.put n p|none=>f
def PF.of (l:List PV):PF:=⟨fun n=>l.getD n .any⟩
theorem PF.aG (f:PF) (n m:Nat) (p:PV):(f.put n p).get m=if m=n then p else f.get m:=rfl
theorem PF.bO (l:List PV) (n:Nat):(PF.of l).get n=l.getD n .any:=rfl
def bL (f:PF):X→PV
 | .t n=>f.get n
 | .k v=>kU v
 | .f n=>.fn n [] []
def eS (C:Cx) (fr:PF) (af:Fr):Prop:=∀t,RV C (fr.get t) (af.get t)
theorem eS.ev {C:Cx} {a:PF} {b:Fr} (h:eS C a b):∀x,RV C (bL a x) (X.ev b x)
 | .t n=>h n
 | .k v=>mT v
 | .f n=>.fn (xs:=[]) (ys:=[]) .nil .nil
theorem eS.put {C:Cx} {a:PF} {b:Fr} (h:eS C a b) {p:PV} {x:Value} (k:RV C p x) (n:Nat):eS C (a.put n p) (b.put n x):=by
 intro t;rw [PF.aG,Fr.aG];split
 ·exact k
 ·exact h t
theorem eS.aq {C:Cx} {a:PF} {b:Fr} (h:eS C a b) {p:PV} {x:Value} (k:RV C p x) (d:Option Nat):eS C (a.aq d p) (b.aq d x):=by
 cases d with
 |none=>exact h
 |some n=>exact h.put k n
theorem eS.step {W:Nat→Prop} {C D:Cx} {a:PF} {af:Fr} (h:eS C a af) (T:bp C.h.length W C D):eS D a af:=fun t=>(h t).step T
theorem eS.of {C:Cx} {ps:List PV} {xs:List Value} (h:aT C ps xs):eS C (PF.of ps) (Fr.of xs):=by
 intro t;rw [PF.bO,Fr.bO];rw [List.getD_eq_getElem?_getD,List.getD_eq_getElem?_getD]
 cases e:ps[t]? with
 |none=>exact .any _
 |some p=>
  obtain ⟨x,a,r⟩:=h.get e;rw [a];exact r
def xG:PV→Bool
 | .v x=>tG x
 | .ref _ _ _| .sl _ _ _ _ _| .mp _| .fs _ _| .fp _=>true
 |_=>false
def ra (o:AO) (fr:PF):Bool:=match o.g with
 |none=>true
 |some (t,b)=>match fr.get t with| .v x=>cS b x|_=>true
def pf (n:Nat) (p:PV) (h:PH) (W:List Nat):Bool:=match p with
 | .ref b o t=>match h[b]? with
   |some (.cells _ cs)=>decide (cs.length=t)&&decide (o+n≤t)&&decide (0<t)&& !W.contains b&&((cs.drop o).take n).all xG
   |_=>false
 | .fp cells=>decide (n≤cells.length)&&(cells.take n).all xG
 |_=>false
def xH (o:aS) (fr:PF) (h:PH) (W:List Nat):Bool:=match o with
 | .ld x=>pf 1 (bL fr x) h W
 | .ldn n x=>pf n (bL fr x) h W
 |_=>false
def ua (b:Nat) (h:PH) (W:List Nat):Bool:=!W.contains b&&(match h[b]? with
 |some (.cells _ (c::cs))=>xG c&&cs.all xG
 |some (.map [])=>true
 |_=>false)
def lH (o:aS) (fr:PF) (h:PH):Option (Option Nat):=match o with
 | .st _ x _| .ld x| .ldn _ x=>match bL fr x with
   | .ref b _ t=>if bm h b=some t∧0<t then some (some b)else none
   | .fp _=>some none
   |_=>none
 | .look _ _ x _ _=>match bL fr x with
   | .mp b=>match h[b]? with|some (.map _)=>some (some b)|_=>none
   |_=>none
 | .sl _ x _ _ _=>match bL fr x with
   | .sl sz b o n c=>if cW h (.sl sz b o n c)=true∧0<c∧0<sz then some (some b)else none
   |_=>none
 |_=>none
def kA:Option (Option Nat)→Option (Option Nat)→Bool
 |some (some b),some (some c)=>!Nat.beq b c
 |some none,some (some _)=>true
 |_,_=>false
def CK (k p q:Nat):Option AO→Option (PF×PH×List Nat)→Option (PF×PH×List Nat)→Option AO→Option (PF×PH×List Nat)→Option (PF×PH×List Nat)→Bool
 |some op,some (fp,hp,_),some (_,IA,_),some oq,some (fq,hq,_),some (_,_,W)=>
  decide (p<q)&&(!ra op fp|| !ra oq fq||(match k with
   |0=>xH op.o fp hp W
   |1=>!op.o.an&&ua hp.length IA W
   |_=>kA (lH op.o fp hp) (lH oq.o fq hq)))
 |_,_,_,_,_,_=>false
def AL (l:List AO) (ck:List (Nat×Nat×Nat)) (acc:List (PF×PH×List Nat)):Bool:=
 ck.all fun c=>CK c.1 c.2.1 c.2.2 (nth l c.2.1) (nth acc.reverse c.2.1) (nth acc.reverse (c.2.1+1)) (nth l c.2.2) (nth acc.reverse c.2.2) (nth acc.reverse (c.2.2+1))
inductive fA (l0:List AO):List (PF×PH×List Nat)→List (Fr×AH)→Cx→List Nat→Prop
 |one {C:Cx} {fr:PF} {af:Fr}:bA C→eS C fr af→fA l0 [(fr,C.h,[])] [(af,C.H)] C []
 |cons {C D:Cx} {acc:List (PF×PH×List Nat)} {bB:List (Fr×AH)} {fr:PF} {af:Fr} {V W:List Nat}:fA l0 acc bB C W→bp 0 (· ∈V) C D→bA D→eS D fr af→(∀o,nth l0 (acc.length- 1)=some o→o.o.an=false→D.H.nx≤C.H.nx+1)→fA l0 ((fr,D.h,V++W)::acc) ((af,D.H)::bB) D (V++W)
theorem fA.length {d:List AO} {W:List Nat} {acc:List (PF×PH×List Nat)} {c:List (Fr×AH)} {C:Cx} (h:fA d acc c C W):acc.length=c.length∧0<acc.length:=by
 induction h with
 |one a b=>exact ⟨rfl,Nat.one_pos⟩
 |cons _ T S R e ih=>simp [ih.1]
theorem jd {α:Type} (l:List α) (x:α) (i:Nat):nth (l++[x]) i=if i<l.length then nth l i else if i=l.length then some x else none:=by
 rw [jN,jN];split
 ·rw [MV (by assumption)]
 ·rw [MZ (by omega)]
  split
  ·rename_i h;subst h;simp
  ·rw [Np (by simp;omega)]
theorem fA.Lo {k:List AO} {W:List Nat} {acc:List (PF×PH×List Nat)} {g:List (Fr×AH)} {D:Cx} (h:fA k acc g D W):∃(cs:Nat→Cx) («as»:Nat→Fr),
 (∀i s,nth acc.reverse i=some s→(cs i).h=s.2.1∧nth g.reverse i=some («as» i,(cs i).H)∧bA (cs i)∧eS (cs i) s.1 («as» i))∧
 (∀i j s,i≤j→nth acc.reverse j=some s→bp 0 (· ∈s.2.2) (cs i) (cs j))∧
 (∀i o,i+1<acc.length→nth k i=some o→o.o.an=false→(cs (i+1)).H.nx≤(cs i).H.nx+1)∧cs (acc.length- 1)=D∧∀i,i<acc.length→bp 0 (· ∈W) (cs i) D:=by
 induction h with
 | @one C y f a b=>
  refine ⟨fun _=>C,fun _=>f,fun i s e=>?_,fun _ _ _ _ _=>bp.refl _ _ _,fun i o hi=>by simp at hi,rfl,fun _ _=>bp.refl _ _ _⟩
  cases i with
  |zero=>simp only [List.reverse_singleton,Ap,MH]at e;subst e;exact ⟨rfl,rfl,a,b⟩
  |succ i=>simp [nth]at e
 | @cons C D acc g y f V W H0 T S R p ih=>
  obtain ⟨cs,«as»,x,h2,w,v,u⟩:=ih;have r:=H0.length;have m:∀i,i<acc.length→bp 0 (· ∈V++W) (cs i) D:=fun i hi=>(u i hi).trans T (Nb _) (fun _ q=>List.mem_append_right _ q) (fun _ q=>List.mem_append_left _ q)
  refine ⟨fun i=>if i<acc.length then cs i else D,fun i=>if i<acc.length then «as» i else f,fun i s e=>?_,fun i j s t e=>?_,fun i o hi l n=>?_,by simp,fun i hi=>?_⟩
  ·rw [List.reverse_cons,jd,List.length_reverse]at e
   rw [List.reverse_cons,jd,List.length_reverse,←r.1];split at e
   ·rename_i hi
    simp only [if_pos hi];exact x i s e
   ·rename_i hi
    split at e
    case isFalse=>cases e
    rename_i c;cases e;simp only [if_neg hi,if_pos c];exact ⟨trivial,trivial,S,R⟩
  ·rw [List.reverse_cons,jd,List.length_reverse]at e
   split at e
   ·rename_i d
    simp only [if_pos d,if_pos (show i<acc.length by omega)];exact h2 i j s t e
   ·rename_i d
    split at e
    case isFalse=>cases e
    cases e;simp only [if_neg d];by_cases hi:i<acc.length
    ·simp only [if_pos hi];exact m i hi
    ·simp only [if_neg hi];exact bp.refl _ _ _
  ·simp only [List.length_cons]at hi
   by_cases c:i+1<acc.length
   ·simp only [if_pos c,if_pos (show i<acc.length by omega)]
    exact w i o c l n
   ·simp only [if_neg c,if_pos (show i<acc.length by omega)]
    have e:i=acc.length- 1:=by omega
    have:=p o (by rw [←e];exact l) n;rw [e,v];exact this
  ·by_cases c:i<acc.length
   ·simp only [if_pos c];exact m i c
   ·simp only [if_neg c];exact bp.refl _ _ _
theorem xI {α:Type} {l:List α} {i:Nat} {x:α} (h:nth l i=some x):i<l.length:=by
 rw [jN]at h;exact (MO.1 h).1
theorem rb {x:Value} (h:tG x=true):iy x x=true:=by
 cases x<;>first
  |(simp [tG]at h;done)
  |simp [iy]
theorem xJ {C:Cx} {p:PV} {x:Value} (h:RV C p x) (k:xG p=true):iy x x=true:=by
 apply rb
 cases p with
 |v y=>cases h;exact k
 |ref=>cases h;assumption
 |sl=>cases h with|sl a _ _ _=>exact a.sm
 |mp=>cases h;assumption
 |fs=>cases h with|fs q=>cases q;rfl
 |fp=>cases h;rfl
 |_=>cases k
theorem kB {C:Cx}:∀{ps:List PV} {xs:List Value},aT C ps xs→ps.all xG=true→cM xs xs=true
 |_,_,.nil,_=>rfl
 |_,_,.cons a b,h=>by
  simp only [List.all_cons,MK]at h;simp only [cM,MK];exact ⟨xJ a h.1,kB b h.2⟩
theorem re {C:Cx} {a:PF} {c:Fr} (h:eS C a c) {o:AO} (k:o.wanted c=true):ra o a=true:=by
 obtain ⟨g,d,p⟩:=o
 cases g with
 |none=>rfl
 |some q=>
  obtain ⟨t,b⟩:=q;simp only [ra];have:=h t;split
  ·rename_i x e
   rw [e]at this;rw [gv,this.g9]at k;exact k
  ·rfl
theorem rf {C:Cx} (S:bA C) {W:List Nat} {b:Nat} (c:aA C.h b) (f:b∉W):¬ im C (· ∈W) (C.φ b):=by
 rintro ⟨g,d,a,e⟩;exact f (S.inj _ _ a c e▸d)
theorem rh {C D:Cx} {W:List Nat} (S:bA C) (T:bp 0 (· ∈W) C D) {n:Nat} {p:PV} {x:Value} (h:RV C p x) (k:pf n p C.h W=true):
 ∃a l,x= .pointer (some a)∧C.H.ldn a n=some l∧sameAt D.H (a,l)=true:=by
 cases p with
 |ref b o t=>
  simp only [pf]at k;split at k
  case h_2=>cases k
  rename_i z cs r;simp only [MK,MU,Bool.not_eq_true',List.contains_eq_mem,decide_eq_false_iff_not]at k;obtain ⟨⟨⟨⟨s,U⟩,R⟩,F⟩,E⟩:=k;obtain ⟨c,I,f,M⟩:=S.cells (t:=t) r (by omega);have V:=f.length;have G:=ja h (t:=t) (by unfold bm;rw [r];simp [s]);have d:C.H.ldn ⟨C.φ b,o,none⟩ n=some ((c.drop o).take n):=eI I M (by omega);have u:=aJ r (by intro e;subst e;simp at s;omega);have L:=T.out _ (S.lt u) (rf S u F);refine ⟨_,_,G,d,?_⟩;rw [lA,bX L T.n0,show((c.drop o).take n).length=n by simp;omega,d];exact kB ((f.drop o).take n) E
 |fp cells=>
  simp only [pf,MK,MU]at k;have N:=h
  cases h with| @fp _ b o c J d K=>
  have A:C.H.ldn ⟨b,o,none⟩ n=some (c.take n):=by
   have:=mU S N (n:=n) (q:=.agg (cells.take n)) (by simp [kr,k.1]);obtain ⟨y,m,X⟩:=this;simp only [xg]at m
   cases i:C.H.ldn ⟨b,o,none⟩ n with
   |none=>rw [i]at m;cases m
   |some l=>
    have O:l=c.take n:=by
     have P:∀(j:Nat) (v:Value),l[j]?=some v→(c.take n)[j]?=some v:=by
      intro j v g;have Y:=(bE i).2;have Z:=(MO.1 g).1;have Q:=gu i g;have f:j<c.length:=by have:=(bE d).2;omega
      have B:=gu d (j:=j) (MG f);rw [Q]at B;rw [Nj,if_pos (by omega),MG f];exact B.symm
     have w:l.length=(c.take n).length:=by
      have:=(bE i).2;have:=(bE d).2;simp;omega
     apply List.ext_getElem?;intro j;by_cases g:j<l.length
     ·rw [P j _ (MG g),MG g]
     ·rw [Np (by omega),Np (by omega)]
    rw [O]
  refine ⟨⟨b,o,none⟩,c.take n,rfl,A,?_⟩;rw [lA,bX (T.fz _ J).2 T.n0,show(c.take n).length=n by have:=(bE d).2;simp;omega,A];exact kB (K.take n).g9 k.2
 |_=>cases k
theorem xK {C D:Cx} {W:List Nat} (S:bA C) (T:bp 0 (· ∈W) C D) {o:AO} {f:PF} {i:Fr} (h:eS C f i) (k:xH o.o f C.h W=true):∃x,dO o i C.H=some x∧sameAt D.H x=true:=by
 obtain ⟨g,d,p⟩:=o
 cases p<;>first
  |(cases k;done)
  |skip
 ·obtain ⟨a,l,e,c,b⟩:=rh S T (h.ev _) k
  exact ⟨(a,l),by simp only [dO,e,c];rfl,b⟩
 ·obtain ⟨a,l,e,c,b⟩:=rh S T (h.ev _) k
  exact ⟨(a,l),by simp only [dO,e,c];rfl,b⟩
theorem ri {z:Nat} {vs:List Value} (h:cM vs vs=true):fH (some (.cells z vs)) (some (.cells z vs))=true:=by simp [fH,h,nb]
theorem rj {C X D:Cx} {V W:List Nat} (S:bA C) (g:bA X) (T:bp 0 (· ∈V) C X) (p:bp 0 (· ∈W) X D) (s:X.H.nx≤C.H.nx+1) (k:ua C.h.length X.h W=true):fH (X.H.get C.H.nx) (D.H.get C.H.nx)=true:=by
 simp only [ua,MK,Bool.not_eq_true',List.contains_eq_mem,decide_eq_false_iff_not]at k;obtain ⟨m,i⟩:=k
 have key:∀(d:aA X.h C.h.length),X.φ C.h.length=C.H.nx∧D.H.get C.H.nx=X.H.get C.H.nx:=by
  intro d
  have e:X.φ C.h.length=C.H.nx:=by
   rcases T.loc _ d with q|⟨q,_⟩
   ·have:=g.lt d;omega
   ·exact absurd (aN q) (Nat.lt_irrefl _)
  refine ⟨e,?_⟩;have:=p.out _ (g.lt d) (rf g d m);rwa [e]at this
 split at i
 ·rename_i z c cs f
  obtain ⟨a,b⟩:=key (aJ f (by simp));obtain ⟨r,j,n,_⟩:=g.cells (t:=0) f (by simp);rw [b,←a,j];exact ri (kB n (by simpa using i))
 ·rename_i f
  obtain ⟨a,b⟩:=key (bR f);obtain ⟨l,j,o,_⟩:=g.nN _ _ f;rw [b,←a,j]
  cases l with
  |nil=>rfl
  |cons=>simp at o
 ·cases i
theorem ig {C:Cx} (S:bA C) {o:AO} {m:PF} {l:Fr} (h:eS C m l) {r:Option Nat} (k:lH o.o m C.h=some r):∃a,aY o l=some a∧((∃b,r=some b∧aA C.h b∧a=C.φ b)∨(r=none∧C.F a)):=by
 have go:∀x:X,(match bL m x with| .ref b _ t=>if bm C.h b=some t∧0<t then some (some b)else none| .fp _=>some none|_=>none)=some r→
  ∃a,(match x.ev l with| .pointer (some a)=>some a.block|_=>none)=some a∧((∃b,r=some b∧aA C.h b∧a=C.φ b)∨(r=none∧C.F a)):=by
  intro x k;have f:=h.ev x;split at k
  ·rename_i b o t e
   rw [e]at f;split at k
   case isFalse=>cases k
   rename_i j;cases k;rw [ja f j.1];refine ⟨_,rfl,.inl ⟨b,rfl,?_,rfl⟩⟩;have:=j.1;unfold bm at this;split at this
   ·rename_i z cs i
    cases this;exact aJ i (List.length_pos_iff.1 j.2)
   ·cases this
  ·rename_i c e
   rw [e]at f;cases k;revert f;generalize x.ev l=y;intro f;cases f with|fp u _ _=>exact ⟨_,rfl,.inr ⟨rfl,u⟩⟩
  ·cases k
 obtain ⟨g,d,p⟩:=o
 cases p<;>first
  |(cases k;done)
  |exact go _ k
  |skip
 ·rename_i sz x lo hi mx
  simp only [lH]at k;have f:=h.ev x;split at k
  case h_2=>cases k
  rename_i v b o n c e;rw [e]at f;split at k
  case isFalse=>cases k
  rename_i s;cases k;obtain ⟨z,cs,i,j⟩:=lE s.1;rcases gW f i j.symm with⟨q,_⟩|⟨_,q⟩
  ·omega
  ·refine ⟨C.φ b,by simp only [aY,q];rfl,.inl ⟨b,rfl,aJ i ?_,rfl⟩⟩
   intro e;subst e;have:=Nat.mul_pos (show 0<o+c by omega) s.2.2;simp at j;omega
 ·rename_i kk z x w ok
  simp only [lH]at k;have f:=h.ev x;split at k
  case h_2=>cases k
  rename_i b e;rw [e]at f;split at k
  case h_2=>cases k
  rename_i es i;cases k;exact ⟨C.φ b,by simp only [aY,q6 f i],.inl ⟨b,rfl,bR i,rfl⟩⟩
theorem rl {C D:Cx} {W:Nat→Prop} (S:bA C) (p:bA D) (T:bp 0 W C D) {o q:AO} {s r:PF} {u t:Fr} (h:eS C s u) (g:eS D r t) (k:kA (lH o.o s C.h) (lH q.o r D.h)=true):
 (match aY o u,aY q t with|some b,some b'=>!Nat.beq b b'|_,_=>true)=true:=by
 unfold kA at k;split at k
 ·rename_i b c n m
  obtain ⟨x,l,j⟩:=ig S h n;obtain ⟨y,i,f⟩:=ig p g m;rcases j with⟨A,e,d,rfl⟩|⟨e,_⟩<;>cases e;rcases f with⟨z,e,a,rfl⟩|⟨e,_⟩<;>cases e;rw [l,i];simp only [nb,Bool.not_eq_true',decide_eq_false_iff_not]at k⊢;intro e;rcases T.loc _ a with q|⟨q,w⟩
  ·have:=S.lt d;omega
  ·exact k (S.inj _ _ d q (e.trans w))
 ·rename_i c n m
  obtain ⟨x,l,j⟩:=ig S h n;obtain ⟨y,i,f⟩:=ig p g m;rcases j with⟨A,e,d,rfl⟩|⟨e,v⟩<;>cases e;rcases f with⟨z,e,a,rfl⟩|⟨e,_⟩<;>cases e;rw [l,i];simp only [nb,Bool.not_eq_true',decide_eq_false_iff_not];intro e;exact (p.old a).2 (e▸(T.fz _ v).1)
 ·cases k
theorem xL {c:List AO} {W:List Nat} {acc:List (PF×PH×List Nat)} {w:List (Fr×AH)} {D:Cx} (h:fA c acc w D W) {k p q:Nat}
 (e:CK k p q (nth c p) (nth acc.reverse p) (nth acc.reverse (p+1)) (nth c q) (nth acc.reverse q) (nth acc.reverse (q+1))=true):jZ c w.reverse (k,p,q)=true:=by
 unfold CK at e;split at e
 case h_2=>cases e
 rename_i op X S Wp V R Z F U P Y T O W' v J u I t d;simp only [MK,MU]at e;obtain ⟨Q,e⟩:=e;obtain ⟨cs,«as»,a,h2,H,_⟩:=h.Lo;obtain ⟨b,E,j,i⟩:=a _ _ J;obtain ⟨n,A,z,N⟩:=a _ _ u;obtain ⟨s,C,B,r⟩:=a _ _ t;obtain ⟨M,y,L,K⟩:=a _ _ d;have G:=xI d;rw [List.length_reverse]at G;simp only [jZ,v,E,A,I,C,y];by_cases g:op.wanted («as» p)=true
 case neg=>simp [g]
 by_cases f:F.wanted («as» q)=true
 case neg=>simp [f]
 have m:=re i g;have l:=re r f;simp only at m l b s n;rw [m,l]at e;simp only [Bool.not_true,Bool.false_or]at e;rw [g,f];simp only [Bool.not_true,Bool.false_or]
 match k with
 |0=>
  simp only at e⊢;rw [←b]at e;obtain ⟨x,a,h2⟩:=xK (o:=op) j (h2 p (q+1) _ (by omega) d) i e;rw [a];exact h2
 |1=>
  simp only [MK,Bool.not_eq_true']at e⊢;rw [←b,←n]at e;exact rj j z (h2 p (p+1) _ (by omega) u) (h2 (p+1) (q+1) _ (by omega) d) (H p op (by omega) v e.1) e.2
 |k+2=>
  simp only at e⊢;rw [←b,←s]at e;exact rl j B (h2 p q _ (by omega) t) i r e
theorem fA.Lq {e:List AO} {W:List Nat} {acc:List (PF×PH×List Nat)} {d:List (Fr×AH)} {D:Cx} (h:fA e acc d D W):chain d.reverse=true:=by
 have snoc:∀(l:List (Fr×AH)) (a b:Fr×AH),chain (l++[a])=true→a.2.n0=b.2.n0→a.2.nx≤b.2.nx→chain (l++[a]++[b])=true:=by
  intro l
  induction l with
  |nil=>intro a b _ c h2;simp [A.chain,c,h2]
  |cons x l ih=>
   intro a b h c h2
   cases l with
   |nil=>simp only [List.cons_append,List.nil_append,A.chain,Bool.and_true,MK]at h⊢;refine ⟨h,?_⟩;simp [c,h2]
   |cons y l=>
    simp only [List.cons_append,A.chain,MK]at h⊢;exact ⟨h.1,by simpa using ih a b h.2 c h2⟩
 induction h with
 |one=>rfl
 | @cons C D acc d g i V W H0 T S R f ih=>
  cases H0 with
  |one=>simp [A.chain,T.n0,T.nx]
  |cons=>
   simp only [List.reverse_cons]at ih⊢;exact snoc _ _ _ ih T.n0.symm T.nx
theorem rm {a:List AO} {W:List Nat} {acc:List (PF×PH×List Nat)} {b:List (Fr×AH)} {D:Cx} (h:fA a acc b D W) {ck:List (Nat×Nat×Nat)} (e:AL a ck acc=true):wL a ck b=true:=by
 unfold wL;rw [MK];refine ⟨h.Lq,?_⟩;unfold AL at e;rw [MY]at e⊢;rintro ⟨k,p,q⟩ c;exact xL h (e _ c)
end P
end Go.Proofs.Ytediokhgklkhnaa.A
