/- Texts that stand one behind the other: Abs3, Abs4. -/
import Derived.Test.YtediokhgklkhnaaG3
import Derived.Deep.AppendSrc
import Derived.Laws.MakeOwn
set_option linter.unusedVariables false
set_option linter.unusedSimpArgs false
namespace Go.Proofs.Ytediokhgklkhnaa.A
open Go Go.RowKit
theorem add_lit (c o j:Nat):(⟨c,o,none⟩:Addr).add j=⟨c,o+j,none⟩:=by unfold Addr.add;split<;>simp_all
theorem oA {φ:aF} (R:∀b,b<φ.n0→φ.m b=some ⟨b,0,0,1⟩) {v x:Value} (h:au φ.n0 v=some x):one x=true∧V φ x v:=by
 cases v with
 |pointer a=>
  cases a with
  |none=>simp [au,flat]at h;subst h;exact ⟨rfl,.same rfl⟩
  |some a=>
   obtain ⟨b,o,s⟩:=a;simp only [au]at h
   cases d:(decide (b<φ.n0)&&s.isNone)with
   |false=>simp [d]at h
   |true=>
    simp [d]at h;subst h;simp at d;obtain ⟨d,rfl⟩:=d;have e:=R b d;exact ⟨rfl,.ptr (l:=⟨b,0,0,1⟩) e⟩
 |slice a n c=>
  cases a with
  |none=>simp [au,flat]at h;subst h;exact ⟨rfl,.same rfl⟩
  |some a=>
   obtain ⟨b,o,s⟩:=a;simp only [au]at h
   cases d:(decide (b<φ.n0)&&s.isNone)with
   |false=>
    simp [d,nb,Bool.cond_decide]at h;obtain ⟨rfl,rfl⟩:=h;exact ⟨rfl,.dead⟩
   |true=>
    simp [d]at h;subst h;simp at d;obtain ⟨d,rfl⟩:=d;have e:=R b d;exact ⟨rfl,.sl (l:=⟨b,0,0,1⟩) e (OL _) id (.inl rfl)⟩
 |map r=>cases r<;>simp [au,flat]at h;subst h;exact ⟨rfl,.same rfl⟩
 |chan r=>cases r<;>simp [au,flat]at h;subst h;exact ⟨rfl,.same rfl⟩
 |bool b=>simp [au,flat]at h;subst h;exact ⟨rfl,.same rfl⟩
 |int k n=>simp [au,flat]at h;subst h;exact ⟨rfl,.same rfl⟩
 |float k n=>simp [au,flat]at h;subst h;exact ⟨rfl,.same rfl⟩
 |complex k n m=>simp [au,flat]at h;subst h;exact ⟨rfl,.same rfl⟩
 |string s=>simp [au,flat]at h;subst h;exact ⟨rfl,.same rfl⟩
 |nilFunc=>simp [au,flat]at h;subst h;exact ⟨rfl,.same rfl⟩
 |nilIface=>simp [au,flat]at h;subst h;exact ⟨rfl,.same rfl⟩
 |func f a b=>simp [au,flat]at h
 |iface t v=>simp [au,flat]at h
 |agg c=>simp [au,flat]at h
 |tuple c=>simp [au,flat]at h
theorem ji {φ:aF} (R:∀b,b<φ.n0→φ.m b=some ⟨b,0,0,1⟩):∀{l m:List Value},al φ.n0 l=some m→m.all one=true∧VL φ m l
 |[],m,h=>by simp [al]at h;subst h;exact ⟨rfl,.nil⟩
 |v::l,m,h=>by
  simp only [al]at h
  cases e:au φ.n0 v with
  |none=>simp [e]at h
  |some x=>
   cases f:al φ.n0 l with
   |none=>simp [e,f]at h
   |some k=>
    simp [e,f]at h;subst h;obtain ⟨a,b⟩:=oA R e;obtain ⟨c,d⟩:=ji R f;exact ⟨by simp [a,c],.cons b d⟩
theorem Rel.ld {w0 w:World} {φ:aF} {H:AH} (R:Rel w0 φ H w) {a:Addr} {v:Value} {l:Loc} (h:H.ld a=some v) (i:φ.m a.block=some l):
 a.spot=none∧one v=true∧∃v',w.cell? ⟨l.c,a.off+l.s,none⟩=some v'∧V φ v v':=by
 obtain ⟨b,o,s⟩:=a;unfold AH.ld at h
 cases s with
 |some s=>simp at h
 |none=>
  refine ⟨rfl,?_⟩;dsimp only at h i⊢
  cases d:H.get b with
  |none=>simp [d]at h
  |some bF=>
   cases bF with
   |map es=>simp [d]at h
   |cells z c=>
    simp only [d]at h
    cases f:c[o]? with
    |none=>simp [f]at h
    |some u=>
     simp only [f,R.n0]at h;by_cases g:b<φ.n0
     ·simp [g]at h
      obtain ⟨k,h2⟩:=oA R.dz h;refine ⟨k,u,?_,h2⟩;have p:=R.dz b g;rw [p]at i;cases i;obtain ⟨e,B,n⟩:=R.eG b z c g (AH.cL d);simp [World.cell?,n,f]
     ·simp [g]at h
      subst h;obtain ⟨k,h2,A,arr,e,x,y,t,_⟩:=R.cells b l z c (by omega) i (AH.cL d);obtain ⟨r,v',j,q⟩:=t o u f;refine ⟨r,v',?_,q⟩;rw [Nat.add_comm]at j;simp [World.cell?,x,j]
theorem Rel.ldn {w0 w:World} {φ:aF} {H:AH} (R:Rel w0 φ H w) {a:Addr} {n:Nat} {vs:List Value} {l:Loc} (h:H.ldn a n=some vs) (p:φ.m a.block=some l):
 a.spot=none∧vs.all one=true∧vs.length=n∧∃q,q.length=n∧VL φ vs q∧∀j v',q[j]?=some v'→w.cell? ((⟨l.c,a.off+l.s,none⟩:Addr).add j)=some v':=by
 obtain ⟨b,o,s⟩:=a;unfold AH.ldn at h
 cases s with
 |some s=>simp at h
 |none=>
  refine ⟨rfl,?_⟩;dsimp only at h p⊢
  cases i:H.get b with
  |none=>simp [i]at h
  |some bF=>
   cases bF with
   |map es=>simp [i]at h
   |cells z c=>
    simp only [i,Bool.cond_decide,R.n0]at h;split at h
    case isFalse=>cases h
    rename_i F;by_cases k:b<φ.n0
    ·rw [if_pos k]at h
     obtain ⟨t,h2⟩:=ji R.dz h;have d:((c.drop o).take n).length=n:=by simp;omega
     refine ⟨t,by rw [h2.length,d],_,d,h2,?_⟩;intro j v' f;have A:=R.dz b k;rw [A]at p;cases p;obtain ⟨e,J,y⟩:=R.eG b z c k (AH.cL i)
     have g:j<n:=by
      have:=(ON.1 f).1;omega
     rw [add_lit];simp [World.cell?,y]
     simpa [Pg,g,Pm]using f
    ·rw [if_neg k]at h
     cases h;obtain ⟨t,h2,I,arr,e,C,G,B,_⟩:=R.cells b l z c (by omega) p (AH.cL i);have d:((c.drop o).take n).length=n:=by simp;omega
     have r:∀j v,((c.drop o).take n)[j]?=some v→one v=true∧∃v',arr[l.s+(o+j)]?=some v'∧V φ v v':=by
      intro j v f
      have g:j<n:=by
       have:=(ON.1 f).1;omega
      exact B (o+j) v (by simpa [Pg,g,Pm]using f)
     refine ⟨?_,d,(arr.toList.drop (l.s+o)).take n,?_,?_,?_⟩
     ·rw [OX]
      intro x u;obtain ⟨j,f⟩:=List.getElem?_of_mem u;exact (r j x f).1
     ·simp;omega
     ·refine VL.q7 (by simp;omega) ?_
      intro j v f;obtain ⟨_,v',E,D⟩:=r j v f;refine ⟨v',?_,D⟩
      have g:j<n:=by
       have:=(ON.1 f).1;omega
      simpa [Pg,g,Pm,Nat.add_assoc]using E
     ·intro j v' f
      have g:j<n:=by
       have:=(ON.1 f).1;simp at this;omega
      rw [add_lit];simp [World.cell?,C];have:arr[l.s+o+j]?=some v':=by simpa [Pg,g,Pm]using f
      rw [←this];congr 1;omega
theorem Rel.drew {w0 w w':World} {φ:aF} {H:AH} (R:Rel w0 φ H w) (a:w'.heap=w.heap) (f:w'.os=w.os) (c:w'.tape=w.tape) (d:w'.output=w.output):Rel w0 φ H w' where
 n0:=R.n0
 j1:=R.j1
 iN:=R.iN
 c0:=R.c0
 below:=⟨f.trans R.below.os,c.trans R.below.tape,d.trans R.below.output,by rw [a];exact R.below.size,fun k g=>by rw [a];exact R.below.block k g⟩
 dz:=R.dz
 eG:=by rw [a];exact R.eG
 cells:=by rw [a];exact R.cells
 maps:=by rw [a];exact R.maps
 inj:=R.inj
 l8:=R.l8
 j9:=fun b s e=>by
  obtain ⟨m,h2,l,j,i,h⟩:=R.j9 b s e;exact ⟨m,h2,l,j,i,h.jh rfl (fun k _ _=>by rw [a]) fun b l p o n=>.inl ⟨p,o,n⟩⟩
theorem bx.of_heap {φ:aF} {H:AH} {w w':World} (a:w'.heap=w.heap):bx φ H w φ H w':=
 ⟨aF.le_refl _,rfl,rfl,OL _,fun _ _ h k=>(by rw [h]at k;cases k),by rw [a];exact OL _⟩
theorem Rel.new {w0 w w':World} {φ:aF} {H:AH} (R:Rel w0 φ H w) (O:φ.m H.nx=none) {z:Nat} {cs:List Value} {arr:Array Value} {e:TypeId} (B:w'.heap=w.heap.push (.cells arr e (0,0))) (V:w'.os=w.os) (Q:w'.tape=w.tape) (U:w'.output=w.output)
 (X:cs.length≤arr.size) (Z:CR φ 0 cs arr) (Y:e≠BY):
 Rel w0 (φ.add H.nx ⟨w.heap.size,0,arr.size,z⟩) (H.alloc (.cells z cs)) w'∧bx φ H w (φ.add H.nx ⟨w.heap.size,0,arr.size,z⟩) (H.alloc (.cells z cs)) w':=by
 have f:φ.le (φ.add H.nx ⟨w.heap.size,0,arr.size,z⟩):=aF.kN O;have S:w0.heap.size≤w.heap.size:=R.below.size;have q:∀k,k<w.heap.size→w'.heap[k]?=w.heap[k]?:=fun k A=>by rw [B,Array.getElem?_push,if_neg (by omega)]
 have old:∀b l,φ.n0≤b→φ.m b=some l→(H.raw b).isSome=true→l.c<w.heap.size:=by
  intro b l g j T
  cases d:H.raw b with
  |none=>simp [d]at T
  |some bF=>
   cases bF with
   |cells p c=>
    obtain ⟨_,_,_,a,o,n,_⟩:=R.cells b l p c g j d;exact (OV.1 n).1
   |map es=>
    obtain ⟨_,a,o,n,_⟩:=R.maps b l es g j d;exact (OV.1 n).1
 refine ⟨?_,?_⟩
 ·refine ⟨R.n0,R.j1,by rw [AH.bP];have:=R.iN;exact Nat.le_succ_of_le this,R.c0,?_,?_,?_,?_,?_,?_,?_,R.l8⟩
  ·refine ⟨V.trans R.below.os,Q.trans R.below.tape,U.trans R.below.output,?_,fun k A=>?_⟩
   ·rw [B,Array.size_push];omega
   ·rw [q k (by omega)];exact R.below.block k A
  ·intro b g
   exact f _ _ (R.dz b g)
  ·intro b p c g d
   have F:b<φ.n0:=g;rw [AH.aV,if_neg (by have:=R.iN;omega)]at d;obtain ⟨o,fz,P⟩:=R.eG b p c g d;exact ⟨o,fz,by rw [q b (by have:=R.j1;have:=R.c0;omega)];exact P⟩
  ·intro b l p c g j d
   rw [AH.aV]at d;simp only [aF.add]at j;by_cases r:b=H.nx
   ·rw [if_pos r]at d j
    cases d;cases j;refine ⟨by show φ.c0≤w.heap.size;rw [R.c0];exact S,rfl,by simpa using X,arr,e,?_,rfl,Z.mono f,Y⟩;rw [B];simp
   ·rw [if_neg r]at d j
    obtain ⟨i,h2,u,a,o,n,t,h6,h7⟩:=R.cells b l p c g j d;exact ⟨i,h2,u,a,o,by rw [q _ (OV.1 n).1];exact n,t,h6.mono f,h7⟩
  ·intro b l es g j d
   rw [AH.aV]at d;simp only [aF.add]at j;by_cases r:b=H.nx
   ·rw [if_pos r]at d
    cases d
   ·rw [if_neg r]at d j
    obtain ⟨i,a,o,n,t⟩:=R.maps b l es g j d;exact ⟨i,a,o,by rw [q _ (OV.1 n).1];exact n,t.mono f⟩
  ·intro I G L K N M i h2 x v E
   rw [AH.aV]at x v;simp only [aF.add]at i h2;by_cases D:I=H.nx<;>by_cases C:G=H.nx
   ·rw [D,C]
   ·rw [if_pos D]at i
    rw [if_neg C]at h2 v;cases i;have:=old G K M h2 v;simp at E;omega
   ·rw [if_neg D]at i x
    rw [if_pos C]at h2;cases h2;have:=old I L N i x;simp at E;omega
   ·rw [if_neg D]at i x
    rw [if_neg C]at h2 v;exact R.inj I G L K N M i h2 x v E
  ·intro b s eb
   obtain ⟨i,h2,l,u,n,t⟩:=R.j9 b s eb;have W:b≠H.nx:=by rintro rfl;rw [O]at u;cases u
   refine ⟨i,by rw [AH.aV,if_neg W];exact h2,l,f _ _ u,n,t.jh rfl (fun k A _=>q k A) fun b' l' a1 y J=>?_⟩;rw [AH.aV]at J;simp only [aF.add]at y;by_cases F:b'=H.nx
   ·rw [if_pos F]at y
    cases y;exact .inr (.inl (OL _))
   ·rw [if_neg F]at y J
    exact .inl ⟨a1,y,J⟩
 ·refine ⟨f,rfl,rfl,by rw [AH.bP];exact O8 _,?_,by rw [B,Array.size_push];exact O8 _⟩
  ·intro b l h k
   simp only [aF.add]at k;split at k
   ·rename_i g;subst g;exact ⟨OL _,by rw [AH.bP];exact OW _⟩
   ·rw [h]at k;cases k
theorem Rel.write {w0 w w':World} {φ:aF} {H:AH} (R:Rel w0 φ H w) {b z:Nat} {c c':List Value} {l:Loc} {arr':Array Value} {e:TypeId} (C:φ.n0≤b) (t:φ.m b=some l) (j:H.get b=some (.cells z c))
 (O:w'.heap[l.c]?=some (.cells arr' e (0,0))) (u:∀k,k≠l.c→w'.heap[k]?=w.heap[k]?) (G:w'.heap.size=w.heap.size) (U:w'.os=w.os) (S:w'.tape=w.tape) (T:w'.output=w.output)
 (ha:arr'.size=l.n) (W:l.s+c'.length≤l.n) (y:CR φ l.s c' arr') (Z:e≠BY):
 Rel w0 φ (H.put b (some (.cells z c'))) w'∧bx φ H w φ (H.put b (some (.cells z c'))) w':=by
 have j:=AH.cL j;obtain ⟨g1,g2,g3,arr,e0,g4,g5,g6,g7⟩:=R.cells b l z c C t j;refine ⟨⟨R.n0,R.j1,R.iN,R.c0,?_,R.dz,?_,?_,?_,?_,?_,R.l8⟩,?_⟩
 ·refine ⟨U.trans R.below.os,S.trans R.below.tape,T.trans R.below.output,by rw [G];exact R.below.size,fun k h=>?_⟩
  rw [u k (by have:=R.c0;omega)];exact R.below.block k h
 ·intro x D d i f
  rw [AH.aW,if_neg (by omega)]at f;obtain ⟨B,fz,Y⟩:=R.eG x D d i f;refine ⟨B,fz,?_⟩;rw [u x (by have:=R.j1;omega)];exact Y
 ·intro x o D d i p f
  rw [AH.aW]at f;by_cases g:x=b
  ·subst g
   rw [if_pos rfl]at f;cases f;rw [t]at p;cases p;exact ⟨g1,g2,W,arr',e,O,ha,y,Z⟩
  ·rw [if_neg g]at f
   obtain ⟨q,h2,E,a,B,A,r,h6,h7⟩:=R.cells x o D d i p f;refine ⟨q,h2,E,a,B,?_,r,h6,h7⟩;rw [u]
   ·exact A
   ·intro y
    exact g (R.inj x b o l i C p t (by simp [f]) (by simp [j]) y)
 ·intro x o es i p f
  rw [AH.aW]at f;by_cases g:x=b
  ·rw [if_pos g]at f;cases f
  ·rw [if_neg g]at f
   obtain ⟨q,a,B,A,r⟩:=R.maps x o es i p f;refine ⟨q,a,B,?_,r⟩;rw [u]
   ·exact A
   ·intro y
    exact g (R.inj x b o l i C p t (by simp [f]) (by simp [j]) y)
 ·intro b1 b2 L K gp fE q h2 J I eQ
  have live:∀x,((H.put b (some (.cells z c'))).raw x).isSome=true→(H.raw x).isSome=true:=by
   intro x i;rw [AH.aW]at i;by_cases g:x=b
   ·subst g;simp [j]
   ·rw [if_neg g]at i;exact i
  exact R.inj b1 b2 L K gp fE q h2 (live _ J) (live _ I) eQ
 ·intro x s eb
  obtain ⟨q,h2,o,E,A,r⟩:=R.j9 x s eb;have V:x≠b:=by rintro rfl;rw [j]at h2;cases h2
  obtain ⟨N,M⟩:=r.apart b l C t (by simp [j]);refine ⟨q,by rw [AH.aW,if_neg V];exact h2,o,E,A,r.jh rfl (fun k _ X=>u k ?_) fun b' l' a1 a2 F=>.inl ⟨a1,a2,?_⟩⟩
  ·rcases X with rfl|⟨v,Q,P⟩
   ·exact fun e=>N e.symm
   ·exact fun e=>M v Q (e▸P)
  ·rw [AH.aW]at F
   by_cases g:b'=b
   ·subst g;simp [j]
   ·rw [if_neg g]at F;exact F
 ·exact ⟨aF.le_refl _,rfl,rfl,OL _,fun _ _ h k=>(by rw [h]at k;cases k),by rw [G];exact OL _⟩
theorem Rel.move {w0 w w':World} {φ:aF} {H:AH} (R:Rel w0 φ H w) (h0:φ.m H.nx=none) {b z s2 z2:Nat} {c c2:List Value} {l:Loc} {arr':Array Value} {e:TypeId} (u:φ.n0≤b) (M:φ.m b=some l) (t:H.get b=some (.cells z c))
 (hw:w'.heap[l.c]?=some (.cells arr' e (0,0))) (C:∀k,k≠l.c→w'.heap[k]?=w.heap[k]?) (L:w'.heap.size=w.heap.size) (ho:w'.os=w.os) (ht:w'.tape=w.tape) (hp:w'.output=w.output)
 (ha:arr'.size=l.n) (hn:s2+c2.length≤l.n) (T:CR φ s2 c2 arr') (he:e≠BY):
 Rel w0 (φ.add H.nx ⟨l.c,s2,l.n,z2⟩) ((H.put b none).alloc (.cells z2 c2)) w'∧bx φ H w (φ.add H.nx ⟨l.c,s2,l.n,z2⟩) ((H.put b none).alloc (.cells z2 c2)) w':=by
 have nn:b<H.nx:=AH.eM t;have t:=AH.cL t;obtain ⟨g1,g2,g3,arr,e0,g4,g5,g6,g7⟩:=R.cells b l z c u M t;have o:φ.le (φ.add H.nx ⟨l.c,s2,l.n,z2⟩):=aF.kN h0
 have get:∀x,((H.put b none).alloc (.cells z2 c2)).raw x=if x=H.nx then some (.cells z2 c2)else if x=b then none else H.raw x:=by
  intro x;rw [AH.aV,AH.aW,AH.qW]
 have other:∀x i,φ.n0≤x→φ.m x=some i→(H.raw x).isSome=true→x≠b→i.c≠l.c:=fun x i q j L Q T=>Q (R.inj x b i l q u j M L (by simp [t]) T)
 refine ⟨⟨R.n0,R.j1,by show φ.n0≤H.nx+1;have:=R.iN;omega,R.c0,?_,?_,?_,?_,?_,?_,?_,R.l8⟩,?_⟩
 ·refine ⟨ho.trans R.below.os,ht.trans R.below.tape,hp.trans R.below.output,by rw [L];exact R.below.size,fun k h=>?_⟩
  rw [C k (by have:=R.c0;omega)];exact R.below.block k h
 ·intro x q
  exact o _ _ (R.dz x q)
 ·intro x P d q f
  have p8:x<φ.n0:=q;rw [get,if_neg (by have:=R.iN;omega),if_neg (by omega)]at f;obtain ⟨G,fz,hh⟩:=R.eG x P d q f;refine ⟨G,fz,?_⟩;rw [C x (by have:=R.j1;omega)];exact hh
 ·intro x i P d q j f
  rw [get]at f;simp only [aF.add]at j;by_cases B:x=H.nx
  ·rw [if_pos B]at f j
   cases f;cases j;exact ⟨g1,rfl,hn,arr',e,hw,ha,T.mono o,he⟩
  ·rw [if_neg B]at f j
   by_cases g:x=b
   ·rw [if_pos g]at f;cases f
   ·rw [if_neg g]at f
    obtain ⟨p,h2,F,a,G,E,y,h6,h7⟩:=R.cells x i P d q j f;refine ⟨p,h2,F,a,G,?_,y,h6.mono o,h7⟩;rw [C _ (other x i q j (by simp [f]) g)];exact E
 ·intro x i es q j f
  rw [get]at f;simp only [aF.add]at j;by_cases B:x=H.nx
  ·rw [if_pos B]at f;cases f
  ·rw [if_neg B]at f j
   by_cases g:x=b
   ·rw [if_pos g]at f;cases f
   ·rw [if_neg g]at f
    obtain ⟨p,a,G,E,y⟩:=R.maps x i es q j f;refine ⟨p,a,G,?_,y.mono o⟩;rw [C _ (other x i q j (by simp [f]) g)];exact E
 ·intro J I V U Y D p h2 r s2 S
  rw [get]at r s2;simp only [aF.add]at p h2;by_cases O:J=H.nx<;>by_cases N:I=H.nx
  ·rw [O,N]
  ·rw [if_pos O]at p
   rw [if_neg N]at h2 s2;cases p;by_cases g:I=b
   ·rw [if_pos g]at s2;cases s2
   ·rw [if_neg g]at s2
    exact absurd S.symm (other I U D h2 s2 g)
  ·rw [if_neg O]at p r
   rw [if_pos N]at h2;cases h2;by_cases g:J=b
   ·rw [if_pos g]at r;cases r
   ·rw [if_neg g]at r
    exact absurd S (other J V Y p r g)
  ·rw [if_neg O]at p r
   rw [if_neg N]at h2 s2;by_cases X:J=b
   ·rw [if_pos X]at r;cases r
   ·by_cases W:I=b
    ·rw [if_pos W]at s2;cases s2
    ·rw [if_neg X]at r
     rw [if_neg W]at s2;exact R.inj J I V U Y D p h2 r s2 S
 ·intro x s eb
  obtain ⟨p,h2,i,F,E,y⟩:=R.j9 x s eb;have Q:x≠b:=by rintro rfl;rw [t]at h2;cases h2
  have Fw:x≠H.nx:=by rintro rfl;rw [h0]at F;cases F
  obtain ⟨k1,k2⟩:=y.apart b l u M (by simp [t]);refine ⟨p,by rw [get,if_neg Fw,if_neg Q];exact h2,i,o _ _ F,E,y.jh rfl (fun k _ xD=>C k ?_) fun b' l' a1 K A=>?_⟩
  ·rcases xD with rfl|⟨v,hv,AM⟩
   ·exact fun e=>k1 e.symm
   ·exact fun e=>k2 v hv (e▸AM)
  ·rw [get]at A
   simp only [aF.add]at K;by_cases Z:b'=H.nx
   ·rw [if_pos Z]at K
    cases K;exact .inr (.inr ⟨b,l,u,M,by simp [t],rfl⟩)
   ·rw [if_neg Z]at K A
    by_cases D:b'=b
    ·rw [if_pos D]at A;cases A
    ·rw [if_neg D]at A
     exact .inl ⟨a1,K,A⟩
 ·refine ⟨o,rfl,rfl,by show H.nx≤H.nx+1;omega,?_,by rw [L];exact OL _⟩
  ·intro x i h k
   simp only [aF.add]at k;split at k
   ·rename_i u;subst u;exact ⟨OL _,OW _⟩
   ·rw [h]at k;cases k
theorem Rel.kill {w0 w:World} {φ:aF} {H:AH} (R:Rel w0 φ H w) {b:Nat} (E:φ.n0≤b):Rel w0 φ (H.put b none) w where
 n0:=R.n0
 j1:=R.j1
 iN:=R.iN
 c0:=R.c0
 below:=R.below
 l8:=R.l8
 dz:=R.dz
 eG:=fun x z c d a=>by rw [AH.aW,if_neg (by omega)]at a;exact R.eG x z c d a
 cells:=fun x l z c d h a=>by
  rw [AH.aW]at a;split at a
  ·cases a
  ·exact R.cells x l z c d h a
 maps:=fun x l es d h a=>by
  rw [AH.aW]at a;split at a
  ·cases a
  ·exact R.maps x l es d h a
 inj:=fun A y n m q p i h2 f e o=>by
  rw [AH.aW]at f e;split at f
  ·cases f
  ·split at e
   ·cases e
   ·exact R.inj A y n m q p i h2 f e o
 j9:=fun x s v=>by
  obtain ⟨i,h2,j,u,t,r⟩:=R.j9 x s v;refine ⟨i,by rw [AH.aW];split<;>first|rfl|exact h2,j,u,t,r.jh rfl (fun k _ _=>rfl) fun F D C B g=>.inl ⟨C,B,?_⟩⟩;rw [AH.aW]at g;split at g
  ·cases g
  ·exact g
theorem bx.same {φ a:aF} {H H1 d c:AH} {w w':World} (h:bx φ H w a d w') (e:H1.nx=H.nx) (b:c.nx=d.nx):bx φ H1 w a c w':=
 ⟨h.le,h.n0,h.c0,by rw [e,b];exact h.nx,by rw [e,b];exact h.new,h.size⟩
open Go Go.RowKit
def eR (φ:aF) (fr:Fr) (a:Act):Prop:=∀t,V φ (fr.get t) (a.tmps.getD t undef)
theorem eR.mono {φ b:aF} (h:φ.le b) {c:Fr} {a:Act} (F:eR φ c a):eR b c a:=fun t=>(F t).mono h
theorem jk (φ:aF):V φ undef undef:=.tuple .nil
theorem eR.put {φ:aF} {c:Fr} {a:Act} (F:eR φ c a) {d:Nat} {v v':Value} (e:d<a.tmps.size) (h:V φ v v'):eR φ (c.put d v) (a.put (some d) v'):=by
 intro t;rw [Fr.aN];simp only [Act.put];by_cases b:t=d
 ·subst b;simp [e,h]
 ·rw [if_neg b]
  have:(a.tmps.setIfInBounds d v').getD t undef=a.tmps.getD t undef:=by
   simp [Array.getElem?_setIfInBounds_ne (Ne.symm b)]
  rw [this];exact F t
theorem eR.aw {φ:aF} {b:Fr} {a:Act} (F:eR φ b a) {d:Option Nat} {v v':Value} (c:∀n,d=some n→n<a.tmps.size) (h:V φ v v'):eR φ (b.aw d v) (a.put d v'):=by
 cases d with
 |none=>exact F
 |some n=>exact F.put (c n rfl) h
theorem bc {φ:aF} {b:Fr} {a:Act} (F:eR φ b a) {x:Operand} {y:X} (h:cX x=some y):V φ (y.ev b) (a.eval x):=by
 cases x with
 |tmp t=>simp [cX]at h;subst h;exact F t
 |const v=>
  simp only [cX]at h;split at h
  ·rename_i c;cases h;exact V.l6 c
  ·cases h
 |global g=>simp [cX]at h
 |func f=>simp [cX]at h;subst h;exact .fn .nil .nil
theorem fU {φ:aF} {d:Fr} {a:Act} (F:eR φ d a):∀{l:List Operand} {ys:List X},pZ l=some ys→VL φ (ys.map (X.ev d)) (l.map a.eval)
 |[],ys,h=>by simp [pZ]at h;subst h;exact .nil
 |x::l,ys,h=>by
  simp only [pZ]at h
  cases b:cX x with
  |none=>simp [b]at h
  |some y=>
   cases c:pZ l with
   |none=>simp [b,c]at h
   |some m=>
    simp [b,c]at h;subst h;exact .cons (bc F b) (fU F c)
def NR (φ:aF):dw→Next→Prop
 | .v x,nx=>(∃x',nx= .value x'∧V φ x x')∨(nx= .skip∧x=undef)
 | .enter f as,nx=>∃as':Array Value,nx= .enter f as'∧VL φ as as'.toList
def cw (w0:World) (φ:aF) (H:AH) (w:World) (res:dw) (H':AH) (r:Result Next):Prop:=
 ∃bl w' nx,r= .ok nx w'∧Rel w0 bl H' w'∧bx φ H w bl H' w'∧NR bl res nx
section
variable{P:Program} {w0 w:World} {φ:aF} {H:AH}
theorem cw.pure {x:Value} {x':Value} {r:Result Next} (R:Rel w0 φ H w) (h:V φ x x') (a:r= .ok (.value x') w):cw w0 φ H w (.v x) H r:=
 ⟨φ,w,_,a,R,bx.refl _ _ _,.inl ⟨x',rfl,h⟩⟩
theorem aQ {t:TypeId} {n:Nat} (h:bp P t=some n) (w:World):(sizeOf t).run P w= .ok n w:=by
 unfold bp at h
 cases hi:P.info? t with
 |none=>simp [hi]at h
 |some i=>simp [hi]at h;subst h;simp [sizeOf,typeInfo,hi]
theorem dY {t:TypeId} {b:Bool} (h:nh P t=some b) (w:World):(isAgg t).run P w= .ok b w:=by
 unfold nh at h
 cases a:P.underlying t with
 |none=>simp [a]at h
 |some d=>
  cases d<;>simp [a]at h<;>subst h<;>simp [isAgg,run_underlying a]
theorem cB {t:TypeId} {l:List Value} (h:ch P t=some l):∃i z,P.info? t=some i∧i.zero=some z∧z.cells.toList=l∧l.all flat=true∧l.length=i.size:=by
 unfold ch at h
 cases hi:P.info? t with
 |none=>simp [hi]at h
 |some i=>
  rw [hi,Option.bind_some]at h
  cases a:i.zero with
  |none=>rw [a]at h;cases h
  |some z=>
   rw [a,Option.bind_some]at h;dsimp only at h;split at h
   ·rename_i b
    cases h;simp at b;refine ⟨i,z,rfl,a,rfl,?_,by simpa using b.2⟩
    simpa using b.1
   ·cases h
theorem gw {φ:aF} {cs:List Value} {arr:Array Value} (h:VL φ cs arr.toList) (o:cs.all one=true):CR φ 0 cs arr:=by
 intro j v a;obtain ⟨b,e,c⟩:=h.get j v a;refine ⟨OX.1 o v (OM a),b,?_,c⟩
 simpa using e
theorem oB {c:Fr} {a:Act} (F:eR φ c a) (R:Rel w0 φ H w) {x:Operand} {y:X} (h:cX x=some y) {res:dw} {d:AH} (b:aB (.mv y) (X.ev c) H=some (res,d)) {r:Result Next} (e:r= .ok (.value (a.eval x)) w):cw w0 φ H w res d r:=by
 simp only [aB]at b;cases b;exact .pure R (bc F h) e
theorem ra {t:TypeId} {z:List Value} (c:ch P t=some z) (R:Rel w0 φ H w) (g:φ.m H.nx=none) (f:t≠BY):
 ∃i v,P.info? t=some i∧i.zero=some v∧cw w0 φ H w (.v (.pointer (some ⟨H.nx,0,none⟩))) (H.alloc (.cells z.length z)) (.ok (.value (.pointer (some ⟨w.heap.size,0,none⟩))) {w with heap:=w.heap.push (.cells v.cells t)}):=by
 obtain ⟨i,v,hi,d,b,a,j⟩:=cB c;refine ⟨i,v,hi,d,?_⟩;have e:CR φ 0 z v.cells:=gw (by rw [b];exact VL.same a) (bD a);obtain ⟨h,G⟩:=R.new g (w':={w with heap:=w.heap.push (.cells v.cells t)}) (z:=z.length) (cs:=z) (arr:=v.cells) (e:=t) rfl rfl rfl rfl (by rw [←b];simp) e f;refine ⟨_,_,_,rfl,h,G,.inl ⟨_,rfl,?_⟩⟩;exact .ptr (l:=⟨w.heap.size,0,v.cells.size,z.length⟩) (by simp [aF.add])
theorem xE {v v':Value} (R:Rel w0 φ H w) (c:φ.m H.nx=none) (h:V φ v v') (a:bu v=false) (t:TypeId) (b:t≠BY):
 cw w0 φ H w (.v (.pointer (some ⟨H.nx,0,none⟩))) (H.alloc (.cells (aE v).length (aE v))) (.ok (.value (.pointer (some ⟨w.heap.size,0,none⟩))) {w with heap:=w.heap.push (.cells v'.cells t)}):=by
 obtain ⟨d,G⟩:=R.new c (w':={w with heap:=w.heap.push (.cells v'.cells t)}) (z:=(aE v).length) (cs:=aE v) (arr:=v'.cells) (e:=t) rfl rfl rfl rfl (by rw [h.cells.length];simp) (gw h.cells (fT h a)) b;refine ⟨_,_,_,rfl,d,G,.inl ⟨_,rfl,?_⟩⟩;exact .ptr (l:=⟨w.heap.size,0,v'.cells.size,(aE v).length⟩) (by simp [aF.add])
theorem wk {a:Addr} {v x':Value} (R:Rel w0 φ H w) (b:V φ (.pointer (some a)) x') (h:H.ld a=some v):
 ∃a' v',x'= .pointer (some a')∧w.cell? a'=some v'∧V φ v v':=by
 obtain ⟨l,e,c,rfl⟩:=V.l7 b;obtain ⟨_,_,v',d,h2⟩:=R.ld h c;exact ⟨_,v',rfl,d,h2⟩
theorem rb {a:Addr} {n:Nat} {vs:List Value} {x':Value} (R:Rel w0 φ H w) (c:V φ (.pointer (some a)) x') (h:H.ldn a n=some vs):
 ∃a' b,x'= .pointer (some a')∧b.length=n∧vs.all one=true∧VL φ vs b∧∀j v',b[j]?=some v'→w.cell? (a'.add j)=some v':=by
 obtain ⟨l,k,d,rfl⟩:=V.l7 c;obtain ⟨_,i,h2,b,g,f,e⟩:=R.ldn h d;exact ⟨_,b,rfl,g,i,f,e⟩
theorem cC:∀(c:List Value) (k:Nat) (vs:List Value),k+vs.length≤c.length→bw c k vs=c.take k++vs++c.drop (k+vs.length)
 |c,0,vs,h=>by cases c<;>simp [bw]
 |[],k+1,vs,h=>by simp at h
 |x::c,k+1,vs,h=>by
  simp only [bw,List.take_succ_cons,List.cons_append];rw [cC c k vs (by simp at h;omega),show k+1+vs.length=(k+vs.length)+1 by omega,List.drop_succ_cons]
theorem ka {c:List Value} {k:Nat} {vs:List Value} (h:k+vs.length≤c.length):(bw c k vs).length=c.length:=by
 rw [cC c k vs h];simp;omega
theorem p9 {s o:Nat} {c vs d:List Value} {arr:Array Value} (h:CR φ s c arr) (m:s+c.length≤arr.size) (g:VL φ vs d) (i:vs.all one=true) (k:o+vs.length≤c.length):
 CR φ s (bw c o vs) (arr.toList.take (s+o)++d++arr.toList.drop (s+o+d.length)).toArray:=by
 have n:=g.length;intro j v a;rw [cC c o vs k]at a;by_cases l:j<o
 ·have:c[j]?=some v:=by
   rw [O6,OU (by simp;omega)]at a;rw [Pg,if_pos l]at a;exact a
  obtain ⟨f,v',e,b⟩:=h j v this;refine ⟨f,v',?_,b⟩;rw [List.getElem?_toArray,O6,OU (by simp;omega),Pg,if_pos (by omega)]
  simpa using e
 ·by_cases h2:j<o+vs.length
  ·have:vs[j- o]?=some v:=by
    rw [O6,OY (by simp;omega)]at a;rw [OU (by simp;omega)]at a;rw [←a];congr 1;simp;omega
   obtain ⟨v',e,b⟩:=g.get _ v this;refine ⟨OX.1 i v (OM this),v',?_,b⟩;rw [List.getElem?_toArray,O6,OY (by simp;omega),OU (by simp;omega),←e];congr 1;simp;omega
  ·have:c[j]?=some v:=by
    rw [OY (by simp;omega)]at a;rw [Pm]at a;rw [←a];congr 1;simp;omega
   obtain ⟨f,v',e,b⟩:=h j v this;refine ⟨f,v',?_,b⟩;rw [List.getElem?_toArray,OY (by simp;omega),Pm];have:arr.toList[s+j]?=some v':=by simpa using e
   rw [←this];congr 1;simp;omega
theorem oC {a:Addr} {vs f:List Value} {x':Value} {n:AH} (R:Rel w0 φ H w) (u:V φ (.pointer (some a)) x') (h:H.st a vs=some n) (j:VL φ vs f) (r:vs.all one=true):
 ∃a' w',x'= .pointer (some a')∧(storeCells a' f).run P w= .ok () w'∧Rel w0 φ n w'∧bx φ H w φ n w':=by
 obtain ⟨l,q,m,rfl⟩:=V.l7 u;obtain ⟨b,o,s⟩:=a;dsimp only at q m⊢;subst q;unfold AH.st at h;dsimp only at h
 cases i:H.get b with
 |none=>simp [i]at h
 |some bF=>
  cases bF with
  |map es=>simp [i]at h
  |cells z c=>
   simp only [i,R.n0]at h
   cases d:(decide (φ.n0≤b)&&decide (o+vs.length≤c.length))with
   |false=>simp [d]at h
   |true=>
    simp only [d,cond_true,OH]at h;subst h;simp at d;obtain ⟨D,C,A,arr,e,t,B,y,x⟩:=R.cells b l z c d.1 m (AH.cL i);have g:=j.length;have p:=run_storeCells_at P l.c (o+l.s) e f 0 arr w t (by rw [←g];omega) (j.one r);simp only [Nat.add_zero]at p;refine ⟨_,_,rfl,p,?_⟩;refine R.write d.1 m i (arr':=(arr.toList.take (o+l.s)++f++arr.toList.drop (o+l.s+f.length)).toArray) (e:=e) (setRow_heap w l.c arr _ e (0,0) t) (fun k v=>setRow_other w l.c k _ v) (setRow_size _ _ _) rfl rfl rfl ?_ ?_ ?_ x
    ·simp;omega
    ·rw [ka d.2];exact A
    ·have:=p9 y (by omega) j r d.2
     rwa [Nat.add_comm l.s o]at this
end
end Go.Proofs.Ytediokhgklkhnaa.A
