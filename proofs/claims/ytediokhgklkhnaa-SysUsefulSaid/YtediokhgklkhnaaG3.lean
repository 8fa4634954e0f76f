/- Texts that stand one behind the other: Abs2. -/
import Derived.Test.YtediokhgklkhnaaG2
import Derived.Below
import Derived.Lib.FrozenHead
set_option linter.unusedVariables false
set_option linter.unusedSimpArgs false
namespace Go.Proofs.Ytediokhgklkhnaa.A
open Go Go.RowKit
structure Loc where
 c:Nat
 s:Nat
 n:Nat
 z:Nat
structure aF where
 n0:Nat
 c0:Nat
 m:Nat→Option Loc
def aF.add (φ:aF) (b:Nat) (l:Loc):aF:={φ with m:=fun x=>if x=b then some l else φ.m x}
theorem aF.eP (φ:aF) (b:Nat) (l:Loc):(φ.add b l).m b=some l:=by simp [aF.add]
theorem ai {α:Type} {c:Bool} {x:Option α} {y:α} (h:(bif c then x else none)=some y):c=true∧x=some y:=by
 cases c
 ·cases h
 ·exact ⟨rfl,h⟩
mutual
inductive V (φ:aF):Value→Value→Prop where
 |same {v:Value}:flat v=true→V φ v v
 |ptr {b o:Nat} {l:Loc}:φ.m b=some l→V φ (.pointer (some ⟨b,o,none⟩)) (.pointer (some ⟨l.c,o+l.s,none⟩))
 |sl {b o n c c':Nat} {l:Loc}:φ.m b=some l→c≤c'→(c=0→c'=0)→(c'=c∨o+l.s+c'*l.z≤l.n)→V φ (.slice (some ⟨b,o,none⟩) n c) (.slice (some ⟨l.c,o+l.s,none⟩) n c')
 |dead {b o:Nat} {a':Addr} {c':Nat}:V φ (.slice (some ⟨b,o,some 1⟩) 0 0) (.slice (some a') 0 c')
 |mp {r:Nat} {l:Loc}:φ.m r=some l→V φ (.map (some r)) (.map (some l.c))
 |fn {f:Fn} {a b a' b':Array Value}:VL φ a.toList a'.toList→VL φ b.toList b'.toList→V φ (.func f a b) (.func f a' b')
 |iface {t:Nat} {v v':Value}:V φ v v'→V φ (.iface t v) (.iface t v')
 |agg {a a':Array Value}:a.toList.all one=true→VL φ a.toList a'.toList→V φ (.agg a) (.agg a')
 |tuple {a a':Array Value}:VL φ a.toList a'.toList→V φ (.tuple a) (.tuple a')
inductive VL (φ:aF):List Value→List Value→Prop where
 |nil:VL φ [] []
 |cons {v v':Value} {l l':List Value}:V φ v v'→VL φ l l'→VL φ (v::l) (v'::l')
end
def aF.le (φ ψ:aF):Prop:=∀b l,φ.m b=some l→ψ.m b=some l
theorem aF.le_refl (φ:aF):φ.le φ:=fun _ _ h=>h
theorem aF.le_trans {a b c:aF} (h:a.le b) (k:b.le c):a.le c:=fun x l e=>k x l (h x l e)
theorem aF.kN {φ:aF} {b:Nat} {l:Loc} (h:φ.m b=none):φ.le (φ.add b l):=fun x k e=>by
 unfold aF.add;dsimp only;split
 ·rename_i a;subst a;rw [h]at e;cases e
 ·exact e
mutual
theorem V.mono {φ d:aF} (h:φ.le d) {v v':Value}:V φ v v'→V d v v'
 | .same e=>.same e
 | .ptr e=>.ptr (h _ _ e)
 | .sl e a b c=>.sl (h _ _ e) a b c
 | .dead=>.dead
 | .mp e=>.mp (h _ _ e)
 | .fn a b=>.fn (VL.mono h a) (VL.mono h b)
 | .iface a=>.iface (V.mono h a)
 | .agg o a=>.agg o (VL.mono h a)
 | .tuple a=>.tuple (VL.mono h a)
theorem VL.mono {φ c:aF} (h:φ.le c) {l l':List Value}:VL φ l l'→VL c l l'
 | .nil=>.nil
 | .cons a b=>.cons (V.mono h a) (VL.mono h b)
end
theorem VL.length {φ:aF}:∀{l l':List Value},VL φ l l'→l.length=l'.length
 |_,_,.nil=>rfl
 |_,_,.cons _ b=>by simp [VL.length b]
theorem VL.get {φ:aF}:∀{l l':List Value},VL φ l l'→∀(j:Nat) (v:Value),l[j]?=some v→∃v',l'[j]?=some v'∧V φ v v'
 |_,_,.nil,j,v,h=>by simp at h
 |_,_,.cons a b,0,v,h=>by simp at h;subst h;exact ⟨_,by simp,a⟩
 |_,_,.cons a b,j+1,v,h=>by simpa using VL.get b j v (by simpa using h)
theorem VL.q7 {φ:aF}:∀{l l':List Value},l.length=l'.length→(∀(j:Nat) (v:Value),l[j]?=some v→∃v',l'[j]?=some v'∧V φ v v')→VL φ l l'
 |[],[],_,_=>.nil
 |v::l,v'::l',h,g=>by
  obtain ⟨u,a,c⟩:=g 0 v (by simp);simp at a;subst a;exact .cons c (VL.q7 (by simpa using h) fun j x b=>by simpa using g (j+1) x (by simpa using b))
 |[],_::_,h,_=>by simp at h
 |_::_,[],h,_=>by simp at h
theorem VL.append {φ:aF}:∀{l l' m c:List Value},VL φ l l'→VL φ m c→VL φ (l++m) (l'++c)
 |_,_,_,_,.nil,h=>h
 |_,_,_,_,.cons a b,h=>.cons a (VL.append b h)
theorem VL.take {φ:aF}:∀{l l':List Value} (n:Nat),VL φ l l'→VL φ (l.take n) (l'.take n)
 |_,_,0,_=>by simpa using VL.nil
 |_,_,n+1,.nil=>by simpa using VL.nil
 |_,_,n+1,.cons a b=>by simpa using VL.cons a (VL.take n b)
theorem VL.drop {φ:aF}:∀{l l':List Value} (n:Nat),VL φ l l'→VL φ (l.drop n) (l'.drop n)
 |_,_,0,h=>by simpa using h
 |_,_,n+1,.nil=>by simpa using VL.nil
 |_,_,n+1,.cons a b=>by simpa using VL.drop n b
theorem VL.bw {φ:aF}:∀{l l':List Value} (k:Nat) {m c:List Value},VL φ l l'→VL φ m c→VL φ (bw l k m) (bw l' k c)
 |_,_,0,m,c,h,g=>by
  have d:∀(l m:List Value),A.bw l 0 m=m++l.drop m.length:=fun l m=>by cases l<;>rfl
  rw [d,d,g.length];exact VL.append g (VL.drop _ h)
 |_,_,k+1,m,c,.nil,g=>.nil
 |_,_,k+1,m,c,.cons a b,g=>.cons a (VL.bw k b g)
theorem VL.same {φ:aF}:∀{l:List Value},l.all flat=true→VL φ l l
 |[],_=>.nil
 |v::l,h=>by
  simp only [List.all_cons,OK]at h;exact .cons (.same h.1) (VL.same h.2)
theorem q8 {v:Value} (h:flat v=true):one v=true:=by cases v<;>first|rfl|simp [flat]at h
theorem bD:∀{l:List Value},l.all flat=true→l.all one=true
 |[],_=>rfl
 |v::l,h=>by
  simp only [List.all_cons,OK]at h⊢;exact ⟨q8 h.1,bD h.2⟩
theorem V.l6 {φ:aF} {v:Value} (h:lW v=true):V φ v v:=by
 cases v with
 |agg cs=>exact .agg (bD h) (VL.same h)
 |_=>exact .same h
theorem V.cells {φ:aF} {v v':Value} (h:V φ v v'):VL φ (aE v) v'.cells.toList:=by
 cases h with
 |agg _ h=>exact h
 | @same v d=>cases v<;>first|exact .cons (.same d) .nil|(simp [flat]at d)
 |ptr e=>exact .cons (.ptr e) .nil
 |sl e a b c=>exact .cons (.sl e a b c) .nil
 |dead=>exact .cons .dead .nil
 |mp e=>exact .cons (.mp e) .nil
 |fn a b=>exact .cons (.fn a b) .nil
 |iface a=>exact .cons (.iface a) .nil
 |tuple a=>exact .cons (.tuple a) .nil
theorem V.bool {φ:aF} {b:Bool} {v':Value} (h:V φ (.bool b) v'):v'= .bool b:=by cases h;rfl
theorem V.int {φ:aF} {k:IntKind} {n:Int} {v':Value} (h:V φ (.int k n) v'):v'= .int k n:=by cases h;rfl
theorem V.string {φ:aF} {s:ByteArray} {v':Value} (h:V φ (.string s) v'):v'= .string s:=by cases h;rfl
theorem V.l7 {φ:aF} {a:Addr} {v':Value} (h:V φ (.pointer (some a)) v'):∃l,a.spot=none∧φ.m a.block=some l∧v'= .pointer (some ⟨l.c,a.off+l.s,none⟩):=by
 cases h with
 |same e=>simp [flat]at e
 |ptr e=>exact ⟨_,rfl,e,rfl⟩
theorem V.z4 {φ:aF} {n c:Nat} {v':Value} (h:V φ (.slice none n c) v'):v'= .slice none n c:=by cases h;rfl
theorem V.qG {φ:aF} {a:Addr} {n c:Nat} {v':Value} (h:V φ (.slice (some a) n c) v'):
 (∃l c',a.spot=none∧φ.m a.block=some l∧c≤c'∧(c=0→c'=0)∧(c'=c∨a.off+l.s+c'*l.z≤l.n)∧v'= .slice (some ⟨l.c,a.off+l.s,none⟩) n c')∨
 (a.spot=some 1∧n=0∧c=0∧∃a' c',v'= .slice (some a') 0 c'):=by
 cases h with
 |same e=>simp [flat]at e
 |sl e d h2 b=>exact .inl ⟨_,_,rfl,e,d,h2,b,rfl⟩
 |dead=>exact .inr ⟨rfl,rfl,rfl,_,_,rfl⟩
theorem V.xB {φ:aF} {a:Option Addr} {n c:Nat} {v':Value} (h:V φ (.slice a n c) v'):∃a' c',v'= .slice a' n c'∧(a'=none↔a=none):=by
 cases a with
 |none=>exact ⟨_,_,V.z4 h,by simp⟩
 |some a=>
  rcases V.qG h with⟨l,c',_,_,_,_,_,rfl⟩|⟨_,rfl,rfl,a',c',rfl⟩
  ·exact ⟨_,_,rfl,by simp⟩
  ·exact ⟨_,_,rfl,by simp⟩
theorem V.K5 {φ:aF} {v':Value} (h:V φ (.map none) v'):v'= .map none:=by cases h;rfl
theorem V.Fu {φ:aF} {r:Nat} {v':Value} (h:V φ (.map (some r)) v'):∃l,φ.m r=some l∧v'= .map (some l.c):=by
 cases h with
 |same e=>simp [flat]at e
 |mp e=>exact ⟨_,e,rfl⟩
theorem V.K6 {φ:aF} {f:Fn} {a b:Array Value} {v':Value} (h:V φ (.func f a b) v'):∃a' b',v'= .func f a' b'∧VL φ a.toList a'.toList∧VL φ b.toList b'.toList:=by
 cases h with
 |same e=>simp [flat]at e
 |fn c h2=>exact ⟨_,_,rfl,c,h2⟩
theorem V.p7 {φ:aF} {a:Array Value} {v':Value} (h:V φ (.agg a) v'):∃a',v'= .agg a'∧VL φ a.toList a'.toList∧a.toList.all one=true:=by
 cases h with
 |same e=>simp [flat]at e
 |agg o h=>exact ⟨_,rfl,h,o⟩
theorem V.one {φ:aF} {v v':Value} (h:V φ v v'):v'.oneCell'=A.one v:=by
 cases h with
 | @same v a=>cases v<;>rfl
 |_=>rfl
theorem VL.one {φ:aF}:∀{l l':List Value},VL φ l l'→l.all A.one=true→∀v∈l',v.oneCell'=true
 |_,_,.nil,_,v,h=>by cases h
 |_,_,.cons a b,h,v,c=>by
  simp only [List.all_cons,OK]at h;rcases OZ.1 c with rfl|c
  ·rw [a.one];exact h.1
  ·exact VL.one b h.2 v c
theorem fT {φ:aF} {v v':Value} (h:V φ v v') (b:bu v=false):(aE v).all A.one=true:=by
 cases h with
 |agg o _=>exact o
 | @same v a=>cases v<;>first|rfl|(simp [flat]at a)
 |tuple _=>simp [bu]at b
 |_=>rfl
theorem V.Fv {φ:aF} {a:Array Value} {v':Value} (h:V φ (.tuple a) v'):∃a',v'= .tuple a'∧VL φ a.toList a'.toList:=by
 cases h with
 |same e=>simp [flat]at e
 |tuple h=>exact ⟨_,rfl,h⟩
inductive ML (φ:aF):List (Value×Value)→List MapEntry→Prop where
 |nil:ML φ [] []
 |cons {k v v':Value} {n:Nat} {l:List (Value×Value)} {l':List MapEntry}:V φ v v'→ML φ l l'→ML φ ((k,v)::l) (⟨k,v',n⟩::l')
theorem ML.mono {φ a:aF} (h:φ.le a):∀{l:List (Value×Value)} {l':List MapEntry},ML φ l l'→ML a l l'
 |_,_,.nil=>.nil
 |_,_,.cons b c=>.cons (b.mono h) (ML.mono h c)
def CR (φ:aF) (s:Nat) (cs:List Value) (arr:Array Value):Prop:=∀j v,cs[j]?=some v→one v=true∧∃v',arr[s+j]?=some v'∧V φ v v'
theorem CR.mono {φ a:aF} (h:φ.le a) {s:Nat} {cs:List Value} {arr:Array Value} (g:CR φ s cs arr):CR a s cs arr:=
 fun j v e=>let⟨o,b,c,h2⟩:=g j v e;⟨o,b,c,h2.mono h⟩
structure oz (φ:aF) (H:AH) (w:World) (c:Nat) (s:ByteArray):Prop where
 is:Lib.IsBuilderF BT BY φ.c0 c (Lib.strCells s) w
 apart:∀b l,φ.n0≤b→φ.m b=some l→(H.raw b).isSome=true→l.c≠c∧∀v,w.cell? ⟨c,1,none⟩=some v→v.ownBlock≠some l.c
theorem q9 {T e:TypeId} {B c:Nat} {a:List Value} {w w':World} (h:Lib.IsBuilderF T e B c a w) (m:w'.heap[c]?=w.heap[c]?) (l:∀v,w.cell? ⟨c,1,none⟩=some v→∀g,v.ownBlock=some g→w'.heap[g]?=w.heap[g]?):Lib.IsBuilderF T e B c a w':=by
 have key:∀p,Lib.BuilderAtF T e B c p a w→Lib.BuilderAtF T e B c p a w':=by
  rintro p ⟨n,v,d,b,k⟩;refine ⟨n,v,m.trans d,⟨b.1,?_⟩,k⟩;have o:w.cell? ⟨c,1,none⟩=some v:=by rw [Lib.cell_of_heap d];rfl
  rcases b.2 with q|⟨g,cap,cur,r,rfl,j,i,f⟩
  ·exact .inl q
  ·exact .inr ⟨g,cap,cur,r,rfl,j,(l _ o g rfl).trans i,f⟩
 rcases h with h|h
 ·exact .inl (key _ h)
 ·exact .inr (key _ h)
theorem xC {T e:TypeId} {B c:Nat} {d:List Value} {w:World} (h:Lib.IsBuilderF T e B c d w):B≤c∧c<w.heap.size∧∀v,w.cell? ⟨c,1,none⟩=some v→∀g,v.ownBlock=some g→B≤g∧g<w.heap.size:=by
 have key:∀p,Lib.BuilderAtF T e B c p d w→B≤c∧c<w.heap.size∧∀v,w.cell? ⟨c,1,none⟩=some v→∀g,v.ownBlock=some g→B≤g∧g<w.heap.size:=by
  rintro p ⟨j,v,b,f,k⟩;refine ⟨j,(OV.1 b).1,fun u a g i=>?_⟩;rw [Lib.cell_of_heap b]at a;have:v=u:=by simpa using a
  subst this;exact f.lt g i
 rcases h with h|h
 ·exact key _ h
 ·exact key _ h
theorem oz.jh {φ d:aF} {H r:AH} {w w':World} {c:Nat} {s:ByteArray} (h:oz φ H w c s) (A:d.c0=φ.c0) (p:∀k,k<w.heap.size→(k=c∨∃v,w.cell? ⟨c,1,none⟩=some v∧v.ownBlock=some k)→w'.heap[k]?=w.heap[k]?)
 (z:∀b l,d.n0≤b→d.m b=some l→(r.raw b).isSome=true→(φ.n0≤b∧φ.m b=some l∧(H.raw b).isSome=true)∨w.heap.size≤l.c∨∃b' l',φ.n0≤b'∧φ.m b'=some l'∧(H.raw b').isSome=true∧l'.c=l.c):oz d r w' c s:=by
 obtain ⟨D,t,o⟩:=xC h.is;have q:w'.heap[c]?=w.heap[c]?:=p c t (.inl rfl);have B:w'.cell? ⟨c,1,none⟩=w.cell? ⟨c,1,none⟩:=by simp [World.cell?,q]
 refine ⟨by rw [A];exact q9 h.is q fun v e g f=>p g (o v e g f).2 (.inr ⟨v,e,f⟩),fun b l y x u=>?_⟩;rw [B];rcases z b l y x u with⟨n,j,i⟩|a|⟨b',l',n,j,i,C⟩
 ·exact h.apart b l n j i
 ·exact ⟨by omega,fun v e f=>by have:=(o v e _ f).2;omega⟩
 ·rw [←C];exact h.apart b' l' n j i
structure Rel (w0:World) (φ:aF) (H:AH) (w:World):Prop where
 n0:H.n0=φ.n0
 j1:φ.n0≤φ.c0
 iN:φ.n0≤H.nx
 c0:φ.c0=w0.heap.size
 below:Below w0.heap.size w0 w
 dz:∀b,b<φ.n0→φ.m b=some ⟨b,0,0,1⟩
 eG:∀b z cs,b<φ.n0→H.raw b=some (.cells z cs)→∃e fz,w.heap[b]?=some (.cells cs.toArray e fz)
 cells:∀b l z cs,φ.n0≤b→φ.m b=some l→H.raw b=some (.cells z cs)→
  φ.c0≤l.c∧l.z=z∧l.s+cs.length≤l.n∧∃arr e,w.heap[l.c]?=some (.cells arr e (0,0))∧arr.size=l.n∧CR φ l.s cs arr∧e≠BY
 maps:∀b l es,φ.n0≤b→φ.m b=some l→H.raw b=some (.map es)→φ.c0≤l.c∧∃es' ck,w.heap[l.c]?=some (.map es' ck)∧ML φ es es'.toList
 inj:∀b1 b2 l1 l2,φ.n0≤b1→φ.n0≤b2→φ.m b1=some l1→φ.m b2=some l2→(H.raw b1).isSome=true→(H.raw b2).isSome=true→l1.c=l2.c→b1=b2
 j9:∀b s,H.bs=some (b,s)→φ.n0≤b∧H.raw b=none∧∃l,φ.m b=some l∧l.s=0∧oz φ H w l.c s
 l8:p6 w0
structure bx (φ:aF) (H:AH) (w:World) (bl:aF) (H':AH) (w':World):Prop where
 le:φ.le bl
 n0:bl.n0=φ.n0
 c0:bl.c0=φ.c0
 nx:H.nx≤H'.nx
 new:∀b l,φ.m b=none→bl.m b=some l→H.nx≤b∧b<H'.nx
 size:w.heap.size≤w'.heap.size
theorem bx.refl (φ:aF) (H:AH) (w:World):bx φ H w φ H w:=
 ⟨aF.le_refl _,rfl,rfl,OL _,fun _ _ h k=>(by rw [h]at k;cases k),OL _⟩
theorem bx.trans {φ c d:aF} {H H1 n:AH} {w g f:World} (h:bx φ H w c H1 g) (k:bx c H1 g d n f):bx φ H w d n f where
 le:=aF.le_trans h.le k.le
 n0:=k.n0.trans h.n0
 c0:=k.c0.trans h.c0
 nx:=O3 h.nx k.nx
 new:=fun b l e j=>by
  cases a:c.m b with
  |none=>exact ⟨O3 h.nx (k.new b l a j).1,(k.new b l a j).2⟩
  |some i=>exact ⟨(h.new b i e a).1,O4 (h.new b i e a).2 k.nx⟩
 size:=O3 h.size k.size
def iw (φ:aF) (H:AH):Prop:=∀b,H.nx≤b→φ.m b=none
theorem bx.fresh {φ a:aF} {H H':AH} {w w':World} (G:bx φ H w a H' w') (h:iw φ H):iw a H':=by
 intro b c
 cases e:a.m b with
 |none=>rfl
 |some l=>
  have:=(G.new b l (h b (O3 G.nx c)) e).2;omega
end Go.Proofs.Ytediokhgklkhnaa.A
