/- Texts that stand one behind the other: Abs2. -/
import Derived.Test.YtediokhgklkhnaaG2
import Derived.Below
import Derived.Lib.FrozenHead
set_option linter.unusedVariables false
set_option linter.unusedSimpArgs false
namespace Go.Proofs.Ytediokhgklkhnaa.A
open Go Go.RowKit
structure Loc where
 c:Nat
 s:Nat
 n:Nat
 z:Nat
structure aw where
 n0:Nat
 c0:Nat
 m:Nat→Option Loc
def aw.add (φ:aw) (b:Nat) (l:Loc):aw:={φ with m:=fun x=>if x=b then some l else φ.m x}
theorem aw.eg (φ:aw) (b:Nat) (l:Loc):(φ.add b l).m b=some l:=by simp [aw.add]
theorem ae {α:Type} {c:Bool} {x:Option α} {y:α} (h:(bif c then x else none)=some y):c=true∧x=some y:=by
 cases c
 ·cases h
 ·exact ⟨rfl,h⟩
mutual
inductive V (φ:aw):Value→Value→Prop where
 |same {v:Value}:flat v=true→V φ v v
 |ptr {b o:Nat} {l:Loc}:φ.m b=some l→V φ (.pointer (some ⟨b,o,none⟩)) (.pointer (some ⟨l.c,o+l.s,none⟩))
 |sl {b o n c c':Nat} {l:Loc}:φ.m b=some l→c≤c'→(c=0→c'=0)→(c'=c∨o+l.s+c'*l.z≤l.n)→V φ (.slice (some ⟨b,o,none⟩) n c) (.slice (some ⟨l.c,o+l.s,none⟩) n c')
 |dead {b o:Nat} {a':Addr} {c':Nat}:V φ (.slice (some ⟨b,o,some 1⟩) 0 0) (.slice (some a') 0 c')
 |mp {r:Nat} {l:Loc}:φ.m r=some l→V φ (.map (some r)) (.map (some l.c))
 |fn {f:Fn} {a b a' b':Array Value}:VL φ a.toList a'.toList→VL φ b.toList b'.toList→V φ (.func f a b) (.func f a' b')
 |iface {t:Nat} {v v':Value}:V φ v v'→V φ (.iface t v) (.iface t v')
 |agg {a a':Array Value}:a.toList.all one=true→VL φ a.toList a'.toList→V φ (.agg a) (.agg a')
 |tuple {a a':Array Value}:VL φ a.toList a'.toList→V φ (.tuple a) (.tuple a')
inductive VL (φ:aw):List Value→List Value→Prop where
 |nil:VL φ [] []
 |cons {v v':Value} {l l':List Value}:V φ v v'→VL φ l l'→VL φ (v::l) (v'::l')
end
def aw.le (φ ψ:aw):Prop:=∀b l,φ.m b=some l→ψ.m b=some l
theorem aw.le_refl (φ:aw):φ.le φ:=fun _ _ h=>h
theorem aw.le_trans {a b c:aw} (h:a.le b) (k:b.le c):a.le c:=fun x l e=>k x l (h x l e)
theorem aw.j2 {φ:aw} {b:Nat} {l:Loc} (h:φ.m b=none):φ.le (φ.add b l):=fun x k e=>by
 unfold aw.add;dsimp only;split
 ·rename_i a;subst a;rw [h]at e;cases e
 ·exact e
mutual
theorem V.mono {φ d:aw} (h:φ.le d) {v v':Value}:V φ v v'→V d v v'
 | .same e=>.same e
 | .ptr e=>.ptr (h _ _ e)
 | .sl e a b c=>.sl (h _ _ e) a b c
 | .dead=>.dead
 | .mp e=>.mp (h _ _ e)
 | .fn a b=>.fn (VL.mono h a) (VL.mono h b)
 | .iface a=>.iface (V.mono h a)
 | .agg o a=>.agg o (VL.mono h a)
 | .tuple a=>.tuple (VL.mono h a)
theorem VL.mono {φ c:aw} (h:φ.le c) {l l':List Value}:VL φ l l'→VL c l l'
 | .nil=>.nil
 | .cons a b=>.cons (V.mono h a) (VL.mono h b)
end
theorem VL.length {φ:aw}:∀{l l':List Value},VL φ l l'→l.length=l'.length
 |_,_,.nil=>rfl
 |_,_,.cons _ b=>by simp [VL.length b]
theorem VL.get {φ:aw}:∀{l l':List Value},VL φ l l'→∀(j:Nat) (v:Value),l[j]?=some v→∃v',l'[j]?=some v'∧V φ v v'
 |_,_,.nil,j,v,h=>by simp at h
 |_,_,.cons a b,0,v,h=>by simp at h;subst h;exact ⟨_,by simp,a⟩
 |_,_,.cons a b,j+1,v,h=>by simpa using VL.get b j v (by simpa using h)
theorem VL.pP {φ:aw}:∀{l l':List Value},l.length=l'.length→(∀(j:Nat) (v:Value),l[j]?=some v→∃v',l'[j]?=some v'∧V φ v v')→VL φ l l'
 |[],[],_,_=>.nil
 |v::l,v'::l',h,g=>by
  obtain ⟨u,a,c⟩:=g 0 v (by simp);simp at a;subst a;exact .cons c (VL.pP (by simpa using h) fun j x b=>by simpa using g (j+1) x (by simpa using b))
 |[],_::_,h,_=>by simp at h
 |_::_,[],h,_=>by simp at h
theorem VL.append {φ:aw}:∀{l l' m c:List Value},VL φ l l'→VL φ m c→VL φ (l++m) (l'++c)
 |_,_,_,_,.nil,h=>h
 |_,_,_,_,.cons a b,h=>.cons a (VL.append b h)
theorem VL.take {φ:aw}:∀{l l':List Value} (n:Nat),VL φ l l'→VL φ (l.take n) (l'.take n)
 |_,_,0,_=>by simpa using VL.nil
 |_,_,n+1,.nil=>by simpa using VL.nil
 |_,_,n+1,.cons a b=>by simpa using VL.cons a (VL.take n b)
theorem VL.drop {φ:aw}:∀{l l':List Value} (n:Nat),VL φ l l'→VL φ (l.drop n) (l'.drop n)
 |_,_,0,h=>by simpa using h
 |_,_,n+1,.nil=>by simpa using VL.nil
 |_,_,n+1,.cons a b=>by simpa using VL.drop n b
theorem VL.bh {φ:aw}:∀{l l':List Value} (k:Nat) {m c:List Value},VL φ l l'→VL φ m c→VL φ (bh l k m) (bh l' k c)
 |_,_,0,m,c,h,g=>by
  have d:∀(l m:List Value),A.bh l 0 m=m++l.drop m.length:=fun l m=>by cases l<;>rfl
  rw [d,d,g.length];exact VL.append g (VL.drop _ h)
 |_,_,k+1,m,c,.nil,g=>.nil
 |_,_,k+1,m,c,.cons a b,g=>.cons a (VL.bh k b g)
theorem VL.same {φ:aw}:∀{l:List Value},l.all flat=true→VL φ l l
 |[],_=>.nil
 |v::l,h=>by
  simp only [List.all_cons,MK]at h;exact .cons (.same h.1) (VL.same h.2)
theorem pQ {v:Value} (h:flat v=true):one v=true:=by cases v<;>first|rfl|simp [flat]at h
theorem bq:∀{l:List Value},l.all flat=true→l.all one=true
 |[],_=>rfl
 |v::l,h=>by
  simp only [List.all_cons,MK]at h⊢;exact ⟨pQ h.1,bq h.2⟩
theorem V.k8 {φ:aw} {v:Value} (h:kY v=true):V φ v v:=by
 cases v with
 |agg cs=>exact .agg (bq h) (VL.same h)
 |_=>exact .same h
theorem V.cells {φ:aw} {v v':Value} (h:V φ v v'):VL φ (av v) v'.cells.toList:=by
 cases h with
 |agg _ h=>exact h
 | @same v d=>cases v<;>first|exact .cons (.same d) .nil|(simp [flat]at d)
 |ptr e=>exact .cons (.ptr e) .nil
 |sl e a b c=>exact .cons (.sl e a b c) .nil
 |dead=>exact .cons .dead .nil
 |mp e=>exact .cons (.mp e) .nil
 |fn a b=>exact .cons (.fn a b) .nil
 |iface a=>exact .cons (.iface a) .nil
 |tuple a=>exact .cons (.tuple a) .nil
theorem V.bool {φ:aw} {b:Bool} {v':Value} (h:V φ (.bool b) v'):v'= .bool b:=by cases h;rfl
theorem V.int {φ:aw} {k:IntKind} {n:Int} {v':Value} (h:V φ (.int k n) v'):v'= .int k n:=by cases h;rfl
theorem V.string {φ:aw} {s:ByteArray} {v':Value} (h:V φ (.string s) v'):v'= .string s:=by cases h;rfl
theorem V.k9 {φ:aw} {a:Addr} {v':Value} (h:V φ (.pointer (some a)) v'):∃l,a.spot=none∧φ.m a.block=some l∧v'= .pointer (some ⟨l.c,a.off+l.s,none⟩):=by
 cases h with
 |same e=>simp [flat]at e
 |ptr e=>exact ⟨_,rfl,e,rfl⟩
theorem V.yv {φ:aw} {n c:Nat} {v':Value} (h:V φ (.slice none n c) v'):v'= .slice none n c:=by cases h;rfl
theorem V.pv {φ:aw} {a:Addr} {n c:Nat} {v':Value} (h:V φ (.slice (some a) n c) v'):
 (∃l c',a.spot=none∧φ.m a.block=some l∧c≤c'∧(c=0→c'=0)∧(c'=c∨a.off+l.s+c'*l.z≤l.n)∧v'= .slice (some ⟨l.c,a.off+l.s,none⟩) n c')∨
 (a.spot=some 1∧n=0∧c=0∧∃a' c',v'= .slice (some a') 0 c'):=by
 cases h with
 |same e=>simp [flat]at e
 |sl e d h2 b=>exact .inl ⟨_,_,rfl,e,d,h2,b,rfl⟩
 |dead=>exact .inr ⟨rfl,rfl,rfl,_,_,rfl⟩
theorem V.vQ {φ:aw} {a:Option Addr} {n c:Nat} {v':Value} (h:V φ (.slice a n c) v'):∃a' c',v'= .slice a' n c'∧(a'=none↔a=none):=by
 cases a with
 |none=>exact ⟨_,_,V.yv h,by simp⟩
 |some a=>
  rcases V.pv h with⟨l,c',_,_,_,_,_,rfl⟩|⟨_,rfl,rfl,a',c',rfl⟩
  ·exact ⟨_,_,rfl,by simp⟩
  ·exact ⟨_,_,rfl,by simp⟩
theorem V.Jk {φ:aw} {v':Value} (h:V φ (.map none) v'):v'= .map none:=by cases h;rfl
theorem V.DA {φ:aw} {r:Nat} {v':Value} (h:V φ (.map (some r)) v'):∃l,φ.m r=some l∧v'= .map (some l.c):=by
 cases h with
 |same e=>simp [flat]at e
 |mp e=>exact ⟨_,e,rfl⟩
theorem V.Jl {φ:aw} {f:Fn} {a b:Array Value} {v':Value} (h:V φ (.func f a b) v'):∃a' b',v'= .func f a' b'∧VL φ a.toList a'.toList∧VL φ b.toList b'.toList:=by
 cases h with
 |same e=>simp [flat]at e
 |fn c h2=>exact ⟨_,_,rfl,c,h2⟩
theorem V.oS {φ:aw} {a:Array Value} {v':Value} (h:V φ (.agg a) v'):∃a',v'= .agg a'∧VL φ a.toList a'.toList∧a.toList.all one=true:=by
 cases h with
 |same e=>simp [flat]at e
 |agg o h=>exact ⟨_,rfl,h,o⟩
theorem V.one {φ:aw} {v v':Value} (h:V φ v v'):v'.oneCell'=A.one v:=by
 cases h with
 | @same v a=>cases v<;>rfl
 |_=>rfl
theorem VL.one {φ:aw}:∀{l l':List Value},VL φ l l'→l.all A.one=true→∀v∈l',v.oneCell'=true
 |_,_,.nil,_,v,h=>by cases h
 |_,_,.cons a b,h,v,c=>by
  simp only [List.all_cons,MK]at h;rcases M0.1 c with rfl|c
  ·rw [a.one];exact h.1
  ·exact VL.one b h.2 v c
theorem fi {φ:aw} {v v':Value} (h:V φ v v') (b:bg v=false):(av v).all A.one=true:=by
 cases h with
 |agg o _=>exact o
 | @same v a=>cases v<;>first|rfl|(simp [flat]at a)
 |tuple _=>simp [bg]at b
 |_=>rfl
theorem V.DB {φ:aw} {a:Array Value} {v':Value} (h:V φ (.tuple a) v'):∃a',v'= .tuple a'∧VL φ a.toList a'.toList:=by
 cases h with
 |same e=>simp [flat]at e
 |tuple h=>exact ⟨_,rfl,h⟩
inductive ML (φ:aw):List (Value×Value)→List MapEntry→Prop where
 |nil:ML φ [] []
 |cons {k v v':Value} {n:Nat} {l:List (Value×Value)} {l':List MapEntry}:V φ v v'→ML φ l l'→ML φ ((k,v)::l) (⟨k,v',n⟩::l')
theorem ML.mono {φ a:aw} (h:φ.le a):∀{l:List (Value×Value)} {l':List MapEntry},ML φ l l'→ML a l l'
 |_,_,.nil=>.nil
 |_,_,.cons b c=>.cons (b.mono h) (ML.mono h c)
def CR (φ:aw) (s:Nat) (cs:List Value) (arr:Array Value):Prop:=∀j v,cs[j]?=some v→one v=true∧∃v',arr[s+j]?=some v'∧V φ v v'
theorem CR.mono {φ a:aw} (h:φ.le a) {s:Nat} {cs:List Value} {arr:Array Value} (g:CR φ s cs arr):CR a s cs arr:=
 fun j v e=>let⟨o,b,c,h2⟩:=g j v e;⟨o,b,c,h2.mono h⟩
structure nh (φ:aw) (H:AH) (w:World) (c:Nat) (s:ByteArray):Prop where
 is:Lib.IsBuilderF BT BY φ.c0 c (Lib.strCells s) w
 apart:∀b l,φ.n0≤b→φ.m b=some l→(H.raw b).isSome=true→l.c≠c∧∀v,w.cell? ⟨c,1,none⟩=some v→v.ownBlock≠some l.c
theorem pR {T e:TypeId} {B c:Nat} {a:List Value} {w w':World} (h:Lib.IsBuilderF T e B c a w) (m:w'.heap[c]?=w.heap[c]?) (l:∀v,w.cell? ⟨c,1,none⟩=some v→∀g,v.ownBlock=some g→w'.heap[g]?=w.heap[g]?):Lib.IsBuilderF T e B c a w':=by
 have key:∀p,Lib.BuilderAtF T e B c p a w→Lib.BuilderAtF T e B c p a w':=by
  rintro p ⟨n,v,d,b,k⟩;refine ⟨n,v,m.trans d,⟨b.1,?_⟩,k⟩;have o:w.cell? ⟨c,1,none⟩=some v:=by rw [Lib.cell_of_heap d];rfl
  rcases b.2 with q|⟨g,cap,cur,r,rfl,j,i,f⟩
  ·exact .inl q
  ·exact .inr ⟨g,cap,cur,r,rfl,j,(l _ o g rfl).trans i,f⟩
 rcases h with h|h
 ·exact .inl (key _ h)
 ·exact .inr (key _ h)
theorem vR {T e:TypeId} {B c:Nat} {d:List Value} {w:World} (h:Lib.IsBuilderF T e B c d w):B≤c∧c<w.heap.size∧∀v,w.cell? ⟨c,1,none⟩=some v→∀g,v.ownBlock=some g→B≤g∧g<w.heap.size:=by
 have key:∀p,Lib.BuilderAtF T e B c p d w→B≤c∧c<w.heap.size∧∀v,w.cell? ⟨c,1,none⟩=some v→∀g,v.ownBlock=some g→B≤g∧g<w.heap.size:=by
  rintro p ⟨j,v,b,f,k⟩;refine ⟨j,(MW.1 b).1,fun u a g i=>?_⟩;rw [Lib.cell_of_heap b]at a;have:v=u:=by simpa using a
  subst this;exact f.lt g i
 rcases h with h|h
 ·exact key _ h
 ·exact key _ h
theorem nh.iA {φ d:aw} {H r:AH} {w w':World} {c:Nat} {s:ByteArray} (h:nh φ H w c s) (A:d.c0=φ.c0) (p:∀k,k<w.heap.size→(k=c∨∃v,w.cell? ⟨c,1,none⟩=some v∧v.ownBlock=some k)→w'.heap[k]?=w.heap[k]?)
 (z:∀b l,d.n0≤b→d.m b=some l→(r.raw b).isSome=true→(φ.n0≤b∧φ.m b=some l∧(H.raw b).isSome=true)∨w.heap.size≤l.c∨∃b' l',φ.n0≤b'∧φ.m b'=some l'∧(H.raw b').isSome=true∧l'.c=l.c):nh d r w' c s:=by
 obtain ⟨D,t,o⟩:=vR h.is;have q:w'.heap[c]?=w.heap[c]?:=p c t (.inl rfl);have B:w'.cell? ⟨c,1,none⟩=w.cell? ⟨c,1,none⟩:=by simp [World.cell?,q]
 refine ⟨by rw [A];exact pR h.is q fun v e g f=>p g (o v e g f).2 (.inr ⟨v,e,f⟩),fun b l y x u=>?_⟩;rw [B];rcases z b l y x u with⟨n,j,i⟩|a|⟨b',l',n,j,i,C⟩
 ·exact h.apart b l n j i
 ·exact ⟨by omega,fun v e f=>by have:=(o v e _ f).2;omega⟩
 ·rw [←C];exact h.apart b' l' n j i
structure Rel (w0:World) (φ:aw) (H:AH) (w:World):Prop where
 n0:H.n0=φ.n0
 jr:φ.n0≤φ.c0
 hJ:φ.n0≤H.nx
 c0:φ.c0=w0.heap.size
 below:Below w0.heap.size w0 w
 dd:∀b,b<φ.n0→φ.m b=some ⟨b,0,0,1⟩
 dX:∀b z cs,b<φ.n0→H.raw b=some (.cells z cs)→∃e fz,w.heap[b]?=some (.cells cs.toArray e fz)
 cells:∀b l z cs,φ.n0≤b→φ.m b=some l→H.raw b=some (.cells z cs)→
  φ.c0≤l.c∧l.z=z∧l.s+cs.length≤l.n∧∃arr e,w.heap[l.c]?=some (.cells arr e (0,0))∧arr.size=l.n∧CR φ l.s cs arr∧e≠BY
 maps:∀b l es,φ.n0≤b→φ.m b=some l→H.raw b=some (.map es)→φ.c0≤l.c∧∃es' ck,w.heap[l.c]?=some (.map es' ck)∧ML φ es es'.toList
 inj:∀b1 b2 l1 l2,φ.n0≤b1→φ.n0≤b2→φ.m b1=some l1→φ.m b2=some l2→(H.raw b1).isSome=true→(H.raw b2).isSome=true→l1.c=l2.c→b1=b2
 jz:∀b s,H.bs=some (b,s)→φ.n0≤b∧H.raw b=none∧∃l,φ.m b=some l∧l.s=0∧nh φ H w l.c s
 la:oR w0
structure bj (φ:aw) (H:AH) (w:World) (aZ:aw) (H':AH) (w':World):Prop where
 le:φ.le aZ
 n0:aZ.n0=φ.n0
 c0:aZ.c0=φ.c0
 nx:H.nx≤H'.nx
 new:∀b l,φ.m b=none→aZ.m b=some l→H.nx≤b∧b<H'.nx
 size:w.heap.size≤w'.heap.size
theorem bj.refl (φ:aw) (H:AH) (w:World):bj φ H w φ H w:=
 ⟨aw.le_refl _,rfl,rfl,MM _,fun _ _ h k=>(by rw [h]at k;cases k),MM _⟩
theorem bj.trans {φ c d:aw} {H H1 n:AH} {w g f:World} (h:bj φ H w c H1 g) (k:bj c H1 g d n f):bj φ H w d n f where
 le:=aw.le_trans h.le k.le
 n0:=k.n0.trans h.n0
 c0:=k.c0.trans h.c0
 nx:=M5 h.nx k.nx
 new:=fun b l e j=>by
  cases a:c.m b with
  |none=>exact ⟨M5 h.nx (k.new b l a j).1,(k.new b l a j).2⟩
  |some i=>exact ⟨(h.new b i e a).1,M6 (h.new b i e a).2 k.nx⟩
 size:=M5 h.size k.size
def gL (φ:aw) (H:AH):Prop:=∀b,H.nx≤b→φ.m b=none
theorem bj.fresh {φ a:aw} {H H':AH} {w w':World} (G:bj φ H w a H' w') (h:gL φ H):gL a H':=by
 intro b c
 cases e:a.m b with
 |none=>rfl
 |some l=>
  have:=(G.new b l (h b (M5 G.nx c)) e).2;omega
end Go.Proofs.Ytediokhgklkhnaa.A
