/- Texts that stand one behind the other: Abs2. -/
import Derived.Test.YtppcmpmnglaleaaGreatDoorG2
import Derived.Below
import Derived.Lib.FrozenHead
set_option linter.unusedVariables false
set_option linter.unusedSimpArgs false
namespace Go.Proofs.YtppcmpmnglaleaaGreatDoor.A
open Go Go.RowKit
structure Loc where
 c:Nat
 s:Nat
 n:Nat
 z:Nat
structure bl where
 n0:Nat
 c0:Nat
 m:Nat→Option Loc
def bl.add (φ:bl) (b:Nat) (l:Loc):bl:={φ with m:=fun x=>if x=b then some l else φ.m x}
theorem bl.jZ (φ:bl) (b:Nat) (l:Loc):(φ.add b l).m b=some l:=by simp [bl.add]
theorem au {α:Type} {c:Bool} {x:Option α} {y:α} (h:(bif c then x else none)=some y):c=true∧x=some y:=by
 cases c
 ·cases h
 ·exact ⟨rfl,h⟩
mutual
inductive V (φ:bl):Value→Value→Prop where
 |same {v:Value}:flat v=true→V φ v v
 |ptr {b o:Nat} {l:Loc}:φ.m b=some l→V φ (.pointer (some ⟨b,o,none⟩)) (.pointer (some ⟨l.c,o+l.s,none⟩))
 |sl {b o n c c':Nat} {l:Loc}:φ.m b=some l→c≤c'→(c=0→c'=0)→(c'=c∨o+l.s+c'*l.z≤l.n)→V φ (.slice (some ⟨b,o,none⟩) n c) (.slice (some ⟨l.c,o+l.s,none⟩) n c')
 |dead {b o:Nat} {a':Addr} {c':Nat}:V φ (.slice (some ⟨b,o,some 1⟩) 0 0) (.slice (some a') 0 c')
 |mp {r:Nat} {l:Loc}:φ.m r=some l→V φ (.map (some r)) (.map (some l.c))
 |fn {f:Fn} {a b a' b':Array Value}:VL φ a.toList a'.toList→VL φ b.toList b'.toList→V φ (.func f a b) (.func f a' b')
 |iface {t:Nat} {v v':Value}:V φ v v'→V φ (.iface t v) (.iface t v')
 |agg {a a':Array Value}:a.toList.all one=true→VL φ a.toList a'.toList→V φ (.agg a) (.agg a')
 |tuple {a a':Array Value}:VL φ a.toList a'.toList→V φ (.tuple a) (.tuple a')
inductive VL (φ:bl):List Value→List Value→Prop where
 |nil:VL φ [] []
 |cons {v v':Value} {l l':List Value}:V φ v v'→VL φ l l'→VL φ (v::l) (v'::l')
end
def bl.le (φ ψ:bl):Prop:=∀b l,φ.m b=some l→ψ.m b=some l
theorem bl.le_refl (φ:bl):φ.le φ:=fun _ _ h=>h
theorem bl.le_trans {a b c:bl} (h:a.le b) (k:b.le c):a.le c:=fun x l e=>k x l (h x l e)
theorem bl.sU {φ:bl} {b:Nat} {l:Loc} (h:φ.m b=none):φ.le (φ.add b l):=fun x k e=>by
 unfold bl.add
 dsimp only
 split
 ·rename_i hx;subst hx;rw [h]at e;cases e
 ·exact e
mutual
theorem V.mono {φ ψ:bl} (h:φ.le ψ) {v v':Value}:V φ v v'→V ψ v v'
 | .same e=>.same e
 | .ptr e=>.ptr (h _ _ e)
 | .sl e a b c=>.sl (h _ _ e) a b c
 | .dead=>.dead
 | .mp e=>.mp (h _ _ e)
 | .fn a b=>.fn (VL.mono h a) (VL.mono h b)
 | .iface a=>.iface (V.mono h a)
 | .agg o a=>.agg o (VL.mono h a)
 | .tuple a=>.tuple (VL.mono h a)
theorem VL.mono {φ ψ:bl} (h:φ.le ψ) {l l':List Value}:VL φ l l'→VL ψ l l'
 | .nil=>.nil
 | .cons a b=>.cons (V.mono h a) (VL.mono h b)
end
theorem VL.length {φ:bl}:∀{l l':List Value},VL φ l l'→l.length=l'.length
 |_,_,.nil=>rfl
 |_,_,.cons _ b=>by simp [VL.length b]
theorem VL.get {φ:bl}:∀{l l':List Value},VL φ l l'→∀(j:Nat) (v:Value),l[j]?=some v→∃v',l'[j]?=some v'∧V φ v v'
 |_,_,.nil,j,v,h=>by simp at h
 |_,_,.cons a b,0,v,h=>by simp at h;subst h;exact ⟨_,by simp,a⟩
 |_,_,.cons a b,j+1,v,h=>by simpa using VL.get b j v (by simpa using h)
theorem VL.Cs {φ:bl}:∀{l l':List Value},l.length=l'.length→(∀(j:Nat) (v:Value),l[j]?=some v→∃v',l'[j]?=some v'∧V φ v v')→VL φ l l'
 |[],[],_,_=>.nil
 |v::l,v'::l',h,g=>by
  obtain ⟨u,hu,hv⟩:=g 0 v (by simp)
  simp at hu
  subst hu
  exact .cons hv (VL.Cs (by simpa using h) fun j x hx=>by simpa using g (j+1) x (by simpa using hx))
 |[],_::_,h,_=>by simp at h
 |_::_,[],h,_=>by simp at h
theorem VL.append {φ:bl}:∀{l l' m m':List Value},VL φ l l'→VL φ m m'→VL φ (l++m) (l'++m')
 |_,_,_,_,.nil,h=>h
 |_,_,_,_,.cons a b,h=>.cons a (VL.append b h)
theorem VL.take {φ:bl}:∀{l l':List Value} (n:Nat),VL φ l l'→VL φ (l.take n) (l'.take n)
 |_,_,0,_=>by simpa using VL.nil
 |_,_,n+1,.nil=>by simpa using VL.nil
 |_,_,n+1,.cons a b=>by simpa using VL.cons a (VL.take n b)
theorem VL.drop {φ:bl}:∀{l l':List Value} (n:Nat),VL φ l l'→VL φ (l.drop n) (l'.drop n)
 |_,_,0,h=>by simpa using h
 |_,_,n+1,.nil=>by simpa using VL.nil
 |_,_,n+1,.cons a b=>by simpa using VL.drop n b
theorem VL.aF {φ:bl}:∀{l l':List Value} (k:Nat) {m m':List Value},VL φ l l'→VL φ m m'→VL φ (aF l k m) (aF l' k m')
 |_,_,0,m,m',h,g=>by
  have e1:∀(l m:List Value),A.aF l 0 m=m++l.drop m.length:=fun l m=>by cases l<;>rfl
  rw [e1,e1,g.length]
  exact VL.append g (VL.drop _ h)
 |_,_,k+1,m,m',.nil,g=>.nil
 |_,_,k+1,m,m',.cons a b,g=>.cons a (VL.aF k b g)
theorem VL.same {φ:bl}:∀{l:List Value},l.all flat=true→VL φ l l
 |[],_=>.nil
 |v::l,h=>by
  simp only [List.all_cons,alQ]at h
  exact .cons (.same h.1) (VL.same h.2)
theorem Ct {v:Value} (h:flat v=true):one v=true:=by cases v<;>first|rfl|simp [flat]at h
theorem ee:∀{l:List Value},l.all flat=true→l.all one=true
 |[],_=>rfl
 |v::l,h=>by
  simp only [List.all_cons,alQ]at h⊢
  exact ⟨Ct h.1,ee h.2⟩
theorem V.uL {φ:bl} {v:Value} (h:uG v=true):V φ v v:=by
 cases v with
 |agg cs=>exact .agg (ee h) (VL.same h)
 |_=>exact .same h
theorem V.cells {φ:bl} {v v':Value} (h:V φ v v'):VL φ (aP v) v'.cells.toList:=by
 cases h with
 |agg _ h=>exact h
 | @same v hv=>cases v<;>first|exact .cons (.same hv) .nil|(simp [flat]at hv)
 |ptr e=>exact .cons (.ptr e) .nil
 |sl e a b c=>exact .cons (.sl e a b c) .nil
 |dead=>exact .cons .dead .nil
 |mp e=>exact .cons (.mp e) .nil
 |fn a b=>exact .cons (.fn a b) .nil
 |iface a=>exact .cons (.iface a) .nil
 |tuple a=>exact .cons (.tuple a) .nil
theorem V.bool {φ:bl} {b:Bool} {v':Value} (h:V φ (.bool b) v'):v'= .bool b:=by cases h;rfl
theorem V.int {φ:bl} {k:IntKind} {n:Int} {v':Value} (h:V φ (.int k n) v'):v'= .int k n:=by cases h;rfl
theorem V.string {φ:bl} {s:ByteArray} {v':Value} (h:V φ (.string s) v'):v'= .string s:=by cases h;rfl
theorem V.uM {φ:bl} {a:Addr} {v':Value} (h:V φ (.pointer (some a)) v'):∃l,a.spot=none∧φ.m a.block=some l∧v'= .pointer (some ⟨l.c,a.off+l.s,none⟩):=by
 cases h with
 |same e=>simp [flat]at e
 |ptr e=>exact ⟨_,rfl,e,rfl⟩
theorem V.OX {φ:bl} {n c:Nat} {v':Value} (h:V φ (.slice none n c) v'):v'= .slice none n c:=by cases h;rfl
theorem V.Cu {φ:bl} {a:Addr} {n c:Nat} {v':Value} (h:V φ (.slice (some a) n c) v'):
 (∃l c',a.spot=none∧φ.m a.block=some l∧c≤c'∧(c=0→c'=0)∧(c'=c∨a.off+l.s+c'*l.z≤l.n)∧v'= .slice (some ⟨l.c,a.off+l.s,none⟩) n c')∨
 (a.spot=some 1∧n=0∧c=0∧∃a' c',v'= .slice (some a') 0 c'):=by
 cases h with
 |same e=>simp [flat]at e
 |sl e h1 h2 h3=>exact .inl ⟨_,_,rfl,e,h1,h2,h3,rfl⟩
 |dead=>exact .inr ⟨rfl,rfl,rfl,_,_,rfl⟩
theorem V.OY {φ:bl} {a:Option Addr} {n c:Nat} {v':Value} (h:V φ (.slice a n c) v'):∃a' c',v'= .slice a' n c'∧(a'=none↔a=none):=by
 cases a with
 |none=>exact ⟨_,_,V.OX h,by simp⟩
 |some a=>
  rcases V.Cu h with⟨l,c',_,_,_,_,_,rfl⟩|⟨_,rfl,rfl,a',c',rfl⟩
  ·exact ⟨_,_,rfl,by simp⟩
  ·exact ⟨_,_,rfl,by simp⟩
theorem V.mp0 {φ:bl} {v':Value} (h:V φ (.map none) v'):v'= .map none:=by cases h;rfl
theorem V.Xm {φ:bl} {r:Nat} {v':Value} (h:V φ (.map (some r)) v'):∃l,φ.m r=some l∧v'= .map (some l.c):=by
 cases h with
 |same e=>simp [flat]at e
 |mp e=>exact ⟨_,e,rfl⟩
theorem V.fn1 {φ:bl} {f:Fn} {a b:Array Value} {v':Value} (h:V φ (.func f a b) v'):∃a' b',v'= .func f a' b'∧VL φ a.toList a'.toList∧VL φ b.toList b'.toList:=by
 cases h with
 |same e=>simp [flat]at e
 |fn h1 h2=>exact ⟨_,_,rfl,h1,h2⟩
theorem V.AG {φ:bl} {a:Array Value} {v':Value} (h:V φ (.agg a) v'):∃a',v'= .agg a'∧VL φ a.toList a'.toList∧a.toList.all one=true:=by
 cases h with
 |same e=>simp [flat]at e
 |agg o h=>exact ⟨_,rfl,h,o⟩
theorem V.one {φ:bl} {v v':Value} (h:V φ v v'):v'.oneCell'=A.one v:=by
 cases h with
 | @same v hv=>cases v<;>rfl
 |_=>rfl
theorem VL.one {φ:bl}:∀{l l':List Value},VL φ l l'→l.all A.one=true→∀v∈l',v.oneCell'=true
 |_,_,.nil,_,v,h=>by cases h
 |_,_,.cons a b,h,v,hv=>by
  simp only [List.all_cons,alQ]at h
  rcases List.mem_cons.1 hv with rfl|hv
  ·rw [a.one];exact h.1
  ·exact VL.one b h.2 v hv
theorem lO {φ:bl} {v v':Value} (h:V φ v v') (ht:cv v=false):(aP v).all A.one=true:=by
 cases h with
 |agg o _=>exact o
 | @same v hv=>cases v<;>first|rfl|(simp [flat]at hv)
 |tuple _=>simp [cv]at ht
 |_=>rfl
theorem V.Xn {φ:bl} {a:Array Value} {v':Value} (h:V φ (.tuple a) v'):∃a',v'= .tuple a'∧VL φ a.toList a'.toList:=by
 cases h with
 |same e=>simp [flat]at e
 |tuple h=>exact ⟨_,rfl,h⟩
inductive ML (φ:bl):List (Value×Value)→List MapEntry→Prop where
 |nil:ML φ [] []
 |cons {k v v':Value} {n:Nat} {l:List (Value×Value)} {l':List MapEntry}:V φ v v'→ML φ l l'→ML φ ((k,v)::l) (⟨k,v',n⟩::l')
theorem ML.mono {φ ψ:bl} (h:φ.le ψ):∀{l:List (Value×Value)} {l':List MapEntry},ML φ l l'→ML ψ l l'
 |_,_,.nil=>.nil
 |_,_,.cons b c=>.cons (b.mono h) (ML.mono h c)
def CR (φ:bl) (s:Nat) (cs:List Value) (arr:Array Value):Prop:=∀j v,cs[j]?=some v→one v=true∧∃v',arr[s+j]?=some v'∧V φ v v'
theorem CR.mono {φ ψ:bl} (h:φ.le ψ) {s:Nat} {cs:List Value} {arr:Array Value} (g:CR φ s cs arr):CR ψ s cs arr:=
 fun j v e=>let⟨o,v',h1,h2⟩:=g j v e;⟨o,v',h1,h2.mono h⟩
structure yN (φ:bl) (H:AH) (w:World) (c:Nat) (s:ByteArray):Prop where
 is:Lib.IsBuilderF BT BY φ.c0 c (Lib.strCells s) w
 apart:∀b l,φ.n0≤b→φ.m b=some l→(H.raw b).isSome=true→l.c≠c∧∀v,w.cell? ⟨c,1,none⟩=some v→v.ownBlock≠some l.c
theorem Cv {T e:TypeId} {B c:Nat} {bs:List Value} {w w':World} (h:Lib.IsBuilderF T e B c bs w) (hc:w'.heap[c]?=w.heap[c]?) (hg:∀v,w.cell? ⟨c,1,none⟩=some v→∀g,v.ownBlock=some g→w'.heap[g]?=w.heap[g]?):Lib.IsBuilderF T e B c bs w':=by
 have key:∀p,Lib.BuilderAtF T e B c p bs w→Lib.BuilderAtF T e B c p bs w':=by
  rintro p ⟨hB,v,hb,ho,hn⟩
  refine ⟨hB,v,hc.trans hb,⟨ho.1,?_⟩,hn⟩
  have h1:w.cell? ⟨c,1,none⟩=some v:=by rw [Lib.cell_of_heap hb];rfl
  rcases ho.2 with q|⟨g,cap,cur,fz,rfl,q1,q2,q3⟩
  ·exact .inl q
  ·exact .inr ⟨g,cap,cur,fz,rfl,q1,(hg _ h1 g rfl).trans q2,q3⟩
 rcases h with h|h
 ·exact .inl (key _ h)
 ·exact .inr (key _ h)
theorem Ly {T e:TypeId} {B c:Nat} {bs:List Value} {w:World} (h:Lib.IsBuilderF T e B c bs w):B≤c∧c<w.heap.size∧∀v,w.cell? ⟨c,1,none⟩=some v→∀g,v.ownBlock=some g→B≤g∧g<w.heap.size:=by
 have key:∀p,Lib.BuilderAtF T e B c p bs w→B≤c∧c<w.heap.size∧∀v,w.cell? ⟨c,1,none⟩=some v→∀g,v.ownBlock=some g→B≤g∧g<w.heap.size:=by
  rintro p ⟨hB,v,hb,ho,hn⟩
  refine ⟨hB,(al1.1 hb).1,fun u hu g hg=>?_⟩
  rw [Lib.cell_of_heap hb]at hu
  have:v=u:=by simpa using hu
  subst this
  exact ho.lt g hg
 rcases h with h|h
 ·exact key _ h
 ·exact key _ h
theorem yN.pX {φ cN:bl} {H H':AH} {w w':World} {c:Nat} {s:ByteArray} (h:yN φ H w c s) (h0:cN.c0=φ.c0) (hk:∀k,k<w.heap.size→(k=c∨∃v,w.cell? ⟨c,1,none⟩=some v∧v.ownBlock=some k)→w'.heap[k]?=w.heap[k]?)
 (ha:∀b l,cN.n0≤b→cN.m b=some l→(H'.raw b).isSome=true→(φ.n0≤b∧φ.m b=some l∧(H.raw b).isSome=true)∨w.heap.size≤l.c∨∃b' l',φ.n0≤b'∧φ.m b'=some l'∧(H.raw b').isSome=true∧l'.c=l.c):yN cN H' w' c s:=by
 obtain ⟨q1,q2,q3⟩:=Ly h.is
 have hc:w'.heap[c]?=w.heap[c]?:=hk c q2 (.inl rfl)
 have e1:w'.cell? ⟨c,1,none⟩=w.cell? ⟨c,1,none⟩:=by simp [World.cell?,hc]
 refine ⟨by rw [h0];exact Cv h.is hc fun v hv g hg=>hk g (q3 v hv g hg).2 (.inr ⟨v,hv,hg⟩),fun b l hb hl hs=>?_⟩
 rw [e1]
 rcases ha b l hb hl hs with⟨a1,a2,a3⟩|a|⟨b',l',a1,a2,a3,a4⟩
 ·exact h.apart b l a1 a2 a3
 ·exact ⟨by omega,fun v hv hg=>by have:=(q3 v hv _ hg).2;omega⟩
 ·rw [←a4];exact h.apart b' l' a1 a2 a3
structure Rel (w0:World) (φ:bl) (H:AH) (w:World):Prop where
 n0:H.n0=φ.n0
 nE:φ.n0≤φ.c0
 oD:φ.n0≤H.nx
 c0:φ.c0=w0.heap.size
 below:Below w0.heap.size w0 w
 gg:∀b,b<φ.n0→φ.m b=some ⟨b,0,0,1⟩
 iU:∀b z cs,b<φ.n0→H.raw b=some (.cells z cs)→∃e fz,w.heap[b]?=some (.cells cs.toArray e fz)
 cells:∀b l z cs,φ.n0≤b→φ.m b=some l→H.raw b=some (.cells z cs)→
  φ.c0≤l.c∧l.z=z∧l.s+cs.length≤l.n∧∃arr e,w.heap[l.c]?=some (.cells arr e (0,0))∧arr.size=l.n∧CR φ l.s cs arr∧e≠BY
 maps:∀b l es,φ.n0≤b→φ.m b=some l→H.raw b=some (.map es)→φ.c0≤l.c∧∃es' ck,w.heap[l.c]?=some (.map es' ck)∧ML φ es es'.toList
 inj:∀b1 b2 l1 l2,φ.n0≤b1→φ.n0≤b2→φ.m b1=some l1→φ.m b2=some l2→(H.raw b1).isSome=true→(H.raw b2).isSome=true→l1.c=l2.c→b1=b2
 mr:∀b s,H.bs=some (b,s)→φ.n0≤b∧H.raw b=none∧∃l,φ.m b=some l∧l.s=0∧yN φ H w l.c s
 sV:uK w0
structure Grow (φ:bl) (H:AH) (w:World) (cN:bl) (H':AH) (w':World):Prop where
 le:φ.le cN
 n0:cN.n0=φ.n0
 c0:cN.c0=φ.c0
 nx:H.nx≤H'.nx
 new:∀b l,φ.m b=none→cN.m b=some l→H.nx≤b∧b<H'.nx
 size:w.heap.size≤w'.heap.size
theorem Grow.refl (φ:bl) (H:AH) (w:World):Grow φ H w φ H w:=
 ⟨bl.le_refl _,rfl,rfl,alR _,fun _ _ h k=>(by rw [h]at k;cases k),alR _⟩
theorem Grow.trans {φ jV kJ:bl} {H H1 H2:AH} {w w1 w2:World} (h:Grow φ H w jV H1 w1) (k:Grow jV H1 w1 kJ H2 w2):Grow φ H w kJ H2 w2 where
 le:=bl.le_trans h.le k.le
 n0:=k.n0.trans h.n0
 c0:=k.c0.trans h.c0
 nx:=Nat.le_trans h.nx k.nx
 new:=fun b l e e2=>by
  cases e1:jV.m b with
  |none=>exact ⟨Nat.le_trans h.nx (k.new b l e1 e2).1,(k.new b l e1 e2).2⟩
  |some l1=>exact ⟨(h.new b l1 e e1).1,Nat.lt_of_lt_of_le (h.new b l1 e e1).2 k.nx⟩
 size:=Nat.le_trans h.size k.size
def oE (φ:bl) (H:AH):Prop:=∀b,H.nx≤b→φ.m b=none
theorem Grow.fresh {φ cN:bl} {H H':AH} {w w':World} (G:Grow φ H w cN H' w') (h:oE φ H):oE cN H':=by
 intro b hb
 cases e:cN.m b with
 |none=>rfl
 |some l=>
  have:=(G.new b l (h b (Nat.le_trans G.nx hb)) e).2
  omega
end Go.Proofs.YtppcmpmnglaleaaGreatDoor.A
