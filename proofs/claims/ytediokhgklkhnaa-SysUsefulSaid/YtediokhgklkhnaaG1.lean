/- Texts that stand one behind the other: Abs0, Abs1. -/
import Derived.WalkKit
set_option linter.unusedVariables false
set_option linter.unusedSimpArgs false
namespace Go.Proofs.Ytediokhgklkhnaa.A
open Go
abbrev OF:= @List.getElem?_cons_zero
abbrev OG:= @List.getElem?_eq_getElem
abbrev OH:= @Option.some.injEq
abbrev OJ:= @Option.some.inj
abbrev OK:= @Bool.and_eq_true
abbrev OL:= @Nat.le_refl
abbrev OM:= @List.mem_of_getElem?
abbrev ON:= @List.getElem?_eq_some_iff
abbrev OO:= @List.take_of_length_le
abbrev OP:= @Prod.mk.injEq
abbrev OQ:= @List.length_append
abbrev OR:= @Option.map_eq_some_iff
abbrev OS:= @Option.bind_eq_some_iff
abbrev OT:= @decide_eq_true_eq
abbrev OU:= @List.getElem?_append_left
abbrev OV:= @Array.getElem?_eq_some_iff
abbrev OW:= @Nat.lt_succ_self
abbrev OX:= @List.all_eq_true
abbrev OY:= @List.getElem?_append_right
abbrev OZ:= @List.mem_cons
abbrev O0:= @ByteArray.size_append
abbrev O1:= @List.mem_append
abbrev O2:= @List.take_add_one
abbrev O3:= @Nat.le_trans
abbrev O4:= @Nat.lt_of_lt_of_le
abbrev O5:= @List.getElem?_set_ne
abbrev O6:= @List.append_assoc
abbrev O7:= @Nat.not_lt_zero
abbrev O8:= @Nat.le_succ
abbrev O9:= @Nat.zero_le
abbrev Pa:= @List.length_eq_zero_iff
abbrev Pb:= @List.getElem?_map
abbrev Pc:= @List.sizeOf_lt_of_mem
abbrev Pd:= @Bool.eq_iff_iff
abbrev Pe:= @List.mem_map
abbrev Pf:= @List.eq_nil_of_length_eq_zero
abbrev Pg:= @List.getElem?_take
abbrev Ph:= @List.not_mem_nil
abbrev Pj:= @List.getElem?_set_self
abbrev Pk:= @Option.isSome_iff_exists
abbrev Pl:= @Bool.eq_false_iff
abbrev Pm:= @List.getElem?_drop
abbrev Pn:= @List.getElem?_eq_none
abbrev Po:= @List.length_eq_one_iff
inductive T (α:Type)where
 |nil
 |node (v:α) (l r:T α)
def T.get {α:Type} (d:α):T α→Nat→α
 | .nil,_=>d
 | .node v l r,n=>bif Nat.beq n 0 then v else bif Nat.beq (n%2) 1 then l.get d (n/2)else r.get d (n/2- 1)
def T.put {α:Type} (d:α) (x:α):Nat→T α→Nat→T α
 |0,t,_=>t
 |f+1,.nil,n=>bif Nat.beq n 0 then .node x .nil .nil else bif Nat.beq (n%2) 1 then .node d (T.put d x f .nil (n/2)) .nil else .node d .nil (T.put d x f .nil (n/2- 1))
 |f+1,.node v l r,n=>bif Nat.beq n 0 then .node x l r else bif Nat.beq (n%2) 1 then .node v (T.put d x f l (n/2)) r else .node v l (T.put d x f r (n/2- 1))
theorem nb (a b:Nat):Nat.beq a b=decide (a=b):=by
 cases h:Nat.beq a b
 ·exact (decide_eq_false (fun e=>by rw [e]at h;simp at h)).symm
 ·exact (decide_eq_true (Nat.eq_of_beq_eq_true h)).symm
theorem T.aN {α:Type} (d x:α):∀(f:Nat) (t:T α) (n m:Nat),n<f→(T.put d x f t n).get d m=if m=n then x else t.get d m:=by
 intro f
 induction f with
 |zero=>intro t n m h;omega
 |succ f ih=>
  intro t n m h
  cases t with
  |nil=>
   simp only [T.put,nb,Bool.cond_decide];by_cases c:n=0
   ·subst c
    simp only [if_true,T.get,nb,Bool.cond_decide];split<;>simp
   ·rw [if_neg c]
    by_cases b:n%2=1
    ·rw [if_pos b]
     simp only [T.get,nb,Bool.cond_decide];rw [ih _ _ _ (by omega)];split
     ·rw [if_neg (by omega)]
     ·split
      ·by_cases a:m=n
       ·subst a;simp
       ·rw [if_neg (by omega),if_neg a];rfl
      ·rw [if_neg (by omega)]
    ·rw [if_neg b]
     simp only [T.get,nb,Bool.cond_decide];rw [ih _ _ _ (by omega)];split
     ·rw [if_neg (by omega)]
     ·split
      ·rw [if_neg (by omega)]
      ·by_cases a:m=n
       ·subst a;simp
       ·rw [if_neg (by omega),if_neg a];rfl
  |node v l r=>
   simp only [T.put,nb,Bool.cond_decide];by_cases c:n=0
   ·subst c
    simp only [if_true,T.get,nb,Bool.cond_decide];split<;>simp
   ·rw [if_neg c]
    by_cases b:n%2=1
    ·rw [if_pos b]
     simp only [T.get,nb,Bool.cond_decide];rw [ih _ _ _ (by omega)];split
     ·rw [if_neg (by omega)]
     ·split
      ·by_cases a:m=n
       ·subst a;simp
       ·rw [if_neg (by omega),if_neg a]
      ·rw [if_neg (by omega)]
    ·rw [if_neg b]
     simp only [T.get,nb,Bool.cond_decide];rw [ih _ _ _ (by omega)];split
     ·rw [if_neg (by omega)]
     ·split
      ·rw [if_neg (by omega)]
      ·by_cases a:m=n
       ·subst a;simp
       ·rw [if_neg (by omega),if_neg a]
structure Fr where t:T Value
def Fr.get (f:Fr) (n:Nat):Value:=f.t.get undef n
def Fr.put (f:Fr) (n:Nat) (v:Value):Fr:=⟨T.put undef v (n+1) f.t n⟩
theorem Fr.aN (f:Fr) (n m:Nat) (v:Value):(f.put n v).get m=if m=n then v else f.get m:=T.aN _ _ _ _ _ _ (by omega)
def Fr.jd:Nat→List Value→Fr→Fr
 |_,[],f=>f
 |i,v::l,f=>Fr.jd (i+1) l (f.put i v)
def Fr.of (l:List Value):Fr:=Fr.jd 0 l ⟨.nil⟩
inductive jZ where
 |cells (z:Nat) (c:List Value)
 |map (es:List (Value×Value))
structure AH where
 base:Nat→Option jZ
 n0:Nat
 nx:Nat
 tr:T (Option (Option jZ))
 bs:Option (Nat×ByteArray)
def AH.raw (H:AH) (b:Nat):Option jZ:=match H.tr.get none b with|some x=>x|none=>H.base b
def AH.get (H:AH) (b:Nat):Option jZ:=bif Nat.blt b H.nx then H.raw b else none
def AH.put (H:AH) (b:Nat) (x:Option jZ):AH:={H with tr:=T.put none (some x) (b+1) H.tr b}
def AH.alloc (H:AH) (x:jZ):AH:={H with tr:=T.put none (some (some x)) (H.nx+1) H.tr H.nx,nx:=H.nx+1}
theorem qV (a b:Nat):Nat.blt a b=decide (a<b):=by
 have e:(Nat.blt a b=true)=(a<b):=Nat.blt_eq;cases h:Nat.blt a b
 ·have:¬ a<b:=by intro c;rw [←e,h]at c;cases c
  simp [this]
 ·have:a<b:=by rw [←e];exact h
  simp [this]
theorem AH.eM {H:AH} {b:Nat} {x:jZ} (h:H.get b=some x):b<H.nx:=by
 unfold AH.get at h;simp only [qV,Bool.cond_decide]at h;split at h
 ·assumption
 ·cases h
theorem AH.xw {H:AH} {b:Nat} (h:H.nx≤b):H.get b=none:=by
 unfold AH.get;simp only [qV,Bool.cond_decide];rw [if_neg (by omega)]
theorem AH.cL {H:AH} {b:Nat} {x:jZ} (h:H.get b=some x):H.raw b=some x:=by
 unfold AH.get at h;cases a:Nat.blt b H.nx<;>simp [a]at h;exact h
theorem AH.b6 {H:AH} {b:Nat} (h:b<H.nx):H.get b=H.raw b:=by
 unfold AH.get;rw [qV,decide_eq_true h,cond_true]
theorem AH.aW (H:AH) (b c:Nat) (x:Option jZ):(H.put b x).raw c=if c=b then x else H.raw c:=by
 unfold AH.raw AH.put;simp only [T.aN none (some x) (b+1) H.tr b c (by omega)];by_cases h:c=b
 ·subst h;simp
 ·simp [h]
theorem AH.aV (H:AH) (c:Nat) (x:jZ):(H.alloc x).raw c=if c=H.nx then some x else H.raw c:=by
 unfold AH.raw AH.alloc;simp only [T.aN none (some (some x)) (H.nx+1) H.tr H.nx c (by omega)];by_cases h:c=H.nx
 ·subst h;simp
 ·simp [h]
theorem AH.aN (H:AH) (b c:Nat) (x:Option jZ) (a:b<H.nx):(H.put b x).get c=if c=b then x else H.get c:=by
 unfold AH.get AH.raw AH.put;simp only [T.aN none (some x) (b+1) H.tr b c (by omega),qV,Bool.cond_decide];by_cases h:c=b
 ·subst h;simp [a]
 ·simp [h]
theorem AH.lV (H:AH) (b c:Nat):(H.put b none).get c=if c=b then none else H.get c:=by
 rcases Nat.lt_or_ge b H.nx with h|h
 ·exact AH.aN H b c none h
 ·by_cases a:c=b
  ·subst a;rw [if_pos rfl];exact AH.xw h
  ·rw [if_neg a]
   unfold AH.get AH.raw AH.put;simp only [T.aN none (some none) (b+1) H.tr b c (by omega),if_neg a]
theorem AH.cA (H:AH) (c:Nat) (x:jZ):(H.alloc x).get c=if c=H.nx then some x else H.get c:=by
 unfold AH.get AH.raw AH.alloc;simp only [T.aN none (some (some x)) (H.nx+1) H.tr H.nx c (by omega),qV,Bool.cond_decide];by_cases h:c=H.nx
 ·subst h;simp
 ·simp only [if_neg h]
  by_cases h2:c<H.nx
  ·rw [if_pos (by omega),if_pos h2]
  ·rw [if_neg (by omega),if_neg h2]
theorem AH.qW (H:AH) (b:Nat) (x:Option jZ):(H.put b x).nx=H.nx:=rfl
theorem AH.bP (H:AH) (x:jZ):(H.alloc x).nx=H.nx+1:=rfl
def aE:Value→List Value
 | .agg cs=>cs.toList
 |v=>[v]
def flat:Value→Bool
 | .bool _| .int _ _| .float _ _| .complex _ _ _| .string _| .pointer none| .slice none _ _| .map none| .chan none| .nilFunc| .nilIface=>true
 |_=>false
def lW:Value→Bool
 | .agg cs=>cs.toList.all flat
 |v=>flat v
def one:Value→Bool
 | .agg _| .tuple _=>false
 |_=>true
def bu:Value→Bool
 | .tuple _=>true
 |_=>false
def au (n0:Nat):Value→Option Value
 | .pointer (some a)=>bif decide (a.block<n0)&&a.spot.isNone then some (.pointer (some a))else none
 | .slice (some a) n c=>bif decide (a.block<n0)&&a.spot.isNone then some (.slice (some a) n c)else bif Nat.beq n 0 then some (.slice (some ⟨0,0,some 1⟩) 0 0)else none
 |v=>bif flat v then some v else none
def al (n0:Nat):List Value→Option (List Value)
 |[]=>some []
 |v::l=>match au n0 v,al n0 l with|some x,some m=>some (x::m)|_,_=>none
def bw:List Value→Nat→List Value→List Value
 |c,0,vs=>vs++c.drop vs.length
 |x::c,k+1,vs=>x::bw c k vs
 |[],_+1,_=>[]
def eC:List Value→List (Nat×Nat×Value)→Option (List Value)
 |c,[]=>some c
 |c,(off,n,v)::l=>bif Nat.beq (aE v).length n&&decide (off+n≤c.length)&& !bu v then eC (bw c off (aE v)) l else none
def AH.ldn (H:AH) (a:Addr) (n:Nat):Option (List Value):=
 match a.spot,H.get a.block with
 |none,some (.cells _ c)=>
  bif decide (a.off+n≤c.length)then
   (bif decide (a.block<H.n0)then al H.n0 ((c.drop a.off).take n)else some ((c.drop a.off).take n))
  else none
 |_,_=>none
def AH.ld (H:AH) (a:Addr):Option Value:=
 match a.spot,H.get a.block with
 |none,some (.cells _ c)=>
  match c[a.off]? with
  |some v=>bif decide (a.block<H.n0)then au H.n0 v else some v
  |none=>none
 |_,_=>none
def AH.st (H:AH) (a:Addr) (vs:List Value):Option AH:=
 match a.spot,H.get a.block with
 |none,some (.cells z c)=>bif decide (H.n0≤a.block)&&decide (a.off+vs.length≤c.length)then some (H.put a.block (some (.cells z (bw c a.off vs))))else none
 |_,_=>none
def AH.gj (H:AH) (b sz:Nat):Bool:=match H.get b with|some (.cells z _)=>decide (sz≤z)|_=>false
def fD (op:BinOp) (k:IntKind) (a b:Int):Option Value:=
 match op with
 | .add=>some (.int k (k.wrap (a+b)))
 | .sub=>some (.int k (k.wrap (a- b)))
 | .mul=>some (.int k (k.wrap (a*b)))
 | .quo=>if b=0 then none else some (.int k (k.wrap (a.tdiv b)))
 | .rem=>if b=0 then none else some (.int k (a.tmod b))
 | .and=>some (.int k (k.wrap (BitVec.ofInt k.bits a&&&BitVec.ofInt k.bits b).toNat))
 | .or=>some (.int k (k.wrap (BitVec.ofInt k.bits a|||BitVec.ofInt k.bits b).toNat))
 | .xor=>some (.int k (k.wrap (BitVec.ofInt k.bits a^^^BitVec.ofInt k.bits b).toNat))
 | .andNot=>some (.int k (k.wrap (BitVec.ofInt k.bits a&&&~~~BitVec.ofInt k.bits b).toNat))
 | .eql=>some (.bool (a==b))
 | .neq=>some (.bool (a !=b))
 | .lss=>some (.bool (decide (a<b)))
 | .leq=>some (.bool (decide (a≤b)))
 | .gtr=>some (.bool (decide (a>b)))
 | .geq=>some (.bool (decide (a≥b)))
 |_=>none
def cg (op:BinOp) (k:IntKind) (a:Int) (k':IntKind) (b:Int):Option Value:=
 match op with
 | .shl=>if b<0 then none else some (.int k (k.wrap (a*2^(min b.toNat k.bits))))
 | .shr=>if b<0 then none else some (.int k (a.fdiv (2^(min b.toNat k.bits))))
 |op=>if k=k' then fD op k a b else none
def ng (op:BinOp) (a b:ByteArray):Option Value:=
 match op with
 | .add=>if((a.size+b.size:Nat):Int)>IntKind.i64.max then none else some (.string (a++b))
 | .eql=>some (.bool (a.data.toList==b.data.toList))
 | .neq=>some (.bool (!(a.data.toList==b.data.toList)))
 |_=>none
def ba (op:BinOp) (x y:Value):Option Value:=
 match x,y with
 | .int k a,.int k' b=>cg op k a k' b
 | .string a,.string b=>ng op a b
 |_,_=>none
def cH:Nat→Value→Value→Option Bool
 |0,.bool a,.bool b=>some (a==b)
 |1,.pointer none,.pointer b=>some b.isNone
 |1,.pointer (some _),.pointer none=>some false
 |2,.slice none _ _,.slice b _ _=>some b.isNone
 |2,.slice (some _) _ _,.slice none _ _=>some false
 |3,.nilFunc,.nilFunc=>some true
 |3,.func _ _ _,.nilFunc=>some false
 |4,.map none,.map b=>some b.isNone
 |4,.map (some _),.map none=>some false
 |_,_,_=>none
def wb:UnOp→Value→Option Value
 | .not,.bool b=>some (.bool !b)
 | .neg,.int k n=>some (.int k (k.wrap (0- n)))
 |_,_=>none
def dL (v:Value) (y:Nat):Option Nat:=match v with| .int _ i=>if 0≤i∧i≤y then some i.toNat else none|_=>none
def aJ (len cap:Nat) (lo hi mx:Option Value):Option (Nat×Nat×Nat):=
 (match mx with|some v=>dL v cap|none=>some cap).bind fun m=>
 (match hi,mx with|some v,some _=>dL v m|some v,none=>dL v cap|none,none=>some len|none,some _=>none).bind fun h=>
 (match lo with|some v=>dL v h|none=>some 0).bind fun l=>some (l,h,m)
def a5 (sz:Nat) (H:AH) (x:Value) (lo hi mx:Option Value):Option Value:=
 match x with
 | .slice a len cap=>
  match aJ len cap lo hi mx with
  |none=>none
  |some (l,h,m)=>
   bif decide (h≤m)&& !Nat.beq sz 0 then
    match a with
    |none=>some (.slice none (h- l) (m- l))
    |some a=>
     if m=l then
      (if mx.isNone∧0<l then some (.slice (some ⟨a.block,a.off,some 1⟩) 0 0)else some (.slice (some a) (h- l) 0))
     else bif a.spot.isNone&&(Nat.beq l 0||H.gj a.block sz)then some (.slice (some ⟨a.block,a.off+l*sz,none⟩) (h- l) (m- l))else none
   else none
 | .string s=>
  match mx with
  |some _=>none
  |none=>match aJ s.size s.size lo hi none with|none=>none|some (l,h,_)=>bif Nat.beq sz 0 then some (.string (s.extract l h))else none
 |_=>none
def dM (H:AH) (sz:Nat) (n:Nat):Value→Option (List Value)
 | .slice (some a) _ _=>bif Nat.beq (n*sz) 0 then some []else H.ldn a (n*sz)
 | .slice none _ _=>some []
 | .string s=>some ((s.extract 0 n).data.toList.map fun b=>.int .u8 b.toNat)
 |_=>none
def fR:Value→Option Nat
 | .slice _ n _=>some n
 | .string s=>some s.size
 |_=>none
def je (H:AH) (sz:Nat):Value→Option (List Value)
 | .slice (some a) n _=>bif Nat.beq n 0 then some []else H.ldn a (n*sz)
 | .slice none n _=>bif Nat.beq n 0 then some []else none
 | .string s=>bif Nat.beq sz 1 then some (s.data.toList.map fun b=>.int .u8 b.toNat)else none
 |_=>none
def aK (sz bytes:Nat) (H:AH) (s x:Value):Option (Value×AH):=
 match s,fR x with
 | .slice base sl sc,some n=>
  if n=0 then(bif decide (sl≤sc)then some (s,H)else none)else
  match je H sz x with
  |none=>none
  |some new=>
   bif decide ((sl+n)*bytes≤2^47)&&decide (sl+n<2^62)then
    if sl+n≤sc then
     match base with
     |some a=>bif H.gj a.block sz&&a.spot.isNone then(H.st ⟨a.block,a.off+sl*sz,none⟩ new).map fun H'=>(.slice base (sl+n) sc,H')else none
     |none=>none
    else if sc=0 then
     (bif Nat.beq sl 0&&(match base with|some a=>a.spot.isNone|none=>true)then some (.slice (some ⟨H.nx,0,none⟩) n n,H.alloc (.cells sz new))else none)
    else match base with
     |some a=>
      bif decide (H.n0≤a.block)&&a.spot.isNone&&H.gj a.block sz then
       (H.ldn a (sl*sz)).map fun old=>(.slice (some ⟨H.nx,0,none⟩) (sl+n) (sl+n),(H.put a.block none).alloc (.cells sz (old++new)))
      else none
     |none=>none
   else none
 |_,_=>none
def eN (sz:Nat) (H:AH) (d s:Value):Option (Value×AH):=
 match d,fR s with
 | .slice base dl _,some m=>
  let n:=Nat.min m dl
  (dM H sz n s).bind fun c=>
  match base with
  |some a=>bif c.isEmpty then some (.int .i64 n,H)else(H.st a c).map fun H'=>(.int .i64 n,H')
  |none=>some (.int .i64 n,H)
 |_,_=>none
def dN:Value→Value→Option Bool
 | .int k a,.int k' b=>if k=k' then some (a==b)else none
 | .string a,.string b=>some (a.data.toList==b.data.toList)
 | .bool a,.bool b=>some (a==b)
 |_,_=>none
def dW (k:Value):List (Value×Value)→Option (Option Value)
 |[]=>some none
 |(k',v)::es=>match dN k k' with
  |some true=>some (some v)
  |some false=>dW k es
  |none=>none
def iI (k v:Value):List (Value×Value)→Option (List (Value×Value))
 |[]=>some [(k,v)]
 |(k',v')::es=>match dN k k' with
  |some true=>some ((k,v)::es)
  |some false=>(iI k v es).map fun l=>(k',v')::l
  |none=>none
def bf:Nat→Value→Bool
 |0,.int _ _=>true
 |1,.string _=>true
 |2,.bool _=>true
 |_,_=>false
def bq (cs ds:List Value):List (Nat×Nat)→Option Bool
 |[]=>some true
 |(o,kk)::l=>match cs[o]?,ds[o]? with
  |some a,some b=>bif bf kk a then(match dN a b with
   |some true=>bq cs ds l
   |some false=>some false
   |none=>none)else none
  |_,_=>none
def wc:Value→List Value→Option Value
 |v,[]=>some v
 | .int k a,.int _ b::l=>wc (.int k (if b>a then b else a)) l
 |_,_=>none
def we:Value→List Value→Option Value
 |v,[]=>some v
 | .int k a,.int _ b::l=>we (.int k (if b<a then b else a)) l
 |_,_=>none
inductive XK where
 |bad
 |pX (o n:Nat) (ag:Bool)
 |pY (len n:Nat) (ag:Bool)
 |j9
 |lX (len n:Nat)
 |mZ (z:List Value)
def iq (l:List Value) (n:Nat) (ag:Bool):Option Value:=bif Nat.beq l.length n then(bif ag then some (.agg l.toArray)else match l with|[v]=>some v|_=>none)else none
def kJ (k:XK) (vs:List Value) (H:AH):Option (Value×AH):=
 match k,vs with
 | .pX o n ag,[.agg cs]=>(iq ((cs.toList.drop o).take n) n ag).map fun v=>(v,H)
 | .pY len n ag,[.agg cs, .int _ i]=>if 0≤i∧i<len then(iq ((cs.toList.drop (i.toNat*n)).take n) n ag).map fun v=>(v,H)else none
 | .j9,[]=>some (.pointer (some ⟨H.nx,0,none⟩),{H with tr:=T.put none (some none) (H.nx+1) H.tr H.nx,nx:=H.nx+1,bs:=some (H.nx, .empty)})
 | .lX len _,[.pointer (some a)]=>some (.slice (some a) len len,H)
 | .mZ z,[.slice base n _]=>match base with
   |none=>some (.tuple #[],H)
   |some a=>bif Nat.beq n 0||z.isEmpty then some (.tuple #[],H)else(H.st a (List.replicate n z).flatten).map fun H'=>(.tuple #[],H')
 |_,_=>none
inductive X where
 |t (n:Nat)
 |k (v:Value)
 |f (n:Nat)
def X.ev (f:Fr):X→Value
 | .t n=>f.get n
 | .k v=>v
 | .f n=>.func (.func n) #[] #[]
inductive aY where
 |mv (x:X)
 |pick (c a b:X)
 |alloc (z:List Value)
 |box (x:X)
 |build (z:List Value) (ps:List (Nat×Nat×X))
 |bsl (len sz:Nat) (z:List Value) (ps:List (Nat×Nat×X))
 |ld (x:X)
 |ldn (n:Nat) (x:X)
 |st (n:Nat) (x v:X)
 |cM (x:X)
 |bin (op:BinOp) (x y:X)
 |eqk (k:Nat) (neg:Bool) (x y:X)
 |un (op:UnOp) (x:X)
 |j0 (k:IntKind) (x:X)
 |zZ (x:X)
 |mkf (f:Nat) (first cap:List X)
 |mkmap
 |mksl (sz bytes:Nat) (z:List Value) (x:X)
 |sl (sz:Nat) (x:X) (lo hi mx:Option X)
 |fa (off:Nat) (x:X)
 |ia (sz:Nat) (x i:X)
 |cv (len sz:Nat) (x i:X)
 |ix (x i:X)
 |look (kk:Nat) (z:Value) (x k:X) (ok:Bool)
 |qF (kk:Nat) (x k v:X)
 |ext (x:X) (i:Nat)
 |call (f:Nat) (as:List X)
 |callv (x:X) (as:List X)
 |app (sz bytes:Nat) (s x:X)
 |copy (sz:Nat) (d s:X)
 |lens (x:X)
 |eo (x:X)
 |z0 (t:Nat) (x:X)
 |mxl (x:X) (l:List X)
 |mnl (x:X) (l:List X)
 |eqs (neg:Bool) (offs:List (Nat×Nat)) (x y:X)
 |xt (k:XK) (l:List X)
def aY.xs:aY→List X
 | .mv x| .box x| .ld x| .ldn _ x| .cM x| .un _ x| .j0 _ x| .zZ x| .mksl _ _ _ x| .fa _ x| .ext x _| .lens x| .eo x| .z0 _ x=>[x]
 | .pick c a b=>[c,a,b]
 | .alloc _| .mkmap=>[]
 | .build _ ps| .bsl _ _ _ ps=>ps.map fun p=>p.2.2
 | .st _ x v=>[x,v]
 | .bin _ x y| .eqk _ _ x y| .ia _ x y| .cv _ _ x y| .ix x y| .look _ _ x y _| .app _ _ x y| .copy _ x y| .eqs _ _ x y=>[x,y]
 | .mkf _ a b=>a++b
 | .sl _ x lo hi mx=>x::(lo.toList++hi.toList++mx.toList)
 | .qF _ x k v=>[x,k,v]
 | .call _ as| .xt _ as=>as
 | .callv x as| .mxl x as| .mnl x as=>x::as
inductive dw where
 |v (x:Value)
 |enter (f:Nat) (as:List Value)
def aB (o:aY) (ρ:X→Value) (H:AH):Option (dw×AH):=
 match o with
 | .mv x=>some (.v (ρ x),H)
 | .pick c a b=>match ρ c with| .bool t=>some (.v (bif t then ρ a else ρ b),H)|_=>none
 | .alloc z=>some (.v (.pointer (some ⟨H.nx,0,none⟩)),H.alloc (.cells z.length z))
 | .box x=>bif bu (ρ x)then none else some (.v (.pointer (some ⟨H.nx,0,none⟩)),H.alloc (.cells (aE (ρ x)).length (aE (ρ x))))
 | .build z ps=>(eC z (ps.map fun p=>(p.1,p.2.1,ρ p.2.2))).map fun c=>(.v (.agg c.toArray),H)
 | .bsl len sz z ps=>(eC z (ps.map fun p=>(p.1,p.2.1,ρ p.2.2))).map fun c=>(.v (.slice (some ⟨H.nx,0,none⟩) len len),H.alloc (.cells sz c))
 | .ld x=>match ρ x with| .pointer (some a)=>(H.ld a).map fun v=>(.v v,H)|_=>none
 | .ldn n x=>match ρ x with| .pointer (some a)=>(H.ldn a n).map fun l=>(.v (.agg l.toArray),H)|_=>none
 | .st n x v=>match ρ x with| .pointer (some a)=>bif Nat.beq (aE (ρ v)).length n&& !bu (ρ v)then(H.st a (aE (ρ v))).map fun H'=>(.v undef,H')else none|_=>none
 | .cM x=>match ρ x with| .pointer (some a)=>some (.v (.pointer (some a)),H)|_=>none
 | .bin op x y=>(ba op (ρ x) (ρ y)).map fun v=>(.v v,H)
 | .eqk k neg x y=>(cH k (ρ x) (ρ y)).map fun b=>(.v (.bool (bif neg then !b else b)),H)
 | .un op x=>(wb op (ρ x)).map fun v=>(.v v,H)
 | .j0 k x=>match ρ x with| .int _ n=>some (.v (.int k (k.wrap n)),H)|_=>none
 | .zZ x=>match ρ x with| .int _ n=>some (.v (.string (Utf8.encode n)),H)|_=>none
 | .mkf f first cap=>some (.v (.func (.func f) (first.map ρ).toArray (cap.map ρ).toArray),H)
 | .mkmap=>some (.v (.map (some H.nx)),H.alloc (.map []))
 | .mksl sz bytes z x=>match ρ x with
   | .int k n=>bif decide (0≤n)&&decide (IntKind.i64.wrap n=n)&&decide (bytes*n≤2^47)then some (.v (.slice (some ⟨H.nx,0,none⟩) n.toNat n.toNat),H.alloc (.cells sz (List.replicate n.toNat z).flatten))else none
   |_=>none
 | .sl sz x lo hi mx=>(a5 sz H (ρ x) (lo.map ρ) (hi.map ρ) (mx.map ρ)).map fun v=>(.v v,H)
 | .fa off x=>match ρ x with| .pointer (some a)=>bif a.spot.isNone then some (.v (.pointer (some ⟨a.block,a.off+off,none⟩)),H)else none|_=>none
 | .ia sz x i=>match ρ x,ρ i with
   | .slice (some a) len _, .int _ n=>if 0≤n∧n<len then(bif a.spot.isNone then some (.v (.pointer (some ⟨a.block,a.off+n.toNat*sz,none⟩)),H)else none)else none
   |_,_=>none
 | .cv len sz x i=>match ρ x,ρ i with
   | .pointer (some a), .int _ n=>if 0≤n∧n<len then(bif a.spot.isNone then some (.v (.pointer (some ⟨a.block,a.off+n.toNat*sz,none⟩)),H)else none)else none
   |_,_=>none
 | .ix x i=>match ρ x,ρ i with
   | .string s, .int _ n=>if 0≤n then(match s[n.toNat]? with|some b=>some (.v (.int .u8 b.toNat),H)|none=>none)else none
   |_,_=>none
 | .look kk z x k ok=>match ρ x with
   | .map none=>bif bf kk (ρ k)then some (.v (bif ok then .tuple #[z, .bool false]else z),H)else none
   | .map (some r)=>match H.get r with
     |some (.map es)=>bif bf kk (ρ k)&&decide (H.n0≤r)then(match dW (ρ k) es with
      |some (some v)=>some (.v (bif ok then .tuple #[v, .bool true]else v),H)
      |some none=>some (.v (bif ok then .tuple #[z, .bool false]else z),H)
      |none=>none)else none
     |_=>none
   |_=>none
 | .qF kk x k v=>match ρ x with
   | .map (some r)=>match H.get r with
     |some (.map es)=>bif bf kk (ρ k)&&decide (H.n0≤r)&& !bu (ρ v)then(iI (ρ k) (ρ v) es).map fun es'=>(.v undef,H.put r (some (.map es')))else none
     |_=>none
   |_=>none
 | .ext x i=>match ρ x with| .tuple vs=>(match vs.toList[i]? with|some v=>some (.v v,H)|none=>none)|_=>none
 | .call f as=>some (.enter f (as.map ρ),H)
 | .callv x as=>match ρ x with| .func (.func f) first cap=>some (.enter f (first.toList++as.map ρ++cap.toList),H)|_=>none
 | .app sz bytes s x=>(aK sz bytes H (ρ s) (ρ x)).map fun r=>(.v r.1,r.2)
 | .copy sz d s=>(eN sz H (ρ d) (ρ s)).map fun r=>(.v r.1,r.2)
 | .lens x=>match ρ x with| .string s=>some (.v (.int .i64 s.size),H)|_=>none
 | .eo x=>match ρ x with| .slice _ n _=>some (.v (.int .i64 n),H)|_=>none
 | .z0 t x=>some (.v (.iface t (ρ x)),H)
 | .mxl x l=>(wc (ρ x) (l.map ρ)).map fun v=>(.v v,H)
 | .mnl x l=>(we (ρ x) (l.map ρ)).map fun v=>(.v v,H)
 | .eqs neg offs x y=>match ρ x,ρ y with
   | .agg cs, .agg ds=>(bq cs.toList ds.toList offs).map fun b=>(.v (.bool (bif neg then !b else b)),H)
   |_,_=>none
 | .xt k l=>(kJ k (l.map ρ) H).map fun r=>(.v r.1,r.2)
structure AO where
 g:Option (Nat×Bool)
 d:Option Nat
 o:aY
def AO.wanted (o:AO) (fr:Fr):Bool:=match o.g with
 |none=>true
 |some (t,b)=>match fr.get t with| .bool c=>c==b|_=>false
def Fr.aw (f:Fr) (d:Option Nat) (v:Value):Fr:=match d with|some n=>f.put n v|none=>f
abbrev Cl:=Nat→List Value→AH→Option (Value×AH)
def ep (call:Cl) (o:AO) (fr:Fr) (H:AH):Option (Fr×AH):=
 bif o.wanted fr then
  (match aB o.o (X.ev fr) H with
  |some (.v x,H')=>some (fr.aw o.d x,H')
  |some (.enter f as,H')=>match call f as H' with|some (x,K4)=>some (fr.aw o.d x,K4)|none=>none
  |none=>none)
 else some (fr.aw o.d undef,H)
def ops (call:Cl):List AO→Fr→AH→Option (Fr×AH)
 |[],fr,H=>some (fr,H)
 |o::l,fr,H=>match ep call o fr H with|some (aS,H')=>ops call l aS H'|none=>none
def jf:Value→Value→Bool
 | .bool a,.bool b=>a==b
 | .int k a,.int k' b=>k==k'&&a==b
 | .string a,.string b=>a.data.toList==b.data.toList
 | .pointer a,.pointer b=>a==b
 | .slice a n c,.slice a' n' c'=>a==a'&&n==n'&&c==c'
 | .map a,.map b=>a==b
 | .nilFunc,.nilFunc=>true
 | .nilIface,.nilIface=>true
 |_,_=>false
def dd:List Value→List Value→Bool
 |[],[]=>true
 |a::l,b::m=>jf a b&&dd l m
 |_,_=>false
def et (o:AO) (fr:Fr) (H:AH):Option (Addr×List Value):=match o.o with
 | .ld x=>match x.ev fr with| .pointer (some a)=>(H.ldn a 1).map fun l=>(a,l)|_=>none
 | .ldn n x=>match x.ev fr with| .pointer (some a)=>(H.ldn a n).map fun l=>(a,l)|_=>none
 |_=>none
def sameAt (H:AH) (l:Addr×List Value):Bool:=match H.ldn l.1 l.2.length with|some m=>dd m l.2|none=>false
def bg (o:AO) (fr:Fr):Option Nat:=match o.o with
 | .st _ x _| .ld x| .ldn _ x=>match x.ev fr with| .pointer (some a)=>some a.block|_=>none
 | .look _ _ x _ _=>match x.ev fr with| .map (some r)=>some r|_=>none
 | .sl _ x _ _ _=>match x.ev fr with| .slice (some a) _ _=>bif a.spot.isNone then some a.block else none|_=>none
 |_=>none
def gm:Option jZ→Option jZ→Bool
 |some (.cells z c),some (.cells z' c')=>Nat.beq z z'&&dd c c'
 |some (.map []),some (.map [])=>true
 |_,_=>false
def nth {α:Type}:List α→Nat→Option α
 |[],_=>none
 |x::_,0=>some x
 |_::l,n+1=>nth l n
def kK (l:List AO) (ss:List (Fr×AH)):Nat×Nat×Nat→Bool
 |(k,p,q)=>match nth l p,nth ss p,nth ss (p+1),nth l q,nth ss q,nth ss (q+1)with
  |some op,some (fp,Hp),some (_,wg),some oq,some (fq,_),some (_,qX)=>
   !op.wanted fp|| !oq.wanted fq||(match k with
     |0=>match et op fp Hp with|some x=>sameAt qX x|none=>false
     |1=>gm (wg.get Hp.nx) (qX.get Hp.nx)
     |_=>match bg op fp,bg oq fq with|some b,some b'=> !Nat.beq b b'|_,_=>true)
  |_,_,_,_,_,_=>false
def chain:List (Fr×AH)→Bool
 |a::b::l=>Nat.beq a.2.n0 b.2.n0&&Nat.ble a.2.nx b.2.nx&&chain (b::l)
 |_=>true
inductive AC where
 |skip
 |aA (l:List AO)
 |ak (l:List AO) (ck:List (Nat×Nat×Nat))
 |seq (a b:AC)
 |cond (x:X) (a b:AC)
 |block (i:Nat) (a:AC)
 |loop (a:AC)
 |exit (i:Nat)
 |ret
inductive Ex where
 |normal
 |exit (i:Nat)
 |ret
def eO (call:Cl):List AO→Fr→AH→Option (List (Fr×AH))
 |[],_,_=>some []
 |o::l,fr,H=>match ep call o fr H with
  |some (aS,H')=>match eO call l aS H' with|some ss=>some ((aS,H')::ss)|none=>none
  |none=>none
def de:Fr×AH→List (Fr×AH)→Fr×AH
 |s,[]=>s
 |_,s::l=>de s l
def qY (call:Cl) (l:List AO) (ck:List (Nat×Nat×Nat)) (fr:Fr) (H:AH):Option (Fr×AH):=
 match eO call l fr H with
 |some ss=>bif chain ((fr,H)::ss)&&ck.all (kK l ((fr,H)::ss))then some (de (fr,H) ss)else none
 |none=>none
def ah (call:Cl):Nat→AC→Fr→AH→Option (Ex×Fr×AH)
 |0,_,_,_=>none
 |m+1,c,fr,H=>match c with
  | .skip=>some (.normal,fr,H)
  | .aA l=>match ops call l fr H with|some (aS,H')=>some (.normal,aS,H')|none=>none
  | .ak l ck=>match qY call l ck fr H with|some (aS,H')=>some (.normal,aS,H')|none=>none
  | .seq a b=>match ah call m a fr H with|some (.normal,aS,H')=>ah call m b aS H'|r=>r
  | .cond x a b=>match x.ev fr with| .bool true=>ah call m a fr H| .bool false=>ah call m b fr H|_=>none
  | .block i a=>match ah call m a fr H with|some (.exit j,aS,H')=>bif Nat.beq j i then some (.normal,aS,H')else some (.exit j,aS,H')|r=>r
  | .loop a=>match ah call m a fr H with|some (.normal,aS,H')=>ah call m (.loop a) aS H'|r=>r
  | .exit i=>some (.exit i,fr,H)
  | .ret=>some (.ret,fr,H)
inductive RS where
 |tmp (t:Nat)
 |cell (t:Nat) (n:Nat)
 |cells (t:Nat) (n:Nat)
structure AF where
 np:Nat
 nt:Nat
 res:List RS
 body:AC
def RS.get (fr:Fr) (H:AH):RS→Option Value
 | .tmp t=>some (fr.get t)
 | .cell t _=>match fr.get t with| .pointer (some a)=>H.ld a|_=>none
 | .cells t n=>match fr.get t with| .pointer (some a)=>(H.ldn a n).map fun l=>.agg l.toArray|_=>none
def RS.all (fr:Fr) (H:AH):List RS→Option (List Value)
 |[]=>some []
 |r::l=>match r.get fr H,RS.all fr H l with|some v,some vs=>some (v::vs)|_,_=>none
def iu:List Value→Value
 |[v]=>v
 |vs=>.tuple vs.toArray
abbrev Env:=Nat→Option AF
def ca (E:Env) (O:Nat→Option (List Value→AH→Option (Value×AH))):Nat→Cl
 |0,_,_,_=>none
 |n+1,f,as,H=>
  match O f with
  |some g=>g as H
  |none=>
   match E f with
   |none=>none
   |some F=>
    bif Nat.beq as.length F.np then
     (match ah (ca E O n) n F.body (Fr.of as) H with
     |some (.exit _,_,_)=>none
     |some (_,fr,H')=>match RS.all fr H' F.res with|some vs=>some (iu vs,H')|none=>none
     |none=>none)
    else none
abbrev o (d:Nat) (p:aY):AO:=⟨none,some d,p⟩
abbrev s (p:aY):AO:=⟨none,none,p⟩
abbrev og (t:Nat) (b:Bool) (d:Nat) (p:aY):AO:=⟨some (t,b),some d,p⟩
abbrev i (n:Int):X:=.k (.int .i64 n)
open Go
def BT:TypeId:=1000000
def BY:TypeId:=5
section
variable(P:Program)
def cX:Operand→Option X
 | .tmp t=>some (.t t)
 | .const v=>if lW v then some (.k v)else none
 | .func f=>some (.f f)
 | .global _=>none
def pZ:List Operand→Option (List X)
 |[]=>some []
 |x::l=>match cX x,pZ l with|some y,some m=>some (y::m)|_,_=>none
def z3:Option Operand→Option (Option X)
 |none=>some none
 |some x=>(cX x).map some
def bp (t:TypeId):Option Nat:=(P.info? t).map (·.size)
def ch (t:TypeId):Option (List Value):=(P.info? t).bind fun i=>i.zero.bind fun v=>let l:=v.cells.toList;if l.all flat&&l.length==i.size then some l else none
def nh (t:TypeId):Option Bool:=match P.underlying t with|some (.struct _)=>some true|some (.array _ _)=>some true|some _=>some false|none=>none
def cN (place:Nat→Option (Nat×Nat)):List (Nat×Operand)→Option (List (Nat×Nat×X))
 |[]=>some []
 |(i,x)::l=>match place i,cX x,cN place l with|some (o,n),some y,some m=>some ((o,n,y)::m)|_,_,_=>none
def aL (t:TypeId):Option Nat:=match P.underlying t with|some (.int _)=>some 0|some .string=>some 1|some .bool=>some 2|_=>none
def jg (t:TypeId):Option Nat:=match P.underlying t with
 |some .bool=>some 0|some (.pointer _)=>some 1|some (.slice _)=>some 2|some (.func _ _ _)=>some 3|some (.map _ _)=>some 4|_=>none
def qZ (c:Call):Option aY:=
 match c.callee with
 | .value (.func f)=>(pZ c.args.toList).map fun as=> .call f as
 | .value x=>match cX x,pZ c.args.toList with|some y,some as=>some (.callv y as)|_,_=>none
 | .invoke _ _=>none
 | .builtin b=>match b,c.args.toList,c.argTypes.toList with
   | .len,[x],t::_=>match P.underlying t,cX x with
     |some .string,some y=>some (.lens y)
     |some (.slice _),some y=>some (.eo y)
     |some (.array n _),some _=>some (.mv (.k (goInt n)))
     |_,_=>none
   | .append,[s,x],[t,u]=>match P.underlying t,P.underlying u,cX s,cX x with
     |some (.slice e),some (.slice _),some y,some z|some (.slice e),some .string,some y,some z=>match P.info? e with
      |some i=>if i.size=0∨i.bytes=0∨(ch P e).isNone∨e=BY then none else some (.app i.size i.bytes y z)
      |none=>none
     |_,_,_,_=>none
   | .copy,[s,x],[t,_]=>match P.underlying t,cX s,cX x with
     |some (.slice e),some y,some z=>(bp P e).map fun n=> .copy n y z
     |_,_,_=>none
   | .max,x::l,_=>match cX x,pZ l with|some a,some b=>some (.mxl a b)|_,_=>none
   | .min,x::l,_=>match cX x,pZ l with|some a,some b=>some (.mnl a b)|_,_=>none
   |_,_,_=>none
def iv:Operand→Operand→Bool
 | .tmp a,.tmp b=>a==b
 | .const (.int k a),.const (.int k' b)=>k==k'&&a==b
 |_,_=>false
def Di (o:Oper):Option aY:=
 match o.op with
 | .move x| .assign x=>(cX x).map .mv
 | .pick c a b=>match cX c,cX a,cX b with|some x,some y,some z=>some (.pick x y z)|_,_,_=>none
 | .alloc e=>if e=BY∨e=BT then none else(ch P e).map .alloc
 | .box e x=>if e=BY then none else(cX x).map .box
 | .build t ps=>match P.underlying t,ch P t with
   |some (.struct fs),some z=>match fs.toList.mapM (fun f=>(P.info? f.type).map fun i=>(f.offset,i.size))with|some pl=>(cN (fun i=>pl[i]?) ps.toList).map fun l=> .build z l|none=>none
   |some (.array _ e),some z=>match bp P e with|some n=>(cN (fun i=>some (i*n,n)) ps.toList).map fun l=> .build z l|none=>none
   |_,_=>none
 | .buildSlice t len ps=>match P.underlying t with
   |some (.slice e)=>match bp P e,ch P e with
    |some n,some z=>if len*n>2^24∨n=0∨e=BY then none else(cN (fun i=>some (i*n,n)) ps.toList).map fun l=> .bsl len n (List.replicate len z).flatten l
    |_,_=>none
   |_=>none
 | .load t a=>match nh P t,cX a with
   |some true,some x=>(bp P t).map fun n=> .ldn n x
   |some false,some x=>some (.ld x)
   |_,_=>none
 | .store t a v=>match cX a,cX v with|some x,some y=>(bp P t).map fun n=> .st n x y|_,_=>none
 | .nilCheck x=>(cX x).map .cM
 | .binOp op t x y _=>match cX x,cX y with
   |some a,some b=>match P.underlying t with
    |some (.int _)|some .string=>some (.bin op a b)
    |some (.struct fs)=>if(fs.toList.all fun f=>f.name != "_" &&(aL P f.type).isSome)&& !P.stoodInHeld t&& !P.eqGuardType P.depth t then
      (match op with
      | .eql=>some (.eqs false (fs.toList.map fun f=>(f.offset,(aL P f.type).getD 9)) a b)
      | .neq=>some (.eqs true (fs.toList.map fun f=>(f.offset,(aL P f.type).getD 9)) a b)
      |_=>none)else none
    |_=>match jg P t,op with
     |some k, .eql=>some (.eqk k false a b)
     |some k, .neq=>some (.eqk k true a b)
     |_,_=>none
   |_,_=>none
 | .unOp op _ x=>(cX x).map (.un op)
 | .convert src dst x=>match P.underlying src,P.underlying dst,cX x with
   |some (.int _),some (.int k),some y=>some (.j0 k y)
   |some (.int _),some .string,some y=>some (.zZ y)
   |_,_,_=>none
 | .makeFunc (.func f) first cap=>match pZ first.toList,pZ cap.toList with|some a,some b=>some (.mkf f a b)|_,_=>none
 | .makeMap _ none=>some .mkmap
 | .makeSlice t l c=>match P.underlying t with
   |some (.slice e)=>match P.info? e,ch P e,cX l with
    |some i,some z,some x=>if iv l c∧i.size≠0∧i.bytes≠0∧e≠BY then some (.mksl i.size i.bytes z x)else none
    |_,_,_=>none
   |_=>none
 | .slice t x lo hi mx=>match cX x,z3 lo,z3 hi,z3 mx with
   |some a,some b,some c,some d=>match P.underlying t with
    |some .string=>some (.sl 0 a b c d)
    |some (.slice e)=>match bp P e with|some n=>if n=0 then none else some (.sl n a b c d)|none=>none
    |_=>none
   |_,_,_,_=>none
 | .fieldAddr s x f=>match P.underlying s,cX x with
   |some (.struct fs),some y=>match fs[f]? with
    |some g=>match bp P g.type with|some n=>if n=0 then none else some (.fa g.offset y)|none=>none
    |none=>none
   |_,_=>none
 | .indexAddr t x i=>match P.underlying t,cX x,cX i with
   |some (.slice e),some a,some b=>(bp P e).map fun n=> .ia n a b
   |some (.array len e),some a,some b=>(bp P e).map fun n=> .cv len n a b
   |_,_,_=>none
 | .index t x i=>match P.underlying t,cX x,cX i with
   |some .string,some a,some b=>some (.ix a b)
   |_,_,_=>none
 | .lookup t x k ok=>match P.underlying t,cX x,cX k with
   |some (.map kt e),some a,some b=>match(P.info? e).bind (·.zero)with
    |some z=>match aL P kt with|some kk=>if lW z then some (.look kk z a b ok)else none|none=>none
    |none=>none
   |_,_,_=>none
 | .mapUpdate t m k x| .insert t m k x=>match P.underlying t,cX m,cX k,cX x with
   |some (.map kt _),some a,some b,some c=>(aL P kt).map fun kk=> .qF kk a b c
   |_,_,_,_=>none
 | .makeInterface t x=>match P.underlying t,cX x with
   |some (.interface _),_=>none
   |some _,some y=>some (.z0 t y)
   |_,_=>none
 | .extract x i=>(cX x).map fun y=> .ext y i
 | .call c=>qZ P c
 |_=>none
def xy:Option (List Value)→Bool
 |some [.pointer none,.slice none 0 0]=>true
 |_=>false
def xz (o:Oper):aY:=
 match o.op with
 | .field s x f=>match P.underlying s,cX x with
   |some (.struct fs),some y=>match fs[f]? with
    |some g=>match bp P g.type,nh P g.type with|some n,some ag=>bif ag||Nat.beq n 1 then .xt (.pX g.offset n ag) [y]else .xt .bad []|_,_=> .xt .bad []
    |none=> .xt .bad []
   |_,_=> .xt .bad []
 | .index t x i=>match P.underlying t,cX x,cX i with
   |some (.array len e),some a,some b=>match bp P e,nh P e with|some n,some ag=>bif ag||Nat.beq n 1 then .xt (.pY len n ag) [a,b]else .xt .bad []|_,_=> .xt .bad []
   |_,_,_=> .xt .bad []
 | .binOp op t x y _=>match P.underlying t,cX x,cX y with
   |some (.array len e),some a,some b=>match aL P e,bp P e with
    |some kk,some n=>bif Nat.beq n 1&& !P.eqGuardType P.depth t then(match op with| .eql=> .eqs false ((List.range' 0 len).map fun i=>(i,kk)) a b| .neq=> .eqs true ((List.range' 0 len).map fun i=>(i,kk)) a b|_=> .xt .bad [])else .xt .bad []
    |_,_=> .xt .bad []
   |_,_,_=> .xt .bad []
 | .slice t x none none none=>match P.underlying t,cX x with
   |some (.array len e),some y=>match bp P e with|some n=>bif Nat.beq len 0||Nat.beq n 0 then .xt .bad []else .xt (.lX len n) [y]|none=> .xt .bad []
   |_,_=> .xt .bad []
 | .call c=>match c.callee,c.args.toList,c.argTypes.toList with
   | .builtin .clear,[x],[t]=>match P.underlying t,cX x with
     |some (.slice e),some y=>match ch P e with|some z=> .xt (.mZ z) [y]|none=> .xt .bad []
     |_,_=> .xt .bad []
   |_,_,_=> .xt .bad []
 | .alloc e=>bif decide (e=BT)&&xy (ch P e)&&decide (BT≠BY)then .xt .j9 []else .xt .bad []
 |_=> .xt .bad []
def ud (o:Oper):aY:=(Di P o).getD (xz P o)
inductive m3 where
 |pure|load|alloc|ei|read|st
 deriving DecidableEq
def bU:aY→m3
 | .ld _| .ldn _ _=>.load
 | .alloc _| .box _| .bsl _ _ _ _| .mkmap| .mksl _ _ _ _=>.alloc
 | .st _ _ _=>.st
 | .qF _ _ _ _| .call _ _| .callv _ _| .app _ _ _ _| .copy _ _ _| .xt .bad _| .xt .j9 _| .xt (.mZ _) _=>.ei
 | .look _ _ _ _ _| .sl _ _ (some _) _ _=>.read
 |_=>.pure
def kL (ops:Array Oper):Option (Nat×Bool)→Option (Option (Nat×Bool))
 |none=>some none
 |some (j,b)=>match(ops[j]?).bind (·.dst)with|some t=>some (some (t,b))|none=>none
def wh (nt:Nat):Option Nat→Bool
 |some d=>decide (d<nt)
 |none=>true
def wi (nt:Nat) (ops:Array Oper) (o:Oper):Option AO:=
 match kL ops o.guard with
 |some g=>bif wh nt o.dst then some ⟨g,o.dst,ud P o⟩else none
 |none=>none
def gn (nt:Nat) (ops:Array Oper):List Oper→Option (List AO)
 |[]=>some []
 |o::l=>match wi P nt ops o,gn nt ops l with|some a,some m=>some (a::m)|_,_=>none
def force {α:Type} (n:Nat) (k:Nat→α):α:=match n with
 |0=>k 0
 |m+1=>k (m+1)
theorem force_eq {α:Type} (n:Nat) (k:Nat→α):force n k=k n:=by cases n<;>rfl
def lY (n:Nat):List Nat→Bool
 |[]=>false
 |x::l=>Nat.beq x n||lY n l
def m3.dO:m3→Bool
 | .ei| .st=>false
 |_=>true
def bE:m3→m3→Bool
 | .read,.ei=>false
 |k,.ei=>k.dO
 | .st,.st=>true
 | .st,_=>false
 | .ei,_=>false
 |_,_=>true
def X.tmp:X→Option Nat
 | .t n=>some n
 |_=>none
def tmpsOf (o:AO):List Nat:=(match o.g with|some (t,_)=>[t]|none=>[])++o.o.xs.filterMap X.tmp
def dP (x y:AO):Bool:=match x.d with
 |some d=>!lY d (tmpsOf y)&&(match y.d with|some e=>!Nat.beq e d|none=>true)
 |none=>true
def ue (o:Oper):List Nat:=o.after.toList.filterMap fun e=>bif Region.binds .any e then some e.on else none
def ni (fl:Bool) (L:Nat):Nat→List (m3×List Nat)→Option Nat
 |_,[]=>none
 |i,(k,d)::l=>bif !L.testBit i&&k.dO==fl&&d.all (fun e=>L.testBit e)then some i else ni fl L (i+1) l
def nj (tb:List (m3×List Nat)):Nat→Nat→List Nat
 |0,_=>[]
 |f+1,L=>match ni true L 0 tb with
  |some i=>i::force (L|||1<<<i) (nj tb f)
  |none=>match ni false L 0 tb with
   |some i=>i::force (L|||1<<<i) (nj tb f)
   |none=>[]
structure Row where
 o:AO
 k:m3
 j:Nat
 dep:List Nat
 m:Nat
def kg (e:Nat):List (Nat×Nat)→Nat
 |[]=>0
 |(j,m)::l=>bif Nat.beq j e then m else kg e l
def fS (am:List (Nat×Nat)):List Nat→Nat
 |[]=>0
 |e::l=>fS am l|||(1<<<e|||kg e am)
def ox {α:Type} (l:List AO) (dp:List (List Nat)):List Nat→List (Nat×Nat)→(List Row→α)→α
 |[],_,k=>k []
 |j::r,am,k=>match nth l j,nth dp j with
  |some o,some d=>force (fS am d) fun m=>ox l dp r ((j,m)::am) fun rs=>k (⟨o,bU o.o,j,d,m⟩::rs)
  |_,_=>k []
def oy:List Row→List Nat→Bool
 |[],_=>true
 |y::l,done=>!lY y.j done&&y.dep.all (fun e=>lY e done)&&oy l (y.j::done)
def q6 (x y:Row):Bool:=y.m.testBit x.j||(dP x.o y.o&&dP y.o x.o&&bE x.k y.k)
def pw:List Row→Bool
 |[]=>true
 |x::l=>l.all (q6 x)&&pw l
def nk (p q:Nat) (x y:Row):List (Nat×Nat×Nat):=
 bif y.m.testBit x.j then []else match x.k,y.k with
  | .load,.ei=>[(0,p,q)]
  | .alloc,.ei=>[(1,p,q)]
  | .load,.st| .read,.st| .st,.st=>[(2,p,q)]
  |_,_=>[]
def kM (p:Nat) (x:Row):Nat→List Row→List (Nat×Nat×Nat)
 |_,[]=>[]
 |q,y::l=>nk p q x y++kM p x (q+1) l
def kh:Nat→List Row→List (Nat×Nat×Nat)
 |_,[]=>[]
 |p,x::l=>kM p x (p+1) l++kh (p+1) l
def uf:Nat→List Nat
 |0=>[]
 |n+1=>n::uf n
def xA:X→Bool
 | .k v=>lW v
 |_=>true
def nm (n:Nat) (rs:List Row):Bool:=rs.all (fun r=>r.o.o.xs.all xA)&&Nat.beq rs.length n&&(uf n).all (fun i=>lY i (rs.map (·.j)))&&oy rs []&&pw rs
def wj (l:List AO) (dp:List (List Nat)):Option AC:=
 ox l dp (nj ((l.map fun o=>bU o.o).zip dp) l.length 0) [] fun rs=>bif nm l.length rs then some (.ak (rs.map (·.o)) (kh 0 rs))else none
def bC (nt:Nat):Code→Option AC
 | .skip=>some .skip
 | .region _ ops false=>(gn P nt ops ops.toList).map .aA
 | .region _ ops true=>match gn P nt ops ops.toList with
   |some l=>wj l (ops.toList.map ue)
   |none=>none
 | .seq a b=>match bC nt a,bC nt b with|some x,some y=>some (.seq x y)|_,_=>none
 | .cond c a b=>match cX c,bC nt a,bC nt b with|some z,some x,some y=>some (.cond z x y)|_,_,_=>none
 | .block i a=>(bC nt a).map (.block i)
 | .loop a=>(bC nt a).map .loop
 | .exit i=>some (.exit i)
 | .ret=>some .ret
 | .refuse _=>some (.cond (.k (.int .i64 0)) .skip .skip)
 |_=>none
def lZ:List ResultVar→Option (List RS)
 |[]=>some []
 | .tmp t::l=>(lZ l).map fun m=> .tmp t::m
 | .cell t ty::l=>match nh P ty,bp P ty,lZ l with
   |some true,some n,some m=>some (.cells t n::m)
   |some false,some n,some m=>some (.cell t n::m)
   |_,_,_=>none
def ab (fn:Func):Option AF:=
 match fn.body with
 |some c=>match bC P fn.ntmps c,lZ P fn.results.toList with
  |some x,some r=>if fn.name== "runtime.NumGoroutine" ||decide (fn.ntmps<fn.params.size+fn.nfree)then none else some ⟨fn.params.size+fn.nfree,fn.ntmps,r,x⟩
  |_,_=>none
 |none=>none
end
end Go.Proofs.Ytediokhgklkhnaa.A
