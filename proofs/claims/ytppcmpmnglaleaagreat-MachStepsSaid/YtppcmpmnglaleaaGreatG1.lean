/- Texts that stand one behind the other: Abs0, Abs1. -/
import Derived.WalkKit
set_option linter.unusedVariables false
set_option linter.unusedSimpArgs false
namespace Go.Proofs.YtppcmpmnglaleaaGreat.A
open Go
abbrev apF:= @List.getElem?_cons_zero
abbrev apG:= @List.getElem?_eq_getElem
abbrev apH:= @Option.some.injEq
abbrev apI:= @Option.some.inj
abbrev apJ:= @Bool.and_eq_true
abbrev apK:= @Nat.le_refl
abbrev apL:= @List.mem_of_getElem?
abbrev apM:= @List.getElem?_eq_some_iff
abbrev apN:= @List.take_of_length_le
abbrev apO:= @Prod.mk.injEq
abbrev apP:= @List.length_append
abbrev apQ:= @Option.map_eq_some_iff
abbrev apR:= @Option.bind_eq_some_iff
abbrev apS:= @decide_eq_true_eq
abbrev apT:= @List.getElem?_append_left
abbrev apU:= @Array.getElem?_eq_some_iff
abbrev apV:= @Nat.lt_succ_self
abbrev apW:= @List.all_eq_true
abbrev apX:= @List.getElem?_append_right
abbrev apY:= @List.mem_cons
abbrev apZ:= @ByteArray.size_append
abbrev ap0:= @List.mem_append
abbrev ap1:= @List.take_add_one
abbrev ap2:= @Nat.le_trans
abbrev ap3:= @Nat.lt_of_lt_of_le
abbrev ap4:= @List.getElem?_set_ne
abbrev ap5:= @List.append_assoc
abbrev ap6:= @Nat.not_lt_zero
abbrev ap7:= @Nat.le_succ
abbrev ap8:= @Nat.zero_le
abbrev ap9:= @List.length_eq_zero_iff
abbrev aqa:= @List.getElem?_map
abbrev aqb:= @List.sizeOf_lt_of_mem
abbrev aqc:= @Bool.eq_iff_iff
abbrev aqd:= @List.mem_map
abbrev aqe:= @List.eq_nil_of_length_eq_zero
abbrev aqf:= @List.getElem?_take
abbrev aqg:= @List.not_mem_nil
abbrev aqh:= @List.getElem?_set_self
abbrev aqi:= @Option.isSome_iff_exists
abbrev aqj:= @Bool.eq_false_iff
abbrev aqk:= @List.getElem?_drop
abbrev aql:= @List.getElem?_eq_none
abbrev aqm:= @List.length_eq_one_iff
inductive T (α:Type)where
 |nil
 |node (v:α) (l r:T α)
def T.get {α:Type} (d:α):T α→Nat→α
 | .nil,_=>d
 | .node v l r,n=>bif Nat.beq n 0 then v else bif Nat.beq (n%2) 1 then l.get d (n/2)else r.get d (n/2- 1)
def T.put {α:Type} (d:α) (x:α):Nat→T α→Nat→T α
 |0,t,_=>t
 |f+1,.nil,n=>bif Nat.beq n 0 then .node x .nil .nil else bif Nat.beq (n%2) 1 then .node d (T.put d x f .nil (n/2)) .nil else .node d .nil (T.put d x f .nil (n/2- 1))
 |f+1,.node v l r,n=>bif Nat.beq n 0 then .node x l r else bif Nat.beq (n%2) 1 then .node v (T.put d x f l (n/2)) r else .node v l (T.put d x f r (n/2- 1))
theorem nb (a b:Nat):Nat.beq a b=decide (a=b):=by
 cases h:Nat.beq a b
 ·exact (decide_eq_false (fun e=>by rw [e]at h;simp at h)).symm
 ·exact (decide_eq_true (Nat.eq_of_beq_eq_true h)).symm
theorem T.bR {α:Type} (d x:α):∀(f:Nat) (t:T α) (n m:Nat),n<f→(T.put d x f t n).get d m=if m=n then x else t.get d m:=by
 intro f
 induction f with
 |zero=>intro t n m h;omega
 |succ f ih=>
  intro t n m h
  cases t with
  |nil=>
   simp only [T.put,nb,Bool.cond_decide];by_cases c:n=0
   ·subst c
    simp only [if_true,T.get,nb,Bool.cond_decide];split<;>simp
   ·rw [if_neg c]
    by_cases b:n%2=1
    ·rw [if_pos b]
     simp only [T.get,nb,Bool.cond_decide];rw [ih _ _ _ (by omega)];split
     ·rw [if_neg (by omega)]
     ·split
      ·by_cases a:m=n
       ·subst a;simp
       ·rw [if_neg (by omega),if_neg a];rfl
      ·rw [if_neg (by omega)]
    ·rw [if_neg b]
     simp only [T.get,nb,Bool.cond_decide];rw [ih _ _ _ (by omega)];split
     ·rw [if_neg (by omega)]
     ·split
      ·rw [if_neg (by omega)]
      ·by_cases a:m=n
       ·subst a;simp
       ·rw [if_neg (by omega),if_neg a];rfl
  |node v l r=>
   simp only [T.put,nb,Bool.cond_decide];by_cases c:n=0
   ·subst c
    simp only [if_true,T.get,nb,Bool.cond_decide];split<;>simp
   ·rw [if_neg c]
    by_cases b:n%2=1
    ·rw [if_pos b]
     simp only [T.get,nb,Bool.cond_decide];rw [ih _ _ _ (by omega)];split
     ·rw [if_neg (by omega)]
     ·split
      ·by_cases a:m=n
       ·subst a;simp
       ·rw [if_neg (by omega),if_neg a]
      ·rw [if_neg (by omega)]
    ·rw [if_neg b]
     simp only [T.get,nb,Bool.cond_decide];rw [ih _ _ _ (by omega)];split
     ·rw [if_neg (by omega)]
     ·split
      ·rw [if_neg (by omega)]
      ·by_cases a:m=n
       ·subst a;simp
       ·rw [if_neg (by omega),if_neg a]
structure Fr where t:T Value
def Fr.get (f:Fr) (n:Nat):Value:=f.t.get undef n
def Fr.put (f:Fr) (n:Nat) (v:Value):Fr:=⟨T.put undef v (n+1) f.t n⟩
theorem Fr.bR (f:Fr) (n m:Nat) (v:Value):(f.put n v).get m=if m=n then v else f.get m:=T.bR _ _ _ _ _ _ (by omega)
def Fr.rF:Nat→List Value→Fr→Fr
 |_,[],f=>f
 |i,v::l,f=>Fr.rF (i+1) l (f.put i v)
def Fr.of (l:List Value):Fr:=Fr.rF 0 l ⟨.nil⟩
inductive pG where
 |cells (z:Nat) (c:List Value)
 |map (es:List (Value×Value))
structure AH where
 base:Nat→Option pG
 n0:Nat
 nx:Nat
 tr:T (Option (Option pG))
 bs:Option (Nat×ByteArray)
def AH.raw (H:AH) (b:Nat):Option pG:=match H.tr.get none b with|some x=>x|none=>H.base b
def AH.get (H:AH) (b:Nat):Option pG:=bif Nat.blt b H.nx then H.raw b else none
def AH.put (H:AH) (b:Nat) (x:Option pG):AH:={H with tr:=T.put none (some x) (b+1) H.tr b}
def AH.alloc (H:AH) (x:pG):AH:={H with tr:=T.put none (some (some x)) (H.nx+1) H.tr H.nx,nx:=H.nx+1}
theorem DR (a b:Nat):Nat.blt a b=decide (a<b):=by
 have e:(Nat.blt a b=true)=(a<b):=Nat.blt_eq;cases h:Nat.blt a b
 ·have:¬ a<b:=by intro c;rw [←e,h]at c;cases c
  simp [this]
 ·have:a<b:=by rw [←e];exact h
  simp [this]
theorem AH.bk {H:AH} {b:Nat} {x:pG} (h:H.get b=some x):b<H.nx:=by
 unfold AH.get at h;simp only [DR,Bool.cond_decide]at h;split at h
 ·assumption
 ·cases h
theorem AH.iF {H:AH} {b:Nat} (h:H.nx≤b):H.get b=none:=by
 unfold AH.get;simp only [DR,Bool.cond_decide];rw [if_neg (by omega)]
theorem AH.iG {H:AH} {b:Nat} {x:pG} (h:H.get b=some x):H.raw b=some x:=by
 unfold AH.get at h;cases a:Nat.blt b H.nx<;>simp [a]at h;exact h
theorem AH.fQ {H:AH} {b:Nat} (h:b<H.nx):H.get b=H.raw b:=by
 unfold AH.get;rw [DR,decide_eq_true h,cond_true]
theorem AH.dg (H:AH) (b c:Nat) (x:Option pG):(H.put b x).raw c=if c=b then x else H.raw c:=by
 unfold AH.raw AH.put;simp only [T.bR none (some x) (b+1) H.tr b c (by omega)];by_cases h:c=b
 ·subst h;simp
 ·simp [h]
theorem AH.cY (H:AH) (c:Nat) (x:pG):(H.alloc x).raw c=if c=H.nx then some x else H.raw c:=by
 unfold AH.raw AH.alloc;simp only [T.bR none (some (some x)) (H.nx+1) H.tr H.nx c (by omega)];by_cases h:c=H.nx
 ·subst h;simp
 ·simp [h]
theorem AH.bR (H:AH) (b c:Nat) (x:Option pG) (a:b<H.nx):(H.put b x).get c=if c=b then x else H.get c:=by
 unfold AH.get AH.raw AH.put;simp only [T.bR none (some x) (b+1) H.tr b c (by omega),DR,Bool.cond_decide];by_cases h:c=b
 ·subst h;simp [a]
 ·simp [h]
theorem AH.rG (H:AH) (b c:Nat):(H.put b none).get c=if c=b then none else H.get c:=by
 rcases Nat.lt_or_ge b H.nx with h|h
 ·exact AH.bR H b c none h
 ·by_cases a:c=b
  ·subst a;rw [if_pos rfl];exact AH.iF h
  ·rw [if_neg a]
   unfold AH.get AH.raw AH.put;simp only [T.bR none (some none) (b+1) H.tr b c (by omega),if_neg a]
theorem AH.ey (H:AH) (c:Nat) (x:pG):(H.alloc x).get c=if c=H.nx then some x else H.get c:=by
 unfold AH.get AH.raw AH.alloc;simp only [T.bR none (some (some x)) (H.nx+1) H.tr H.nx c (by omega),DR,Bool.cond_decide];by_cases h:c=H.nx
 ·subst h;simp
 ·simp only [if_neg h]
  by_cases h2:c<H.nx
  ·rw [if_pos (by omega),if_pos h2]
  ·rw [if_neg (by omega),if_neg h2]
theorem AH.DS (H:AH) (b:Nat) (x:Option pG):(H.put b x).nx=H.nx:=rfl
theorem AH.MR (H:AH) (b:Nat) (x:Option pG):(H.put b x).n0=H.n0:=rfl
theorem AH.ez (H:AH) (x:pG):(H.alloc x).nx=H.nx+1:=rfl
theorem AH.oi (H:AH) (x:pG):(H.alloc x).n0=H.n0:=rfl
def aW:Value→List Value
 | .agg cs=>cs.toList
 |v=>[v]
def flat:Value→Bool
 | .bool _| .int _ _| .float _ _| .complex _ _ _| .string _| .pointer none| .slice none _ _| .map none| .chan none| .nilFunc| .nilIface=>true
 |_=>false
def wy:Value→Bool
 | .agg cs=>cs.toList.all flat
 |v=>flat v
def one:Value→Bool
 | .agg _| .tuple _=>false
 |_=>true
def cN:Value→Bool
 | .tuple _=>true
 |_=>false
def bw (n0:Nat):Value→Option Value
 | .pointer (some a)=>bif decide (a.block<n0)&&a.spot.isNone then some (.pointer (some a))else none
 | .slice (some a) n c=>bif decide (a.block<n0)&&a.spot.isNone then some (.slice (some a) n c)else bif Nat.beq n 0 then some (.slice (some ⟨0,0,some 1⟩) 0 0)else none
 |v=>bif flat v then some v else none
def aQ (n0:Nat):List Value→Option (List Value)
 |[]=>some []
 |v::l=>match bw n0 v,aQ n0 l with|some x,some m=>some (x::m)|_,_=>none
def aM:List Value→Nat→List Value→List Value
 |c,0,vs=>vs++c.drop vs.length
 |x::c,k+1,vs=>x::aM c k vs
 |[],_+1,_=>[]
def jo:List Value→List (Nat×Nat×Value)→Option (List Value)
 |c,[]=>some c
 |c,(off,n,v)::l=>bif Nat.beq (aW v).length n&&decide (off+n≤c.length)&& !cN v then jo (aM c off (aW v)) l else none
def AH.ldn (H:AH) (a:Addr) (n:Nat):Option (List Value):=
 match a.spot,H.get a.block with
 |none,some (.cells _ c)=>
  bif decide (a.off+n≤c.length)then
   (bif decide (a.block<H.n0)then aQ H.n0 ((c.drop a.off).take n)else some ((c.drop a.off).take n))
  else none
 |_,_=>none
def AH.ld (H:AH) (a:Addr):Option Value:=
 match a.spot,H.get a.block with
 |none,some (.cells _ c)=>
  match c[a.off]? with
  |some v=>bif decide (a.block<H.n0)then bw H.n0 v else some v
  |none=>none
 |_,_=>none
def AH.st (H:AH) (a:Addr) (vs:List Value):Option AH:=
 match a.spot,H.get a.block with
 |none,some (.cells z c)=>bif decide (H.n0≤a.block)&&decide (a.off+vs.length≤c.length)then some (H.put a.block (some (.cells z (aM c a.off vs))))else none
 |_,_=>none
def AH.lz (H:AH) (b sz:Nat):Bool:=match H.get b with|some (.cells z _)=>decide (sz≤z)|_=>false
def jq (op:BinOp) (k:IntKind) (a b:Int):Option Value:=
 match op with
 | .add=>some (.int k (k.wrap (a+b)))
 | .sub=>some (.int k (k.wrap (a- b)))
 | .mul=>some (.int k (k.wrap (a*b)))
 | .quo=>if b=0 then none else some (.int k (k.wrap (a.tdiv b)))
 | .rem=>if b=0 then none else some (.int k (a.tmod b))
 | .and=>some (.int k (k.wrap (BitVec.ofInt k.bits a&&&BitVec.ofInt k.bits b).toNat))
 | .or=>some (.int k (k.wrap (BitVec.ofInt k.bits a|||BitVec.ofInt k.bits b).toNat))
 | .xor=>some (.int k (k.wrap (BitVec.ofInt k.bits a^^^BitVec.ofInt k.bits b).toNat))
 | .andNot=>some (.int k (k.wrap (BitVec.ofInt k.bits a&&&~~~BitVec.ofInt k.bits b).toNat))
 | .eql=>some (.bool (a==b))
 | .neq=>some (.bool (a !=b))
 | .lss=>some (.bool (decide (a<b)))
 | .leq=>some (.bool (decide (a≤b)))
 | .gtr=>some (.bool (decide (a>b)))
 | .geq=>some (.bool (decide (a≥b)))
 |_=>none
def dL (op:BinOp) (k:IntKind) (a:Int) (k':IntKind) (b:Int):Option Value:=
 match op with
 | .shl=>if b<0 then none else some (.int k (k.wrap (a*2^(min b.toNat k.bits))))
 | .shr=>if b<0 then none else some (.int k (a.fdiv (2^(min b.toNat k.bits))))
 |op=>if k=k' then jq op k a b else none
def yI (op:BinOp) (a b:ByteArray):Option Value:=
 match op with
 | .add=>if((a.size+b.size:Nat):Int)>IntKind.i64.max then none else some (.string (a++b))
 | .eql=>some (.bool (a.data.toList==b.data.toList))
 | .neq=>some (.bool (!(a.data.toList==b.data.toList)))
 |_=>none
def de (op:BinOp) (x y:Value):Option Value:=
 match x,y with
 | .int k a,.int k' b=>dL op k a k' b
 | .string a,.string b=>yI op a b
 |_,_=>none
def hU:Nat→Value→Value→Option Bool
 |0,.bool a,.bool b=>some (a==b)
 |1,.pointer none,.pointer b=>some b.isNone
 |1,.pointer (some _),.pointer none=>some false
 |2,.slice none _ _,.slice b _ _=>some b.isNone
 |2,.slice (some _) _ _,.slice none _ _=>some false
 |3,.nilFunc,.nilFunc=>some true
 |3,.func _ _ _,.nilFunc=>some false
 |4,.map none,.map b=>some b.isNone
 |4,.map (some _),.map none=>some false
 |_,_,_=>none
def DT:UnOp→Value→Option Value
 | .not,.bool b=>some (.bool !b)
 | .neg,.int k n=>some (.int k (k.wrap (0- n)))
 |_,_=>none
def iH (v:Value) (y:Nat):Option Nat:=match v with| .int _ i=>if 0≤i∧i≤y then some i.toNat else none|_=>none
def bQ (len cap:Nat) (lo hi mx:Option Value):Option (Nat×Nat×Nat):=
 (match mx with|some v=>iH v cap|none=>some cap).bind fun m=>
 (match hi,mx with|some v,some _=>iH v m|some v,none=>iH v cap|none,none=>some len|none,some _=>none).bind fun h=>
 (match lo with|some v=>iH v h|none=>some 0).bind fun l=>some (l,h,m)
def cj (sz:Nat) (H:AH) (x:Value) (lo hi mx:Option Value):Option Value:=
 match x with
 | .slice a len cap=>
  match bQ len cap lo hi mx with
  |none=>none
  |some (l,h,m)=>
   bif decide (h≤m)&& !Nat.beq sz 0 then
    match a with
    |none=>some (.slice none (h- l) (m- l))
    |some a=>
     if m=l then
      (if mx.isNone∧0<l then some (.slice (some ⟨a.block,a.off,some 1⟩) 0 0)else some (.slice (some a) (h- l) 0))
     else bif a.spot.isNone&&(Nat.beq l 0||H.lz a.block sz)then some (.slice (some ⟨a.block,a.off+l*sz,none⟩) (h- l) (m- l))else none
   else none
 | .string s=>
  match mx with
  |some _=>none
  |none=>match bQ s.size s.size lo hi none with|none=>none|some (l,h,_)=>bif Nat.beq sz 0 then some (.string (s.extract l h))else none
 |_=>none
def j0 (H:AH) (sz:Nat) (n:Nat):Value→Option (List Value)
 | .slice (some a) _ _=>bif Nat.beq (n*sz) 0 then some []else H.ldn a (n*sz)
 | .slice none _ _=>some []
 | .string s=>some ((s.extract 0 n).data.toList.map fun b=>.int .u8 b.toNat)
 |_=>none
def mW:Value→Option Nat
 | .slice _ n _=>some n
 | .string s=>some s.size
 |_=>none
def pJ (H:AH) (sz:Nat):Value→Option (List Value)
 | .slice (some a) n _=>bif Nat.beq n 0 then some []else H.ldn a (n*sz)
 | .slice none n _=>bif Nat.beq n 0 then some []else none
 | .string s=>bif Nat.beq sz 1 then some (s.data.toList.map fun b=>.int .u8 b.toNat)else none
 |_=>none
def bL (sz bytes:Nat) (H:AH) (s x:Value):Option (Value×AH):=
 match s,mW x with
 | .slice base sl sc,some n=>
  if n=0 then(bif decide (sl≤sc)then some (s,H)else none)else
  match pJ H sz x with
  |none=>none
  |some new=>
   bif decide ((sl+n)*bytes≤2^47)&&decide (sl+n<2^62)then
    if sl+n≤sc then
     match base with
     |some a=>bif H.lz a.block sz&&a.spot.isNone then(H.st ⟨a.block,a.off+sl*sz,none⟩ new).map fun H'=>(.slice base (sl+n) sc,H')else none
     |none=>none
    else if sc=0 then
     (bif Nat.beq sl 0&&(match base with|some a=>a.spot.isNone|none=>true)then some (.slice (some ⟨H.nx,0,none⟩) n n,H.alloc (.cells sz new))else none)
    else match base with
     |some a=>
      bif decide (H.n0≤a.block)&&a.spot.isNone&&H.lz a.block sz then
       (H.ldn a (sl*sz)).map fun old=>(.slice (some ⟨H.nx,0,none⟩) (sl+n) (sl+n),(H.put a.block none).alloc (.cells sz (old++new)))
      else none
     |none=>none
   else none
 |_,_=>none
def lU (sz:Nat) (H:AH) (d s:Value):Option (Value×AH):=
 match d,mW s with
 | .slice base dl _,some m=>
  let n:=Nat.min m dl
  (j0 H sz n s).bind fun c=>
  match base with
  |some a=>bif c.isEmpty then some (.int .i64 n,H)else(H.st a c).map fun H'=>(.int .i64 n,H')
  |none=>some (.int .i64 n,H)
 |_,_=>none
def iI:Value→Value→Option Bool
 | .int k a,.int k' b=>if k=k' then some (a==b)else none
 | .string a,.string b=>some (a.data.toList==b.data.toList)
 | .bool a,.bool b=>some (a==b)
 |_,_=>none
def gk (k:Value):List (Value×Value)→Option (Option Value)
 |[]=>some none
 |(k',v)::es=>match iI k k' with
  |some true=>some (some v)
  |some false=>gk k es
  |none=>none
def lV (k v:Value):List (Value×Value)→Option (List (Value×Value))
 |[]=>some [(k,v)]
 |(k',v')::es=>match iI k k' with
  |some true=>some ((k,v)::es)
  |some false=>(lV k v es).map fun l=>(k',v')::l
  |none=>none
def cO:Nat→Value→Bool
 |0,.int _ _=>true
 |1,.string _=>true
 |2,.bool _=>true
 |_,_=>false
def du (cs ds:List Value):List (Nat×Nat)→Option Bool
 |[]=>some true
 |(o,kk)::l=>match cs[o]?,ds[o]? with
  |some a,some b=>bif cO kk a then(match iI a b with
   |some true=>du cs ds l
   |some false=>some false
   |none=>none)else none
  |_,_=>none
def HQ:Value→List Value→Option Value
 |v,[]=>some v
 | .int k a,.int _ b::l=>HQ (.int k (if b>a then b else a)) l
 |_,_=>none
def Lp:Value→List Value→Option Value
 |v,[]=>some v
 | .int k a,.int _ b::l=>Lp (.int k (if b<a then b else a)) l
 |_,_=>none
inductive XK where
 |bad
 |HR (o n:Nat) (ag:Bool)
 |HS (len n:Nat) (ag:Bool)
 |tD
def qf (l:List Value) (n:Nat) (ag:Bool):Option Value:=bif Nat.beq l.length n then(bif ag then some (.agg l.toArray)else match l with|[v]=>some v|_=>none)else none
def DU (k:XK) (vs:List Value) (H:AH):Option (Value×AH):=
 match k,vs with
 | .HR o n ag,[.agg cs]=>(qf ((cs.toList.drop o).take n) n ag).map fun v=>(v,H)
 | .HS len n ag,[.agg cs,.int _ i]=>if 0≤i∧i<len then(qf ((cs.toList.drop (i.toNat*n)).take n) n ag).map fun v=>(v,H)else none
 | .tD,[]=>some (.pointer (some ⟨H.nx,0,none⟩),{H with tr:=T.put none (some none) (H.nx+1) H.tr H.nx,nx:=H.nx+1,bs:=some (H.nx,.empty)})
 |_,_=>none
inductive X where
 |t (n:Nat)
 |k (v:Value)
 |f (n:Nat)
def X.ev (f:Fr):X→Value
 | .t n=>f.get n
 | .k v=>v
 | .f n=>.func (.func n) #[] #[]
inductive cQ where
 |mv (x:X)
 |pick (c a b:X)
 |alloc (z:List Value)
 |box (x:X)
 |build (z:List Value) (ps:List (Nat×Nat×X))
 |bsl (len sz:Nat) (z:List Value) (ps:List (Nat×Nat×X))
 |ld (x:X)
 |ldn (n:Nat) (x:X)
 |st (n:Nat) (x v:X)
 |bB (x:X)
 |bin (op:BinOp) (x y:X)
 |eqk (k:Nat) (neg:Bool) (x y:X)
 |un (op:UnOp) (x:X)
 |B9 (k:IntKind) (x:X)
 |QH (x:X)
 |mkf (f:Nat) (first cap:List X)
 |mkmap
 |mksl (sz bytes:Nat) (z:List Value) (x:X)
 |sl (sz:Nat) (x:X) (lo hi mx:Option X)
 |fa (off:Nat) (x:X)
 |ia (sz:Nat) (x i:X)
 |wz (len sz:Nat) (x i:X)
 |ix (x i:X)
 |look (kk:Nat) (z:Value) (x k:X) (ok:Bool)
 |qg (kk:Nat) (x k v:X)
 |ext (x:X) (i:Nat)
 |call (f:Nat) (as:List X)
 |callv (x:X) (as:List X)
 |app (sz bytes:Nat) (s x:X)
 |copy (sz:Nat) (d s:X)
 |lens (x:X)
 |eQ (x:X)
 |QI (t:Nat) (x:X)
 |mxl (x:X) (l:List X)
 |mnl (x:X) (l:List X)
 |eqs (neg:Bool) (offs:List (Nat×Nat)) (x y:X)
 |xt (k:XK) (l:List X)
def cQ.xs:cQ→List X
 | .mv x| .box x| .ld x| .ldn _ x| .bB x| .un _ x| .B9 _ x| .QH x| .mksl _ _ _ x| .fa _ x| .ext x _| .lens x| .eQ x| .QI _ x=>[x]
 | .pick c a b=>[c,a,b]
 | .alloc _| .mkmap=>[]
 | .build _ ps| .bsl _ _ _ ps=>ps.map fun p=>p.2.2
 | .st _ x v=>[x,v]
 | .bin _ x y| .eqk _ _ x y| .ia _ x y| .wz _ _ x y| .ix x y| .look _ _ x y _| .app _ _ x y| .copy _ x y| .eqs _ _ x y=>[x,y]
 | .mkf _ a b=>a++b
 | .sl _ x lo hi mx=>x::(lo.toList++hi.toList++mx.toList)
 | .qg _ x k v=>[x,k,v]
 | .call _ as| .xt _ as=>as
 | .callv x as| .mxl x as| .mnl x as=>x::as
inductive jI where
 |v (x:Value)
 |enter (f:Nat) (as:List Value)
def aA (o:cQ) (ρ:X→Value) (H:AH):Option (jI×AH):=
 match o with
 | .mv x=>some (.v (ρ x),H)
 | .pick c a b=>match ρ c with| .bool t=>some (.v (bif t then ρ a else ρ b),H)|_=>none
 | .alloc z=>some (.v (.pointer (some ⟨H.nx,0,none⟩)),H.alloc (.cells z.length z))
 | .box x=>bif cN (ρ x)then none else some (.v (.pointer (some ⟨H.nx,0,none⟩)),H.alloc (.cells (aW (ρ x)).length (aW (ρ x))))
 | .build z ps=>(jo z (ps.map fun p=>(p.1,p.2.1,ρ p.2.2))).map fun c=>(.v (.agg c.toArray),H)
 | .bsl len sz z ps=>(jo z (ps.map fun p=>(p.1,p.2.1,ρ p.2.2))).map fun c=>(.v (.slice (some ⟨H.nx,0,none⟩) len len),H.alloc (.cells sz c))
 | .ld x=>match ρ x with| .pointer (some a)=>(H.ld a).map fun v=>(.v v,H)|_=>none
 | .ldn n x=>match ρ x with| .pointer (some a)=>(H.ldn a n).map fun l=>(.v (.agg l.toArray),H)|_=>none
 | .st n x v=>match ρ x with| .pointer (some a)=>bif Nat.beq (aW (ρ v)).length n&& !cN (ρ v)then(H.st a (aW (ρ v))).map fun H'=>(.v undef,H')else none|_=>none
 | .bB x=>match ρ x with| .pointer (some a)=>some (.v (.pointer (some a)),H)|_=>none
 | .bin op x y=>(de op (ρ x) (ρ y)).map fun v=>(.v v,H)
 | .eqk k neg x y=>(hU k (ρ x) (ρ y)).map fun b=>(.v (.bool (bif neg then !b else b)),H)
 | .un op x=>(DT op (ρ x)).map fun v=>(.v v,H)
 | .B9 k x=>match ρ x with| .int _ n=>some (.v (.int k (k.wrap n)),H)|_=>none
 | .QH x=>match ρ x with| .int _ n=>some (.v (.string (Utf8.encode n)),H)|_=>none
 | .mkf f first cap=>some (.v (.func (.func f) (first.map ρ).toArray (cap.map ρ).toArray),H)
 | .mkmap=>some (.v (.map (some H.nx)),H.alloc (.map []))
 | .mksl sz bytes z x=>match ρ x with
   | .int k n=>bif decide (0≤n)&&decide (IntKind.i64.wrap n=n)&&decide (bytes*n≤2^47)then some (.v (.slice (some ⟨H.nx,0,none⟩) n.toNat n.toNat),H.alloc (.cells sz (List.replicate n.toNat z).flatten))else none
   |_=>none
 | .sl sz x lo hi mx=>(cj sz H (ρ x) (lo.map ρ) (hi.map ρ) (mx.map ρ)).map fun v=>(.v v,H)
 | .fa off x=>match ρ x with| .pointer (some a)=>bif a.spot.isNone then some (.v (.pointer (some ⟨a.block,a.off+off,none⟩)),H)else none|_=>none
 | .ia sz x i=>match ρ x,ρ i with
   | .slice (some a) len _, .int _ n=>if 0≤n∧n<len then(bif a.spot.isNone then some (.v (.pointer (some ⟨a.block,a.off+n.toNat*sz,none⟩)),H)else none)else none
   |_,_=>none
 | .wz len sz x i=>match ρ x,ρ i with
   | .pointer (some a), .int _ n=>if 0≤n∧n<len then(bif a.spot.isNone then some (.v (.pointer (some ⟨a.block,a.off+n.toNat*sz,none⟩)),H)else none)else none
   |_,_=>none
 | .ix x i=>match ρ x,ρ i with
   | .string s, .int _ n=>if 0≤n then(match s[n.toNat]? with|some b=>some (.v (.int .u8 b.toNat),H)|none=>none)else none
   |_,_=>none
 | .look kk z x k ok=>match ρ x with
   | .map none=>bif cO kk (ρ k)then some (.v (bif ok then .tuple #[z, .bool false]else z),H)else none
   | .map (some r)=>match H.get r with
     |some (.map es)=>bif cO kk (ρ k)&&decide (H.n0≤r)then(match gk (ρ k) es with
      |some (some v)=>some (.v (bif ok then .tuple #[v, .bool true]else v),H)
      |some none=>some (.v (bif ok then .tuple #[z, .bool false]else z),H)
      |none=>none)else none
     |_=>none
   |_=>none
 | .qg kk x k v=>match ρ x with
   | .map (some r)=>match H.get r with
     |some (.map es)=>bif cO kk (ρ k)&&decide (H.n0≤r)&& !cN (ρ v)then(lV (ρ k) (ρ v) es).map fun es'=>(.v undef,H.put r (some (.map es')))else none
     |_=>none
   |_=>none
 | .ext x i=>match ρ x with| .tuple vs=>(match vs.toList[i]? with|some v=>some (.v v,H)|none=>none)|_=>none
 | .call f as=>some (.enter f (as.map ρ),H)
 | .callv x as=>match ρ x with| .func (.func f) first cap=>some (.enter f (first.toList++as.map ρ++cap.toList),H)|_=>none
 | .app sz bytes s x=>(bL sz bytes H (ρ s) (ρ x)).map fun r=>(.v r.1,r.2)
 | .copy sz d s=>(lU sz H (ρ d) (ρ s)).map fun r=>(.v r.1,r.2)
 | .lens x=>match ρ x with| .string s=>some (.v (.int .i64 s.size),H)|_=>none
 | .eQ x=>match ρ x with| .slice _ n _=>some (.v (.int .i64 n),H)|_=>none
 | .QI t x=>some (.v (.iface t (ρ x)),H)
 | .mxl x l=>(HQ (ρ x) (l.map ρ)).map fun v=>(.v v,H)
 | .mnl x l=>(Lp (ρ x) (l.map ρ)).map fun v=>(.v v,H)
 | .eqs neg offs x y=>match ρ x,ρ y with
   | .agg cs, .agg ds=>(du cs.toList ds.toList offs).map fun b=>(.v (.bool (bif neg then !b else b)),H)
   |_,_=>none
 | .xt k l=>(DU k (l.map ρ) H).map fun r=>(.v r.1,r.2)
structure AO where
 g:Option (Nat×Bool)
 d:Option Nat
 o:cQ
def AO.wanted (o:AO) (fr:Fr):Bool:=match o.g with
 |none=>true
 |some (t,b)=>match fr.get t with| .bool c=>c==b|_=>false
def Fr.bg (f:Fr) (d:Option Nat) (v:Value):Fr:=match d with|some n=>f.put n v|none=>f
abbrev Cl:=Nat→List Value→AH→Option (Value×AH)
def kP (call:Cl) (o:AO) (fr:Fr) (H:AH):Option (Fr×AH):=
 bif o.wanted fr then
  (match aA o.o (X.ev fr) H with
  |some (.v x,H')=>some (fr.bg o.d x,H')
  |some (.enter f as,H')=>match call f as H' with|some (x,QJ)=>some (fr.bg o.d x,QJ)|none=>none
  |none=>none)
 else some (fr.bg o.d undef,H)
def ops (call:Cl):List AO→Fr→AH→Option (Fr×AH)
 |[],fr,H=>some (fr,H)
 |o::l,fr,H=>match kP call o fr H with|some (cB,H')=>ops call l cB H'|none=>none
def dz:Value→Value→Bool
 | .bool a,.bool b=>a==b
 | .int k a,.int k' b=>k==k'&&a==b
 | .string a,.string b=>a.data.toList==b.data.toList
 | .pointer a,.pointer b=>a==b
 | .slice a n c,.slice a' n' c'=>a==a'&&n==n'&&c==c'
 | .map a,.map b=>a==b
 | .nilFunc,.nilFunc=>true
 | .nilIface,.nilIface=>true
 |_,_=>false
def eG:List Value→List Value→Bool
 |[],[]=>true
 |a::l,b::m=>dz a b&&eG l m
 |_,_=>false
def ff (o:AO) (fr:Fr) (H:AH):Option (Addr×List Value):=match o.o with
 | .ld x=>match x.ev fr with| .pointer (some a)=>(H.ldn a 1).map fun l=>(a,l)|_=>none
 | .ldn n x=>match x.ev fr with| .pointer (some a)=>(H.ldn a n).map fun l=>(a,l)|_=>none
 |_=>none
def sameAt (H:AH) (l:Addr×List Value):Bool:=match H.ldn l.1 l.2.length with|some m=>eG m l.2|none=>false
def dq (o:AO) (fr:Fr):Option Nat:=match o.o with
 | .st _ x _| .ld x| .ldn _ x=>match x.ev fr with| .pointer (some a)=>some a.block|_=>none
 | .look _ _ x _ _=>match x.ev fr with| .map (some r)=>some r|_=>none
 | .sl _ x _ _ _=>match x.ev fr with| .slice (some a) _ _=>bif a.spot.isNone then some a.block else none|_=>none
 |_=>none
def m9:Option pG→Option pG→Bool
 |some (.cells z c),some (.cells z' c')=>Nat.beq z z'&&eG c c'
 |some (.map []),some (.map [])=>true
 |_,_=>false
def nth {α:Type}:List α→Nat→Option α
 |[],_=>none
 |x::_,0=>some x
 |_::l,n+1=>nth l n
def ko (l:List AO) (ss:List (Fr×AH)):Nat×Nat×Nat→Bool
 |(k,p,q)=>match nth l p,nth ss p,nth ss (p+1),nth l q,nth ss q,nth ss (q+1)with
  |some op,some (fp,Hp),some (_,HT),some oq,some (fq,_),some (_,Cb)=>
   !op.wanted fp|| !oq.wanted fq||(match k with
     |0=>match ff op fp Hp with|some x=>sameAt Cb x|none=>false
     |1=>m9 (HT.get Hp.nx) (Cb.get Hp.nx)
     |_=>match dq op fp,dq oq fq with|some b,some b'=> !Nat.beq b b'|_,_=>true)
  |_,_,_,_,_,_=>false
def chain:List (Fr×AH)→Bool
 |a::b::l=>Nat.beq a.2.n0 b.2.n0&&Nat.ble a.2.nx b.2.nx&&chain (b::l)
 |_=>true
inductive AC where
 |skip
 |cL (l:List AO)
 |bO (l:List AO) (ck:List (Nat×Nat×Nat))
 |seq (a b:AC)
 |cond (x:X) (a b:AC)
 |block (i:Nat) (a:AC)
 |loop (a:AC)
 |exit (i:Nat)
 |ret
inductive Ex where
 |normal
 |exit (i:Nat)
 |ret
def kQ (call:Cl):List AO→Fr→AH→Option (List (Fr×AH))
 |[],_,_=>some []
 |o::l,fr,H=>match kP call o fr H with
  |some (cB,H')=>match kQ call l cB H' with|some ss=>some ((cB,H')::ss)|none=>none
  |none=>none
def ig:Fr×AH→List (Fr×AH)→Fr×AH
 |s,[]=>s
 |_,s::l=>ig s l
def Cc (call:Cl) (l:List AO) (ck:List (Nat×Nat×Nat)) (fr:Fr) (H:AH):Option (Fr×AH):=
 match kQ call l fr H with
 |some ss=>bif chain ((fr,H)::ss)&&ck.all (ko l ((fr,H)::ss))then some (ig (fr,H) ss)else none
 |none=>none
def aG (call:Cl):Nat→AC→Fr→AH→Option (Ex×Fr×AH)
 |0,_,_,_=>none
 |m+1,c,fr,H=>match c with
  | .skip=>some (.normal,fr,H)
  | .cL l=>match ops call l fr H with|some (cB,H')=>some (.normal,cB,H')|none=>none
  | .bO l ck=>match Cc call l ck fr H with|some (cB,H')=>some (.normal,cB,H')|none=>none
  | .seq a b=>match aG call m a fr H with|some (.normal,cB,H')=>aG call m b cB H'|r=>r
  | .cond x a b=>match x.ev fr with| .bool true=>aG call m a fr H| .bool false=>aG call m b fr H|_=>none
  | .block i a=>match aG call m a fr H with|some (.exit j,cB,H')=>bif Nat.beq j i then some (.normal,cB,H')else some (.exit j,cB,H')|r=>r
  | .loop a=>match aG call m a fr H with|some (.normal,cB,H')=>aG call m (.loop a) cB H'|r=>r
  | .exit i=>some (.exit i,fr,H)
  | .ret=>some (.ret,fr,H)
inductive RS where
 |tmp (t:Nat)
 |cell (t:Nat) (n:Nat)
 |cells (t:Nat) (n:Nat)
structure AF where
 np:Nat
 nt:Nat
 res:List RS
 body:AC
def RS.get (fr:Fr) (H:AH):RS→Option Value
 | .tmp t=>some (fr.get t)
 | .cell t _=>match fr.get t with| .pointer (some a)=>H.ld a|_=>none
 | .cells t n=>match fr.get t with| .pointer (some a)=>(H.ldn a n).map fun l=>.agg l.toArray|_=>none
def RS.all (fr:Fr) (H:AH):List RS→Option (List Value)
 |[]=>some []
 |r::l=>match r.get fr H,RS.all fr H l with|some v,some vs=>some (v::vs)|_,_=>none
def qh:List Value→Value
 |[v]=>v
 |vs=>.tuple vs.toArray
abbrev Env:=Nat→Option AF
def fM (E:Env) (O:Nat→Option (List Value→AH→Option (Value×AH))):Nat→Cl
 |0,_,_,_=>none
 |n+1,f,as,H=>
  match O f with
  |some g=>g as H
  |none=>
   match E f with
   |none=>none
   |some F=>
    bif Nat.beq as.length F.np then
     (match aG (fM E O n) n F.body (Fr.of as) H with
     |some (.exit _,_,_)=>none
     |some (_,fr,H')=>match RS.all fr H' F.res with|some vs=>some (qh vs,H')|none=>none
     |none=>none)
    else none
abbrev o (d:Nat) (p:cQ):AO:=⟨none,some d,p⟩
abbrev s (p:cQ):AO:=⟨none,none,p⟩
abbrev og (t:Nat) (b:Bool) (d:Nat) (p:cQ):AO:=⟨some (t,b),some d,p⟩
abbrev i (n:Int):X:=.k (.int .i64 n)
open Go
def BT:TypeId:=1000000
def BY:TypeId:=5
section
variable(P:Program)
def cX:Operand→Option X
 | .tmp t=>some (.t t)
 | .const v=>if wy v then some (.k v)else none
 | .func f=>some (.f f)
 | .global _=>none
def Cd:List Operand→Option (List X)
 |[]=>some []
 |x::l=>match cX x,Cd l with|some y,some m=>some (y::m)|_,_=>none
def QK:Option Operand→Option (Option X)
 |none=>some none
 |some x=>(cX x).map some
def eA (t:TypeId):Option Nat:=(P.info? t).map (·.size)
def ij (t:TypeId):Option (List Value):=(P.info? t).bind fun i=>i.zero.bind fun v=>let l:=v.cells.toList;if l.all flat&&l.length==i.size then some l else none
def yJ (t:TypeId):Option Bool:=match P.underlying t with|some (.struct _)=>some true|some (.array _ _)=>some true|some _=>some false|none=>none
def iJ (place:Nat→Option (Nat×Nat)):List (Nat×Operand)→Option (List (Nat×Nat×X))
 |[]=>some []
 |(i,x)::l=>match place i,cX x,iJ place l with|some (o,n),some y,some m=>some ((o,n,y)::m)|_,_,_=>none
def cq (t:TypeId):Option Nat:=match P.underlying t with|some (.int _)=>some 0|some .string=>some 1|some .bool=>some 2|_=>none
def rH (t:TypeId):Option Nat:=match P.underlying t with
 |some .bool=>some 0|some (.pointer _)=>some 1|some (.slice _)=>some 2|some (.func _ _ _)=>some 3|some (.map _ _)=>some 4|_=>none
def DV (c:Call):Option cQ:=
 match c.callee with
 | .value (.func f)=>(Cd c.args.toList).map fun as=> .call f as
 | .value x=>match cX x,Cd c.args.toList with|some y,some as=>some (.callv y as)|_,_=>none
 | .invoke _ _=>none
 | .builtin b=>match b,c.args.toList,c.argTypes.toList with
   | .len,[x],t::_=>match P.underlying t,cX x with
     |some .string,some y=>some (.lens y)
     |some (.slice _),some y=>some (.eQ y)
     |some (.array n _),some _=>some (.mv (.k (goInt n)))
     |_,_=>none
   | .append,[s,x],[t,u]=>match P.underlying t,P.underlying u,cX s,cX x with
     |some (.slice e),some (.slice _),some y,some z|some (.slice e),some .string,some y,some z=>match P.info? e with
      |some i=>if i.size=0∨i.bytes=0∨(ij P e).isNone∨e=BY then none else some (.app i.size i.bytes y z)
      |none=>none
     |_,_,_,_=>none
   | .copy,[s,x],[t,_]=>match P.underlying t,cX s,cX x with
     |some (.slice e),some y,some z=>(eA P e).map fun n=> .copy n y z
     |_,_,_=>none
   | .max,x::l,_=>match cX x,Cd l with|some a,some b=>some (.mxl a b)|_,_=>none
   | .min,x::l,_=>match cX x,Cd l with|some a,some b=>some (.mnl a b)|_,_=>none
   |_,_,_=>none
def qi:Operand→Operand→Bool
 | .tmp a,.tmp b=>a==b
 | .const (.int k a),.const (.int k' b)=>k==k'&&a==b
 |_,_=>false
def WB (o:Oper):Option cQ:=
 match o.op with
 | .move x| .assign x=>(cX x).map .mv
 | .pick c a b=>match cX c,cX a,cX b with|some x,some y,some z=>some (.pick x y z)|_,_,_=>none
 | .alloc e=>if e=BY∨e=BT then none else(ij P e).map .alloc
 | .box e x=>if e=BY then none else(cX x).map .box
 | .build t ps=>match P.underlying t,ij P t with
   |some (.struct fs),some z=>match fs.toList.mapM (fun f=>(P.info? f.type).map fun i=>(f.offset,i.size))with|some pl=>(iJ (fun i=>pl[i]?) ps.toList).map fun l=> .build z l|none=>none
   |some (.array _ e),some z=>match eA P e with|some n=>(iJ (fun i=>some (i*n,n)) ps.toList).map fun l=> .build z l|none=>none
   |_,_=>none
 | .buildSlice t len ps=>match P.underlying t with
   |some (.slice e)=>match eA P e,ij P e with
    |some n,some z=>if len*n>2^24∨n=0∨e=BY then none else(iJ (fun i=>some (i*n,n)) ps.toList).map fun l=> .bsl len n (List.replicate len z).flatten l
    |_,_=>none
   |_=>none
 | .load t a=>match yJ P t,cX a with
   |some true,some x=>(eA P t).map fun n=> .ldn n x
   |some false,some x=>some (.ld x)
   |_,_=>none
 | .store t a v=>match cX a,cX v with|some x,some y=>(eA P t).map fun n=> .st n x y|_,_=>none
 | .nilCheck x=>(cX x).map .bB
 | .binOp op t x y _=>match cX x,cX y with
   |some a,some b=>match P.underlying t with
    |some (.int _)|some .string=>some (.bin op a b)
    |some (.struct fs)=>if(fs.toList.all fun f=>f.name != "_" &&(cq P f.type).isSome)&& !P.stoodInHeld t&& !P.eqGuardType P.depth t then
      (match op with
      | .eql=>some (.eqs false (fs.toList.map fun f=>(f.offset,(cq P f.type).getD 9)) a b)
      | .neq=>some (.eqs true (fs.toList.map fun f=>(f.offset,(cq P f.type).getD 9)) a b)
      |_=>none)else none
    |_=>match rH P t,op with
     |some k, .eql=>some (.eqk k false a b)
     |some k, .neq=>some (.eqk k true a b)
     |_,_=>none
   |_,_=>none
 | .unOp op _ x=>(cX x).map (.un op)
 | .convert src dst x=>match P.underlying src,P.underlying dst,cX x with
   |some (.int _),some (.int k),some y=>some (.B9 k y)
   |some (.int _),some .string,some y=>some (.QH y)
   |_,_,_=>none
 | .makeFunc (.func f) first cap=>match Cd first.toList,Cd cap.toList with|some a,some b=>some (.mkf f a b)|_,_=>none
 | .makeMap _ none=>some .mkmap
 | .makeSlice t l c=>match P.underlying t with
   |some (.slice e)=>match P.info? e,ij P e,cX l with
    |some i,some z,some x=>if qi l c∧i.size≠0∧i.bytes≠0∧e≠BY then some (.mksl i.size i.bytes z x)else none
    |_,_,_=>none
   |_=>none
 | .slice t x lo hi mx=>match cX x,QK lo,QK hi,QK mx with
   |some a,some b,some c,some d=>match P.underlying t with
    |some .string=>some (.sl 0 a b c d)
    |some (.slice e)=>match eA P e with|some n=>if n=0 then none else some (.sl n a b c d)|none=>none
    |_=>none
   |_,_,_,_=>none
 | .fieldAddr s x f=>match P.underlying s,cX x with
   |some (.struct fs),some y=>match fs[f]? with
    |some g=>match eA P g.type with|some n=>if n=0 then none else some (.fa g.offset y)|none=>none
    |none=>none
   |_,_=>none
 | .indexAddr t x i=>match P.underlying t,cX x,cX i with
   |some (.slice e),some a,some b=>(eA P e).map fun n=> .ia n a b
   |some (.array len e),some a,some b=>(eA P e).map fun n=> .wz len n a b
   |_,_,_=>none
 | .index t x i=>match P.underlying t,cX x,cX i with
   |some .string,some a,some b=>some (.ix a b)
   |_,_,_=>none
 | .lookup t x k ok=>match P.underlying t,cX x,cX k with
   |some (.map kt e),some a,some b=>match(P.info? e).bind (·.zero)with
    |some z=>match cq P kt with|some kk=>if wy z then some (.look kk z a b ok)else none|none=>none
    |none=>none
   |_,_,_=>none
 | .mapUpdate t m k x| .insert t m k x=>match P.underlying t,cX m,cX k,cX x with
   |some (.map kt _),some a,some b,some c=>(cq P kt).map fun kk=> .qg kk a b c
   |_,_,_,_=>none
 | .makeInterface t x=>match P.underlying t,cX x with
   |some (.interface _),_=>none
   |some _,some y=>some (.QI t y)
   |_,_=>none
 | .extract x i=>(cX x).map fun y=> .ext y i
 | .call c=>DV P c
 |_=>none
def MS:Option (List Value)→Bool
 |some [.pointer none,.slice none 0 0]=>true
 |_=>false
def MT (o:Oper):cQ:=
 match o.op with
 | .field s x f=>match P.underlying s,cX x with
   |some (.struct fs),some y=>match fs[f]? with
    |some g=>match eA P g.type,yJ P g.type with|some n,some ag=>bif ag||Nat.beq n 1 then .xt (.HR g.offset n ag) [y]else .xt .bad []|_,_=> .xt .bad []
    |none=> .xt .bad []
   |_,_=> .xt .bad []
 | .index t x i=>match P.underlying t,cX x,cX i with
   |some (.array len e),some a,some b=>match eA P e,yJ P e with|some n,some ag=>bif ag||Nat.beq n 1 then .xt (.HS len n ag) [a,b]else .xt .bad []|_,_=> .xt .bad []
   |_,_,_=> .xt .bad []
 | .binOp op t x y _=>match P.underlying t,cX x,cX y with
   |some (.array len e),some a,some b=>match cq P e,eA P e with
    |some kk,some n=>bif Nat.beq n 1&& !P.eqGuardType P.depth t then(match op with| .eql=> .eqs false ((List.range' 0 len).map fun i=>(i,kk)) a b| .neq=> .eqs true ((List.range' 0 len).map fun i=>(i,kk)) a b|_=> .xt .bad [])else .xt .bad []
    |_,_=> .xt .bad []
   |_,_,_=> .xt .bad []
 | .alloc e=>bif decide (e=BT)&&MS (ij P e)&&decide (BT≠BY)then .xt .tD []else .xt .bad []
 |_=> .xt .bad []
def Io (o:Oper):cQ:=(WB P o).getD (MT P o)
inductive yq where
 |pure|load|alloc|kN|read|st
 deriving DecidableEq
def fA:cQ→yq
 | .ld _| .ldn _ _=>.load
 | .alloc _| .box _| .bsl _ _ _ _| .mkmap| .mksl _ _ _ _=>.alloc
 | .st _ _ _=>.st
 | .qg _ _ _ _| .call _ _| .callv _ _| .app _ _ _ _| .copy _ _ _| .xt .bad _| .xt .tD _=>.kN
 | .look _ _ _ _ _| .sl _ _ (some _) _ _=>.read
 |_=>.pure
def uC (ops:Array Oper):Option (Nat×Bool)→Option (Option (Nat×Bool))
 |none=>some none
 |some (j,b)=>match(ops[j]?).bind (·.dst)with|some t=>some (some (t,b))|none=>none
def Lq (nt:Nat):Option Nat→Bool
 |some d=>decide (d<nt)
 |none=>true
def Lr (nt:Nat) (ops:Array Oper) (o:Oper):Option AO:=
 match uC ops o.guard with
 |some g=>bif Lq nt o.dst then some ⟨g,o.dst,Io P o⟩else none
 |none=>none
def ox (nt:Nat) (ops:Array Oper):List Oper→Option (List AO)
 |[]=>some []
 |o::l=>match Lr P nt ops o,ox nt ops l with|some a,some m=>some (a::m)|_,_=>none
def force {α:Type} (n:Nat) (k:Nat→α):α:=match n with
 |0=>k 0
 |m+1=>k (m+1)
theorem force_eq {α:Type} (n:Nat) (k:Nat→α):force n k=k n:=by cases n<;>rfl
def wA (n:Nat):List Nat→Bool
 |[]=>false
 |x::l=>Nat.beq x n||wA n l
def yq.j6:yq→Bool
 | .kN| .st=>false
 |_=>true
def eR:yq→yq→Bool
 | .read,.kN=>false
 |k,.kN=>k.j6
 | .st,.st=>true
 | .st,_=>false
 | .kN,_=>false
 |_,_=>true
def X.tmp:X→Option Nat
 | .t n=>some n
 |_=>none
def tmpsOf (o:AO):List Nat:=(match o.g with|some (t,_)=>[t]|none=>[])++o.o.xs.filterMap X.tmp
def j7 (x y:AO):Bool:=match x.d with
 |some d=>!wA d (tmpsOf y)&&(match y.d with|some e=>!Nat.beq e d|none=>true)
 |none=>true
def Ip (o:Oper):List Nat:=o.after.toList.filterMap fun e=>bif Region.binds .any e then some e.on else none
def yK (fl:Bool) (L:Nat):Nat→List (yq×List Nat)→Option Nat
 |_,[]=>none
 |i,(k,d)::l=>bif !L.testBit i&&k.j6==fl&&d.all (fun e=>L.testBit e)then some i else yK fl L (i+1) l
def yL (tb:List (yq×List Nat)):Nat→Nat→List Nat
 |0,_=>[]
 |f+1,L=>match yK true L 0 tb with
  |some i=>i::force (L|||1<<<i) (yL tb f)
  |none=>match yK false L 0 tb with
   |some i=>i::force (L|||1<<<i) (yL tb f)
   |none=>[]
structure Row where
 o:AO
 k:yq
 j:Nat
 dep:List Nat
 m:Nat
def tE (e:Nat):List (Nat×Nat)→Nat
 |[]=>0
 |(j,m)::l=>bif Nat.beq j e then m else tE e l
def nz (am:List (Nat×Nat)):List Nat→Nat
 |[]=>0
 |e::l=>nz am l|||(1<<<e|||tE e am)
def An {α:Type} (l:List AO) (dp:List (List Nat)):List Nat→List (Nat×Nat)→(List Row→α)→α
 |[],_,k=>k []
 |j::r,am,k=>match nth l j,nth dp j with
  |some o,some d=>force (nz am d) fun m=>An l dp r ((j,m)::am) fun rs=>k (⟨o,fA o.o,j,d,m⟩::rs)
  |_,_=>k []
def Ao:List Row→List Nat→Bool
 |[],_=>true
 |y::l,done=>!wA y.j done&&y.dep.all (fun e=>wA e done)&&Ao l (y.j::done)
def DW (x y:Row):Bool:=y.m.testBit x.j||(j7 x.o y.o&&j7 y.o x.o&&eR x.k y.k)
def pw:List Row→Bool
 |[]=>true
 |x::l=>l.all (DW x)&&pw l
def yM (p q:Nat) (x y:Row):List (Nat×Nat×Nat):=
 bif y.m.testBit x.j then []else match x.k,y.k with
  | .load,.kN=>[(0,p,q)]
  | .alloc,.kN=>[(1,p,q)]
  | .load,.st| .read,.st| .st,.st=>[(2,p,q)]
  |_,_=>[]
def uD (p:Nat) (x:Row):Nat→List Row→List (Nat×Nat×Nat)
 |_,[]=>[]
 |q,y::l=>yM p q x y++uD p x (q+1) l
def tF:Nat→List Row→List (Nat×Nat×Nat)
 |_,[]=>[]
 |p,x::l=>uD p x (p+1) l++tF (p+1) l
def Iq:Nat→List Nat
 |0=>[]
 |n+1=>n::Iq n
def MU:X→Bool
 | .k v=>wy v
 |_=>true
def yN (n:Nat) (rs:List Row):Bool:=rs.all (fun r=>r.o.o.xs.all MU)&&Nat.beq rs.length n&&(Iq n).all (fun i=>wA i (rs.map (·.j)))&&Ao rs []&&pw rs
def Ls (l:List AO) (dp:List (List Nat)):Option AC:=
 An l dp (yL ((l.map fun o=>fA o.o).zip dp) l.length 0) [] fun rs=>bif yN l.length rs then some (.bO (rs.map (·.o)) (tF 0 rs))else none
def eH (nt:Nat):Code→Option AC
 | .skip=>some .skip
 | .region _ ops false=>(ox P nt ops ops.toList).map .cL
 | .region _ ops true=>match ox P nt ops ops.toList with
   |some l=>Ls l (ops.toList.map Ip)
   |none=>none
 | .seq a b=>match eH nt a,eH nt b with|some x,some y=>some (.seq x y)|_,_=>none
 | .cond c a b=>match cX c,eH nt a,eH nt b with|some z,some x,some y=>some (.cond z x y)|_,_,_=>none
 | .block i a=>(eH nt a).map (.block i)
 | .loop a=>(eH nt a).map .loop
 | .exit i=>some (.exit i)
 | .ret=>some .ret
 | .refuse _=>some (.cond (.k (.int .i64 0)) .skip .skip)
 |_=>none
def wB:List ResultVar→Option (List RS)
 |[]=>some []
 | .tmp t::l=>(wB l).map fun m=> .tmp t::m
 | .cell t ty::l=>match yJ P ty,eA P ty,wB l with
   |some true,some n,some m=>some (.cells t n::m)
   |some false,some n,some m=>some (.cell t n::m)
   |_,_,_=>none
def ar (fn:Func):Option AF:=
 match fn.body with
 |some c=>match eH P fn.ntmps c,wB P fn.results.toList with
  |some x,some r=>if fn.name== "runtime.NumGoroutine" ||decide (fn.ntmps<fn.params.size+fn.nfree)then none else some ⟨fn.params.size+fn.nfree,fn.ntmps,r,x⟩
  |_,_=>none
 |none=>none
end
end Go.Proofs.YtppcmpmnglaleaaGreat.A
