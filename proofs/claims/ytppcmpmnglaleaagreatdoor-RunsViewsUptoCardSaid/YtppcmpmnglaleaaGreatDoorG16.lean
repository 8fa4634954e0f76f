/- Texts that stand one behind the other: AbsR, S24, S25, S26, S27, S28, S29, S30, S31, S32, S33, S34, S35, S36, S37, S38, S39. -/
import Derived.Test.YtppcmpmnglaleaaGreatDoorG15
import Derived.SizedLaws
import Derived.OpenShut
import Derived.ProofKit
import Derived.ChangeOld
import Derived.ShutString
set_option linter.unusedVariables false
set_option linter.unusedSimpArgs false
namespace Go.Proofs.YtppcmpmnglaleaaGreatDoor.A
open Go Go.RowKit Go.WideShapes Go.ChangeShapes
section
variable{T:Type} {enc:TypeId×Value→T} {P:Program} {W:World}
theorem D7 {α:Type} {l:List α} (h:l.length=2):∃a b,l=[a,b]:=by
 match l,h with
 |[a,b],_=>exact ⟨a,b,rfl⟩
theorem KO {α:Type} {l:List α} (h:l.length=3):∃a b c,l=[a,b,c]:=by
 match l,h with
 |[a,b,c],_=>exact ⟨a,b,c,rfl⟩
def Rd (enc:TypeId×Value→T) (P:Program) (W:World) (n:Nat) (t:TypeId) (cs:List Value) (d:DataW T):Prop:=∃ps,DataW.trod enc P W 0 (fun _=>true) true n t cs=some (d,ps)
def wX (P:Program) (t:TypeId) (d:DataW T):Prop:=∀n∈d.weights P t,n≤reachBytes
theorem fT {n:Nat} {t:TypeId} {k:IntKind} {cs:List Value} {d:DataW T} (ht:P.underlying t=some (.int k)) (h:Rd enc P W n t cs d):∃m,cs=[.int k m]∧(Lit.int k m).wf=true:=by
 obtain ⟨ps,h⟩:=h
 obtain ⟨m,h1,_,h2⟩:=DataW.trod_int ht h
 exact ⟨m,h1,h2⟩
theorem wf_i64 {m:Int} (h:(Lit.int .i64 m).wf=true):e8 m:=by
 have:=bounds_i64 h
 unfold e8;omega
theorem zr {b o:Nat} {v:Value} (h:W.cell? ⟨b,o,none⟩=some v):∃arr ty fz,W.heap[b]?=some (.cells arr ty fz)∧arr[o]?=some v:=by
 unfold World.cell? at h
 dsimp only at h
 split at h
 ·rename_i c e f hc
  simp at h
  exact ⟨c,e,f,hc,h⟩
 ·cases h
theorem Iz {b o n:Nat} {cs l:List Value} (hn:0<n) (hl:cs.length=n) (h:∀j,j<n→W.cell? ⟨b,o+j,none⟩=cs[j]?) (hc:aJ W.heap.size cs=some l):b<W.heap.size∧(H0 W).ldn ⟨b,o,none⟩ n=some l:=by
 obtain ⟨arr,ty,fz,hb,h0⟩:=zr (b:=b) (o:=o) (v:=cs[0]'(by omega)) (by have:=h 0 hn;rw [Nat.add_zero]at this;rw [this];exact alN (by omega))
 have dm:=(al1.1 hb).1
 refine ⟨dm,?_⟩
 have hj:∀j,j<n→arr[o+j]?=cs[j]?:=by
  intro j hj
  have:=h j hj
  obtain ⟨arr',_,_,jW,h'⟩:=zr (v:=cs[j]'(by omega)) (by rw [this];exact alN (by omega))
  rw [hb]at jW
  cases jW
  rw [h',alN (by omega)]
 have hlen:o+n≤arr.toList.length:=by
  have:=hj (n- 1) (by omega)
  rw [alN (by omega)]at this
  have:=(al1.1 this).1
  rw [Array.length_toList]
  omega
 have RU:(arr.toList.drop o).take n=cs:=by
  apply List.ext_getElem?
  intro j
  by_cases LO:j<n
  ·rw [List.getElem?_take,if_pos LO,List.getElem?_drop,Array.getElem?_toList,hj j LO]
  ·rw [List.getElem?_take,if_neg LO,List.getElem?_eq_none (by omega)]
 have hg:(H0 W).get b=some (.cells 1048576 arr.toList):=by
  rw [AH.dR dm,xE]
  unfold rY
  rw [hb]
 unfold AH.ldn
 dsimp only
 rw [hg]
 simp only [hlen,decide_true,cond_true,RU]
 rw [show decide (b<(H0 W).n0)=true from decide_eq_true dm,cond_true]
 exact hc
inductive eu {α β:Type} (C:α→β→Prop):List α→List β→Prop where
 |nil:eu C [] []
 |cons {a:α} {b:β} {l:List α} {m:List β}:C a b→eu C l m→eu C (a::l) (b::m)
theorem eu.length {α β:Type} {C:α→β→Prop}:∀{l:List α} {m:List β},eu C l m→l.length=m.length
 |_,_,.nil=>rfl
 |_,_,.cons _ h=>by simp [eu.length h]
theorem IA {α β:Type} {C:α→β→Prop} {l:List α}:(∀(i:Nat) (a:α),l[i]?=some a→∃b,C a b)→∃m,eu C l m:=by
 induction l with
 |nil=>exact fun _=>⟨[],.nil⟩
 |cons a l ih=>
  intro h
  obtain ⟨b,hb⟩:=h 0 a rfl
  obtain ⟨m,hm⟩:=ih fun i x hx=>h (i+1) x (by simpa using hx)
  exact ⟨b::m,.cons hb hm⟩
theorem zt {α:Type} {p:Nat→α→Prop}:∀n,(∀i,i<n→∃x,p i x)→∃l:List α,l.length=n∧∀i x,l[i]?=some x→p i x
 |0,_=>⟨[],rfl,by simp⟩
 |n+1,h=>by
  obtain ⟨l,hl,hp⟩:=zt n fun i hi=>h i (by omega)
  obtain ⟨x,hx⟩:=h n (by omega)
  refine ⟨l++[x],by simp [hl],fun i y hy=>?_⟩
  by_cases hi:i<n
  ·rw [al0 (by omega)]at hy;exact hp i y hy
  ·rw [List.getElem?_append_right (by omega)]at hy
   have:i=n:=by
    have:=(alT.1 hy).1
    simp at this;omega
   subst this
   simp [hl]at hy
   subst hy;exact hx
theorem IB {α:Type} {C:List Value→α→Prop} {t e:TypeId} {fuel:Nat} {cs:List Value} {d:DataW T} (ht:P.underlying t=some (.slice e)) (Py:0<P.cellsOf e) (hbe:0<P.bytesOf e)
 (h:Rd enc P W fuel t cs d) (hw:wX P t d) (rd:∀m cW d',m<fuel→Rd enc P W m e cW d'→wX P e d'→∃l y,aJ W.heap.size cW=some l∧C l y):
 ∃v rows ys,aJ W.heap.size cs=some [v]∧Rows (H0 W) (P.cellsOf e) v rows∧eu C rows ys∧rows.length*P.bytesOf e≤reachBytes:=by
 obtain ⟨ps,h⟩:=h
 rcases DataW.trod_slice ht h with⟨rfl,_⟩|⟨a,len,cap,elems,rest,n,hf,rfl,hx,_,Us,_,hlen,hel,_,_⟩
 ·exact ⟨_,[],[],rfl,⟨_,_,rfl,by simp⟩,.nil,by simp⟩
 cases hx
 have Qr:∀m∈((elems.map (·.1)).length+(rest.map (·.1)).length)*P.bytesOf e::(DataW.weightsAll P e (elems.map (·.1))++DataW.weightsAll P e (rest.map (·.1))),m≤reachBytes:=by
  intro m hm
  refine hw m ?_
  simp only [DataW.weights,ht]
  exact hm
 have Na:len*P.bytesOf e≤reachBytes:=by
  have:=Qr _ (List.mem_cons_self ..)
  rw [List.length_map,hlen]at this
  exact Nat.le_trans (Nat.mul_le_mul_right _ (by omega)) this
 have aT:∀(l:List (DataW T)) (x:DataW T),x∈l→∀m∈x.weights P e,m∈DataW.weightsAll P e l:=by
  intro l
  induction l with
  |nil=>intro x hx;cases hx
  |cons y l ih=>
   intro x hx m hm
   simp only [DataW.weightsAll,List.mem_append]
   rcases List.mem_cons.1 hx with rfl|hx
   ·exact .inl hm
   ·exact .inr (ih x hx m hm)
 by_cases h0:len=0
 ·subst h0
  cases hs:(decide (a.block<W.heap.size)&&a.spot.isNone)with
  |true=>exact ⟨.slice (some a) 0 cap,[],[],by simp only [aJ,aK,hs,cond_true],⟨_,_,rfl,by simp⟩,.nil,by simp⟩
  |false=>exact ⟨.slice (some ⟨0,0,some 1⟩) 0 0,[],[],by simp [aJ,aK,hs],⟨_,_,rfl,by simp⟩,.nil,by simp⟩
 obtain ⟨b,o,spot⟩:=a
 have key:∀i,i<len→∃cW d',(∃m,m<fuel∧Rd enc P W m e cW d')∧wX P e d'∧W.cells? 0 ((⟨b,o,spot⟩:Addr).add (i*P.cellsOf e)) (P.cellsOf e)=some cW:=by
  intro i hi
  have:=hel i hi
  rw [alN (by omega)]at this
  obtain ⟨cW,h1,h2⟩:=alY.1 this
  refine ⟨cW,(elems[i]'(by omega)).1,⟨n,by omega,⟨_,h2⟩⟩,fun m hm=>?_,h1⟩
  refine Qr m (List.mem_cons_of_mem _ (List.mem_append_left _ (aT _ _ ?_ m hm)))
  exact List.mem_map_of_mem (List.getElem_mem _)
 have RW:spot=none∧b<W.heap.size:=by
  obtain ⟨cW,d',_,_,hc⟩:=key 0 (by omega)
  obtain ⟨_,hl,hj⟩:=World.cells?_some hc
  have:=hj 0 Py
  rw [alN (by omega)]at this
  simp only [Nat.zero_mul,Addr.add,if_true]at this
  unfold World.cell? at this
  dsimp only at this
  split at this
  ·rename_i c ty fz uw
   cases spot with
   |none=>exact ⟨rfl,(al1.1 uw).1⟩
   |some x=>simp at this
  ·cases this
 obtain ⟨rfl,hb⟩:=RW
 have RX:∀o k,(⟨b,o,none⟩:Addr).add k=⟨b,o+k,none⟩:=by
  intro o k
  unfold Addr.add
  split
  ·rename_i hk;subst hk;rfl
  ·rfl
 obtain ⟨rows,xR,eD⟩:=zt (p:=fun i (r:List Value)=>(∃y,C r y)∧(H0 W).ldn ⟨b,o+i*P.cellsOf e,none⟩ (P.cellsOf e)=some r) len (fun i hi=>by
  obtain ⟨cW,d',⟨m,hm,hr⟩,KP,hc⟩:=key i hi
  obtain ⟨l,y,h1,h2⟩:=rd m cW d' hm hr KP
  obtain ⟨_,hl,hj⟩:=World.cells?_some hc
  refine ⟨l,⟨y,h2⟩,(Iz Py hl (fun j hjj=>?_) h1).2⟩
  have:=hj j hjj
  rw [RX,RX]at this
  exact this)
 obtain ⟨ys,wS⟩:=IA (l:=rows) (C:=C) fun i r hr=>(eD i r hr).1
 refine ⟨.slice (some ⟨b,o,none⟩) len cap,rows,ys,?_,⟨_,_,by rw [xR],fun i r hi=>⟨b,o,rfl,(eD i r hi).2⟩⟩,wS,by rw [xR];exact Na⟩
 simp [aJ,aK,hb]
theorem si {t:TypeId} {fs:Array Field} {fuel:Nat} {cs:List Value} {d:DataW T} (ht:P.underlying t=some (.struct fs)) (h:Rd enc P W fuel t cs d) (hw:wX P t d):
 cs.length=P.cellsOf t∧∃m,m<fuel∧∀(i:Nat) (f:Field),fs[i]?=some f→∃di,Rd enc P W m f.type ((cs.drop f.offset).take (P.cellsOf f.type)) di∧wX P f.type di:=by
 obtain ⟨ps,h⟩:=h
 obtain ⟨xs,n,hf,hx,hl,IC,xS⟩:=DataW.trod_struct ht h
 cases hx
 refine ⟨hl,n,by omega,fun i f hi=>?_⟩
 have dm:=(al1.1 hi).1
 have:=xS i f hi
 rw [alN (by omega)]at this
 refine ⟨_,⟨_,this⟩,fun m hm=>hw m ?_⟩
 simp only [DataW.weights,ht]
 exact DataW.weights_mem_each (j:=i) (t:=f.type) (d:=(xs[i]'(by omega)).1) (by simp [hi]) (by simp [alN (show i<xs.length by omega)]) m hm
theorem cY {n0:Nat} {k:IntKind} {m:Int} {cs l:List Value} (h:aJ n0 cs=some l):aJ n0 (.int k m::cs)=some (.int k m::l):=by simp [aJ,aK,flat,h]
theorem kl {n0:Nat} {c v:Value} {cs l:List Value} (h1:aJ n0 [c]=some [v]) (h:aJ n0 cs=some l):aJ n0 (c::cs)=some (v::l):=by
 simp only [aJ]at h1⊢
 split at h1
 ·rename_i x m h2 h3
  simp only [alO]at h3
  subst h3
  simp only [alO,List.cons.injEq,and_true]at h1
  subst h1
  simp [h2,h]
 ·cases h1
theorem ID {c:Array Value} {l:List Value} (h:aJ W.heap.size c.toList=some l):V (qo W) (.agg l.toArray) (.agg c):=by
 obtain ⟨h1,h2⟩:=pY (XZ W) (l:=c.toList) (m:=l) h
 exact .agg (by simpa using h1) (by simpa using h2)
end
end Go.Proofs.YtppcmpmnglaleaaGreatDoor.A
namespace Go.Proofs.YtppcmpmnglaleaaGreatDoor.A
open Go
section
variable{T:Type} {enc:TypeId×Value→T} {W:World}
theorem cI:Tryz.prog.cellsOf 3=1:=by kernel_rfl
theorem cIs:Tryz.prog.cellsOf 26=1:=by kernel_rfl
end
end Go.Proofs.YtppcmpmnglaleaaGreatDoor.A
namespace Go.Proofs.YtppcmpmnglaleaaGreatDoor.A
open Go
theorem tI {a b:Int} (ha:0≤a):bq .rem (.int .i64 a) (.int .i64 b)=if b=0 then none else some (.int .i64 (a%b)):=by
 by_cases h:b=0
 ·simp [bq,cd,eX,h]
 ·simp [bq,cd,eX,h]
  rw [Int.tmod_eq_emod_of_nonneg ha]
theorem D9 {a b:Int} (ha:0≤a) (hi:a≤2^62) (hb:0<b):bq .quo (.int .i64 a) (.int .i64 b)=some (.int .i64 (a/b)):=by
 have h0:¬ b=0:=by omega
 have h1:0≤a/b:=Int.ediv_nonneg ha (by omega)
 have h2:a/b≤a:=Int.ediv_le_self _ ha
 simp only [bq,cd,eX,h0,if_true,if_false]
 rw [Int.tdiv_eq_ediv_of_nonneg ha,aj ⟨by omega,by omega⟩]
theorem jw (a:Nat) (h:a<2^62):(BitVec.ofInt 64 (a:Int)).toNat=a:=by
 rw [BitVec.toNat_ofInt]
 have:((a:Int)%((2^64:Nat):Int))=a:=Int.emod_eq_of_lt (by omega) (by omega)
 rw [this];rfl
theorem IE {a b:Nat} (ha:a<2^62) (hb:b<2^62):bq .and (.int .i64 a) (.int .i64 b)=some (.int .i64 ((a&&&b:Nat):Int)):=by
 have:(BitVec.ofInt IntKind.i64.bits (a:Int)&&&BitVec.ofInt IntKind.i64.bits (b:Int)).toNat=a&&&b:=by
  show(BitVec.ofInt 64 (a:Int)&&&BitVec.ofInt 64 (b:Int)).toNat=a&&&b
  rw [BitVec.toNat_and,jw a ha,jw b hb]
 have h2:a&&&b≤a:=Nat.and_le_left
 simp only [bq,cd,eX,if_true,this]
 rw [aj ⟨by omega,by omega⟩]
theorem Nb {a b:Nat} (ha:a<2^62) (hb:b<2^62):bq .or (.int .i64 a) (.int .i64 b)=some (.int .i64 ((a|||b:Nat):Int)):=by
 have:(BitVec.ofInt IntKind.i64.bits (a:Int)|||BitVec.ofInt IntKind.i64.bits (b:Int)).toNat=a|||b:=by
  show(BitVec.ofInt 64 (a:Int)|||BitVec.ofInt 64 (b:Int)).toNat=a|||b
  rw [BitVec.toNat_or,jw a ha,jw b hb]
 have h2:a|||b<2^62:=Nat.or_lt_two_pow ha hb
 simp only [bq,cd,eX,if_true,this]
 rw [aj ⟨by omega,by omega⟩]
theorem IF {a b:Nat} (ha:a<2^62) (hb:b<2^62):bq .xor (.int .i64 a) (.int .i64 b)=some (.int .i64 ((a^^^b:Nat):Int)):=by
 have:(BitVec.ofInt IntKind.i64.bits (a:Int)^^^BitVec.ofInt IntKind.i64.bits (b:Int)).toNat=a^^^b:=by
  show(BitVec.ofInt 64 (a:Int)^^^BitVec.ofInt 64 (b:Int)).toNat=a^^^b
  rw [BitVec.toNat_xor,jw a ha,jw b hb]
 have h2:a^^^b<2^62:=Nat.xor_lt_two_pow ha hb
 simp only [bq,cd,eX,if_true,this]
 rw [aj ⟨by omega,by omega⟩]
theorem zu {x:Int} {w:Nat} (hw:w≤62):bq .and (.int .i64 x) (.int .i64 (2^w- 1))=some (.int .i64 (x%2^w)):=by
 have hp:0<2^w:=Nat.two_pow_pos w
 have hle:2^w≤2^62:=Nat.pow_le_pow_right (by omega) hw
 have e1:((2:Int)^w- 1)=((2^w- 1:Nat):Int):=by
  rw [Int.natCast_sub hp];simp
 have e2:(BitVec.ofInt IntKind.i64.bits x&&&BitVec.ofInt IntKind.i64.bits ((2^w- 1:Nat):Int)).toNat=(BitVec.ofInt 64 x).toNat%2^w:=by
  show(BitVec.ofInt 64 x&&&BitVec.ofInt 64 ((2^w- 1:Nat):Int)).toNat=(BitVec.ofInt 64 x).toNat%2^w
  rw [BitVec.toNat_and,jw _ (by omega),Nat.and_two_pow_sub_one_eq_mod]
 have e3:(((BitVec.ofInt 64 x).toNat%2^w:Nat):Int)=x%2^w:=by
  rw [BitVec.toNat_ofInt,Int.natCast_emod,Int.toNat_of_nonneg (Int.emod_nonneg _ (by omega))]
  have aaE:((2^w:Nat):Int)∣((2^64:Nat):Int):=Int.natCast_dvd_natCast.2 (Nat.pow_dvd_pow 2 (by omega))
  rw [Int.emod_emod_of_dvd _ aaE]
  simp
 rw [e1]
 simp only [bq,cd,eX,if_true,e2,e3]
 have h1:0≤x%2^w:=Int.emod_nonneg _ (by have:(0:Int)<2^w:=by exact_mod_cast hp
                                        omega)
 have h2:x%(2:Int)^w<2^w:=Int.emod_lt_of_pos _ (by exact_mod_cast hp)
 have h3:(2:Int)^w≤2^62:=by exact_mod_cast hle
 rw [aj ⟨by omega,by omega⟩]
theorem xT {a w:Nat} (hw:w≤62) (ha:a<2^w):bq .andNot (.int .i64 (2^w- 1)) (.int .i64 a)=some (.int .i64 (2^w- 1- a)):=by
 have hp:0<2^w:=Nat.two_pow_pos w
 have hle:2^w≤2^62:=Nat.pow_le_pow_right (by omega) hw
 have e1:((2:Int)^w- 1)=((2^w- 1:Nat):Int):=by
  rw [Int.natCast_sub hp];simp
 rw [e1]
 have e2:(BitVec.ofInt IntKind.i64.bits ((2^w- 1:Nat):Int)&&&~~~BitVec.ofInt IntKind.i64.bits (a:Int)).toNat=2^w- 1- a:=by
  show(BitVec.ofInt 64 ((2^w- 1:Nat):Int)&&&~~~BitVec.ofInt 64 (a:Int)).toNat=2^w- 1- a
  rw [BitVec.toNat_and,BitVec.toNat_not,jw _ (by omega),jw a (by omega)]
  have e:2^64- 1- a=2^64- (a+1):=by omega
  rw [e]
  apply Nat.eq_of_testBit_eq
  intro i
  rw [Nat.testBit_and,Nat.testBit_two_pow_sub_one,Nat.testBit_two_pow_sub_succ (by omega),show 2^w- 1- a=2^w- (a+1) by omega,Nat.testBit_two_pow_sub_succ ha]
  by_cases h:i<w
  ·simp [h,show i<64 by omega]
  ·simp [h]
 simp only [bq,cd,eX,if_true,e2]
 rw [aj ⟨by omega,by omega⟩,Int.natCast_sub (by omega)]
def km (op w a b:Int):Int:=
 if op=2 then(a+b)%2^w.toNat else if op=3 then(a+2^w.toNat- b)%2^w.toNat else if op=4 then a*b%2^w.toNat
 else if op=5 then(if b=0 then 2^w.toNat- 1 else a/b)else if op=6 then(if b=0 then a else a%b)
 else if op=7 then((a.toNat&&&b.toNat:Nat):Int)else if op=8 then((a.toNat|||b.toNat:Nat):Int)else if op=9 then((a.toNat^^^b.toNat:Nat):Int)
 else if op=10 then(if w≤b then 0 else a*2^b.toNat%2^w.toNat)else if op=11 then(if w≤b then 0 else a/2^b.toNat)
 else if op=13 then(if a=b then 1 else 0)else(if a<b then 1 else 0)
theorem jg {w:Int} (hw:1≤w∧w≤8):2≤(2:Int)^w.toNat∧(2:Int)^w.toNat≤256:=by
 obtain ⟨n,rfl⟩:∃n:Nat,w=n:=⟨w.toNat,by omega⟩
 have:n=1∨n=2∨n=3∨n=4∨n=5∨n=6∨n=7∨n=8:=by omega
 rcases this with rfl|rfl|rfl|rfl|rfl|rfl|rfl|rfl<;>exact ⟨by decide,by decide⟩
theorem Ea {a b M:Int} (ha:0≤a∧a<M) (hb:0≤b∧b<M):0≤a*b∧a*b≤M*M:=by
 refine ⟨Int.mul_nonneg ha.1 hb.1,Int.mul_le_mul (by omega) (by omega) hb.1 (by omega)⟩
theorem vC {op w a b:Int} (hw:1≤w∧w≤8) (ha:0≤a∧a<2^w.toNat) (hb:0≤b∧b<2^w.toNat):0≤km op w a b∧km op w a b<2^w.toNat:=by
 have hp:=jg hw
 have hm:∀x:Int,0≤x%2^w.toNat∧x%2^w.toNat<2^w.toNat:=fun x=>⟨Int.emod_nonneg _ (by omega),Int.emod_lt_of_pos _ (by omega)⟩
 have lC:(2:Int)^w.toNat=((2^w.toNat:Nat):Int):=by simp
 have an:a.toNat<2^w.toNat:=by have:=ha.2;rw [lC]at this;omega
 have bn:b.toNat<2^w.toNat:=by have:=hb.2;rw [lC]at this;omega
 have hd:b=0∨¬ b=0:=by omega
 have h13:∀c:Prop,∀_:Decidable c,0≤(if c then(1:Int)else 0)∧(if c then(1:Int)else 0)<2^w.toNat:=fun c _=>by
  by_cases h:c
  ·rw [if_pos h];omega
  ·rw [if_neg h];omega
 by_cases o2:op=2
 ·rw [km,if_pos o2];exact hm _
 by_cases o3:op=3
 ·rw [km,if_neg o2,if_pos o3];exact hm _
 by_cases o4:op=4
 ·rw [km,if_neg o2,if_neg o3,if_pos o4];exact hm _
 by_cases o5:op=5
 ·rw [km,if_neg o2,if_neg o3,if_neg o4,if_pos o5]
  by_cases tC:b=0
  ·rw [if_pos tC];omega
  ·rw [if_neg tC];exact ⟨Int.ediv_nonneg ha.1 hb.1,Int.lt_of_le_of_lt (Int.ediv_le_self _ ha.1) ha.2⟩
 by_cases o6:op=6
 ·rw [km,if_neg o2,if_neg o3,if_neg o4,if_neg o5,if_pos o6]
  by_cases tC:b=0
  ·rw [if_pos tC];exact ha
  ·rw [if_neg tC];exact ⟨Int.emod_nonneg _ (by omega),Int.lt_of_lt_of_le (Int.emod_lt_of_pos _ (by omega)) (by omega)⟩
 by_cases o7:op=7
 ·rw [km,if_neg o2,if_neg o3,if_neg o4,if_neg o5,if_neg o6,if_pos o7,lC];exact ⟨by omega,Int.ofNat_lt.2 (Nat.lt_of_le_of_lt Nat.and_le_left an)⟩
 by_cases o8:op=8
 ·rw [km,if_neg o2,if_neg o3,if_neg o4,if_neg o5,if_neg o6,if_neg o7,if_pos o8,lC];exact ⟨by omega,Int.ofNat_lt.2 (Nat.or_lt_two_pow an bn)⟩
 by_cases o9:op=9
 ·rw [km,if_neg o2,if_neg o3,if_neg o4,if_neg o5,if_neg o6,if_neg o7,if_neg o8,if_pos o9,lC];exact ⟨by omega,Int.ofNat_lt.2 (Nat.xor_lt_two_pow an bn)⟩
 by_cases KQ:op=10
 ·rw [km,if_neg o2,if_neg o3,if_neg o4,if_neg o5,if_neg o6,if_neg o7,if_neg o8,if_neg o9,if_pos KQ]
  by_cases tC:w≤b
  ·rw [if_pos tC];omega
  ·rw [if_neg tC];exact hm _
 by_cases GH:op=11
 ·rw [km,if_neg o2,if_neg o3,if_neg o4,if_neg o5,if_neg o6,if_neg o7,if_neg o8,if_neg o9,if_neg KQ,if_pos GH]
  by_cases tC:w≤b
  ·rw [if_pos tC];omega
  ·rw [if_neg tC]
   have:(0:Int)≤2^b.toNat:=by have:=two_pow_pos b.toNat;omega
   exact ⟨Int.ediv_nonneg ha.1 this,Int.lt_of_le_of_lt (Int.ediv_le_self _ ha.1) ha.2⟩
 by_cases Pz:op=13
 ·rw [km,if_neg o2,if_neg o3,if_neg o4,if_neg o5,if_neg o6,if_neg o7,if_neg o8,if_neg o9,if_neg KQ,if_neg GH,if_pos Pz];exact h13 _ _
 ·rw [km,if_neg o2,if_neg o3,if_neg o4,if_neg o5,if_neg o6,if_neg o7,if_neg o8,if_neg o9,if_neg KQ,if_neg GH,if_neg Pz];exact h13 _ _
set_option maxRecDepth 10000
open Go
theorem IG {n:Int} (hn:0≤n∧n≤60) (H:AH):Ca E O 81 [.int .i64 n] H (fun x H'=>x= .int .i64 (2^n.toNat)∧H'=H):=by
 have:=ME n.toNat (by omega) H
 rwa [show((n.toNat:Nat):Int)=n by omega]at this
theorem Nc {a i:Int} (ha:0≤a∧a≤2^40) (hi:0≤i∧i≤60) (H:AH):Ca E O 119 [.int .i64 a,.int .i64 i] H (fun x H'=>x= .int .i64 (a/2^i.toNat%2)∧H'=H):=by
 refine Ca.aR (F:=a119) rfl rfl rfl ?_
 have hp:=two_pow_pos i.toNat
 have h1:0≤a/2^i.toNat:=Int.ediv_nonneg ha.1 (by omega)
 simp (maxSteps:=4000000)-implicitDefEqProofs+contextual [-X.ev,a119]
 apply ah
 ·(simp-implicitDefEqProofs [-X.ev];rfl)
 refine (IG hi H).mono ?_
 rintro x H' ⟨rfl,rfl⟩
 simp (maxSteps:=4000000)-implicitDefEqProofs+contextual [-X.ev,D9 ha.1 (by omega) (show(0:Int)<2^i.toNat by omega),tI h1]
theorem IH {a:Int} {i:Nat} (ha:0≤a∧a≤2^40) (hi:i≤60) (H:AH):Ca E O 119 [.int .i64 a,.int .i64 i] H (fun x H'=>x= .int .i64 (a/2^i%2)∧H'=H):=by
 have:=Nc (i:=i) ha (by omega) H
 rwa [Int.toNat_natCast]at this
end Go.Proofs.YtppcmpmnglaleaaGreatDoor.A
namespace Go.Proofs.YtppcmpmnglaleaaGreatDoor.A
open Go
theorem xU {a w:Int} (ha:0≤a∧a<2^w.toNat):a.toNat<2^w.toNat:=by
 have h:((2^w.toNat:Nat):Int)=2^w.toNat:=by simp
 have:=ha.2
 omega
theorem Eb {v u:Value} {l m:List Int} {H:AH} (hl:eY H v l) (hm:eY H u m) (hb:l.length≤2^60):Ca E O 29 [v,u] H (fun x H'=>x= .bool (decide (l=m))∧H'=H):=by
 refine Ca.aR (F:=QZ) rfl rfl rfl ?_
 obtain ⟨p1,c1,hv⟩:=hl.len
 obtain ⟨p2,c2,hu⟩:=hm.len
 obtain ⟨F,hF⟩:∃F,decide (l=m)=F:=⟨_,rfl⟩
 rw [hF]
 by_cases q:(l.length:Int)=m.length
 case neg=>
  have lT:F=false:=by rw [←hF,decide_eq_false_iff_not];rintro rfl;exact q rfl
  have q':¬ l.length=m.length:=by omega
  simp (maxSteps:=4000000)-implicitDefEqProofs+contextual [-X.ev,QZ,hv,hu,q,q',lT]
 have q':l.length=m.length:=by omega
 simp (maxSteps:=4000000)-implicitDefEqProofs+contextual [-X.ev,QZ,hv,hu,q,q']
 refine b9 (fun k fr H'=>H'=H∧∃i:Nat,i+k=l.length∧fr.get 0=v∧fr.get 1=u∧fr.get 5= .int .i64 i∧l.take i=m.take i) ?_ l.length ⟨rfl,0,by simp,by simp [hv,q'],by simp [hu],by simp,by simp⟩
 rintro k fr H' ⟨rfl,i,hi,f0,f1,f5,htk⟩
 by_cases h:i<l.length
 ·obtain ⟨x,hx⟩:∃n,l[i]?=some n:=⟨_,alN h⟩
  obtain ⟨y,hy⟩:∃n,m[i]?=some n:=⟨_,alN (by omega)⟩
  obtain ⟨b,o,c',dy,eW⟩:=hl.at hx
  obtain ⟨b2,o2,c2',AL,Ec⟩:=hm.at hy
  rw [dy]at f0
  rw [AL]at f1
  have h2:i<m.length:=by omega
  by_cases e:x=y
  ·subst e
   simp (maxSteps:=4000000)-implicitDefEqProofs+contextual [-X.ev,f0,f1,f5,h,h2,eW,Ec,aY,aH,aI]
   rw [aj (n:=(i:Int)+1) ⟨by omega,by omega⟩]
   refine ⟨k- 1,by omega,i+1,by omega,dy.symm,AL.symm,by simp,?_⟩
   rw [List.take_add_one,List.take_add_one,hx,hy,htk]
  ·have lT:F=false:=by
    rw [←hF,decide_eq_false_iff_not];rintro rfl;rw [hx]at hy;cases hy;exact e rfl
   simp (maxSteps:=4000000)-implicitDefEqProofs+contextual [-X.ev,f0,f1,f5,h,h2,eW,Ec,aY,aH,aI,e,lT]
 ·have xN:F=true:=by
   rw [←hF,decide_eq_true_iff]
   rwa [alU (by omega),alU (by omega)]at htk
  rw [hv]at f0
  simp (maxSteps:=4000000)-implicitDefEqProofs+contextual [-X.ev,f0,f1,f5,h,xN]
open Go
theorem aaF {n:Int} (h:0≤n∧n<2^62):IntKind.u64.wrap n=n:=IntWalk.u64_in n ⟨by omega,by omega⟩
theorem tJ {w:Int} (hw:1≤w∧w≤8) (H:AH):Ca E O 182 [.int .i64 w] H (fun x H'=>x= .int .i64 (2^w.toNat- 1)∧H'=H):=by
 refine Ca.aR (F:=a182) rfl rfl rfl ?_
 have hp:=jg hw
 simp (maxSteps:=4000000)-implicitDefEqProofs+contextual [-X.ev,a182,vr hw,aj (n:=2^w.toNat- 1) ⟨by omega,by omega⟩]
theorem KR {w:Int} {v:Value} {l:List Int} {H:AH} (hl:eY H v l) (gA:l.length<2^60):Ca E O 181 [.int .i64 w,v] H (fun x H'=>x= .bool (bP w&&l.all (isWord w))∧H'=H):=by
 refine Ca.aR (F:=A9) rfl rfl rfl ?_
 obtain ⟨p1,c1,hv⟩:=hl.len
 obtain ⟨F,hF⟩:∃F,(bP w&&l.all (isWord w))=F:=⟨_,rfl⟩
 rw [hF]
 by_cases h1:w<1
 ·have lT:F=false:=by rw [←hF];simp [bP];omega
  simp (maxSteps:=4000000)-implicitDefEqProofs+contextual [-X.ev,A9,h1,lT]
 by_cases h2:8<w
 ·have lT:F=false:=by rw [←hF];simp [bP];omega
  simp (maxSteps:=4000000)-implicitDefEqProofs+contextual [-X.ev,A9,h1,h2,lT]
 have eS:1≤w∧w≤8:=by omega
 have KP:bP w=true:=by simp [bP,eS]
 simp (maxSteps:=4000000)-implicitDefEqProofs+contextual [-X.ev,A9,h1,h2,hv]
 refine b9 (fun k fr H'=>H'=H∧∃i:Nat,i+k=l.length∧fr.get 0= .int .i64 w∧fr.get 13=v∧fr.get 14= .int .i64 l.length∧fr.get 15= .int .i64 i∧∀a∈l.take i,isWord w a=true) ?_ l.length ⟨rfl,0,by simp,by simp,by simp [hv],by simp,by simp,by simp⟩
 rintro k fr H' ⟨rfl,i,hi,f0,f13,f14,f15,aT⟩
 by_cases h:i<l.length
 ·obtain ⟨n,hn⟩:∃n,l[i]?=some n:=⟨_,alN h⟩
  obtain ⟨b,o,c',dy,eW⟩:=hl.at hn
  rw [dy]at f13
  have lT:isWord w n=false→F=false:=fun z=>by
   rw [←hF,Bool.and_eq_false_iff];right
   rw [List.all_eq_false]
   exact ⟨n,alS hn,by rw [z];simp⟩
  rw [jf eS]at lT
  have hp:=jg eS
  by_cases z1:n<0
  ·simp (maxSteps:=4000000)-implicitDefEqProofs+contextual [-X.ev,f0,f13,f14,f15,h,eW,z1,lT]
  simp (maxSteps:=4000000)-implicitDefEqProofs+contextual [-X.ev,f0,f13,f14,f15,h,eW,z1]
  apply ah
  ·(simp-implicitDefEqProofs [-X.ev];rfl)
  refine (tJ eS H').mono ?_
  rintro x H' ⟨rfl,rfl⟩
  by_cases z2:2^w.toNat- 1<n
  ·have z3:2^w.toNat≤n:=by omega
   simp (maxSteps:=4000000)-implicitDefEqProofs+contextual [-X.ev,f0,f13,f14,f15,z2,z3,lT]
  have z3:¬ 2^w.toNat≤n:=by omega
  simp (maxSteps:=4000000)-implicitDefEqProofs+contextual [-X.ev,f0,f13,f14,f15,h,z2]
  rw [aj (n:=(i:Int)+1) ⟨by omega,by omega⟩]
  refine ⟨k- 1,by omega,i+1,by omega,dy.symm,by simp,fun z hz=>?_⟩
  rw [List.take_add_one,hn]at hz
  rcases List.mem_append.1 hz with hz|hz
  ·exact aT z hz
  ·simp at hz;subst hz;rw [jf eS];simp [z1,z3]
 ·have xN:F=true:=by
   rw [alU (by omega)]at aT
   rw [←hF,KP,Bool.true_and,al3];exact aT
  simp (maxSteps:=4000000)-implicitDefEqProofs+contextual [-X.ev,f0,f13,f14,f15,h,xN]
theorem kW {w a:Int} (hw:1≤w∧w≤8) (ha:0≤a∧a<2^w.toNat):isWord w a=true:=by
 simp [isWord,bP,hw,ha]
theorem RY {H:AH} (hw:H.n0≤H.nx) (a:Int):eY (H.alloc (.cells 1 [.int .i64 a])) (.slice (some ⟨H.nx,0,none⟩) 1 1) [a]:=⟨_,_,rfl,fun i r hi=>⟨H.nx,0,rfl,by
 have:=ba hw (z:=1) (c:=[.int .i64 a]) 1 rfl
 cases i with
 |zero=>simp at hi;subst hi;simpa using this
 |succ i=>simp at hi⟩⟩
theorem RZ {H:AH} (hw:H.n0≤H.nx) (a b:Int):eY (H.alloc (.cells 1 [.int .i64 a,.int .i64 b])) (.slice (some ⟨H.nx,0,none⟩) 2 2) [a,b]:=⟨_,_,rfl,fun i r hi=>⟨H.nx,0,rfl,by
 have hg:=bZ H (.cells 1 [.int .i64 a,.int .i64 b])
 match i,hi with
 |0,hi=>simp at hi;subst hi;exact bk hg hw (k:=0) (n:=1) (by simp)
 |1,hi=>simp at hi;subst hi;exact bk hg hw (k:=1) (n:=1) (by simp)
 |i+2,hi=>simp at hi⟩⟩
theorem II {w a:Int} {H:AH} (hw:H.n0≤H.nx) (eS:1≤w∧w≤8) (ha:0≤a∧a<2^w.toNat):Ca E O 177 [.int .i64 w,.int .i64 a] H (fun x H'=>x= .tuple #[.int .i64 (2^w.toNat- 1- a),.int .i64 0]∧Ext H H'):=by
 refine Ca.aR (F:=HQ) rfl rfl rfl ?_
 have lD:=vz (sz:=1) (z:=[.int .i64 0]) (H:=H) (v:=.int .i64 a) rfl rfl rfl
 have X1:=Ext.alloc H (.cells 1 [.int .i64 a])
 have vD:=RY hw a
 simp only [xJ]at lD
 generalize H.alloc (.cells 1 [.int .i64 a])=H1 at lD X1 vD
 simp (maxSteps:=4000000)-implicitDefEqProofs+contextual [-X.ev,HQ,lD]
 apply ah
 ·(simp-implicitDefEqProofs [-X.ev];rfl)
 refine (KR vD (by simp)).mono ?_
 rintro x H1 ⟨rfl,rfl⟩
 have e:(bP w&&[a].all (isWord w))=true:=by simp [bP,eS,kW eS ha]
 rw [e]
 simp (maxSteps:=4000000)-implicitDefEqProofs+contextual [-X.ev]
 apply ah
 ·(simp-implicitDefEqProofs [-X.ev];rfl)
 refine (tJ eS H1).mono ?_
 rintro x H1 ⟨rfl,rfl⟩
 have hn:bq .andNot (.int .i64 (2^w.toNat- 1)) (.int .i64 a)=some (.int .i64 (2^w.toNat- 1- a)):=by
  have:=xT (a:=a.toNat) (w:=w.toNat) (by omega) (xU ha)
  rwa [show((a.toNat:Nat):Int)=a by omega]at this
 simp (maxSteps:=4000000)-implicitDefEqProofs+contextual [-X.ev,hn,X1]
theorem vE (b:Bool) (H:AH):Ca E O 196 [.bool b] H (fun x H'=>x= .int .i64 (if b=true then 1 else 0)∧H'=H):=by
 refine Ca.aR (F:=a196) rfl rfl rfl ?_
 cases b<;>simp (maxSteps:=4000000)-implicitDefEqProofs+contextual [-X.ev,a196]
theorem R3 {a b:Int} (ha:0≤a∧a<256) (hb:0≤b∧b<8):bq .shl (.int .i64 a) (.int .u64 b)=some (.int .i64 (a*2^b.toNat)):=by
 have gC:=two_pow_pos b.toNat
 have j6:(2:Int)^b.toNat≤256:=by
  have:(2:Nat)^b.toNat≤2^8:=Nat.pow_le_pow_right (by omega) (by omega)
  have h2:((2^b.toNat:Nat):Int)≤((2^8:Nat):Int):=Int.ofNat_le.2 this
  simpa using h2
 obtain ⟨q0,q1⟩:=Ea (M:=257) ⟨ha.1,by omega⟩ (b:=2^b.toNat) ⟨by omega,by omega⟩
 have h0:¬ b<0:=by omega
 have h1:min b.toNat IntKind.i64.bits=b.toNat:=Nat.min_eq_left (by show b.toNat≤64;omega)
 simp only [bq,cd,h0,if_false,h1]
 rw [aj ⟨by omega,by omega⟩]
theorem R7 {a b:Int} (ha:0≤a∧a<256) (hb:0≤b∧b<8):bq .shr (.int .i64 a) (.int .u64 b)=some (.int .i64 (a/2^b.toNat)):=by
 have gC:=two_pow_pos b.toNat
 have h0:¬ b<0:=by omega
 have h1:min b.toNat IntKind.i64.bits=b.toNat:=Nat.min_eq_left (by show b.toNat≤64;omega)
 simp only [bq,cd,h0,if_false,h1]
 rw [Int.fdiv_eq_ediv_of_nonneg _ (by omega)]
theorem qH {w a b:Int} {up:Bool} (hw:1≤w∧w≤8) (ha:0≤a∧a<256) (hb:0≤b) (H:AH):Ca E O 193 [.int .i64 w,.int .i64 a,.int .i64 b,.bool up] H (fun x H'=>x= .int .i64 (if w≤b then 0 else if up=true then a*2^b.toNat else a/2^b.toNat)∧H'=H):=by
 refine Ca.aR (F:=a193) rfl rfl rfl ?_
 by_cases h:w≤b
 ·simp (maxSteps:=4000000)-implicitDefEqProofs+contextual [-X.ev,a193,h]
 have wb:IntKind.u64.wrap b=b:=aaF ⟨hb,by omega⟩
 cases up
 ·simp (maxSteps:=4000000)-implicitDefEqProofs+contextual [-X.ev,a193,h,wb,R7 ha ⟨hb,by omega⟩]
 ·simp (maxSteps:=4000000)-implicitDefEqProofs+contextual [-X.ev,a193,h,wb,R3 ha ⟨hb,by omega⟩]
def zw (op:Int):Value:=
 if op=2 then .func (.func 184) #[] #[]else if op=3 then .func (.func 185) #[] #[]else if op=4 then .func (.func 186) #[] #[]else if op=5 then .func (.func 187) #[] #[]else if op=6 then .func (.func 188) #[] #[]else if op=7 then .func (.func 189) #[] #[]else if op=8 then .func (.func 190) #[] #[]else if op=9 then .func (.func 191) #[] #[]else if op=10 then .func (.func 192) #[] #[]else if op=11 then .func (.func 194) #[] #[]else if op=13 then .func (.func 195) #[] #[]else if op=14 then .func (.func 197) #[] #[]else .nilFunc
theorem IJ {op:Int} {H:AH} (hw:H.n0≤H.nx):Ca E O 183 [.int .i64 op] H (fun x H'=>x=zw op∧Ext H H'):=by
 refine Ca.aR (F:=a183) rfl rfl rfl ?_
 have X0:=Ext.alloc H (.map [])
 have g0:=bZ H (.map [])
 generalize y7:H.alloc (.map [])=H0 at X0 g0
 have z0:H0.n0≤H.nx:=by rw [X0.n0];exact hw
 obtain ⟨H1,s1,M1,Ed,Bl,g1⟩:=fi (kk:=0) (k:=.int .i64 2) (v:=.func (.func 184) #[] #[]) g0 z0 rfl rfl rfl
 have z1:H1.n0≤H.nx:=by rw [M1.n0];exact z0
 obtain ⟨H2,s2,M2,vF,nQ,g2⟩:=fi (kk:=0) (k:=.int .i64 3) (v:=.func (.func 185) #[] #[]) g1 z1 rfl rfl rfl
 have z2:H2.n0≤H.nx:=by rw [M2.n0];exact z1
 obtain ⟨H3,s3,M3,pI,kS,g3⟩:=fi (kk:=0) (k:=.int .i64 4) (v:=.func (.func 186) #[] #[]) g2 z2 rfl rfl rfl
 have z3:H3.n0≤H.nx:=by rw [M3.n0];exact z2
 obtain ⟨H4,s4,M4,wU,lV,g4⟩:=fi (kk:=0) (k:=.int .i64 5) (v:=.func (.func 187) #[] #[]) g3 z3 rfl rfl rfl
 have z4:H4.n0≤H.nx:=by rw [M4.n0];exact z3
 obtain ⟨H5,s5,M5,KL,vw,g5⟩:=fi (kk:=0) (k:=.int .i64 6) (v:=.func (.func 188) #[] #[]) g4 z4 rfl rfl rfl
 have z5:H5.n0≤H.nx:=by rw [M5.n0];exact z4
 obtain ⟨H6,s6,M6,nx6,IK,g6⟩:=fi (kk:=0) (k:=.int .i64 7) (v:=.func (.func 189) #[] #[]) g5 z5 rfl rfl rfl
 have z6:H6.n0≤H.nx:=by rw [M6.n0];exact z5
 obtain ⟨H7,s7,M7,VT,Bm,g7⟩:=fi (kk:=0) (k:=.int .i64 8) (v:=.func (.func 190) #[] #[]) g6 z6 rfl rfl rfl
 have z7:H7.n0≤H.nx:=by rw [M7.n0];exact z6
 obtain ⟨H8,s8,M8,PA,zx,g8⟩:=fi (kk:=0) (k:=.int .i64 9) (v:=.func (.func 191) #[] #[]) g7 z7 rfl rfl rfl
 have z8:H8.n0≤H.nx:=by rw [M8.n0];exact z7
 obtain ⟨H9,s9,M9,R8,KS,g9⟩:=fi (kk:=0) (k:=.int .i64 10) (v:=.func (.func 192) #[] #[]) g8 z8 rfl rfl rfl
 have z9:H9.n0≤H.nx:=by rw [M9.n0];exact z8
 obtain ⟨wW,s10,GI,ah6,ah7,g10⟩:=fi (kk:=0) (k:=.int .i64 11) (v:=.func (.func 194) #[] #[]) g9 z9 rfl rfl rfl
 have z10:wW.n0≤H.nx:=by rw [GI.n0];exact z9
 obtain ⟨VM,s11,VN,RP,RQ,g11⟩:=fi (kk:=0) (k:=.int .i64 13) (v:=.func (.func 195) #[] #[]) g10 z10 rfl rfl rfl
 have z11:VM.n0≤H.nx:=by rw [VN.n0];exact z10
 obtain ⟨Bn,VU,PD,IL,Ee,g12⟩:=fi (kk:=0) (k:=.int .i64 14) (v:=.func (.func 197) #[] #[]) g11 z11 rfl rfl rfl
 have z12:Bn.n0≤H.nx:=by rw [PD.n0];exact z11
 have XX:Ext H Bn:=X0.mod (M1.trans (M2.trans (M3.trans (M4.trans (M5.trans (M6.trans (M7.trans (M8.trans (M9.trans (GI.trans (VN.trans (PD)))))))))))) (by rintro x rfl;exact alR _)
 have lk:fY 0 .nilFunc Bn (.map (some H.nx)) (.int .i64 op) false=some (zw op):=by
  unfold zw
  by_cases o2:op=2
  ·subst o2;exact ef g12 z12 rfl rfl
  rw [if_neg o2]
  by_cases o3:op=3
  ·subst o3;exact ef g12 z12 rfl rfl
  rw [if_neg o3]
  by_cases o4:op=4
  ·subst o4;exact ef g12 z12 rfl rfl
  rw [if_neg o4]
  by_cases o5:op=5
  ·subst o5;exact ef g12 z12 rfl rfl
  rw [if_neg o5]
  by_cases o6:op=6
  ·subst o6;exact ef g12 z12 rfl rfl
  rw [if_neg o6]
  by_cases o7:op=7
  ·subst o7;exact ef g12 z12 rfl rfl
  rw [if_neg o7]
  by_cases o8:op=8
  ·subst o8;exact ef g12 z12 rfl rfl
  rw [if_neg o8]
  by_cases o9:op=9
  ·subst o9;exact ef g12 z12 rfl rfl
  rw [if_neg o9]
  by_cases KQ:op=10
  ·subst KQ;exact ef g12 z12 rfl rfl
  rw [if_neg KQ]
  by_cases GH:op=11
  ·subst GH;exact ef g12 z12 rfl rfl
  rw [if_neg GH]
  by_cases Pz:op=13
  ·subst Pz;exact ef g12 z12 rfl rfl
  rw [if_neg Pz]
  by_cases o14:op=14
  ·subst o14;exact ef g12 z12 rfl rfl
  rw [if_neg o14]
  refine zl g12 z12 rfl ?_
  have fw:∀k:Int,¬ op=k→(op==k)=false:=fun k h=>by simpa using h
  simp [eL,fZ,jY,fw _ o2,fw _ o3,fw _ o4,fw _ o5,fw _ o6,fw _ o7,fw _ o8,fw _ o9,fw _ KQ,fw _ GH,fw _ Pz,fw _ o14]
 simp (maxSteps:=4000000)-implicitDefEqProofs+contextual [-X.ev,a183,y7,s1,s2,s3,s4,s5,s6,s7,s8,s9,s10,s11,VU,lk,XX]
theorem Ef {op w a b:Int} (ho:(2≤op∧op≤11)∨op=13∨op=14) (eS:1≤w∧w≤8) (ha:0≤a∧a<2^w.toNat) (hb:0≤b∧b<2^w.toNat):
 ∃f,zw op= .func (.func f) #[] #[]∧∀H:AH,Ca E O f [.int .i64 w,.int .i64 a,.int .i64 b] H (fun x H'=>∃y,x= .int .i64 y∧y%2^w.toNat=km op w a b∧H'=H):=by
 have hp:=jg eS
 obtain ⟨m0,m1⟩:=Ea ha hb
 have mw:(2:Int)^w.toNat*2^w.toNat≤256*256:=Int.mul_le_mul hp.2 hp.2 (by omega) (by omega)
 have hd:=vC (op:=op) eS ha hb
 have hm:km op w a b%2^w.toNat=km op w a b:=Int.emod_eq_of_lt hd.1 hd.2
 have KT:0≤a∧a<256:=by omega
 have IM:op=2∨op=3∨op=4∨op=5∨op=6∨op=7∨op=8∨op=9∨op=10∨op=11∨op=13∨op=14:=by omega
 have Bo:((a.toNat:Nat):Int)=a∧((b.toNat:Nat):Int)=b:=by omega
 have an:=xU ha
 have bn:=xU hb
 have n62:(2:Nat)^w.toNat≤2^62:=Nat.pow_le_pow_right (by omega) (by omega)
 rcases IM with rfl|rfl|rfl|rfl|rfl|rfl|rfl|rfl|rfl|rfl|rfl|rfl
 ·refine ⟨184,rfl,fun H=>?_⟩
  refine Ca.aR (F:=HS) rfl rfl rfl ?_
  simp (maxSteps:=4000000)-implicitDefEqProofs+contextual [-X.ev,HS,aj (n:=a+b) ⟨by omega,by omega⟩]
  simp [km]
 ·refine ⟨185,rfl,fun H=>?_⟩
  refine Ca.aR (F:=HT) rfl rfl rfl ?_
  simp (maxSteps:=4000000)-implicitDefEqProofs+contextual [-X.ev,HT,aj (n:=a- b) ⟨by omega,by omega⟩]
  simp only [km]
  rw [if_neg (show¬ (3:Int)=2 by omega),if_pos trivial,show a+2^w.toNat- b=(a- b)+2^w.toNat by omega,Int.add_emod_right]
 ·refine ⟨186,rfl,fun H=>?_⟩
  refine Ca.aR (F:=HU) rfl rfl rfl ?_
  simp (maxSteps:=4000000)-implicitDefEqProofs+contextual [-X.ev,HU,aj (n:=a*b) ⟨by omega,by omega⟩]
  simp [km]
 ·refine ⟨187,rfl,fun H=>?_⟩
  refine Ca.aR (F:=Dt) rfl rfl rfl ?_
  by_cases b0:b=0
  ·subst b0
   simp (maxSteps:=4000000)-implicitDefEqProofs+contextual [-X.ev,Dt]
   apply ah
   ·(simp-implicitDefEqProofs [-X.ev];rfl)
   refine (tJ eS H).mono ?_
   rintro x H ⟨rfl,rfl⟩
   simp (maxSteps:=4000000)-implicitDefEqProofs+contextual [-X.ev]
   rw [←hm];simp [km]
  ·simp (maxSteps:=4000000)-implicitDefEqProofs+contextual [-X.ev,Dt,b0,D9 ha.1 (by omega) (show 0<b by omega)]
   rw [←hm];simp [km,b0]
 ·refine ⟨188,rfl,fun H=>?_⟩
  refine Ca.aR (F:=Du) rfl rfl rfl ?_
  by_cases b0:b=0
  ·subst b0
   simp (maxSteps:=4000000)-implicitDefEqProofs+contextual [-X.ev,Du]
   rw [←hm];simp [km]
  ·simp (maxSteps:=4000000)-implicitDefEqProofs+contextual [-X.ev,Du,b0,tI ha.1]
   rw [←hm];simp [km,b0]
 ·refine ⟨189,rfl,fun H=>?_⟩
  refine Ca.aR (F:=HV) rfl rfl rfl ?_
  have hn:=IE (a:=a.toNat) (b:=b.toNat) (by omega) (by omega)
  rw [Bo.1,Bo.2]at hn
  simp (maxSteps:=4000000)-implicitDefEqProofs+contextual [-X.ev,HV,hn]
  rw [←hm];simp [km]
 ·refine ⟨190,rfl,fun H=>?_⟩
  refine Ca.aR (F:=HW) rfl rfl rfl ?_
  have hn:=Nb (a:=a.toNat) (b:=b.toNat) (by omega) (by omega)
  rw [Bo.1,Bo.2]at hn
  simp (maxSteps:=4000000)-implicitDefEqProofs+contextual [-X.ev,HW,hn]
  rw [←hm];simp [km]
 ·refine ⟨191,rfl,fun H=>?_⟩
  refine Ca.aR (F:=HX) rfl rfl rfl ?_
  have hn:=IF (a:=a.toNat) (b:=b.toNat) (by omega) (by omega)
  rw [Bo.1,Bo.2]at hn
  simp (maxSteps:=4000000)-implicitDefEqProofs+contextual [-X.ev,HX,hn]
  rw [←hm];simp [km]
 ·refine ⟨192,rfl,fun H=>?_⟩
  refine Ca.aR (F:=HY) rfl rfl rfl ?_
  simp (maxSteps:=4000000)-implicitDefEqProofs+contextual [-X.ev,HY]
  apply ah
  ·(simp-implicitDefEqProofs [-X.ev];rfl)
  refine (qH (up:=true) eS KT hb.1 H).mono ?_
  rintro x H ⟨rfl,rfl⟩
  simp (maxSteps:=4000000)-implicitDefEqProofs+contextual [-X.ev]
  by_cases b0:w≤b
  ·simp [km,b0]
  ·simp [km,b0]
 ·refine ⟨194,rfl,fun H=>?_⟩
  refine Ca.aR (F:=a194) rfl rfl rfl ?_
  simp (maxSteps:=4000000)-implicitDefEqProofs+contextual [-X.ev,a194]
  apply ah
  ·(simp-implicitDefEqProofs [-X.ev];rfl)
  refine (qH (up:=false) eS KT hb.1 H).mono ?_
  rintro x H ⟨rfl,rfl⟩
  simp (maxSteps:=4000000)-implicitDefEqProofs+contextual [-X.ev]
  rw [←hm]
  by_cases b0:w≤b
  ·simp [km,b0]
  ·simp [km,b0]
 ·refine ⟨195,rfl,fun H=>?_⟩
  refine Ca.aR (F:=HZ) rfl rfl rfl ?_
  simp (maxSteps:=4000000)-implicitDefEqProofs+contextual [-X.ev,HZ]
  apply ah
  ·(simp-implicitDefEqProofs [-X.ev];rfl)
  refine (vE (decide (a=b)) H).mono ?_
  rintro x H ⟨rfl,rfl⟩
  simp (maxSteps:=4000000)-implicitDefEqProofs+contextual [-X.ev]
  rw [←hm];simp [km]
 ·refine ⟨197,rfl,fun H=>?_⟩
  refine Ca.aR (F:=Ia) rfl rfl rfl ?_
  simp (maxSteps:=4000000)-implicitDefEqProofs+contextual [-X.ev,Ia]
  apply ah
  ·(simp-implicitDefEqProofs [-X.ev];rfl)
  refine (vE (decide (a<b)) H).mono ?_
  rintro x H ⟨rfl,rfl⟩
  simp (maxSteps:=4000000)-implicitDefEqProofs+contextual [-X.ev]
  rw [←hm];simp [km]
theorem Nd {op w a b:Int} {H:AH} (hw:H.n0≤H.nx) (ho:(2≤op∧op≤11)∨op=13∨op=14) (eS:1≤w∧w≤8) (ha:0≤a∧a<2^w.toNat) (hb:0≤b∧b<2^w.toNat):Ca E O 178 [.int .i64 op,.int .i64 w,.int .i64 a,.int .i64 b] H (fun x H'=>x= .tuple #[.int .i64 (km op w a b),.int .i64 0]∧Ext H H'):=by
 refine Ca.aR (F:=HR) rfl rfl rfl ?_
 have lD:ll 2 1 [.int .i64 0,.int .i64 0] H [(0,1,.int .i64 a),(1,1,.int .i64 b)]=some (.slice (some ⟨H.nx,0,none⟩) 2 2,H.alloc (.cells 1 [.int .i64 a,.int .i64 b])):=rfl
 have X1:=Ext.alloc H (.cells 1 [.int .i64 a,.int .i64 b])
 have vD:=RZ hw a b
 generalize H.alloc (.cells 1 [.int .i64 a,.int .i64 b])=H1 at lD X1 vD
 simp (maxSteps:=4000000)-implicitDefEqProofs+contextual [-X.ev,HR,lD]
 apply ah
 ·(simp-implicitDefEqProofs [-X.ev];rfl)
 refine (KR vD (by simp)).mono ?_
 rintro x H1 ⟨rfl,rfl⟩
 have e:(bP w&&[a,b].all (isWord w))=true:=by simp [bP,eS,kW eS ha,kW eS hb]
 rw [e]
 simp (maxSteps:=4000000)-implicitDefEqProofs+contextual [-X.ev]
 apply ah
 ·(simp-implicitDefEqProofs [-X.ev];rfl)
 refine (IJ (op:=op) (X1.wf hw)).mono ?_
 rintro x H2 ⟨rfl,X2⟩
 obtain ⟨f,hf,jK⟩:=Ef ho eS ha hb
 rw [hf]
 simp (maxSteps:=4000000)-implicitDefEqProofs+contextual [-X.ev]
 apply ja
 ·(simp-implicitDefEqProofs [-X.ev,-Value.func.injEq];rfl)
 ·(simp-implicitDefEqProofs [-X.ev];rfl)
 refine (jK H2).mono ?_
 rintro x H2 ⟨y,rfl,hy,rfl⟩
 simp (maxSteps:=4000000)-implicitDefEqProofs+contextual [-X.ev]
 apply ah
 ·(simp-implicitDefEqProofs [-X.ev];rfl)
 refine (tJ eS H2).mono ?_
 rintro x H2 ⟨rfl,rfl⟩
 have ht:=zu (x:=y) (w:=w.toNat) (by omega)
 rw [hy]at ht
 simp (maxSteps:=4000000)-implicitDefEqProofs+contextual [-X.ev,ht,X1.trans X2]
end Go.Proofs.YtppcmpmnglaleaaGreatDoor.A
namespace Go.Proofs.YtppcmpmnglaleaaGreatDoor.A
open Go
def Nf (l:List Int) (i:Int):Int:=(l[i.toNat]?).getD 0
def bL (V:List Vr) (n:Int):Int:=cS ((V.take n.toNat).map (·.cells))
def e7 (l:List Int) (k:Nat):Int:=(l[k]?).getD 0
def storeAt (S:List (List Int)) (cp:Int):List Int:=(S[cp.toNat]?).getD []
mutual
def bh (w:Int) (V:List Vr) (S:List (List Int)):cn→Int
 | .mk op n cp args=>if op=0 then n else if op=1 then Nf (storeAt S cp) (bL V n+e7 (cC w V S args) 0%ak V n)
   else if op=12 then 2^w.toNat- 1- e7 (cC w V S args) 0 else if op=15 then(if e7 (cC w V S args) 0=0 then e7 (cC w V S args) 2 else e7 (cC w V S args) 1)
   else km op w (e7 (cC w V S args) 0) (e7 (cC w V S args) 1)
def cC (w:Int) (V:List Vr) (S:List (List Int)):List cn→List Int
 |[]=>[]
 |e::es=>bh w V S e::cC w V S es
end
theorem vG {w:Int} {V:List Vr} {S:List (List Int)}:∀(l:List cn) (i:Nat),(cC w V S l)[i]?=(l[i]?).map (bh w V S)
 |[],i=>by simp [cC]
 |e::es,0=>by simp [cC]
 |e::es,i+1=>by simp [cC,vG es i]
structure Ev where
 kind:Int
 at_:Int
 val:Int
mutual
def nA (w:Int) (V:List Vr) (S:List (List Int)):cn→List Ev
 | .mk op n cp args=>eE w V S args++if op=1∧args≠[]then [⟨1,n,e7 (cC w V S args) 0%ak V n⟩]else []
def eE (w:Int) (V:List Vr) (S:List (List Int)):List cn→List Ev
 |[]=>[]
 |e::es=>nA w V S e++eE w V S es
end
theorem nS {V:List Vr} (h:∀v∈V,1≤v.cells∧v.cells≤8) (hl:V.length≤18):∀i,i≤V.length→(i:Int)≤cS ((V.take i).map (·.cells))∧cS ((V.take i).map (·.cells))≤8*i∧∀j,j≤i→cS ((V.take j).map (·.cells))≤cS ((V.take i).map (·.cells)):=by
 intro i
 induction i with
 |zero=>intro _;exact ⟨by simp [cS],by simp [cS],fun j hj=>by rw [show j=0 by omega];exact Int.le_refl _⟩
 |succ i ih=>
  intro hi
  obtain ⟨h1,h2,h3⟩:=ih (by omega)
  obtain ⟨y,hy⟩:∃y,V[i]?=some y:=⟨_,alN (by omega)⟩
  have hc:=h y (alS hy)
  have e:cS ((V.take (i+1)).map (·.cells))=cS ((V.take i).map (·.cells))+y.cells:=by
   rw [List.take_add_one]
   simp only [hy,Option.toList_some,List.map_append,List.map_cons,List.map_nil,cS,List.foldl_append,List.foldl_cons,List.foldl_nil]
   exact aj ⟨by unfold cS at h1;omega,by unfold cS at h2;omega⟩
  refine ⟨by omega,by omega,fun j hj=>?_⟩
  by_cases hji:j=i+1
  ·subst hji;exact Int.le_refl _
  ·have:=h3 j (by omega);omega
theorem jx {w:Int} {V:List Vr} (h:aD w V=true):(∀v∈V,1≤v.cells∧v.cells≤8)∧V.length≤18∧cS (V.map (·.cells))≤48:=by
 refine ⟨fun v hv=>?_,(aO h).2.2.2,?_⟩
 ·obtain ⟨i,hi,e⟩:=List.mem_iff_getElem.1 hv
  exact jN h (i:=i) (by rw [alN hi,e])
 ·rw [eR]at h;simp only [alQ,alZ]at h;exact h.2.2.2.2
theorem tK {w:Int} {V:List Vr} (h:aD w V=true) {n:Int} (hn:0≤n∧n<V.length) (i:Int):
 0≤bL V n∧bL V n≤48∧1≤ak V n∧ak V n≤8∧0≤i%ak V n∧i%ak V n<ak V n∧bL V n+i%ak V n<cS (V.map (·.cells)):=by
 obtain ⟨h1,h2,h3⟩:=jx h
 obtain ⟨y,hy⟩:∃y,V[n.toNat]?=some y:=⟨_,alN (by omega)⟩
 have hc:ak V n=y.cells:=by simp [ak,hy]
 have Ch:=h1 y (alS hy)
 obtain ⟨a1,a2,_⟩:=nS h1 h2 n.toNat (by omega)
 obtain ⟨b1,b2,b3⟩:=nS h1 h2 (n.toNat+1) (by omega)
 obtain ⟨_,_,c3⟩:=nS h1 h2 V.length (alR _)
 have e:cS ((V.take (n.toNat+1)).map (·.cells))=cS ((V.take n.toNat).map (·.cells))+y.cells:=by
  rw [List.take_add_one]
  simp only [hy,Option.toList_some,List.map_append,List.map_cons,List.map_nil,cS,List.foldl_append,List.foldl_cons,List.foldl_nil]
  exact aj ⟨by unfold cS at a1;omega,by unfold cS at a2;omega⟩
 have d1:=c3 (n.toNat+1) (by omega)
 have d2:=c3 n.toNat (by omega)
 rw [List.take_length]at d1 d2
 have m1:=Int.emod_nonneg i (show y.cells≠0 by omega)
 have m2:=Int.emod_lt_of_pos i (show 0<y.cells by omega)
 rw [hc]
 unfold bL
 omega
def KU (w:Int) (V:List Vr) (S:List (List Int)):Prop:=∀s∈S,bX w V s=true
theorem kn {w:Int} {V:List Vr} {s:List Int} (eS:1≤w∧w≤8) (h:bX w V s=true) {i:Int} (hi:0≤i∧i<cS (V.map (·.cells))):∃a,s[i.toNat]?=some a∧0≤a∧a<2^w.toNat∧Nf s i=a:=by
 simp only [bX,alQ,alZ,al3]at h
 obtain ⟨a,ha⟩:∃y,s[i.toNat]?=some y:=⟨_,alN (by omega)⟩
 have:=h.2 a (alS ha)
 rw [jf eS]at this
 simp at this
 exact ⟨a,ha,this.1,this.2,by simp [Nf,ha]⟩
theorem qI {w k op n cp:Int} {V:List Vr} {args:List cn} (eS:1≤w∧w≤8) (h:dP w V k (.mk op n cp args)=true):
 (∀e∈args,dP w V k e=true)∧((op=0∧args=[]∧0≤n∧n<2^w.toNat)∨(op=1∧0≤n∧n<V.length∧0≤cp∧cp<k∧((args=[]∧¬ 1<ak V n)∨(∃a,args=[a])∧1<ak V n))∨(op=12∧∃a,args=[a])∨(op=15∧∃a b c,args=[a,b,c])∨
  (((2≤op∧op≤11)∨op=13∨op=14)∧∃a b,args=[a,b])):=by
 rw [dP,alQ]at h
 refine ⟨kO.1 h.2,?_⟩
 have h1:=h.1
 rw [tB eS,alQ,alZ]at h1
 obtain ⟨h1,h2⟩:=h1
 unfold kh at h1
 unfold se at h2
 by_cases o0:op=0
 ·rw [if_pos o0]at h1 h2
  simp at h2
  exact .inl ⟨o0,List.eq_nil_of_length_eq_zero (by omega),h2.1,h2.2.1⟩
 rw [if_neg o0]at h1 h2
 by_cases o1:op=1
 ·rw [if_pos o1]at h2
  simp at h2
  by_cases hn:0≤n∧n<V.length
  ·rw [if_pos ⟨o1,hn⟩]at h1
   refine .inr (.inl ⟨o1,hn.1,hn.2,h2.1,h2.2,?_⟩)
   by_cases hc:1<ak V n
   ·rw [if_pos hc]at h1
    exact .inr ⟨List.length_eq_one_iff.1 (by omega),hc⟩
   ·rw [if_neg hc]at h1
    exact .inl ⟨List.eq_nil_of_length_eq_zero (by omega),hc⟩
  ·rw [if_neg (fun q=>hn q.2),if_neg (by omega),if_neg (by omega),if_neg (by omega)]at h1
   omega
 rw [if_neg (fun q=>o1 q.1)]at h1
 by_cases o2:(2≤op∧op≤11)∨op=13∨op=14
 ·rw [if_pos o2]at h1
  exact .inr (.inr (.inr (.inr ⟨o2,D7 (by omega)⟩)))
 rw [if_neg o2]at h1
 by_cases o3:op=12
 ·rw [if_pos o3]at h1
  exact .inr (.inr (.inl ⟨o3,List.length_eq_one_iff.1 (by omega)⟩))
 rw [if_neg o3]at h1
 by_cases o4:op=15
 ·rw [if_pos o4]at h1
  exact .inr (.inr (.inr (.inl ⟨o4,KO (by omega)⟩)))
 rw [if_neg o4]at h1
 omega
theorem jh {w:Int} {V:List Vr} {S:List (List Int)} (hV:aD w V=true) (hS:KU w V S):∀e,dP w V S.length e=true→0≤bh w V S e∧bh w V S e<2^w.toNat:=mJ fun op n cp args ih hf=>by
 have eS:1≤w∧w≤8:=⟨(aO hV).1,(aO hV).2.1⟩
 have hp:=jg eS
 obtain ⟨aT,hc⟩:=qI eS hf
 rcases hc with⟨rfl,rfl,h1,h2⟩|⟨rfl,h1,h2,h3,h4,_⟩|⟨rfl,a,rfl⟩|⟨rfl,a,b,c,rfl⟩|⟨ho,a,b,rfl⟩
 ·rw [bh,if_pos rfl];exact ⟨h1,h2⟩
 ·rw [bh,if_neg (by omega),if_pos rfl]
  obtain ⟨s,hs⟩:∃s,S[cp.toNat]?=some s:=⟨_,alN (by omega)⟩
  have gE:=hS s (alS hs)
  have hc:=tK hV ⟨h1,h2⟩ (e7 (cC w V S args) 0)
  obtain ⟨x,_,GU,BX,KV⟩:=kn eS gE (i:=bL V n+e7 (cC w V S args) 0%ak V n) (by omega)
  have:storeAt S cp=s:=by simp [storeAt,hs]
  rw [this,KV]
  exact ⟨GU,BX⟩
 ·rw [bh,if_neg (by omega),if_neg (by omega),if_pos rfl]
  have:=ih a (by simp) (aT a (by simp))
  simp only [cC,e7,alM,Option.getD_some]
  omega
 ·rw [bh,if_neg (by omega),if_neg (by omega),if_neg (by omega),if_pos rfl]
  have hb:=ih b (by simp) (aT b (by simp))
  have hc:=ih c (by simp) (aT c (by simp))
  by_cases q:e7 (cC w V S [a,b,c]) 0=0
  ·rw [if_pos q];exact hc
  ·rw [if_neg q];exact hb
 ·rw [bh,if_neg (by omega),if_neg (by omega),if_neg (by omega),if_neg (by omega)]
  have ha:=ih a (by simp) (aT a (by simp))
  have hb:=ih b (by simp) (aT b (by simp))
  simp only [cC,e7,alM,List.getElem?_cons_succ,Option.getD_some]
  exact vC eS ha hb
def fA (H:AH) (v:Value) (S:List (List Int)):Prop:=∃rows,Rows H 1 v rows∧eu (fun r s=>∃u,r=[u]∧eY H u s) rows S
theorem eu.get {α β:Type} {C:α→β→Prop}:∀{l:List α} {m:List β} {i:Nat} {y:β},eu C l m→m[i]?=some y→∃x,l[i]?=some x∧C x y
 |_,_,i,y,.nil,h=>by simp at h
 |_,_,0,y,.cons a b,h=>by simp at h;subst h;exact ⟨_,rfl,a⟩
 |_,_,i+1,y,.cons a b,h=>by obtain ⟨x,h1,h2⟩:=eu.get b (by simpa using h);exact ⟨x,by simpa using h1,h2⟩
theorem eu.imp {α β:Type} {C D:α→β→Prop} (h:∀a b,C a b→D a b):∀{l:List α} {m:List β},eu C l m→eu D l m
 |_,_,.nil=>.nil
 |_,_,.cons a b=>.cons (h _ _ a) (eu.imp h b)
theorem fA.sub {H H':AH} (X:Sub H H') {v:Value} {S:List (List Int)} (h:fA H v S):fA H' v S:=by
 obtain ⟨rows,h1,h2⟩:=h
 exact ⟨rows,h1.sub X,h2.imp fun _ _ ⟨u,e,k⟩=>⟨u,e,k.sub X⟩⟩
theorem fA.at {H:AH} {v:Value} {S:List (List Int)} (h:fA H v S) {i:Nat} {s:List Int} (hi:S[i]?=some s):∃b o c a c',v= .slice (some ⟨b,o,none⟩) S.length c∧H.ld ⟨b,o+i,none⟩=some (.slice a s.length c')∧eY H (.slice a s.length c') s:=by
 obtain ⟨rows,h1,h2⟩:=h
 obtain ⟨r,hr,u,rfl,hu⟩:=h2.get hi
 obtain ⟨b,o,c,e,hl⟩:=h1.at hr
 obtain ⟨a,c',e2⟩:=hu.len
 rw [h2.length]at e
 have:=aG hl (j:=0) rfl
 rw [e2]at this hu
 exact ⟨b,o,c,a,c',e,by simpa using this,hu⟩
theorem fA.len {H:AH} {v:Value} {S:List (List Int)} (h:fA H v S):∃a c,v= .slice a S.length c:=by
 obtain ⟨rows,h1,h2⟩:=h
 obtain ⟨a,c,e⟩:=h1.len
 rw [h2.length]at e
 exact ⟨a,c,e⟩
open Go
end Go.Proofs.YtppcmpmnglaleaaGreatDoor.A
namespace Go.Proofs.YtppcmpmnglaleaaGreatDoor.A
open Go
def Ev.row (e:Ev):List Value:=[.int .i64 e.kind,.int .i64 e.at_,.int .i64 e.val]
def cK (l:List Ev):List (List Value):=l.map Ev.row
theorem rN (l m:List Ev):cK (l++m)=cK l++cK m:=by simp [cK]
theorem iP (l:List Ev):(cK l).length=l.length:=by simp [cK]
theorem ji {w:Int} {V:List Vr} {S:List (List Int)} {l:List cn} (h:∀e∈l,((nA w V S e).length:Int)≤ar e):((eE w V S l).length:Int)≤al l:=by
 induction l with
 |nil=>simp [eE,al]
 |cons x l ih=>
  rw [eE,al,alW]
  have h1:=h x (by simp)
  have h2:=ih fun e he=>h e (by simp [he])
  omega
theorem eg {w:Int} {V:List Vr} {S:List (List Int)}:∀e,((nA w V S e).length:Int)≤ar e:=mJ fun op n cp args ih=>by
 have h1:=ji (w:=w) (V:=V) (S:=S) ih
 rw [nA,ar,alW]
 split
 ·simp;omega
 ·simp;omega
theorem Eg {w:Int} {V:List Vr} {S:List (List Int)} {l:List cn} {i:Nat} {y:cn} (h:l[i]?=some y):eE w V S (l.take (i+1))=eE w V S (l.take i)++nA w V S y:=by
 induction l generalizing i with
 |nil=>simp at h
 |cons x l ih=>
  cases i with
  |zero=>simp at h;subst h;simp [eE]
  |succ i=>simp only [List.take_succ_cons,eE];rw [ih (by simpa using h),List.append_assoc]
theorem vH {w:Int} {V:List Vr} {S:List (List Int)} (l:List cn) (i:Nat):((eE w V S (l.take i)).length:Int)≤al l:=by
 have:=ji (w:=w) (V:=V) (S:=S) (l:=l.take i) fun e _=>eg e
 have:=bS l i
 omega
open Go
abbrev uC:=Int×bI
def dK:List bI→Int→List uC
 |[],_=>[]
 | .mk op n args aB aC::ss,k=>(k,.mk op n args aB aC)::dK ss (k+1+aw aB+aw aC)
theorem lU.sub:∀{G H:AH} (X:Sub G H) {c:List Value} {e:bI},lU G c e→lU H c e:=by
 intro G H X
 have hE:∀(N:Nat) (e:cn) (c:List Value),SizeOf.sizeOf e<N→pG G c e→pG H c e:=by
  intro N
  induction N with
  |zero=>intro e c h;omega
  |succ N ih=>
   intro e c hN h
   cases h with| @mk op n cp v rows args i1 i2 i3 hl hr eD=>
   refine .mk i1 i2 i3 hl (hr.sub X) ?_
   have:∀(rows:List (List Value)) (l:List cn),(∀y∈l,SizeOf.sizeOf y<N)→eZ G rows l→eZ H rows l:=by
    intro rows l
    induction l generalizing rows with
    |nil=>intro _ h;cases h;exact .nil
    |cons x l ts=>intro hs h;cases h with|cons a b=>exact .cons (ih x _ (hs x (by simp)) a) (ts _ (fun y hy=>hs y (by simp [hy])) b)
   exact this rows args (fun y hy=>by have:=List.sizeOf_lt_of_mem hy;simp at hN;omega) eD
 have hEL:∀(rows:List (List Value)) (l:List cn),eZ G rows l→eZ H rows l:=by
  intro rows l
  induction l generalizing rows with
  |nil=>intro h;cases h;exact .nil
  |cons x l ts=>intro h;cases h with|cons a b=>exact .cons (hE _ x _ (al2 _) a) (ts _ b)
 have hS:∀(N:Nat) (e:bI) (c:List Value),SizeOf.sizeOf e<N→lU G c e→lU H c e:=by
  intro N
  induction N with
  |zero=>intro e c h;omega
  |succ N ih=>
   intro e c hN h
   cases h with| @mk op n va vt ve ra rt re args aB aC i1 i2 i3 i4 i5 h1 h2 h3 h4 h5 h6=>
   have key:∀(rows:List (List Value)) (l:List bI),(∀y∈l,SizeOf.sizeOf y<N)→gU G rows l→gU H rows l:=by
    intro rows l
    induction l generalizing rows with
    |nil=>intro _ h;cases h;exact .nil
    |cons x l ts=>intro hs h;cases h with|cons a b=>exact .cons (ih x _ (hs x (by simp)) a) (ts _ (fun y hy=>hs y (by simp [hy])) b)
   refine .mk i1 i2 i3 i4 i5 (h1.sub X) (hEL _ _ h2) (h3.sub X) (key _ _ (fun y hy=>?_) h4) (h5.sub X) (key _ _ (fun y hy=>?_) h6)
   ·have:=List.sizeOf_lt_of_mem hy;simp at hN;omega
   ·have:=List.sizeOf_lt_of_mem hy;simp at hN;omega
 exact fun{c e} h=>hS _ e c (al2 _) h
theorem gU.sub {G H:AH} (X:Sub G H):∀{rows:List (List Value)} {l:List bI},gU G rows l→gU H rows l
 |_,_,.nil=>.nil
 |_,_,.cons a b=>.cons (a.sub X) (gU.sub X b)
end Go.Proofs.YtppcmpmnglaleaaGreatDoor.A
namespace Go.Proofs.YtppcmpmnglaleaaGreatDoor.A
open Go
noncomputable def part (H:AH) (n:Nat) (S:Nat→Prop):AH:=H.rM ((List.range H.nx).filter fun b=>@decide (b<n∨S b) (Classical.propDecidable _))
theorem gW {H:AH} {n:Nat} {S:Nat→Prop} {b:Nat} {x:nC}:(part H n S).get b=some x↔H.get b=some x∧n≤b∧¬ S b:=by
 unfold part
 rw [qE]
 have hm:b∈((List.range H.nx).filter fun b=>@decide (b<n∨S b) (Classical.propDecidable _))↔b<H.nx∧(b<n∨S b):=by rw [List.mem_filter,List.mem_range,@alZ _ (Classical.propDecidable _)]
 constructor
 ·intro h
  split at h
  ·cases h
  ·rename_i q
   rw [hm]at q
   have hb:=AH.aL h
   exact ⟨h,Nat.le_of_not_lt fun k=>q ⟨hb,.inl k⟩,fun k=>q ⟨hb,.inr k⟩⟩
 ·rintro ⟨h,k1,k2⟩
  rw [if_neg]
  ·exact h
  ·rw [hm]
   rintro ⟨_,q|q⟩
   ·omega
   ·exact k2 q
theorem mM (H:AH) (n:Nat) (S:Nat→Prop):(part H n S).n0=H.n0:=tG _ _
theorem tL (H:AH) (n:Nat) (S:Nat→Prop):(part H n S).nx=H.nx:=tH _ _
theorem zy (H:AH) (n:Nat) (S:Nat→Prop):Sub (part H n S) H:=D4 _ _
theorem dH {H H':AH} {n m:Nat} {S S':Nat→Prop} (h0:H'.n0=H.n0) (hx:H.nx≤H'.nx) (h:∀b x,H.get b=some x→n≤b→¬ S b→H'.get b=some x∧m≤b∧¬ S' b):Sub (part H n S) (part H' m S'):=
 ⟨by rw [mM,mM,h0],by rw [tL,tL];exact hx,fun b x k=>gW.2 (let⟨a,b',c⟩:=gW.1 k;h b x a b' c)⟩
theorem c9.part {H:AH} {sz n:Nat} {v:Value} {rows:List (List Value)} {S:Nat→Prop} (h:c9 H sz v rows) (hs:∀b,aN v b→n≤b∧¬ S b):c9 (part H n S) sz v rows:=by
 refine ⟨?_,h.len⟩
 rcases h.is with⟨rfl,rfl⟩|⟨b,rfl,h0,hg⟩
 ·exact .inl ⟨rfl,rfl⟩
 ·have:=hs b ((aW _ _ _ _ _).2 rfl)
  exact .inr ⟨b,rfl,by rw [mM];exact h0,gW.2 ⟨hg,this.1,this.2⟩⟩
theorem c9.sub {G H:AH} (X:Sub G H) {sz:Nat} {v:Value} {rows:List (List Value)} (h:c9 G sz v rows):c9 H sz v rows:=by
 refine ⟨?_,h.len⟩
 rcases h.is with⟨rfl,rfl⟩|⟨b,rfl,h0,hg⟩
 ·exact .inl ⟨rfl,rfl⟩
 ·exact .inr ⟨b,rfl,by rw [X.n0];exact h0,X.get _ _ hg⟩
abbrev wY:Nat→Prop:=fun _=>False
theorem pG.sub {G H:AH} (X:Sub G H):∀{c:List Value} {e:cn},pG G c e→pG H c e:=by
 have hE:∀(N:Nat) (e:cn) (c:List Value),SizeOf.sizeOf e<N→pG G c e→pG H c e:=by
  intro N
  induction N with
  |zero=>intro e c h;omega
  |succ N ih=>
   intro e c hN h
   cases h with| @mk op n cp v rows args i1 i2 i3 hl hr eD=>
   refine .mk i1 i2 i3 hl (hr.sub X) ?_
   have:∀(rows:List (List Value)) (l:List cn),(∀y∈l,SizeOf.sizeOf y<N)→eZ G rows l→eZ H rows l:=by
    intro rows l
    induction l generalizing rows with
    |nil=>intro _ h;cases h;exact .nil
    |cons x l ts=>intro hs h;cases h with|cons a b=>exact .cons (ih x _ (hs x (by simp)) a) (ts _ (fun y hy=>hs y (by simp [hy])) b)
   exact this rows args (fun y hy=>by have:=List.sizeOf_lt_of_mem hy;simp at hN;omega) eD
 exact fun{c e} h=>hE _ e c (al2 _) h
theorem eZ.sub {G H:AH} (X:Sub G H):∀{rows:List (List Value)} {l:List cn},eZ G rows l→eZ H rows l
 |_,_,.nil=>.nil
 |_,_,.cons a b=>.cons (a.sub X) (eZ.sub X b)
theorem eZ.snoc {H:AH}:∀{rows:List (List Value)} {l:List cn} {r:List Value} {y:cn},eZ H rows l→pG H r y→eZ H (rows++[r]) (l++[y])
 |_,_,_,_,.nil,h=>.cons h .nil
 |_,_,_,_,.cons a b,h=>.cons a (eZ.snoc b h)
theorem kX {α:Type} {l:List α} {i:Nat} {y:α} (h:l[i]?=some y):l.take (i+1)=l.take i++[y]:=by rw [List.take_add_one,h];rfl
theorem lX:∀l:List cn,(l.length:Int)≤al l
 |[]=>by simp [al]
 |x::l=>by have:=dV x;have:=lX l;simp [al];omega
theorem qJ:∀(N:Nat) (l:List cn) (vl:Value) (rows:List (List Value)) (H:AH),SizeOf.sizeOf l<N→H.n0≤H.nx→Rows H 4 vl rows→eZ H rows l→l.length≤2^40→al l≤2^40→
 Ca E O 140 [vl] H (fun x H'=>∃rs,c9 H' 4 x rs∧eZ (part H' H.nx (aN x)) rs l∧Ext H H'∧∀b,aN x b→H.nx≤b):=by
 intro N
 induction N with
 |zero=>intro l vl rows H h;omega
 |succ N ih=>
  intro l vl rows H hN hw hr hl hlen uD
  refine Ca.aR (F:=HK) rfl rfl rfl ?_
  obtain ⟨p0,c0,lW⟩:=hr.len
  rw [hl.length]at lW
  simp (maxSteps:=4000000)-implicitDefEqProofs+contextual [-X.ev,HK,lW]
  refine b9 (fun k fr H'=>Ext H H'∧∃(i:Nat) (z:Value) (rs:List (List Value)),i+k=l.length∧fr.get 6=vl∧fr.get 3=z∧fr.get 7= .int .i64 l.length∧fr.get 8= .int .i64 i∧c9 H' 4 z rs∧rs.length=i∧eZ (part H' H.nx (aN z)) rs (l.take i)∧(∀b,aN z b→H.nx≤b)) ?_ l.length ⟨Ext.refl _,0,.slice none 0 0,[],by simp,by simp [lW],by simp,by simp [lW],by simp,c9.nil _ _,rfl,by simpa using eZ.nil,fun b hb=>absurd hb (dh _ _ _)⟩
  rintro k fr H1 ⟨X1,i,z,rs,hi,f6,f3,f7,f8,ow,xC,aT,iX⟩
  have pk:=X1.wf hw
  by_cases h:i<l.length
  ·obtain ⟨y,hy⟩:∃y,l[i]?=some y:=⟨_,alN h⟩
   obtain ⟨op,n,cp,args⟩:=y
   obtain ⟨b,o,c',va,r,dy,bN,rfl,pH⟩:=eZ.row (hr.ext X1) (hl.ext X1) hy
   simp only [cn.op,cn.n,cn.cp]at bN pH
   have Ng:=f6
   rw [dy]at Ng
   have tF:=List.sizeOf_lt_of_mem (alS hy)
   have ht1:=fG hy
   have ht2:=bS l (i+1)
   have ht3:=bS l i
   rw [ar]at ht1
   have hla:=lX args
   cases pH with| @mk _ _ _ _ ra _ i1 i2 i3 zo Da aaH=>
   obtain ⟨H2,VF,X2,aae,RD,q,GD⟩:=dJ (H:=H1) pk (z:=4) (c:=[.int .i64 0,.int .i64 0,.int .i64 0,.slice none 0 0]) (vs:=[.int .i64 op,.int .i64 n,.int .i64 cp,va]) rfl
   have q0:H2.ld ⟨H1.nx,0,none⟩=some (.int .i64 op):=GD 0 _ rfl
   have q1:H2.ld ⟨H1.nx,1,none⟩=some (.int .i64 n):=GD 1 _ rfl
   have q2:H2.ld ⟨H1.nx,2,none⟩=some (.int .i64 cp):=GD 2 _ rfl
   have q3:H2.ld ⟨H1.nx,3,none⟩=some va:=GD 3 _ rfl
   clear GD
   replace q:H2.ldn ⟨H1.nx,0,none⟩ 4=some [.int .i64 op,.int .i64 n,.int .i64 cp,va]:=q
   have gV:=X2.wf pk
   have g2:H2.get H1.nx=some (.cells 4 [.int .i64 op,.int .i64 n,.int .i64 cp,va]):=by
    obtain ⟨H2',s2,_,_,_,g⟩:=gq pk (z:=4) (c:=[.int .i64 0,.int .i64 0,.int .i64 0,.slice none 0 0]) (vs:=[.int .i64 op,.int .i64 n,.int .i64 cp,va]) rfl
    rw [VF]at s2
    cases s2
    exact g
   have lt2:=AH.aL g2
   simp (maxSteps:=4000000)-implicitDefEqProofs+contextual [-X.ev,Ng,f3,f7,f8,h,bN,VF,q3]
   apply ah
   ·(simp-implicitDefEqProofs [-X.ev];rfl)
   refine (ih args va ra H2 (by simp at tF;omega) gV (Da.ext X2) (aaH.ext X2) (by omega) (by omega)).mono ?_
   rintro x0 H3 ⟨KW,o3,e3,X3,k3⟩
   obtain ⟨xa,xc,hx⟩:=o3.shape
   subst hx
   have nz:=X3.wf gV
   have g3:=X3.get g2
   obtain ⟨H4,s4,M4,wU,lV,g4⟩:=bw g3 (by rw [X3.n0,X2.n0];exact pk) (k:=3) (vs:=[.slice xa KW.length xc]) (by simp)
   have fM:aF [.int .i64 op,.int .i64 n,.int .i64 cp,va] 3 [.slice xa KW.length xc]=[.int .i64 op,.int .i64 n,.int .i64 cp,.slice xa KW.length xc]:=rfl
   rw [fM]at g4
   have oN:=M4.wf nz
   have h04:H4.n0≤H1.nx:=by rw [lV,X3.n0,X2.n0];exact pk
   have l4:H4.ldn ⟨H1.nx,0,none⟩ 4=some [.int .i64 op,.int .i64 n,.int .i64 cp,.slice xa KW.length xc]:=by rw [bk g4 h04 (by simp)];rfl
   have Nh:∀b,aN z b→b<H1.nx:=fun b hb=>ow.lt hb
   have ow4:c9 H4 4 z rs:=(ow.ext (X2.trans X3)).mod M4 (fun b hb q=>by have:=Nh b hb;omega)
   have uB:=vz (sz:=4) (z:=[.int .i64 0,.int .i64 0,.int .i64 0,.slice none 0 0]) (H:=H4) (v:=.agg #[.int .i64 op,.int .i64 n,.int .i64 cp,.slice xa KW.length xc]) rfl rfl rfl
   simp only [fh]at uB
   obtain ⟨H5,VV⟩:∃H5,H4.alloc (.cells 4 [.int .i64 op,.int .i64 n,.int .i64 cp,.slice xa KW.length xc])=H5:=⟨_,rfl⟩
   obtain ⟨z',H6,R9,o6,M6,k6,c1,c2,c3,c4,c5,c6⟩:=jd (bytes:=48) oN ow4 (r:=[.int .i64 op,.int .i64 n,.int .i64 cp,.slice xa KW.length xc]) rfl VV (by omega) (by omega)
   rw [VV]at uB
   have hX:Ext H H6:=((X1.trans (X2.trans X3)).mod M4 (fun b hb=>by have:=X1.nx;omega)).mod M6 iX
   have n12:=X2.nx
   have n23:=X3.nx
   have Bl:=X1.nx
   simp (maxSteps:=4000000)-implicitDefEqProofs+contextual [-X.ev,Ng,f3,f7,f8,s4,l4,uB,R9]
   rw [aj (n:=(i:Int)+1) ⟨by omega,by omega⟩]
   refine ⟨k- 1,by omega,hX,i+1,by omega,dy.symm,by omega,_,o6,by simp [xC],?_,fun q hq=>by have:=k6 q hq;omega⟩
   rw [kX hy]
   refine eZ.snoc (aT.sub (dH (c1.trans (lV.trans (X3.n0.trans X2.n0))) (by omega) fun b y hb hn hz=>?_)) (.mk i1 i2 i3 zo (rows:=KW) (Rows.sub (dH (n:=H2.nx) (S:=wY) (c1.trans lV) (by omega) fun b y hb hn hz=>?_) (o3.part (fun b hb=>⟨k3 b hb,fun q=>q⟩)).rows) (e3.sub (dH (c1.trans lV) (by omega) fun b y hb hn hz=>?_)))
   ·have j6:=AH.aL hb
    refine ⟨M6.get (fun q=>hz q) (M4.get (fun q=>by omega) (X3.get (X2.get hb))),hn,fun q=>by have:=k6 b q;omega⟩
   ·have j6:=AH.aL hb
    refine ⟨M6.get (fun q=>by have:=Nh b q;omega) (M4.get (fun q=>by omega) hb),by omega,fun q=>by have:=k6 b q;omega⟩
   ·have j6:=AH.aL hb
    refine ⟨M6.get (fun q=>by have:=Nh b q;omega) (M4.get (fun q=>by omega) hb),by omega,fun q=>by have:=k6 b q;omega⟩
  ·rw [alU (by omega)]at aT
   simp (maxSteps:=4000000)-implicitDefEqProofs+contextual [-X.ev,f6,f3,f7,f8,h,X1]
   exact ⟨rs,ow,aT,iX⟩
open Go
def Fit (H:AH) (v:Value):Prop:=∃a n c,v= .slice a n c∧n≤c∧(0<n→∃b o,a=some ⟨b,o,none⟩∧H.jm b 5=true)
theorem tM {H:AH} {b z k:Nat} {c:List Value} (h:H.get b=some (.cells z c)) (hk:k≤z):H.jm b k=true:=by simp [AH.jm,h,hk]
theorem c9.fit {H:AH} {v:Value} {rows:List (List Value)} (h:c9 H 5 v rows):Fit H v:=by
 rcases h.is with⟨rfl,_⟩|⟨b,rfl,_,hg⟩
 ·exact ⟨_,_,_,rfl,alR _,fun h=>absurd h (by omega)⟩
 ·exact ⟨_,_,_,rfl,alR _,fun _=>⟨_,_,rfl,tM hg (alR _)⟩⟩
theorem Fit.sub {G H:AH} (X:Sub G H) {v:Value} (h:Fit G v):Fit H v:=by
 obtain ⟨a,n,c,e,h1,h2⟩:=h
 refine ⟨a,n,c,e,h1,fun h=>?_⟩
 obtain ⟨b,o,e2,hz⟩:=h2 h
 refine ⟨b,o,e2,?_⟩
 unfold AH.jm at hz⊢
 split at hz
 ·rename_i hg;rw [X.get _ _ hg];exact hz
 ·cases hz
mutual
inductive wZ (H:AH):List Value→bI→Prop where
 |mk {op n:Int} {va vt ve:Value} {ra rt re:List (List Value)} {args:List cn} {aB aC:List bI}:e8 op→e8 n→args.length<2^60→aB.length<2^60→aC.length<2^60→
  Rows H 4 va ra→eZ H ra args→Rows H 5 vt rt→dL H rt aB→Fit H vt→Rows H 5 ve re→dL H re aC→Fit H ve→wZ H [.int .i64 op,.int .i64 n,va,vt,ve] (.mk op n args aB aC)
inductive dL (H:AH):List (List Value)→List bI→Prop where
 |nil:dL H [] []
 |cons {r:List Value} {e:bI} {rs:List (List Value)} {es:List bI}:wZ H r e→dL H rs es→dL H (r::rs) (e::es)
end
mutual
theorem wZ.toC {H:AH} {c:List Value} {e:bI}:wZ H c e→lU H c e
 | .mk a b c d e ra la rt lt _ re le _=>.mk a b c d e ra la rt (dL.Sa lt) re (dL.Sa le)
theorem dL.Sa {H:AH} {c:List (List Value)} {e:List bI}:dL H c e→gU H c e
 | .nil=>.nil
 | .cons a b=>.cons (wZ.toC a) (dL.Sa b)
end
mutual
theorem wZ.sub {G H:AH} (X:Sub G H) {c:List Value} {e:bI}:wZ G c e→wZ H c e
 | .mk a b c d e ra la rt lt ft re le fe=>.mk a b c d e (ra.sub X) (eZ.sub X la) (rt.sub X) (dL.sub X lt) (ft.sub X) (re.sub X) (dL.sub X le) (fe.sub X)
theorem dL.sub {G H:AH} (X:Sub G H) {c:List (List Value)} {e:List bI}:dL G c e→dL H c e
 | .nil=>.nil
 | .cons a b=>.cons (wZ.sub X a) (dL.sub X b)
end
theorem dL.length {H:AH}:∀{c:List (List Value)} {e:List bI},dL H c e→c.length=e.length:=fun h=>h.Sa.length
theorem dL.snoc {H:AH}:∀{rows:List (List Value)} {l:List bI} {r:List Value} {y:bI},dL H rows l→wZ H r y→dL H (rows++[r]) (l++[y])
 |_,_,_,_,.nil,h=>.cons h .nil
 |_,_,_,_,.cons a b,h=>.cons a (dL.snoc b h)
theorem wZ.len {H:AH} {c:List Value} {s:bI} (h:wZ H c s):c.length=5:=by cases h;rfl
abbrev zS:List Value:=[.int .i64 0,.int .i64 0,.slice none 0 0,.slice none 0 0,.slice none 0 0]
theorem dY:∀l:List bI,(l.length:Int)≤av l
 |[]=>by simp [av]
 |x::l=>by have:=kj x;have:=dY l;simp [av];omega
theorem vI {H1 H3:AH} {n m:Nat} {z:Value} {rs:List (List Value)} {l1:List bI} {cs:List Value} {s:bI} (pk:H1.n0≤H1.nx) (X:Ext H1 H3) (hm:H1.nx≤m) (hn:n≤H1.nx) (ow:c9 H1 5 z rs) (aT:dL (part H1 n (aN z)) rs l1) (hk:wZ (part H3 m wY) cs s) (hb:rs.length≤2^40):
 ∃z' H4 H5,ll 1 5 zS H3 [(0,5,.agg cs.toArray)]=some (.slice (some ⟨H3.nx,0,none⟩) 1 1,H4)∧aX 5 88 H4 z (.slice (some ⟨H3.nx,0,none⟩) 1 1)=some (z',H5)∧c9 H5 5 z' (rs++[cs])∧dL (part H5 n (aN z')) (rs++[cs]) (l1++[s])∧Mod (aN z) H3 H5∧∀b,aN z' b→H3.nx≤b:=by
 have nz:=X.wf pk
 have uB:=vz (sz:=5) (z:=zS) (H:=H3) (v:=.agg cs.toArray) (by simpa using hk.len) rfl rfl
 simp only [fh]at uB
 obtain ⟨H4,VW⟩:∃H4,H3.alloc (.cells 5 cs)=H4:=⟨_,rfl⟩
 obtain ⟨z',H6,R9,o6,M6,k6,c1,c2,c3,c4,c5,c6⟩:=jd (bytes:=88) nz (ow.ext X) hk.len VW (by omega) (by omega)
 rw [VW]at uB
 have Nh:∀b,aN z b→b<H1.nx:=fun b hb=>ow.lt hb
 have nx:=X.nx
 refine ⟨z',H4,H6,uB,R9,o6,dL.snoc (aT.sub (dH (c1.trans X.n0) (by omega) fun b y hb hn hz=>?_)) (hk.sub (dH c1 (by omega) fun b y hb hn hz=>?_)),M6,k6⟩
 ·have j6:=AH.aL hb
  exact ⟨M6.get (fun q=>hz q) (X.get hb),hn,fun q=>by have:=k6 b q;omega⟩
 ·have j6:=AH.aL hb
  exact ⟨M6.get (fun q=>by have:=Nh b q;omega) hb,by omega,fun q=>by have:=k6 b q;omega⟩
theorem Bp:∀(N:Nat) (s:bI) (c:List Value) (H:AH),SizeOf.sizeOf s<N→H.n0≤H.nx→lU H c s→a8 s≤2^40→
 Ca E O 104 [.agg c.toArray] H (fun x H'=>∃cs,x= .agg cs.toArray∧wZ (part H' H.nx wY) cs s∧Ext H H'):=by
 intro N
 induction N with
 |zero=>intro s c H h;omega
 |succ N ih=>
  intro s c H hN hw hs uD
  cases hs with| @mk op n va vt ve ra rt re args aB aC i1 i2 i3 i4 i5 h1 h2 h3 h4 h5 h6=>
  refine Ca.aR (F:=HE) rfl rfl rfl ?_
  rw [a8]at uD
  have na:=bu args
  have nt:=cA aB
  have ne:=cA aC
  have la:=lX args
  have lt:=dY aB
  have le:=dY aC
  obtain ⟨p1,q1,wV⟩:=h3.len
  rw [h4.length]at wV
  obtain ⟨p2,q2,vu⟩:=h5.len
  rw [h6.length]at vu
  have gB:=bZ H (.cells 5 [.int .i64 op,.int .i64 n,va,vt,ve])
  have X1:=Ext.alloc H (.cells 5 [.int .i64 op,.int .i64 n,va,vt,ve])
  have d0:(H.alloc (.cells 5 [.int .i64 op,.int .i64 n,va,vt,ve])).ld ⟨H.nx,0,none⟩=some (.int .i64 op):=ai hw rfl
  have d1:(H.alloc (.cells 5 [.int .i64 op,.int .i64 n,va,vt,ve])).ld ⟨H.nx,1,none⟩=some (.int .i64 n):=ai hw rfl
  have d2:(H.alloc (.cells 5 [.int .i64 op,.int .i64 n,va,vt,ve])).ld ⟨H.nx,2,none⟩=some va:=ai hw rfl
  have d3:(H.alloc (.cells 5 [.int .i64 op,.int .i64 n,va,vt,ve])).ld ⟨H.nx,3,none⟩=some vt:=ai hw rfl
  have d4:(H.alloc (.cells 5 [.int .i64 op,.int .i64 n,va,vt,ve])).ld ⟨H.nx,4,none⟩=some ve:=ai hw rfl
  have d:(H.alloc (.cells 5 [.int .i64 op,.int .i64 n,va,vt,ve])).ldn ⟨H.nx,0,none⟩ 5=some [.int .i64 op,.int .i64 n,va,vt,ve]:=ba hw 5 rfl
  generalize cV:H.alloc (.cells 5 [.int .i64 op,.int .i64 n,va,vt,ve])=H1 at X1 d0 d1 d2 d3 d4 d
  have bc:=X1.wf hw
  rw [cV]at gB
  have X2:=Ext.alloc H1 (.cells 5 zS)
  have gR:=bZ H1 (.cells 5 zS)
  obtain ⟨H2,ju⟩:∃H2,H1.alloc (.cells 5 zS)=H2:=⟨_,rfl⟩
  rw [ju]at X2 gR
  have lq:=X2.wf bc
  have kg:=X1.trans X2
  have ltB:=AH.aL gB
  have ltR:=AH.aL gR
  have d22:=X2.ld d2
  have n1:=X1.nx
  have n2:=X2.nx
  simp at hN
  simp (maxSteps:=4000000)-implicitDefEqProofs+contextual [-X.ev,HE,cV,ju,d22]
  apply ah
  ·(simp-implicitDefEqProofs [-X.ev];rfl)
  refine (qJ _ args va ra H2 (al2 _) lq (h1.ext kg) (h2.ext kg) (by omega) (by omega)).mono ?_
  rintro x H3 ⟨Ci,oa,ea,X3,ka⟩
  obtain ⟨xa,xc,hx⟩:=oa.shape
  subst hx
  have nz:=X3.wf lq
  have n3:=X3.nx
  obtain ⟨H4,s4,M4,wU,lV,PE⟩:=bw (X3.get (X2.get gB)) (by rw [X3.n0,X2.n0,X1.n0];exact hw) (k:=2) (vs:=[.slice xa Ci.length xc]) (by simp)
  have fM:aF [.int .i64 op,.int .i64 n,va,vt,ve] 2 [.slice xa Ci.length xc]=[.int .i64 op,.int .i64 n,.slice xa Ci.length xc,vt,ve]:=rfl
  rw [fM]at PE
  have oN:=M4.wf nz
  have vB:Ext H H4:=(kg.trans X3).mod M4 (fun b hb=>by omega)
  have gR4:=M4.get (fun q=>by omega) (X3.get gR)
  have B0:H4.n0≤H.nx:=by rw [vB.n0];exact hw
  have e3:=aE PE B0 (k:=3) (v:=vt) rfl
  have Ut:=e3
  rw [wV]at Ut
  simp (maxSteps:=4000000)-implicitDefEqProofs+contextual [-X.ev,s4,Ut]
  refine b9 (fun k fr H'=>Ext H4 H'∧∃(i:Nat) (z:Value) (rs:List (List Value)),i+k=aB.length∧fr.get 1= .pointer (some ⟨H.nx,0,none⟩)∧fr.get 2= .pointer (some ⟨H1.nx,0,none⟩)∧fr.get 3=z∧fr.get 4= .slice none 0 0∧fr.get 14=vt∧fr.get 15= .int .i64 aB.length∧fr.get 16= .int .i64 i∧c9 H' 5 z rs∧rs.length=i∧dL (part H' H4.nx (aN z)) rs (aB.take i)∧(∀b,aN z b→H4.nx≤b)) ?_ aB.length ⟨Ext.refl _,0,.slice none 0 0,[],by simp,by simp,by simp,by simp,by simp,by simp [wV],by simp,by simp,c9.nil _ _,rfl,by simpa using dL.nil,fun b hb=>absurd hb (dh _ _ _)⟩
  rintro k fr H5 ⟨X5,i,z,rs,hi,f1,f2,f3,f4,f14,f15,f16,ow,xC,aT,iX⟩
  have oO:=X5.wf oN
  have D5:=vB.trans X5
  by_cases h:i<aB.length
  ·obtain ⟨y,hy⟩:∃y,aB[i]?=some y:=⟨_,alN h⟩
   obtain ⟨jP,yn,iA,mN,mO⟩:=y
   obtain ⟨b,o,c',mP,mQ,mR,Sb,Sc,Sd,dy,bN,_,_,_,_,_,j1,j2,j3,j4,j5,g1,g2,g3,g4,g5,g6⟩:=gU.row (h3.ext D5) (gU.ext D5 h4) hy
   have Ch:lU H5 [.int .i64 jP,.int .i64 yn,mP,mQ,mR] (.mk jP yn iA mN mO):=.mk j1 j2 j3 j4 j5 g1 g2 g3 g4 g5 g6
   have tF:=List.sizeOf_lt_of_mem (alS hy)
   have t1:=dX hy
   have t2:=bf aB (i+1)
   have t3:=bf aB i
   have xV:=f14
   rw [dy]at xV
   obtain ⟨H6,Ix,X6,MU,MW,q,rL⟩:=dJ (H:=H5) oO (z:=5) (c:=[.int .i64 0,.int .i64 0,.slice none 0 0,.slice none 0 0,.slice none 0 0]) (vs:=[.int .i64 jP,.int .i64 yn,mP,mQ,mR]) rfl
   have q0:H6.ld ⟨H5.nx,0,none⟩=some (.int .i64 jP):=rL 0 _ rfl
   have q1:H6.ld ⟨H5.nx,1,none⟩=some (.int .i64 yn):=rL 1 _ rfl
   have q2:H6.ld ⟨H5.nx,2,none⟩=some mP:=rL 2 _ rfl
   have q3:H6.ld ⟨H5.nx,3,none⟩=some mQ:=rL 3 _ rfl
   have q4:H6.ld ⟨H5.nx,4,none⟩=some mR:=rL 4 _ rfl
   clear rL
   replace q:H6.ldn ⟨H5.nx,0,none⟩ 5=some [.int .i64 jP,.int .i64 yn,mP,mQ,mR]:=q
   have DP:=X6.wf oO
   simp (maxSteps:=4000000)-implicitDefEqProofs+contextual [-X.ev,xV,f3,f15,f16,h,bN,Ix,q]
   apply ah
   ·(simp-implicitDefEqProofs [-X.ev];rfl)
   refine (ih _ _ H6 (by omega) DP (lU.ext X6 Ch) (by omega)).mono ?_
   rintro x H7 ⟨cs,rfl,hk,X7⟩
   obtain ⟨z',H8,H9,b8,a9,o9,s9,M9,k9⟩:=vI oO (X6.trans X7) X6.nx X5.nx ow aT hk (by omega)
   have n6:=X6.nx
   have n7:=X7.nx
   have n5:=X5.nx
   simp (maxSteps:=4000000)-implicitDefEqProofs+contextual [-X.ev,xV,f3,f15,f16,b8,a9]
   rw [aj (n:=(i:Int)+1) ⟨by omega,by omega⟩]
   exact ⟨k- 1,by omega,((X5.trans X6).trans X7).mod M9 iX,i+1,by omega,f1,f2,f4,dy.symm,by omega,_,o9,by simp [xC],by rw [kX hy];exact s9,fun q hq=>by have:=k9 q hq;omega⟩
  rw [alU (by omega)]at aT
  have gB5:=X5.get PE
  have B5:H5.n0≤H.nx:=by rw [X5.n0];exact B0
  have e4:=aE gB5 B5 (k:=4) (v:=ve) rfl
  rw [vu]at e4
  obtain ⟨za,zc,hz⟩:=ow.shape
  have n5:=X5.nx
  have xV:=f14
  rw [wV]at xV
  simp (maxSteps:=4000000)-implicitDefEqProofs+contextual [-X.ev,f1,f2,f3,f4,xV,f15,f16,h,e4]
  refine b9 (fun k fr H'=>Ext H5 H'∧∃(j:Nat) (z2:Value) (Cj:List (List Value)),j+k=aC.length∧fr.get 1= .pointer (some ⟨H.nx,0,none⟩)∧fr.get 2= .pointer (some ⟨H1.nx,0,none⟩)∧fr.get 3=z∧fr.get 4=z2∧fr.get 27=ve∧fr.get 28= .int .i64 aC.length∧fr.get 29= .int .i64 j∧c9 H' 5 z2 Cj∧Cj.length=j∧dL (part H' H5.nx (aN z2)) Cj (aC.take j)∧(∀b,aN z2 b→H5.nx≤b)) ?_ aC.length ⟨Ext.refl _,0,.slice none 0 0,[],by simp,by simp [f1],by simp [f2],by simp [f3],by simp [f4],by simp [vu],by simp,by simp,c9.nil _ _,rfl,by simpa using dL.nil,fun b hb=>absurd hb (dh _ _ _)⟩
  clear f1 f2 f3 f4 f14 xV f15 f16 fr
  rintro k fr H6 ⟨X6,j,z2,Cj,hj,f1,f2,f3,f4,f27,f28,f29,VX,aaI,Eh,Ni⟩
  have Bi:=X6.wf oO
  have X06:=D5.trans X6
  by_cases h':j<aC.length
  ·obtain ⟨y,hy⟩:∃y,aC[j]?=some y:=⟨_,alN h'⟩
   obtain ⟨jP,yn,iA,mN,mO⟩:=y
   obtain ⟨b,o,c',mP,mQ,mR,Sb,Sc,Sd,dy,bN,_,_,_,_,_,j1,j2,j3,j4,j5,g1,g2,g3,g4,g5,g6⟩:=gU.row (h5.ext X06) (gU.ext X06 h6) hy
   have Ch:lU H6 [.int .i64 jP,.int .i64 yn,mP,mQ,mR] (.mk jP yn iA mN mO):=.mk j1 j2 j3 j4 j5 g1 g2 g3 g4 g5 g6
   have tF:=List.sizeOf_lt_of_mem (alS hy)
   have t1:=dX hy
   have t2:=bf aC (j+1)
   have t3:=bf aC j
   have Bq:=f27
   rw [dy]at Bq
   obtain ⟨H7,sH7,X7,aif,aih,q,PI⟩:=dJ (H:=H6) Bi (z:=5) (c:=[.int .i64 0,.int .i64 0,.slice none 0 0,.slice none 0 0,.slice none 0 0]) (vs:=[.int .i64 jP,.int .i64 yn,mP,mQ,mR]) rfl
   have q0:H7.ld ⟨H6.nx,0,none⟩=some (.int .i64 jP):=PI 0 _ rfl
   have q1:H7.ld ⟨H6.nx,1,none⟩=some (.int .i64 yn):=PI 1 _ rfl
   have q2:H7.ld ⟨H6.nx,2,none⟩=some mP:=PI 2 _ rfl
   have q3:H7.ld ⟨H6.nx,3,none⟩=some mQ:=PI 3 _ rfl
   have q4:H7.ld ⟨H6.nx,4,none⟩=some mR:=PI 4 _ rfl
   clear PI
   replace q:H7.ldn ⟨H6.nx,0,none⟩ 5=some [.int .i64 jP,.int .i64 yn,mP,mQ,mR]:=q
   have aaK:=X7.wf Bi
   simp (maxSteps:=4000000)-implicitDefEqProofs+contextual [-X.ev,Bq,f4,f28,f29,h',bN,sH7,q]
   apply ah
   ·(simp-implicitDefEqProofs [-X.ev];rfl)
   refine (ih _ _ H7 (by omega) aaK (lU.ext X7 Ch) (by omega)).mono ?_
   rintro x H8 ⟨cs,rfl,hk,X8⟩
   obtain ⟨z',Ha,Hb,b8,a9,o9,s9,M9,k9⟩:=vI Bi (X7.trans X8) X7.nx X6.nx VX Eh hk (by omega)
   have n6:=X6.nx
   have n7:=X7.nx
   have n8:=X8.nx
   simp (maxSteps:=4000000)-implicitDefEqProofs+contextual [-X.ev,Bq,f4,f28,f29,b8,a9]
   rw [aj (n:=(j:Int)+1) ⟨by omega,by omega⟩]
   exact ⟨k- 1,by omega,((X6.trans X7).trans X8).mod M9 Ni,j+1,by omega,f1,f2,f3,dy.symm,by omega,_,o9,by simp [aaI],by rw [kX hy];exact s9,fun q hq=>by have:=k9 q hq;omega⟩
  rw [alU (by omega)]at Eh
  obtain ⟨ya,yc,hz2⟩:=VX.shape
  have n6:=X6.nx
  have VY:=X6.get gB5
  have gR6:=X6.get (X5.get gR4)
  have B6:H6.n0≤H.nx:=by rw [X6.n0];exact B5
  subst hz hz2
  obtain ⟨H7,s7,M7,VT,Bm,Se⟩:=bw VY B6 (k:=3) (vs:=[.slice za rs.length zc]) (by simp)
  have aaL:aF [.int .i64 op,.int .i64 n,.slice xa Ci.length xc,vt,ve] 3 [.slice za rs.length zc]=[.int .i64 op,.int .i64 n,.slice xa Ci.length xc,.slice za rs.length zc,ve]:=rfl
  rw [aaL]at Se
  obtain ⟨H8,s8,M8,PA,zx,Sf⟩:=bw Se (by rw [Bm];exact B6) (k:=4) (vs:=[.slice ya Cj.length yc]) (by simp)
  have Nj:aF [.int .i64 op,.int .i64 n,.slice xa Ci.length xc,.slice za rs.length zc,ve] 4 [.slice ya Cj.length yc]=[.int .i64 op,.int .i64 n,.slice xa Ci.length xc,.slice za rs.length zc,.slice ya Cj.length yc]:=rfl
  rw [Nj]at Sf
  have l8:H8.ldn ⟨H.nx,0,none⟩ 5=some [.int .i64 op,.int .i64 n,.slice xa Ci.length xc,.slice za rs.length zc,.slice ya Cj.length yc]:=by rw [bk Sf (by rw [zx,Bm];exact B6) (by simp)];rfl
  have gR8:=M8.get (fun q=>by omega) (M7.get (fun q=>by omega) gR6)
  obtain ⟨H9,s9,M9,R8,KS,Sg⟩:=bw gR8 (by rw [zx,Bm];omega) (k:=0) (vs:=[.int .i64 op,.int .i64 n,.slice xa Ci.length xc,.slice za rs.length zc,.slice ya Cj.length yc]) (by simp)
  have Nk:aF zS 0 [.int .i64 op,.int .i64 n,.slice xa Ci.length xc,.slice za rs.length zc,.slice ya Cj.length yc]=[.int .i64 op,.int .i64 n,.slice xa Ci.length xc,.slice za rs.length zc,.slice ya Cj.length yc]:=rfl
  rw [Nk]at Sg
  have l9:H9.ldn ⟨H1.nx,0,none⟩ 5=some [.int .i64 op,.int .i64 n,.slice xa Ci.length xc,.slice za rs.length zc,.slice ya Cj.length yc]:=by rw [bk Sg (by rw [KS,zx,Bm];omega) (by simp)];rfl
  have Bq:=f27
  rw [vu]at Bq
  simp (maxSteps:=4000000)-implicitDefEqProofs+contextual [-X.ev,f1,f2,f3,f4,Bq,f28,f29,h',s7,s8,l8,s9,l9]
  have key:∀b x,H.nx≤b→b≠H.nx→b≠H1.nx→H6.get b=some x→H9.get b=some x∧H.nx≤b∧¬ wY b:=fun b x hb h1 h2 hg=>⟨M9.get h2 (M8.get h1 (M7.get h1 hg)),hb,fun q=>q⟩
  have e09:H9.n0=H6.n0:=KS.trans (zx.trans Bm)
  have xa9:Sub (part H3 H2.nx wY) (part H9 H.nx wY):=dH (by rw [e09,X6.n0,X5.n0,lV]) (by omega) fun b x hb hn _=>key b x (by omega) (by omega) (by omega) (X6.get (X5.get (M4.get (fun q=>by omega) hb)))
  have x59:Sub (part H5 H4.nx wY) (part H9 H.nx wY):=dH (by rw [e09,X6.n0]) (by omega) fun b x hb hn _=>key b x (by omega) (by omega) (by omega) (X6.get hb)
  have x69:Sub (part H6 H5.nx wY) (part H9 H.nx wY):=dH e09 (by omega) fun b x hb hn _=>key b x (by omega) (by omega) (by omega) hb
  have un:∀(G:AH) (k:Nat) (S:Nat→Prop),Sub (part G k S) (part G k wY):=fun G k S=>dH rfl (alR _) fun b x hb hn _=>⟨hb,hn,fun q=>q⟩
  refine ⟨.mk i1 i2 i3 i4 i5 (c9.part (n:=H2.nx) (S:=wY) oa (fun b hb=>⟨ka b hb,fun q=>q⟩)|>.sub xa9).rows (ea.sub ((un _ _ _).trans xa9)) (c9.part (n:=H4.nx) (S:=wY) ow (fun b hb=>⟨iX b hb,fun q=>q⟩)|>.sub x59).rows (aT.sub ((un _ _ _).trans x59)) (c9.part (n:=H4.nx) (S:=wY) ow (fun b hb=>⟨iX b hb,fun q=>q⟩)|>.sub x59).fit (c9.part (n:=H5.nx) (S:=wY) VX (fun b hb=>⟨Ni b hb,fun q=>q⟩)|>.sub x69).rows (Eh.sub ((un _ _ _).trans x69)) (c9.part (n:=H5.nx) (S:=wY) VX (fun b hb=>⟨Ni b hb,fun q=>q⟩)|>.sub x69).fit,?_⟩
  exact (((X06.mod M7 (fun b hb=>by omega)).mod M8 (fun b hb=>by omega)).mod M9 (fun b hb=>by omega))
end Go.Proofs.YtppcmpmnglaleaaGreatDoor.A
namespace Go.Proofs.YtppcmpmnglaleaaGreatDoor.A
open Go
structure eC (H:AH) (sz:Nat) (v:Value) (rows:List (List Value)):Prop where
 is:(v= .slice none 0 0∧rows=[])∨∃b c junk,v= .slice (some ⟨b,0,none⟩) rows.length c∧H.n0≤b∧H.get b=some (.cells sz (rows.flatten++junk))∧rows.length*sz+junk.length=c*sz∧rows.length≤c
 len:∀r∈rows,r.length=sz
theorem c9.Nl {H:AH} {sz:Nat} {v:Value} {rows:List (List Value)} (h:c9 H sz v rows):eC H sz v rows:=by
 refine ⟨?_,h.len⟩
 rcases h.is with⟨rfl,rfl⟩|⟨b,rfl,h0,hg⟩
 ·exact .inl ⟨rfl,rfl⟩
 ·exact .inr ⟨b,_,[],rfl,h0,by simpa using hg,by simp,alR _⟩
theorem eC.lt {H:AH} {sz b:Nat} {v:Value} {rows:List (List Value)} (h:eC H sz v rows) (hb:aN v b):b<H.nx:=by
 rcases h.is with⟨rfl,_⟩|⟨b',c,j,rfl,_,hg,_⟩
 ·exact absurd hb (dh _ _ _)
 ·rw [(aW _ _ _ _ _).1 hb];exact AH.aL hg
theorem eC.shape {H:AH} {sz:Nat} {v:Value} {rows:List (List Value)} (h:eC H sz v rows):∃a c,v= .slice a rows.length c:=by
 rcases h.is with⟨rfl,rfl⟩|⟨b,c,j,rfl,_⟩
 ·exact ⟨_,_,rfl⟩
 ·exact ⟨_,_,rfl⟩
theorem eC.mod {S:Nat→Prop} {H H':AH} {sz:Nat} {v:Value} {rows:List (List Value)} (h:eC H sz v rows) (M:Mod S H H') (hs:∀b,aN v b→¬ S b):eC H' sz v rows:=by
 refine ⟨?_,h.len⟩
 rcases h.is with⟨rfl,rfl⟩|⟨b,c,j,rfl,h0,hg,h1,h2⟩
 ·exact .inl ⟨rfl,rfl⟩
 ·exact .inr ⟨b,c,j,rfl,by rw [M.n0];exact h0,M.get (hs b ((aW _ _ _ _ _).2 rfl)) hg,h1,h2⟩
theorem eC.ext {H H':AH} {sz:Nat} {v:Value} {rows:List (List Value)} (h:eC H sz v rows) (X:Ext H H'):eC H' sz v rows:=h.mod (Mod.bE (S:=fun _=>False) X) (by simp)
theorem eC.rows {H:AH} {sz:Nat} {v:Value} {rows:List (List Value)} (h:eC H sz v rows):Rows H sz v rows:=by
 rcases h.is with⟨rfl,rfl⟩|⟨b,c,j,rfl,h0,hg,h1,h2⟩
 ·exact ⟨_,_,rfl,by simp⟩
 ·refine ⟨_,_,rfl,fun i r hi=>⟨b,0,rfl,?_⟩⟩
  obtain ⟨e1,e2⟩:=gu h.len hi
  rw [bk hg h0 (by simp only [alW];omega)]
  rw [Nat.zero_add,List.drop_append_of_le_length (by omega),List.take_append_of_le_length (by rw [List.length_drop];omega)]
  rw [e1]
theorem nT (a b c d:List Value) (h:b.length=c.length):aF (a++(b++d)) a.length c=a++(c++d):=by
 induction a with
 |nil=>
  have:aF (b++d) 0 c=c++(b++d).drop c.length:=by cases (b++d)<;>rfl
  rw [List.nil_append,List.length_nil,this,←h,List.drop_left];rfl
 |cons x a ih=>simp only [List.cons_append,List.length_cons,aF,ih]
theorem eC.push {H H1:AH} {sz bytes:Nat} {s:Value} {rows:List (List Value)} {r:List Value} (hw:H.n0≤H.nx) (hs:eC H sz s rows) (hz:0<sz) (hr:r.length=sz) (h1:H.alloc (.cells sz r)=H1) (hb:(rows.length+1)*bytes≤2^47) (qD:rows.length+1<2^62):
 ∃s' H',aX sz bytes H1 s (.slice (some ⟨H.nx,0,none⟩) 1 1)=some (s',H')∧eC H' sz s' (rows++[r])∧Mod (aN s) H H'∧(∀b,aN s' b→aN s b∨H.nx≤b)∧H'.n0=H.n0∧H.nx≤H'.nx∧H1.nx≤H'.nx:=by
 rcases hs.is with⟨rfl,rfl⟩|⟨b,c,junk,rfl,h0,hg,hlen,hc⟩
 ·obtain ⟨s',H',a,o,M,k,n0,nx,wf,q1,q2,q3⟩:=jd (bytes:=bytes) hw (c9.nil H sz) hr h1 hb qD
  exact ⟨s',H',a,o.Nl,M,fun b hb=>.inr (k b hb),n0,nx,q3⟩
 subst h1
 have X:=Ext.alloc H (.cells sz r)
 have hg1:=X.get hg
 have Dj:∀q∈rows++[r],q.length=sz:=by
  intro q hq
  rcases List.mem_append.1 hq with h|h
  ·exact hs.len q h
  ·simp at h;subst h;exact hr
 have j9:nD (H.alloc (.cells sz r)) sz (.slice (some ⟨H.nx,0,none⟩) 1 1)=some r:=by
  have:=pF hw sz r
  rw [hr]at this
  simp [nD,nb,this,hr]
 have vx:(H.alloc (.cells sz r)).jm b sz=true:=tM hg1 (alR _)
 have iN:=bT hs.len
 by_cases room:rows.length+1≤c
 ·have hj:sz≤junk.length:=by
   have:(rows.length+1)*sz≤c*sz:=Nat.mul_le_mul_right _ room
   rw [Nat.succ_mul]at this
   omega
  obtain ⟨H',st,M,nx,n0,g⟩:=bw hg1 (by exact h0) (k:=rows.length*sz) (vs:=r) (by simp only [alW];omega)
  refine ⟨.slice (some ⟨b,0,none⟩) (rows.length+1) c,H',?_,⟨.inr ⟨b,c,junk.drop sz,by simp,by rw [n0];exact h0,?_,?_,by simpa using room⟩,Dj⟩,(Mod.bE X).trans (M.mono fun x _ hx=>(aW _ _ _ _ _).2 hx),fun q hq=>.inl ?_,n0.trans X.n0,by rw [nx];exact X.nx,by rw [nx];exact alR _⟩
  ·simp [aX,lj,j9,hb,qD,room,vx,st]
  ·rw [g]
   have e:=nT rows.flatten (junk.take sz) r (junk.drop sz) (by rw [List.length_take,hr];omega)
   rw [List.take_append_drop,iN]at e
   rw [e];simp
  ·simp only [alW,List.length_drop,List.length_singleton,Nat.succ_mul];omega
  ·rw [aW]at hq⊢;exact hq
 ·have Py:c=rows.length:=by omega
  subst Py
  have hj:junk=[]:=List.eq_nil_of_length_eq_zero (by omega)
  subst hj
  rw [List.append_nil]at hg hg1
  have ow:c9 H sz (.slice (some ⟨b,0,none⟩) rows.length rows.length) rows:=⟨.inr ⟨b,rfl,h0,hg⟩,hs.len⟩
  obtain ⟨s',H',a,o,M,k,n0,nx,wf,q1,q2,q3⟩:=jd (bytes:=bytes) hw ow hr rfl hb qD
  exact ⟨s',H',a,o.Nl,M,fun b hb=>.inr (k b hb),n0,nx,q3⟩
theorem eC.last {H:AH} {sz:Nat} {v:Value} {rows:List (List Value)} {r:List Value} (h:eC H sz v (rows++[r])):∃b c,v= .slice (some ⟨b,0,none⟩) (rows.length+1) c∧rows.length+1≤c∧H.n0≤b∧b<H.nx∧H.jm b sz=true∧H.ldn ⟨b,rows.length*sz,none⟩ sz=some r∧
 (∀(j:Nat) (x:Value),j<sz→∃H',H.st ⟨b,rows.length*sz+j,none⟩ [x]=some H'∧eC H' sz v (rows++[r.set j x])∧Mod (fun q=>q=b) H H'∧H'.nx=H.nx∧H'.n0=H.n0)∧eC H sz (.slice (some ⟨b,0,none⟩) rows.length c) rows:=by
 rcases h.is with⟨_,e⟩|⟨b,c,junk,rfl,h0,hg,hlen,hc⟩
 ·simp at e
 have GJ:∀q∈rows,q.length=sz:=fun q hq=>h.len q (by simp [hq])
 have hr:=h.len r (by simp)
 have iN:=bT GJ
 simp only [alW,List.length_singleton]at hlen hc
 refine ⟨b,c,by simp,hc,h0,AH.aL hg,tM hg (alR _),?_,fun j x hj=>?_,⟨.inr ⟨b,c,r++junk,rfl,h0,by simpa using hg,by rw [Nat.succ_mul]at hlen;simp only [alW];omega,by omega⟩,GJ⟩⟩
 ·obtain ⟨b',o,c',e,hl⟩:=h.rows.at (i:=rows.length) (r:=r) (by simp)
  cases e
  simpa using hl
 ·obtain ⟨H',st,M,nx,n0,g⟩:=bw hg h0 (k:=rows.length*sz+j) (vs:=[x]) (by rw [alW,bT h.len];simp only [alW,List.length_singleton,Nat.succ_mul];omega)
  refine ⟨H',st,⟨.inr ⟨b,c,junk,by simp,by rw [n0];exact h0,?_,by simpa using hlen,by simpa using hc⟩,?_⟩,M,nx,n0⟩
  ·rw [g]
   have e:r=r.take j++([r[j]'(by omega)]++r.drop (j+1)):=by
    rw [←List.append_assoc];simp
   have e2:r.set j x=r.take j++([x]++r.drop (j+1)):=by rw [List.set_eq_take_append_cons_drop,if_pos (by omega)];rfl
   have:=nT (rows.flatten++r.take j) [r[j]'(by omega)] [x] (r.drop (j+1)++junk) rfl
   rw [alW,List.length_take,iN,Nat.min_eq_left (by omega)]at this
   have e3:(rows++[r]).flatten++junk=rows.flatten++r.take j++([r[j]'(by omega)]++(r.drop (j+1)++junk)):=by
    simp only [List.flatten_append,List.flatten_cons,List.flatten_nil,List.append_nil,List.append_assoc]
    congr 1
    conv=>lhs;rw [e]
    simp only [List.append_assoc]
   rw [e3,this]
   simp only [List.flatten_append,List.flatten_cons,List.flatten_nil,List.append_nil,List.append_assoc,e2]
  ·intro q hq
   rcases List.mem_append.1 hq with hq|hq
   ·exact GJ q hq
   ·simp at hq;subst hq;simpa using hr
theorem zz:∀(N:Nat) (s:bI) (c:List Value) (H:AH),SizeOf.sizeOf s<N→H.n0≤H.nx→lU H c s→a8 s<2^60→
 Ca E O 159 [.agg c.toArray] H (fun x H'=>x= .int .i64 (aZ s)∧Ext H H'):=by
 intro N
 induction N with
 |zero=>intro s c H h;omega
 |succ N ih=>
  intro s c H hN hw hs uD
  cases hs with| @mk op n va vt ve ra rt re args aB aC i1 i2 i3 i4 i5 h1 h2 h3 h4 h5 h6=>
  refine Ca.aR (F:=a159) rfl rfl rfl ?_
  rw [a8]at uD
  have na:=bu args
  have nt:=cA aB
  have ne:=cA aC
  obtain ⟨p1,q1,wV⟩:=h3.len
  rw [h4.length]at wV
  obtain ⟨p2,q2,vu⟩:=h5.len
  rw [h6.length]at vu
  have X1:=Ext.alloc H (.cells 5 [.int .i64 op,.int .i64 n,va,vt,ve])
  have d0:(H.alloc (.cells 5 [.int .i64 op,.int .i64 n,va,vt,ve])).ld ⟨H.nx,0,none⟩=some (.int .i64 op):=ai hw rfl
  have d1:(H.alloc (.cells 5 [.int .i64 op,.int .i64 n,va,vt,ve])).ld ⟨H.nx,1,none⟩=some (.int .i64 n):=ai hw rfl
  have d2:(H.alloc (.cells 5 [.int .i64 op,.int .i64 n,va,vt,ve])).ld ⟨H.nx,2,none⟩=some va:=ai hw rfl
  have d3:(H.alloc (.cells 5 [.int .i64 op,.int .i64 n,va,vt,ve])).ld ⟨H.nx,3,none⟩=some vt:=ai hw rfl
  have d4:(H.alloc (.cells 5 [.int .i64 op,.int .i64 n,va,vt,ve])).ld ⟨H.nx,4,none⟩=some ve:=ai hw rfl
  have d:(H.alloc (.cells 5 [.int .i64 op,.int .i64 n,va,vt,ve])).ldn ⟨H.nx,0,none⟩ 5=some [.int .i64 op,.int .i64 n,va,vt,ve]:=ba hw 5 rfl
  generalize cV:H.alloc (.cells 5 [.int .i64 op,.int .i64 n,va,vt,ve])=H1 at X1 d0 d1 d2 d3 d4 d
  have bc:=X1.wf hw
  have d3':=d3
  rw [wV]at d3'
  simp at hN
  simp (maxSteps:=4000000)-implicitDefEqProofs+contextual [-X.ev,a159,cV,d3']
  refine b9 (fun k fr H'=>Ext H1 H'∧∃i:Nat,i+k=aB.length∧fr.get 1= .pointer (some ⟨H.nx,0,none⟩)∧fr.get 9=vt∧fr.get 10= .int .i64 aB.length∧fr.get 11= .int .i64 i∧fr.get 3= .int .i64 (1+aw (aB.take i))) ?_ aB.length ⟨Ext.refl _,0,by simp,by simp,by simp [wV],by simp,by simp,by simp [aw]⟩
  rintro k fr H2 ⟨X2,i,hi,f1,f9,f10,f11,f3⟩
  have lq:=X2.wf bc
  have kg:=X1.trans X2
  have bt:=aV aB
  have be:=aV aC
  by_cases h:i<aB.length
  ·obtain ⟨y,hy⟩:∃y,aB[i]?=some y:=⟨_,alN h⟩
   have tF:=List.sizeOf_lt_of_mem (alS hy)
   have t1:=dX hy
   have t2:=bf aB (i+1)
   have t3:=bf aB i
   have u1:=iz hy
   have u2:=cF aB i
   have u3:=cF aB (i+1)
   obtain ⟨jP,yn,iA,mN,mO⟩:=y
   obtain ⟨b,o,c',mP,mQ,mR,Sb,Sc,Sd,dy,bN,_,_,_,_,_,j1,j2,j3,j4,j5,g1,g2,g3,g4,g5,g6⟩:=gU.row (h3.ext kg) (gU.ext kg h4) hy
   have Ch:lU H2 [.int .i64 jP,.int .i64 yn,mP,mQ,mR] (.mk jP yn iA mN mO):=.mk j1 j2 j3 j4 j5 g1 g2 g3 g4 g5 g6
   have f9':=f9
   rw [dy]at f9'
   obtain ⟨H3,Ce,X3,DM,DN,q,jX⟩:=dJ (H:=H2) lq (z:=5) (c:=[.int .i64 0,.int .i64 0,.slice none 0 0,.slice none 0 0,.slice none 0 0]) (vs:=[.int .i64 jP,.int .i64 yn,mP,mQ,mR]) rfl
   have q0:H3.ld ⟨H2.nx,0,none⟩=some (.int .i64 jP):=jX 0 _ rfl
   have q1:H3.ld ⟨H2.nx,1,none⟩=some (.int .i64 yn):=jX 1 _ rfl
   have q2:H3.ld ⟨H2.nx,2,none⟩=some mP:=jX 2 _ rfl
   have q3:H3.ld ⟨H2.nx,3,none⟩=some mQ:=jX 3 _ rfl
   have q4:H3.ld ⟨H2.nx,4,none⟩=some mR:=jX 4 _ rfl
   clear jX
   replace q:H3.ldn ⟨H2.nx,0,none⟩ 5=some [.int .i64 jP,.int .i64 yn,mP,mQ,mR]:=q
   have vq:=X3.wf lq
   have w1:IntKind.i64.wrap (1+aw (aB.take i)+aZ (.mk jP yn iA mN mO))=1+aw (aB.take (i+1)):=by rw [aj ⟨by omega,by omega⟩];omega
   simp (maxSteps:=4000000)-implicitDefEqProofs+contextual [-X.ev,f9',f3,f10,f11,h,bN,Ce,q]
   apply ah
   ·(simp-implicitDefEqProofs [-X.ev];rfl)
   refine (ih _ _ H3 (by omega) vq (lU.ext X3 Ch) (by omega)).mono ?_
   rintro x H4 ⟨rfl,X4⟩
   simp (maxSteps:=4000000)-implicitDefEqProofs+contextual [-X.ev,f9',f3,f10,f11,w1]
   rw [aj (n:=(i:Int)+1) ⟨by omega,by omega⟩]
   exact ⟨k- 1,by omega,(X2.trans X3).trans X4,i+1,by omega,f1,dy.symm,by simp,rfl⟩
  rw [alU (by omega)]at f3
  have e4:=X2.ld d4
  rw [vu]at e4
  rw [wV]at f9
  simp (maxSteps:=4000000)-implicitDefEqProofs+contextual [-X.ev,f1,f9,f3,f10,f11,h,e4]
  refine b9 (fun k fr H'=>Ext H2 H'∧∃j:Nat,j+k=aC.length∧fr.get 21=ve∧fr.get 22= .int .i64 aC.length∧fr.get 23= .int .i64 j∧fr.get 3= .int .i64 (1+aw aB+aw (aC.take j))) ?_ aC.length ⟨Ext.refl _,0,by simp,by simp [vu],by simp,by simp,by simp [aw,f3]⟩
  clear f1 f9 f10 f11 f3 fr
  rintro k fr H3 ⟨X3,j,hj,f21,f22,f23,f3⟩
  have nz:=X3.wf lq
  have kU:=kg.trans X3
  by_cases h':j<aC.length
  ·obtain ⟨y,hy⟩:∃y,aC[j]?=some y:=⟨_,alN h'⟩
   have tF:=List.sizeOf_lt_of_mem (alS hy)
   have t1:=dX hy
   have t2:=bf aC (j+1)
   have t3:=bf aC j
   have u1:=iz hy
   have u2:=cF aC j
   have u3:=cF aC (j+1)
   obtain ⟨jP,yn,iA,mN,mO⟩:=y
   obtain ⟨b,o,c',mP,mQ,mR,Sb,Sc,Sd,dy,bN,_,_,_,_,_,j1,j2,j3,j4,j5,g1,g2,g3,g4,g5,g6⟩:=gU.row (h5.ext kU) (gU.ext kU h6) hy
   have Ch:lU H3 [.int .i64 jP,.int .i64 yn,mP,mQ,mR] (.mk jP yn iA mN mO):=.mk j1 j2 j3 j4 j5 g1 g2 g3 g4 g5 g6
   have Nn:=f21
   rw [dy]at Nn
   obtain ⟨H4,sH4,X4,aaB,aaC,q,D6⟩:=dJ (H:=H3) nz (z:=5) (c:=[.int .i64 0,.int .i64 0,.slice none 0 0,.slice none 0 0,.slice none 0 0]) (vs:=[.int .i64 jP,.int .i64 yn,mP,mQ,mR]) rfl
   have q0:H4.ld ⟨H3.nx,0,none⟩=some (.int .i64 jP):=D6 0 _ rfl
   have q1:H4.ld ⟨H3.nx,1,none⟩=some (.int .i64 yn):=D6 1 _ rfl
   have q2:H4.ld ⟨H3.nx,2,none⟩=some mP:=D6 2 _ rfl
   have q3:H4.ld ⟨H3.nx,3,none⟩=some mQ:=D6 3 _ rfl
   have q4:H4.ld ⟨H3.nx,4,none⟩=some mR:=D6 4 _ rfl
   clear D6
   replace q:H4.ldn ⟨H3.nx,0,none⟩ 5=some [.int .i64 jP,.int .i64 yn,mP,mQ,mR]:=q
   have RT:=X4.wf nz
   have w1:IntKind.i64.wrap (1+aw aB+aw (aC.take j)+aZ (.mk jP yn iA mN mO))=1+aw aB+aw (aC.take (j+1)):=by rw [aj ⟨by omega,by omega⟩];omega
   simp (maxSteps:=4000000)-implicitDefEqProofs+contextual [-X.ev,Nn,f3,f22,f23,h',bN,sH4,q]
   apply ah
   ·(simp-implicitDefEqProofs [-X.ev];rfl)
   refine (ih _ _ H4 (by omega) RT (lU.ext X4 Ch) (by omega)).mono ?_
   rintro x H5 ⟨rfl,X5⟩
   simp (maxSteps:=4000000)-implicitDefEqProofs+contextual [-X.ev,Nn,f3,f22,f23,w1]
   rw [aj (n:=(j:Int)+1) ⟨by omega,by omega⟩]
   exact ⟨k- 1,by omega,(X3.trans X4).trans X5,j+1,by omega,dy.symm,by simp,rfl⟩
  rw [alU (by omega)]at f3
  rw [vu]at f21
  simp (maxSteps:=4000000)-implicitDefEqProofs+contextual [-X.ev,f21,f3,f22,f23,h',aZ]
  exact kU
open Go
theorem Br {l:List bI} {vl:Value} {rows:List (List Value)} {H:AH} (hw:H.n0≤H.nx) (hr:Rows H 5 vl rows) (hl:gU H rows l) (hlen:l.length<2^40) (uD:av l<2^60):
 Ca E O 146 [vl] H (fun x H'=>x= .int .i64 (aw l)∧Ext H H'):=by
 refine Ca.aR (F:=a146) rfl rfl rfl ?_
 obtain ⟨p0,c0,lW⟩:=hr.len
 rw [hl.length]at lW
 simp (maxSteps:=4000000)-implicitDefEqProofs+contextual [-X.ev,a146,lW]
 refine b9 (fun k fr H'=>Ext H H'∧∃i:Nat,i+k=l.length∧fr.get 6=vl∧fr.get 7= .int .i64 l.length∧fr.get 8= .int .i64 i∧fr.get 3= .int .i64 (aw (l.take i))) ?_ l.length ⟨Ext.refl _,0,by simp,by simp [lW],by simp,by simp,by simp [aw]⟩
 rintro k fr H2 ⟨X2,i,hi,f6,f7,f8,f3⟩
 have lq:=X2.wf hw
 have bt:=aV l
 by_cases h:i<l.length
 ·obtain ⟨y,hy⟩:∃y,l[i]?=some y:=⟨_,alN h⟩
  have t1:=dX hy
  have t2:=bf l (i+1)
  have t3:=bf l i
  have u1:=iz hy
  have u2:=cF l i
  have u3:=cF l (i+1)
  obtain ⟨jP,yn,iA,mN,mO⟩:=y
  obtain ⟨b,o,c',mP,mQ,mR,Sb,Sc,Sd,dy,bN,_,_,_,_,_,j1,j2,j3,j4,j5,g1,g2,g3,g4,g5,g6⟩:=gU.row (hr.ext X2) (gU.ext X2 hl) hy
  have Ch:lU H2 [.int .i64 jP,.int .i64 yn,mP,mQ,mR] (.mk jP yn iA mN mO):=.mk j1 j2 j3 j4 j5 g1 g2 g3 g4 g5 g6
  have Ng:=f6
  rw [dy]at Ng
  obtain ⟨H3,Ce,X3,DM,DN,q,jX⟩:=dJ (H:=H2) lq (z:=5) (c:=[.int .i64 0,.int .i64 0,.slice none 0 0,.slice none 0 0,.slice none 0 0]) (vs:=[.int .i64 jP,.int .i64 yn,mP,mQ,mR]) rfl
  have q0:H3.ld ⟨H2.nx,0,none⟩=some (.int .i64 jP):=jX 0 _ rfl
  have q1:H3.ld ⟨H2.nx,1,none⟩=some (.int .i64 yn):=jX 1 _ rfl
  have q2:H3.ld ⟨H2.nx,2,none⟩=some mP:=jX 2 _ rfl
  have q3:H3.ld ⟨H2.nx,3,none⟩=some mQ:=jX 3 _ rfl
  have q4:H3.ld ⟨H2.nx,4,none⟩=some mR:=jX 4 _ rfl
  clear jX
  replace q:H3.ldn ⟨H2.nx,0,none⟩ 5=some [.int .i64 jP,.int .i64 yn,mP,mQ,mR]:=q
  have vq:=X3.wf lq
  have w1:IntKind.i64.wrap (aw (l.take i)+aZ (.mk jP yn iA mN mO))=aw (l.take (i+1)):=by rw [aj ⟨by omega,by omega⟩];omega
  simp (maxSteps:=4000000)-implicitDefEqProofs+contextual [-X.ev,Ng,f3,f7,f8,h,bN,Ce,q]
  apply ah
  ·(simp-implicitDefEqProofs [-X.ev];rfl)
  refine (zz _ _ _ H3 (al2 _) vq (lU.ext X3 Ch) (by omega)).mono ?_
  rintro x H4 ⟨rfl,X4⟩
  simp (maxSteps:=4000000)-implicitDefEqProofs+contextual [-X.ev,Ng,f3,f7,f8,w1]
  rw [aj (n:=(i:Int)+1) ⟨by omega,by omega⟩]
  exact ⟨k- 1,by omega,(X2.trans X3).trans X4,i+1,by omega,dy.symm,by simp,rfl⟩
 rw [alU (by omega)]at f3
 rw [lW]at f6
 simp (maxSteps:=4000000)-implicitDefEqProofs+contextual [-X.ev,f6,f3,f7,f8,h]
 exact X2
theorem IN {H:AH} {m:Nat} {vf:Value} {rest:List Value} {rows:List (List Value)} {a:Option Addr} {n c:Nat} {k:Int} (hw:H.n0≤H.nx) (gm:H.get m=some (.cells 14 (vf::rest))) (h0:H.n0≤m) (ow:eC H 2 vf rows) (VZ:¬ aN vf m) (hb:rows.length≤2^40):
 Ca E O 105 [.pointer (some ⟨m,0,none⟩),.slice a n c,.int .i64 k] H (fun x H'=>∃lJ,H'.get m=some (.cells 14 (lJ::rest))∧eC H' 2 lJ (if n=0 then rows else rows++[[.slice a n c,.int .i64 k]])∧Mod (fun b=>b=m∨aN vf b) H H'∧∀b,aN lJ b→aN vf b∨H.nx≤b):=by
 refine Ca.aR (F:=a105) rfl rfl rfl ?_
 by_cases hn:n=0
 ·subst hn
  simp (maxSteps:=4000000)-implicitDefEqProofs+contextual [-X.ev,a105]
  exact ⟨vf,gm,ow,Mod.refl _ _,fun b hb=>.inl hb⟩
 ·have hp:0<n:=by omega
  have l0:=aE gm h0 (k:=0) (v:=vf) rfl
  have kT:=vz (sz:=2) (z:=[.slice none 0 0,.int .i64 0]) (H:=H) (v:=.agg #[.slice a n c,.int .i64 k]) rfl rfl rfl
  simp only [fh]at kT
  have X:=Ext.alloc H (.cells 2 [.slice a n c,.int .i64 k])
  obtain ⟨H2,ju⟩:∃H2,H.alloc (.cells 2 [.slice a n c,.int .i64 k])=H2:=⟨_,rfl⟩
  obtain ⟨lJ,H3,ha3,o3,M3,k3,kS,pI,aij⟩:=ow.push (bytes:=32) hw (by omega) (r:=[.slice a n c,.int .i64 k]) rfl ju (by omega) (by omega)
  rw [ju]at kT X
  have Sh:=M3.get VZ gm
  obtain ⟨H4,s4,M4,wU,lV,g4⟩:=bw Sh (by rw [kS];exact h0) (k:=0) (vs:=[lJ]) (by simp)
  have fM:aF (vf::rest) 0 [lJ]=lJ::rest:=by simp [aF]
  rw [fM]at g4
  obtain ⟨fa,fc,xS⟩:=o3.shape
  rw [alW,List.length_singleton]at xS
  subst xS
  have l02:=X.ld l0
  have rO:dW [.slice none 0 0,.int .i64 0] [(0,1,.slice a n c),(1,1,.int .i64 k)]=some (.agg #[.slice a n c,.int .i64 k]):=rfl
  simp (maxSteps:=4000000)-implicitDefEqProofs+contextual [-X.ev,a105,hp,l0,rO,kT,ha3,s4]
  have PJ:∀b,aN (.slice fa (rows.length+1) fc) b→¬ b=m:=by
   intro b hb q
   subst q
   rcases k3 b hb with h|h
   ·exact VZ h
   ·have:=AH.aL gm;omega
  refine ⟨_,g4,by rw [if_neg hn];exact o3.mod M4 PJ,(M3.mono fun x _ hx=>.inr hx).trans (M4.mono fun x _ hx=>.inl hx),k3⟩
theorem IP {G H:AH} {m:Nat} {vf vl:Value} {rest:List Value} {rows rs:List (List Value)} {cs:List Value} {k:Int} (hw:H.n0≤H.nx) (gm:H.get m=some (.cells 14 (vf::rest))) (h0:H.n0≤m) (ow:eC H 2 vf (rows++[[vl,.int .i64 k]])) (hb:rows.length≤2^40) (X:Sub G H) (hr:Rows G 5 vl (cs::rs)):
 Ca E O 106 [.pointer (some ⟨m,0,none⟩)] H (fun x H'=>x= .tuple #[.agg cs.toArray,.int .i64 k,.bool true]∧Ext H H'):=by
 refine Ca.aR (F:=AZ) rfl rfl rfl ?_
 obtain ⟨b,c,rfl,hc,tC,mL,hz,hl,_,_⟩:=ow.last
 have l0:=aE gm h0 (k:=0) (v:=.slice (some ⟨b,0,none⟩) (rows.length+1) c) rfl
 have X1:=Ext.alloc H (.cells 5 zS)
 have gR:=bZ H (.cells 5 zS)
 obtain ⟨H1,cV⟩:∃H1,H.alloc (.cells 5 zS)=H1:=⟨_,rfl⟩
 rw [cV]at X1 gR
 have pk:=X1.wf hw
 have l01:=X1.ld l0
 have GJ:=X1.ldn hl
 obtain ⟨H2,s2,X2,vF,nQ,g2⟩:=gq pk (z:=2) (c:=[.slice none 0 0,.int .i64 0]) (vs:=[vl,.int .i64 k]) rfl
 have lq:=X2.wf pk
 have q0:=aE g2 (by rw [nQ];exact pk) (k:=0) (v:=vl) rfl
 have q1:=aE g2 (by rw [nQ];exact pk) (k:=1) (v:=.int .i64 k) rfl
 obtain ⟨b5,o5,c5,lW,Pt⟩:=((hr.sub X).ext (X1.trans X2)).at (i:=0) (r:=cs) rfl
 rw [List.length_cons]at lW
 have gR2:=X2.get gR
 have nv:cs.length=5:=(cB Pt).2
 obtain ⟨H3,s3,M3,pI,kS,g3⟩:=bw gR2 (by rw [nQ,X1.n0];exact hw) (k:=0) (vs:=cs) (by simp [nv])
 have fM:aF zS 0 cs=cs:=fk _ _ (by rw [nv];rfl)
 rw [fM]at g3
 have l3:H3.ldn ⟨H.nx,0,none⟩ 5=some cs:=by rw [bk g3 (by rw [kS,nQ,X1.n0];exact hw) (by omega)];simp [alU (Nat.le_of_eq nv)]
 rw [lW]at q0
 rw [lW]at s2
 have w1:IntKind.i64.wrap (rows.length:Int)=(rows.length:Int):=aj ⟨by omega,by omega⟩
 have n1:=X1.nx
 have n2:=X2.nx
 have No:H2.ldn ⟨b5,o5,none⟩ 5=some cs:=by simpa using Pt
 have fw:¬ ((rows.length:Int)+1=0):=by omega
 have e1:H1.nx=H.nx+1:=by rw [←cV];rfl
 have PL:Nat.beq H1.nx H.nx=false:=Bool.eq_false_iff.2 fun h=>by have:=Nat.eq_of_beq_eq_true h;omega
 have dm:(rows.length:Int)<(rows.length:Int)+1:=by omega
 simp only [lW]at GJ
 simp (maxSteps:=4000000)-implicitDefEqProofs+contextual [-X.ev,AZ,cV,l01,fw,dm,w1,GJ,s2,q0,q1,No,s3,l3,aY,aH,aI,X1.n0,nQ,kS,vF,pI,nv,AH.mz,AH.dj,zi,cw,PL]
 exact (X1.trans X2).mod M3 (fun b hb=>by omega)
theorem Ei {H:AH} {m:Nat} {vf:Value} {rest:List Value} (hw:H.n0≤H.nx) (gm:H.get m=some (.cells 14 (vf::rest))) (h0:H.n0≤m) (ow:eC H 2 vf []):
 Ca E O 106 [.pointer (some ⟨m,0,none⟩)] H (fun x H'=>x= .tuple #[.agg zS.toArray,.int .i64 0,.bool false]∧Ext H H'):=by
 refine Ca.aR (F:=AZ) rfl rfl rfl ?_
 obtain ⟨fa,fc,rfl⟩:=ow.shape
 have l0:=aE gm h0 (k:=0) (v:=.slice fa 0 fc) rfl
 obtain ⟨H2,s2,X2,vF,nQ,g2⟩:=gq hw (z:=5) (c:=zS) (vs:=zS) rfl
 have X1:=Ext.alloc H (.cells 5 zS)
 obtain ⟨H1,cV⟩:∃H1,H.alloc (.cells 5 zS)=H1:=⟨_,rfl⟩
 rw [cV]at X1 s2
 have l01:=X1.ld l0
 have l3:H2.ldn ⟨H.nx,0,none⟩ 5=some zS:=by rw [bk g2 (by rw [nQ];exact hw) (by simp)];rfl
 have rO:dW zS []=some (.agg zS.toArray):=rfl
 simp (maxSteps:=4000000)-implicitDefEqProofs+contextual [-X.ev,AZ,cV,l01,rO,s2,l3,X2]
theorem aaU {G H:AH} (X:Sub G H) {vl:Value} {cs:List Value} {rs:List (List Value)} (hr:Rows G 5 vl (cs::rs)) (hf:Fit G vl):∃a c,bC 5 H vl (some (.int .i64 1)) none none=some (.slice a rs.length c)∧Rows G 5 (.slice a rs.length c) rs∧Fit G (.slice a rs.length c):=by
 obtain ⟨a,n,c,rfl,hc,hz⟩:=hf
 obtain ⟨a',c',e,k⟩:=hr.is
 cases e
 obtain ⟨b,o,ha,ux⟩:=hz (by simp)
 subst ha
 have aaV:H.jm b 5=true:=by
  unfold AH.jm at ux⊢
  split at ux
  ·rename_i hg;rw [X.get _ _ hg];exact ux
  ·cases ux
 simp only [List.length_cons]at hc
 by_cases Gx:c=1
 ·subst Gx
  have IQ:rs=[]:=List.eq_nil_of_length_eq_zero (by omega)
  subst IQ
  exact ⟨some ⟨b,o,some 1⟩,0,rfl,⟨_,_,rfl,by simp⟩,⟨_,_,_,rfl,alR _,fun h=>absurd h (by simp)⟩⟩
 ·refine ⟨some ⟨b,o+5,none⟩,c- 1,?_,⟨_,_,rfl,fun i r hi=>?_⟩,⟨_,_,_,rfl,by omega,fun _=>⟨b,o+5,rfl,ux⟩⟩⟩
  ·have h1:¬ c=1:=Gx
   have h3:(1:Int)≤(rs.length:Int)+1:=by omega
   have h2:1≤c:=by omega
   simp [bC,a7,fP,h1,h3,hc,aaV]
   rfl
  ·obtain ⟨b',o',e,hl⟩:=k (i+1) r (by simpa using hi)
   cases e
   refine ⟨b,o+5,rfl,?_⟩
   rw [show o+5+i*5=o+(i+1)*5 by omega]
   exact hl
theorem ko:∀s:bI,1≤aZ s
 | .mk op n args aB aC=>by have:=aV aB;have:=aV aC;rw [aZ];omega
def vJ (rows rs:List (List Value)) (r:List Value):List (List Value):=if rs.length=0 then rows else rows++[r]
theorem IS {G H:AH} {m:Nat} {vf vl:Value} {rest:List Value} {rows rs:List (List Value)} {cs:List Value} {s:bI} {k:Int} (hw:H.n0≤H.nx) (gm:H.get m=some (.cells 14 (vf::rest))) (h0:H.n0≤m) (ow:eC H 2 vf (rows++[[vl,.int .i64 k]])) (VZ:¬ aN vf m) (hb:rows.length≤2^40) (X:Sub G H) (hS:∀b,(b=m∨aN vf b)→G.get b=none) (hr:Rows G 5 vl (cs::rs)) (hf:Fit G vl) (hs:lU G cs s) (uD:a8 s<2^60) (xC:rs.length<2^60)
 (hk:0≤k∧k≤2^40) (Si:aZ s≤2^40):
 Ca E O 143 [.pointer (some ⟨m,0,none⟩)] H (fun x H'=>∃lJ,H'.get m=some (.cells 14 (lJ::rest))∧(∃Sj,Rows G 5 Sj rs∧Fit G Sj∧eC H' 2 lJ (vJ rows rs [Sj,.int .i64 (k+aZ s)]))∧Mod (fun b=>b=m∨aN vf b) H H'∧∀b,aN lJ b→aN vf b):=by
 refine Ca.aR (F:=a143) rfl rfl rfl ?_
 obtain ⟨b,c,rfl,hc,tC,mL,hz,hl,gE,_⟩:=ow.last
 have hbm:b≠m:=fun q=>VZ ((aW _ _ _ _ _).2 q.symm)
 have l0:=aE gm h0 (k:=0) (v:=.slice (some ⟨b,0,none⟩) (rows.length+1) c) rfl
 obtain ⟨b5,o5,c5,lW,Pt⟩:=(hr.sub X).at (i:=0) (r:=cs) rfl
 rw [List.length_cons]at lW
 have No:H.ldn ⟨b5,o5,none⟩ 5=some cs:=by simpa using Pt
 have w1:IntKind.i64.wrap (rows.length:Int)=(rows.length:Int):=aj ⟨by omega,by omega⟩
 have dm:(rows.length:Int)<(rows.length:Int)+1:=by omega
 have q0:H.ld ⟨b,rows.length*2,none⟩=some vl:=by simpa using aG hl (j:=0) rfl
 have q1:H.ld ⟨b,rows.length*2+1,none⟩=some (.int .i64 k):=aG hl (j:=1) rfl
 rw [lW]at q0
 have hs0:lU H cs s:=lU.sub X hs
 have Np:G.get m=none:=hS m (.inl rfl)
 simp (maxSteps:=4000000)-implicitDefEqProofs+contextual [-X.ev,a143,l0,w1,dm,q0,q1,No,aY,aH,aI]
 apply ah
 ·(simp-implicitDefEqProofs [-X.ev];rfl)
 refine (zz _ s cs H (al2 _) hw hs0 uD).mono ?_
 rintro x H1 ⟨rfl,X1⟩
 have pk:=X1.wf hw
 have ct:=ko s
 have gm1:=X1.get gm
 have w2:IntKind.i64.wrap (k+aZ s)=k+aZ s:=aj ⟨by omega,by omega⟩
 obtain ⟨b',c',e,_,j6,ain,hz1,GJ,aaX,_⟩:=(ow.ext X1).last
 cases e
 obtain ⟨H2,s2,o2,M2,vF,nQ⟩:=aaX 1 (.int .i64 (k+aZ s)) (by omega)
 replace o2:eC H2 2 (.slice (some ⟨b,0,none⟩) (rows.length+1) c) (rows++[[vl,.int .i64 (k+aZ s)]]):=o2
 have RE:=M2.get (fun q=>hbm q.symm) gm1
 have kg:Sub G H2:=(X.M0 X1).mod M2 (fun q hq=>hS q (.inr ((aW _ _ _ _ _).2 hq)))
 obtain ⟨a',Gw,vK,Cb,V0⟩:=aaU kg hr hf
 obtain ⟨b',c',e,_,gC,aio,hz2,Dj,aaY,_⟩:=o2.last
 cases e
 have p0:H2.ld ⟨b,rows.length*2,none⟩=some vl:=by simpa using aG Dj (j:=0) rfl
 obtain ⟨H3,s3,o3,M3,pI,kS⟩:=aaY 0 (.slice a' rs.length Gw) (by omega)
 replace o3:eC H3 2 (.slice (some ⟨b,0,none⟩) (rows.length+1) c) (rows++[[.slice a' rs.length Gw,.int .i64 (k+aZ s)]]):=o3
 have Sh:=M3.get (fun q=>hbm q.symm) RE
 obtain ⟨b',c',e,hc3,rD,aip,hz3,hl3,air,o3'⟩:=o3.last
 cases e
 have p3:H3.ld ⟨b,rows.length*2,none⟩=some (.slice a' rs.length Gw):=by simpa using aG hl3 (j:=0) rfl
 have s3':H2.st ⟨b,rows.length*2,none⟩ [.slice a' rs.length Gw]=some H3:=s3
 rw [lW]at p0 vK
 have q01:=X1.ld q0
 have e03:H3.n0=H.n0:=kS.trans (nQ.trans X1.n0)
 have M13:Mod (fun b'=>b'=m∨aN (.slice (some ⟨b,0,none⟩) (rows.length+1) c) b') H H3:=(Mod.bE X1).trans ((M2.mono fun x _ hx=>.inr ((aW _ _ _ _ _).2 hx)).trans (M3.mono fun x _ hx=>.inr ((aW _ _ _ _ _).2 hx)))
 have q1n:=bm.1 q1
 have Sk:=X1.ldn q1n
 have x1x:=X1.nx
 have x1n:=X1.n0
 by_cases IQ:(rs.length:Int)=0
 ·obtain ⟨H4,s4,M4,wU,lV,g4⟩:=bw Sh (by rw [e03];exact h0) (k:=0) (vs:=[.slice (some ⟨b,0,none⟩) rows.length c]) (by simp)
  have fM:aF (.slice (some ⟨b,0,none⟩) (rows.length+1) c::rest) 0 [.slice (some ⟨b,0,none⟩) rows.length c]= .slice (some ⟨b,0,none⟩) rows.length c::rest:=by simp [aF]
  rw [fM]at g4
  have l3:=aE Sh (by rw [e03];exact h0) (k:=0) (v:=.slice (some ⟨b,0,none⟩) (rows.length+1) c) rfl
  have vL:bC 2 H3 (.slice (some ⟨b,0,none⟩) (rows.length+1) c) none (some (.int .i64 rows.length)) none=some (.slice (some ⟨b,0,none⟩) rows.length c):=by
   have h1:¬ c=0:=by omega
   have h2:rows.length≤c:=by omega
   have h3:(rows.length:Int)≤(c:Int):=by omega
   simp [bC,a7,fP,h1,h2,h3]
   rfl
  simp (maxSteps:=4000000)-implicitDefEqProofs+contextual [-X.ev,q01,w2,s2,p0,vK,s3',p3,l3,w1,vL,s4,IQ,q1n,Sk,x1x,x1n,nQ,vF,aY,aH,aI]
  refine ⟨⟨lV.symm,by omega⟩,_,g4,⟨_,Cb,V0,?_⟩,M13.trans (M4.mono fun x _ hx=>.inl hx),fun q hq=>?_⟩
  ·rw [vJ,if_pos (by omega)]
   exact o3'.mod M4 (fun q hq e=>hbm (by rw [aW]at hq;omega))
  ·rw [aW]at hq⊢;exact hq
 ·have hr2:¬ rs=[]:=fun q=>IQ (by rw [q];rfl)
  simp (maxSteps:=4000000)-implicitDefEqProofs+contextual [-X.ev,q01,w2,s2,p0,vK,s3',p3,hr2,q1n,Sk,x1x,x1n,nQ,vF,aY,aH,aI]
  refine ⟨_,Sh,⟨_,Cb,V0,?_⟩,M13,fun q hq=>hq⟩
  rw [vJ,if_neg (by omega)]
  exact o3
end Go.Proofs.YtppcmpmnglaleaaGreatDoor.A
namespace Go.Proofs.YtppcmpmnglaleaaGreatDoor.A
open Go
def Ej (v:Value):Prop:=∃a n c,v= .slice a n c∧n≤c
theorem c9.cap {H:AH} {sz:Nat} {v:Value} {rows:List (List Value)} (h:c9 H sz v rows):Ej v:=by
 rcases h.is with⟨rfl,_⟩|⟨b,rfl,_⟩
 ·exact ⟨_,_,_,rfl,alR _⟩
 ·exact ⟨_,_,_,rfl,alR _⟩
theorem Mod.then {R R':Nat→Prop} {H H1 H2:AH} (h:Mod R H H1) (k:Mod R' H1 H2) (hs:∀b,b<H.nx→R' b→R b):Mod R H H2:=
 ⟨k.n0.trans h.n0,Nat.le_trans h.nx k.nx,fun b hb hr=>(k.old b (Nat.lt_of_lt_of_le hb h.nx) fun q=>hr (hs b hb q)).trans (h.old b hb hr)⟩
theorem dA.sub {G H:AH} (X:Sub G H) {v:Value} {l:List Vr} (h:dA G v l):dA H v l:=Rows.sub X h
theorem qK {V:List Vr} {i:Nat} {y:Vr} (hy:V[i]?=some y):bL V ((i+1:Nat):Int)=IntKind.i64.wrap (bL V (i:Int)+y.cells):=by
 simp only [bL,Int.toNat_natCast]
 rw [List.take_add_one]
 simp [cS,hy,List.foldl_append]
theorem Nq {H:AH} {vv:Value} {V:List Vr} {n:Int} (hv:dA H vv V) (fD:Ej vv) (hn:0≤n∧n<V.length):∃a c c',vv= .slice a V.length c∧bC 3 H vv none (some (.int .i64 n)) none=some (.slice a n.toNat c'):=by
 obtain ⟨a,m,c,rfl,hc⟩:=fD
 obtain ⟨a',c',e⟩:=hv.len
 cases e
 refine ⟨a,c,c,rfl,?_⟩
 have h1:¬ c=0:=by omega
 have h2:n≤(c:Int):=by omega
 have h3:n.toNat≤c:=by omega
 obtain ⟨y,hy⟩:∃y,V[0]?=some y:=⟨_,alN (by omega)⟩
 obtain ⟨b,o,c',e,_⟩:=hv.at hy
 cases e
 simp [bC,a7,fP,h1,h2,h3,hn.1]
 rfl
theorem sj {w k n:Int} {vv:Value} {V:List Vr} {H:AH} (hw:H.n0≤H.nx) (hv:dA H vv V) (fD:Ej vv) (hl:V.length≤2^40) (hn:0≤n∧n<V.length):
 Ca E O 176 [.agg #[.int .i64 w,vv,.int .i64 k],.int .i64 n] H (fun x H'=>x= .int .i64 (bL V n)∧Ext H H'):=by
 obtain ⟨nn,rfl⟩:∃m:Nat,n=m:=⟨n.toNat,by omega⟩
 refine Ca.aR (F:=HP) rfl rfl rfl ?_
 obtain ⟨a,c,c',nw,vK⟩:=Nq hv fD hn
 have X1:=Ext.alloc H (.cells 3 [.int .i64 w,vv,.int .i64 k])
 have d0:(H.alloc (.cells 3 [.int .i64 w,vv,.int .i64 k])).ld ⟨H.nx,0,none⟩=some (.int .i64 w):=ai hw rfl
 have d1:(H.alloc (.cells 3 [.int .i64 w,vv,.int .i64 k])).ld ⟨H.nx,1,none⟩=some vv:=ai hw rfl
 have d2:(H.alloc (.cells 3 [.int .i64 w,vv,.int .i64 k])).ld ⟨H.nx,2,none⟩=some (.int .i64 k):=ai hw rfl
 have d:(H.alloc (.cells 3 [.int .i64 w,vv,.int .i64 k])).ldn ⟨H.nx,0,none⟩ 3=some [.int .i64 w,vv,.int .i64 k]:=ba hw 3 rfl
 generalize cV:H.alloc (.cells 3 [.int .i64 w,vv,.int .i64 k])=H1 at X1 d0 d1 d2 d
 have bc:=X1.wf hw
 obtain ⟨a1,c1,c1',Sl,Ek⟩:=Nq (hv.ext X1) fD hn
 rw [nw]at Sl
 cases Sl
 rw [nw]at d1 Ek
 rw [Int.toNat_natCast]at Ek
 simp (maxSteps:=4000000)-implicitDefEqProofs+contextual [-X.ev,HP,cV,d1,Ek]
 refine b9 (fun k fr H'=>Ext H1 H'∧∃i:Nat,i+k=nn∧fr.get 11= .slice a nn c1'∧fr.get 12= .int .i64 nn∧fr.get 13= .int .i64 i∧fr.get 5= .int .i64 (bL V (i:Int))) ?_ nn ⟨Ext.refl _,0,by simp,by simp,by simp,by simp,by simp [bL,cS]⟩
 rintro k fr H2 ⟨X2,i,hi,f11,f12,f13,f5⟩
 have lq:=X2.wf bc
 have kg:=X1.trans X2
 by_cases h:i<nn
 ·obtain ⟨y,hy⟩:∃y,V[i]?=some y:=⟨_,alN (by omega)⟩
  obtain ⟨b,o,c',dy,bN,_,_,_⟩:=(hv.ext kg).at hy
  rw [nw]at dy
  cases dy
  simp only [Vr.row]at bN
  obtain ⟨H3,Ce,X3,DM,DN,q,jX⟩:=dJ (H:=H2) lq (z:=3) (c:=[.string ⟨#[]⟩,.int .i64 0,.int .i64 0]) (vs:=[.string y.name,.int .i64 y.level,.int .i64 y.cells]) rfl
  have q0:H3.ld ⟨H2.nx,0,none⟩=some (.string y.name):=jX 0 _ rfl
  have q1:H3.ld ⟨H2.nx,1,none⟩=some (.int .i64 y.level):=jX 1 _ rfl
  have q2:H3.ld ⟨H2.nx,2,none⟩=some (.int .i64 y.cells):=jX 2 _ rfl
  clear jX
  replace q:H3.ldn ⟨H2.nx,0,none⟩ 3=some [.string y.name,.int .i64 y.level,.int .i64 y.cells]:=q
  have vq:=X3.wf lq
  have hii:(i:Int)<(nn:Int):=by omega
  have hk:k- 1<k:=by omega
  simp (maxSteps:=4000000)-implicitDefEqProofs+contextual [-X.ev,f11,f12,f13,f5,h,bN,Ce,q2]
  rw [aj (n:=(i:Int)+1) ⟨by omega,by omega⟩]
  exact ⟨k- 1,by omega,X2.trans X3,i+1,by omega,by simp,by rw [qK hy]⟩
 ·simp (maxSteps:=4000000)-implicitDefEqProofs+contextual [-X.ev,f11,f12,f13,f5,h]
  refine ⟨?_,kg⟩
  rw [show(i:Int)=nn by omega]
structure Sn (G:AH) (f:Nat) (first cap:Array Value) (I:List Ev→(Nat→Prop)→AH→Prop):Prop where
 call:∀{lY:List Ev} {R:Nat→Prop} {H:AH} {n i:Int},H.n0≤H.nx→I lY R H→Sub G H→(∀b,R b→G.get b=none)→lY.length<2^40→
  Ca E O f (first.toList++ .int .i64 n:: .int .i64 i::cap.toList) H (fun x H'=>∃R',I (lY++[⟨1,n,i⟩]) R' H'∧Mod R H H'∧∀b,R' b→R b∨H.nx≤b)
 mod:∀{lY:List Ev} {R T:Nat→Prop} {H H':AH},I lY R H→Mod T H H'→(∀b,T b→¬ R b)→I lY R H'
 lt:∀{lY:List Ev} {R:Nat→Prop} {H:AH},I lY R H→∀b,R b→b<H.nx
theorem Sn.ext {G:AH} {f:Nat} {first cap:Array Value} {I:List Ev→(Nat→Prop)→AH→Prop} (h:Sn G f first cap I) {lY:List Ev} {R:Nat→Prop} {H H':AH} (i:I lY R H) (X:Ext H H'):I lY R H':=h.mod i (Mod.bE (S:=fun _=>False) X) (by simp)
def El (l:List Int):List Value:=[.int .i64 (e7 l 0),.int .i64 (e7 l 1),.int .i64 (e7 l 2)]
theorem Em {w:Int} {V:List Vr} {S:List (List Int)} {l:List cn} {i:Nat} {y:cn} (hl:l.length≤3) (hy:l[i]?=some y):aF (El (cC w V S (l.take i))) i [.int .i64 (bh w V S y)]=El (cC w V S (l.take (i+1))):=by
 match l,i,hl,hy with
 |[a],0,_,hy=>simp at hy;subst hy;rfl
 |[a,b],0,_,hy=>simp at hy;subst hy;rfl
 |[a,b],1,_,hy=>simp at hy;subst hy;rfl
 |[a,b,c],0,_,hy=>simp at hy;subst hy;rfl
 |[a,b,c],1,_,hy=>simp at hy;subst hy;rfl
 |[a,b,c],2,_,hy=>simp at hy;subst hy;rfl
theorem En {G:AH} {w:Int} {vv vS:Value} {V:List Vr} {S:List (List Int)} {f:Nat} {first cap:Array Value} {I:List Ev→(Nat→Prop)→AH→Prop} (hV:aD w V=true) (hS:KU w V S) (hv:dA G vv V) (fD:Ej vv) (gE:fA G vS S) (qL:Sn G f first cap I):
 ∀(N:Nat) (e:cn) (c:List Value) (H:AH) (lY:List Ev) (R:Nat→Prop),SizeOf.sizeOf e<N→H.n0≤H.nx→Sub G H→I lY R H→(∀b,R b→G.get b=none)→pG G c e→dP w V S.length e=true→(lY.length:Int)+ar e≤2^40→
 Ca E O 168 [.agg #[.int .i64 w,vv,.int .i64 S.length],vS,.agg c.toArray,.func (.func f) first cap] H (fun x H'=>x= .int .i64 (bh w V S e)∧∃R',I (lY++nA w V S e) R' H'∧Mod R H H'∧∀b,R' b→R b∨H.nx≤b):=by
 have eS:1≤w∧w≤8:=⟨(aO hV).1,(aO hV).2.1⟩
 have hp:=jg eS
 have hVl:=(aO hV).2.2.2
 intro N
 induction N with
 |zero=>intro e c H lY R h;omega
 |succ N ih=>
  intro e c H lY R hN hw X hI KX he hf uD
  cases he with| @mk op n cp va rows args i1 i2 i3 hlen hr hl=>
  refine Ca.aR (F:=a168) rfl rfl rfl ?_
  obtain ⟨aT,hc⟩:=qI eS hf
  have ha3:args.length≤3:=by
   rcases hc with⟨_,rfl,_⟩|⟨_,_,_,_,_,⟨rfl,_⟩|⟨⟨a,rfl⟩,_⟩⟩|⟨_,a,rfl⟩|⟨_,a,b,c,rfl⟩|⟨_,a,b,rfl⟩<;>simp
  have wd:∀y∈args,0≤bh w V S y∧bh w V S y<2^w.toNat:=fun y hy=>jh hV hS y (aT y hy)
  rw [ar]at uD
  obtain ⟨p0,c0,lG⟩:=hr.len
  rw [hl.length]at lG
  have g1:=bZ H (.cells 3 [.int .i64 w,vv,.int .i64 S.length])
  have X1:=Ext.alloc H (.cells 3 [.int .i64 w,vv,.int .i64 S.length])
  have d0:(H.alloc (.cells 3 [.int .i64 w,vv,.int .i64 S.length])).ld ⟨H.nx,0,none⟩=some (.int .i64 w):=ai hw rfl
  have d1:(H.alloc (.cells 3 [.int .i64 w,vv,.int .i64 S.length])).ld ⟨H.nx,1,none⟩=some vv:=ai hw rfl
  have d2:(H.alloc (.cells 3 [.int .i64 w,vv,.int .i64 S.length])).ld ⟨H.nx,2,none⟩=some (.int .i64 S.length):=ai hw rfl
  have d:(H.alloc (.cells 3 [.int .i64 w,vv,.int .i64 S.length])).ldn ⟨H.nx,0,none⟩ 3=some [.int .i64 w,vv,.int .i64 S.length]:=ba hw 3 rfl
  generalize cV:H.alloc (.cells 3 [.int .i64 w,vv,.int .i64 S.length])=H1 at X1 d0 d1 d2 d
  have bc:=X1.wf hw
  rw [cV]at g1
  have g2:=bZ H1 (.cells 4 [.int .i64 op,.int .i64 n,.int .i64 cp,va])
  have nE1:H1.nx=H.nx+1:=by rw [←cV];rfl
  have X2:=Ext.alloc H1 (.cells 4 [.int .i64 op,.int .i64 n,.int .i64 cp,va])
  have e0:(H1.alloc (.cells 4 [.int .i64 op,.int .i64 n,.int .i64 cp,va])).ld ⟨H1.nx,0,none⟩=some (.int .i64 op):=ai bc rfl
  have e1:(H1.alloc (.cells 4 [.int .i64 op,.int .i64 n,.int .i64 cp,va])).ld ⟨H1.nx,1,none⟩=some (.int .i64 n):=ai bc rfl
  have e2:(H1.alloc (.cells 4 [.int .i64 op,.int .i64 n,.int .i64 cp,va])).ld ⟨H1.nx,2,none⟩=some (.int .i64 cp):=ai bc rfl
  have e3:(H1.alloc (.cells 4 [.int .i64 op,.int .i64 n,.int .i64 cp,va])).ld ⟨H1.nx,3,none⟩=some va:=ai bc rfl
  have e:(H1.alloc (.cells 4 [.int .i64 op,.int .i64 n,.int .i64 cp,va])).ldn ⟨H1.nx,0,none⟩ 4=some [.int .i64 op,.int .i64 n,.int .i64 cp,va]:=ba bc 4 rfl
  generalize ju:H1.alloc (.cells 4 [.int .i64 op,.int .i64 n,.int .i64 cp,va])=H2 at X2 e0 e1 e2 e3 e
  have gV:=X2.wf bc
  rw [ju]at g2
  have nE2:H2.nx=H.nx+2:=by rw [←ju];show H1.nx+1=_;omega
  have X3:=Ext.alloc H2 (.cells 3 [.int .i64 0,.int .i64 0,.int .i64 0])
  have g3:=bZ H2 (.cells 3 [.int .i64 0,.int .i64 0,.int .i64 0])
  obtain ⟨H3,IT⟩:∃H3,H2.alloc (.cells 3 [.int .i64 0,.int .i64 0,.int .i64 0])=H3:=⟨_,rfl⟩
  rw [IT]at X3 g3
  have nE3:H3.nx=H.nx+3:=by rw [←IT];show H2.nx+1=_;omega
  have D3:=X3.ld e3
  rw [lG]at D3
  have kU:=X1.trans (X2.trans X3)
  have g1':=X3.get (X2.get g1)
  have V1:=X3.get g2
  rw [nE1]at V1 D3
  rw [nE2]at g3
  have So:=qL.lt hI
  simp (maxSteps:=4000000)-implicitDefEqProofs+contextual [-X.ev,a168,cV,ju,IT,nE1,nE2,D3]
  refine b9 (fun k fr H'=>Mod R H H'∧H3.nx≤H'.nx∧H'.get H.nx=some (.cells 3 [.int .i64 w,vv,.int .i64 S.length])∧H'.get (H.nx+1)=some (.cells 4 [.int .i64 op,.int .i64 n,.int .i64 cp,va])∧∃(i:Nat) (R':Nat→Prop),i+k=args.length∧H'.get (H.nx+2)=some (.cells 3 (El (cC w V S (args.take i))))∧I (lY++eE w V S (args.take i)) R' H'∧(∀b,R' b→R b∨H3.nx≤b)∧
   fr.get 1=vS∧fr.get 3= .func (.func f) first cap∧fr.get 4= .pointer (some ⟨H.nx,0,none⟩)∧fr.get 6= .pointer (some ⟨H.nx+1,0,none⟩)∧fr.get 9= .pointer (some ⟨H.nx+2,0,none⟩)∧fr.get 18=va∧fr.get 19= .int .i64 args.length∧fr.get 20= .int .i64 i) ?_ args.length ⟨Mod.bE kU,alR _,g1',V1,0,R,by simp,by simpa [cC,El,e7]using g3,by simpa [eE]using qL.ext hI kU,fun b hb=>.inl hb,by simp,by simp,by simp,by simp,by simp,by simp [lG],by simp,by simp⟩
  rintro k fr H4 ⟨M4,wU,k1,k2,i,R4,hi,k3,V2,Nr,f1,f3,f4,f6,f9,f18,f19,f20⟩
  have oN:=M4.wf hw
  have lV:=M4.n0
  have IU:Sub G H4:=X.mod M4 KX
  have Gnx:=X.nx
  have Ns:∀b,R4 b→G.get b=none:=fun b hb=>by
   rcases Nr b hb with h|h
   ·exact KX b h
   ·exact AH.pU (by omega)
  have Nt:∀b,R4 b→b<H.nx∨H.nx+3≤b:=fun b hb=>by
   rcases Nr b hb with h|h
   ·exact .inl (So b h)
   ·omega
  have tl:=vH (w:=w) (V:=V) (S:=S) args i
  by_cases h:i<args.length
  ·obtain ⟨y,hy⟩:∃y,args[i]?=some y:=⟨_,alN h⟩
   have t1:=fG hy
   have t2:=bS args (i+1)
   have gA:=qu (op:=op) (n:=n) (cp:=cp) hy
   obtain ⟨b,o,c',vy,r,dy,bN,rfl,pH⟩:=eZ.row (hr.sub IU) (eZ.sub IU hl) hy
   obtain ⟨b',o',Gw,V3,r',Sp,Sq,rfl,aa3⟩:=eZ.row hr hl hy
   rw [dy]at Sp
   cases Sp
   have hvy:V3=vy:=by
    have:=IU.ldn Sq
    rw [bN]at this
    cases this
    rfl
   subst hvy
   have Nu:=f18
   rw [dy]at Nu
   obtain ⟨H5,sH5,X5,aiv,aiw,q,Sr⟩:=dJ (H:=H4) oN (z:=4) (c:=[.int .i64 0,.int .i64 0,.int .i64 0,.slice none 0 0]) (vs:=[.int .i64 y.op,.int .i64 y.n,.int .i64 y.cp,V3]) rfl
   have q0:H5.ld ⟨H4.nx,0,none⟩=some (.int .i64 y.op):=Sr 0 _ rfl
   have q1:H5.ld ⟨H4.nx,1,none⟩=some (.int .i64 y.n):=Sr 1 _ rfl
   have q2:H5.ld ⟨H4.nx,2,none⟩=some (.int .i64 y.cp):=Sr 2 _ rfl
   have q3:H5.ld ⟨H4.nx,3,none⟩=some V3:=Sr 3 _ rfl
   clear Sr
   replace q:H5.ldn ⟨H4.nx,0,none⟩ 4=some [.int .i64 y.op,.int .i64 y.n,.int .i64 y.cp,V3]:=q
   have Ss:=X5.wf oN
   have kk1:=X5.get k1
   have l1:H5.ldn ⟨H.nx,0,none⟩ 3=some [.int .i64 w,vv,.int .i64 S.length]:=by rw [bk kk1 (by rw [X5.n0,lV];exact hw) (by simp)];rfl
   have n5:=X5.nx
   have evl:((lY++eE w V S (args.take i)).length:Int)+ar y≤2^40:=by
    have u:=bS args i
    have u2:=ji (w:=w) (V:=V) (S:=S) (l:=args.take i) (fun e _=>eg e)
    rw [alW];omega
   simp (maxSteps:=4000000)-implicitDefEqProofs+contextual [-X.ev,f1,f3,f4,Nu,f19,f20,h,bN,sH5,q,l1]
   apply ah
   ·(simp-implicitDefEqProofs [-X.ev];rfl)
   refine (ih y _ H5 _ R4 (by omega) Ss (IU.M0 X5) (qL.ext V2 X5) Ns aa3 (aT y (alS hy)) evl).mono ?_
   rintro x H6 ⟨rfl,R6,hI6,M6,V4⟩
   have Bi:=M6.wf Ss
   have n6:=M6.nx
   have nR:∀j,j<3→¬ R4 (H.nx+j):=fun j hj q=>by have:=Nt _ q;omega
   have j1:=M6.get (nR 0 (by omega)) kk1
   have j2:=M6.get (nR 1 (by omega)) (X5.get k2)
   have j3:=M6.get (nR 2 (by omega)) (X5.get k3)
   have IK:H6.n0=H.n0:=M6.n0.trans (X5.n0.trans lV)
   obtain ⟨H7,s7,M7,VT,Bm,g7⟩:=bw j3 (by rw [IK];omega) (k:=i) (vs:=[.int .i64 (bh w V S y)]) (by simp [El];omega)
   rw [Em ha3 hy]at g7
   have hi3:(i:Int)<3:=by omega
   simp (maxSteps:=4000000)-implicitDefEqProofs+contextual [-X.ev,f1,f3,f4,f9,Nu,f19,f20,s7,hi3]
   rw [aj (n:=(i:Int)+1) ⟨by omega,by omega⟩]
   refine ⟨k- 1,by omega,((M4.trans (Mod.bE X5)).then M6 (fun b hb q=>?_)).then M7 (fun b hb q=>by omega),by omega,M7.get (by omega) j1,M7.get (by omega) j2,i+1,by omega,g7,R6,?_,fun b hb=>?_,f6,dy.symm,by simp⟩
   ·rcases Nr b q with h|h
    ·exact h
    ·omega
   ·rw [Eg hy,←List.append_assoc]
    exact qL.mod hI6 M7 (fun b hb q=>by
     rcases V4 b q with h|h
     ·have:=Nt b h;omega
     ·omega)
   ·rcases V4 b hb with h|h
    ·exact Nr b h
    ·right;omega
  have hti:args.take i=args:=alU (by omega)
  rw [hti]at k3 V2
  have B0:H4.n0≤H.nx:=by rw [lV];exact hw
  have u0:=aE k1 B0 (k:=0) (v:=.int .i64 w) rfl
  have u1:=aE k1 B0 (k:=1) (v:=vv) rfl
  have un:H4.ldn ⟨H.nx,0,none⟩ 3=some [.int .i64 w,vv,.int .i64 S.length]:=by rw [bk k1 B0 (by simp)];rfl
  have v0:=aE k2 (by omega) (k:=0) (v:=.int .i64 op) rfl
  have v1:=aE k2 (by omega) (k:=1) (v:=.int .i64 n) rfl
  have v2:=aE k2 (by omega) (k:=2) (v:=.int .i64 cp) rfl
  have v3:=aE k2 (by omega) (k:=3) (v:=va) rfl
  have x0:=aE k3 (by omega) (k:=0) (v:=.int .i64 (e7 (cC w V S args) 0)) rfl
  have x1:=aE k3 (by omega) (k:=1) (v:=.int .i64 (e7 (cC w V S args) 1)) rfl
  have x2:=aE k3 (by omega) (k:=2) (v:=.int .i64 (e7 (cC w V S args) 2)) rfl
  rw [lG]at f18 v3
  have fin:∀{H':AH},(¬ (op=1∧args≠[]))→Ext H4 H'→∃R',I (lY++nA w V S (.mk op n cp args)) R' H'∧Mod R H H'∧∀b,R' b→R b∨H.nx≤b:=fun qi XX=>by
   refine ⟨R4,?_,M4.trans (Mod.bE XX),fun b hb=>(Nr b hb).imp id (fun q=>by omega)⟩
   rw [nA,if_neg qi,List.append_nil]
   exact qL.ext V2 XX
  rcases hc with⟨rfl,rfl,h1,h2⟩|⟨rfl,h1,h2,h3,h4,fW⟩|⟨rfl,y0,rfl⟩|⟨rfl,y0,y1,y2,rfl⟩|⟨ho,y0,y1,rfl⟩
  ·have:=fin (H':=H4) (by omega) (Ext.refl _)
   have dm:¬ (i:Int)<0:=by omega
   simp (maxSteps:=4000000)-implicitDefEqProofs+contextual [-X.ev,f18,f19,f20,dm,f6,v0,v1,bh]
   exact this
  ·obtain ⟨s,V5⟩:∃s,S[cp.toNat]?=some s:=⟨_,alN (by omega)⟩
   have aa5:=hS s (alS V5)
   have hsa:storeAt S cp=s:=by simp [storeAt,V5]
   have sk:=tK hV ⟨h1,h2⟩ (e7 (cC w V S args) 0)
   obtain ⟨x,hx,GU,BX,KV⟩:=kn eS aa5 (i:=bL V n+e7 (cC w V S args) 0%ak V n) (by omega)
   have dm:bL V n+e7 (cC w V S args) 0%ak V n<(s.length:Int):=by
    have:=(alT.1 hx).1;omega
   have cpS:cp<S.length:=by omega
   rcases fW with⟨rfl,hcn⟩|⟨⟨y,rfl⟩,hcn⟩
   ·have BZ:¬ (i:Int)<0:=by omega
    obtain ⟨b,o,c',a',Gw,uA,eW,vD⟩:=(gE.sub IU).at V5
    obtain ⟨b3,o3,c3,Ke,Eo⟩:=vD.at hx
    cases Ke
    have e0:e7 (cC w V S []) 0=0:=rfl
    rw [e0]at sk dm Eo KV
    simp only [Int.zero_emod,Int.add_zero]at sk dm Eo KV
    have Su:=bm.1 v2
    have HN:=bm.1 eW
    have ww:IntKind.i64.wrap (bL V n)=bL V n:=aj ⟨by omega,by omega⟩
    have vu:bh w V S (.mk 1 n cp [])=x:=by
     rw [bh,if_neg (by omega),if_pos rfl,hsa,e0,Int.zero_emod,Int.add_zero,KV]
    rw [uA]at f1
    simp (maxSteps:=4000000)-implicitDefEqProofs+contextual [-X.ev,f1,f18,f19,f20,BZ,f4,f6,v0,v1,v2,v3,un,eW,h3,cpS]
    apply ah
    ·(simp-implicitDefEqProofs [-X.ev];rfl)
    refine (sj oN (dA.sub IU hv) fD (by omega) ⟨h1,h2⟩).mono ?_
    rintro x' H5 ⟨rfl,X5⟩
    have g1:0≤bL V n:=by omega
    have aa6:=fin (H':=H5) (by simp) X5
    have aa7:=X5.ld Eo
    have aa8:=X5.ldn Su
    have HN5:=X5.ldn HN
    have KY:=X5.nx
    have GK:=X5.n0
    simp (maxSteps:=4000000)-implicitDefEqProofs+contextual [-X.ev,ww,aY,aH,aI,Su,HN,aa8,HN5,g1,dm,aa7,vu,KY,GK]
    exact aa6
   ·have BZ:¬ (i:Int)<1:=by simp at h;omega
    obtain ⟨yv,Ep⟩:∃yv,V[n.toNat]?=some yv:=⟨_,alN (by omega)⟩
    have IV:ak V n=yv.cells:=by simp [ak,Ep]
    obtain ⟨b,o,c',nw,_,_,_,xW⟩:=(dA.sub IU hv).at Ep
    have PM:=wd y (by simp)
    have e0:e7 (cC w V S [y]) 0=bh w V S y:=rfl
    rw [e0]at sk dm hx KV x0
    rw [IV]at sk dm hx KV hcn
    have rn:=tI (b:=yv.cells) PM.1
    rw [if_neg (by omega)]at rn
    have u1':=u1
    rw [nw]at u1'
    have bd:((lY++eE w V S [y]).length:Int)<2^40:=by
     have u2:=ji (w:=w) (V:=V) (S:=S) (l:=[y]) (fun e _=>eg e)
     rw [alW];omega
    simp (maxSteps:=4000000)-implicitDefEqProofs+contextual [-X.ev,f18,f19,f20,BZ,f3,f4,f6,f9,v0,v1,v3,x0,u1',h1,h2,xW,rn,aY,aH,aI]
    apply ja
    ·(simp-implicitDefEqProofs [-X.ev,-Value.func.injEq,f3];rfl)
    ·(simp-implicitDefEqProofs [-X.ev,f3];rfl)
    refine (qL.call (n:=n) (i:=bh w V S y%yv.cells) oN V2 IU Ns (by omega)).mono ?_
    rintro x' H5 ⟨R5,hI5,M5,hR5⟩
    have oO:=M5.wf oN
    have SG5:Sub G H5:=IU.mod M5 Ns
    have nR:∀j,j<3→¬ R4 (H.nx+j):=fun j hj q=>by have:=Nt _ q;omega
    have vv1:=M5.ld (nR 1 (by omega)) v1
    have vv2:=M5.ld (nR 1 (by omega)) v2
    have vv0:=M5.ld (nR 1 (by omega)) v0
    have unn:=M5.ldn (nR 0 (by omega)) un
    obtain ⟨b5,o5,c5,a',Gw,uA,eW,vD⟩:=(gE.sub SG5).at V5
    obtain ⟨b3,o3,c3,Ke,Eo⟩:=vD.at hx
    cases Ke
    have Su:=bm.1 vv2
    have HN:=bm.1 eW
    have ww:IntKind.i64.wrap (bL V n+bh w V S y%yv.cells)=bL V n+bh w V S y%yv.cells:=aj ⟨by omega,by omega⟩
    have vu:bh w V S (.mk 1 n cp [y])=x:=by
     rw [bh,if_neg (by omega),if_pos rfl,hsa,e0,IV,KV]
    have aa9:nA w V S (.mk 1 n cp [y])=eE w V S [y]++[⟨1,n,bh w V S y%yv.cells⟩]:=by rw [nA,if_pos ⟨rfl,by simp⟩,e0,IV]
    rw [uA]at f1
    simp (maxSteps:=4000000)-implicitDefEqProofs+contextual [-X.ev,f1,f4,f6,vv0,vv1,vv2,unn,eW,h3,cpS]
    apply ah
    ·(simp-implicitDefEqProofs [-X.ev];rfl)
    refine (sj oO (dA.sub SG5 hv) fD (by omega) ⟨h1,h2⟩).mono ?_
    rintro x' H6 ⟨rfl,X6⟩
    have g1:0≤bL V n+bh w V S y%yv.cells:=by omega
    have aba:=X6.ld Eo
    have abb:=X6.ldn Su
    have HN6:=X6.ldn HN
    have V6:=X6.nx
    have Sv:=X6.n0
    have KL:=M5.nx
    simp (maxSteps:=4000000)-implicitDefEqProofs+contextual [-X.ev,ww,aY,aH,aI,Su,HN,abb,HN6,g1,dm,aba,vu,V6,Sv]
    rw [aa9,←List.append_assoc]
    refine ⟨R5,qL.ext hI5 X6,(M4.then M5 (fun b hb q=>?_)).trans (Mod.bE X6),fun b hb=>?_⟩
    ·rcases Nr b q with h|h
     ·exact h
     ·omega
    ·rcases hR5 b hb with h|h
     ·exact (Nr b h).imp id (fun q=>by omega)
     ·right;omega
  ·have PM:=wd y0 (by simp)
   have e0:e7 (cC w V S [y0]) 0=bh w V S y0:=rfl
   rw [e0]at x0
   have dm:¬ (i:Int)<1:=by simp at h;omega
   simp (maxSteps:=4000000)-implicitDefEqProofs+contextual [-X.ev,f18,f19,f20,dm,f6,f4,f9,v0,u0,x0]
   apply ah
   ·(simp-implicitDefEqProofs [-X.ev];rfl)
   refine (II oN eS PM).mono ?_
   rintro x H5 ⟨rfl,X5⟩
   have:=fin (H':=H5) (by omega) X5
   simp (maxSteps:=4000000)-implicitDefEqProofs+contextual [-X.ev]
   refine ⟨?_,this⟩
   rw [bh,if_neg (by omega),if_neg (by omega),if_pos rfl];rfl
  ·have:=fin (H':=H4) (by omega) (Ext.refl _)
   have dm:¬ (i:Int)<3:=by simp at h;omega
   by_cases q:e7 (cC w V S [y0,y1,y2]) 0=0
   ·simp (maxSteps:=4000000)-implicitDefEqProofs+contextual [-X.ev,f18,f19,f20,dm,f6,f9,v0,x0,x2,q]
    refine ⟨?_,this⟩
    rw [bh,if_neg (by omega),if_neg (by omega),if_neg (by omega),if_pos rfl,if_pos q]
   ·simp (maxSteps:=4000000)-implicitDefEqProofs+contextual [-X.ev,f18,f19,f20,dm,f6,f9,v0,x0,x1,q]
    refine ⟨?_,this⟩
    rw [bh,if_neg (by omega),if_neg (by omega),if_neg (by omega),if_pos rfl,if_neg q]
  ·have m0:¬ op=0:=by omega
   have m1:¬ op=1:=by omega
   have m12:¬ op=12:=by omega
   have m15:¬ op=15:=by omega
   have e0:e7 (cC w V S [y0,y1]) 0=bh w V S y0:=rfl
   have e1:e7 (cC w V S [y0,y1]) 1=bh w V S y1:=rfl
   rw [e0]at x0
   rw [e1]at x1
   have dm:¬ (i:Int)<2:=by simp at h;omega
   simp (maxSteps:=4000000)-implicitDefEqProofs+contextual [-X.ev,f18,f19,f20,dm,f6,f4,f9,v0,u0,x0,x1,m0,m1,m12,m15]
   apply ah
   ·(simp-implicitDefEqProofs [-X.ev];rfl)
   refine (Nd oN ho eS (wd y0 (by simp)) (wd y1 (by simp))).mono ?_
   rintro x H5 ⟨rfl,X5⟩
   have:=fin (H':=H5) (by omega) X5
   simp (maxSteps:=4000000)-implicitDefEqProofs+contextual [-X.ev]
   refine ⟨?_,this⟩
   rw [bh,if_neg m0,if_neg m1,if_neg m12,if_neg m15,e0,e1]
open Go
structure MV where
 vf:Value
 w:Int
 vv:Value
 vb:Value
 fuel:Int
 vp:Value
 en:Int
 vs:Value
 vo:Value
 vt:Value
 cost:Int
 used:Int
 wh:Int
 ended:Bool
abbrev MV.rest (v:MV):List Value:=[.int .i64 v.w,v.vv,v.vb,.int .i64 v.fuel,v.vp,.int .i64 v.en,v.vs,v.vo,v.vt,.int .i64 v.cost,.int .i64 v.used,.int .i64 v.wh,.bool v.ended]
abbrev MV.cells (v:MV):List Value:=v.vf::v.rest
def xX (o:Int×Int):List Value:=[.int .i64 o.1,.int .i64 o.2]
def cz (l:List (Int×Int)):List (List Value):=l.map xX
theorem qM (l m:List (Int×Int)):cz (l++m)=cz l++cz m:=by simp [cz]
theorem gX (l:List (Int×Int)):(cz l).length=l.length:=by simp [cz]
def Mf (m:Nat) (v:MV) (b:Nat):Prop:=b=m∨aN v.vf b∨aN v.vs b∨aN v.vo b∨aN v.vt b
structure MH (G H:AH) (m:Nat) (v:MV) (rows:List (List Value)) (store:List Int) (outs:List (Int×Int)) (trace:List Ev):Prop where
 get:H.get m=some (.cells 14 v.cells)
 n0:H.n0≤m
 sub:Sub G H
 wf:H.n0≤H.nx
 fr:eC H 2 v.vf rows
 st:c9 H 1 v.vs (bz store)
 ou:c9 H 2 v.vo (cz outs)
 tr:c9 H 3 v.vt (cK trace)
 d1:¬ aN v.vf m∧¬ aN v.vs m∧¬ aN v.vo m∧¬ aN v.vt m
 d2:∀b,aN v.vf b→¬ aN v.vs b∧¬ aN v.vo b∧¬ aN v.vt b
 d3:∀b,aN v.vs b→¬ aN v.vo b∧¬ aN v.vt b
 d4:∀b,aN v.vo b→¬ aN v.vt b
 out:∀b,Mf m v b→G.get b=none
theorem MH.lt {G H:AH} {m:Nat} {v:MV} {rows:List (List Value)} {store:List Int} {outs:List (Int×Int)} {trace:List Ev} (h:MH G H m v rows store outs trace) {b:Nat} (hb:Mf m v b):b<H.nx:=by
 rcases hb with rfl|hb|hb|hb|hb
 ·exact AH.aL h.get
 ·exact h.fr.lt hb
 ·exact h.st.lt hb
 ·exact h.ou.lt hb
 ·exact h.tr.lt hb
theorem MH.mod {G H H':AH} {m:Nat} {v:MV} {rows:List (List Value)} {store:List Int} {outs:List (Int×Int)} {trace:List Ev} {T:Nat→Prop} (h:MH G H m v rows store outs trace) (M:Mod T H H') (hT:∀b,T b→¬ Mf m v b) (hG:∀b,T b→G.get b=none):MH G H' m v rows store outs trace where
 get:=M.get (fun q=>hT m q (.inl rfl)) h.get
 n0:=by rw [M.n0];exact h.n0
 sub:=h.sub.mod M hG
 wf:=M.wf h.wf
 fr:=h.fr.mod M fun b hb q=>hT b q (.inr (.inl hb))
 st:=h.st.mod M fun b hb q=>hT b q (.inr (.inr (.inl hb)))
 ou:=h.ou.mod M fun b hb q=>hT b q (.inr (.inr (.inr (.inl hb))))
 tr:=h.tr.mod M fun b hb q=>hT b q (.inr (.inr (.inr (.inr hb))))
 d1:=h.d1
 d2:=h.d2
 d3:=h.d3
 d4:=h.d4
 out:=h.out
theorem MH.ext {G H H':AH} {m:Nat} {v:MV} {rows:List (List Value)} {store:List Int} {outs:List (Int×Int)} {trace:List Ev} (h:MH G H m v rows store outs trace) (X:Ext H H'):MH G H' m v rows store outs trace:=h.mod (Mod.bE (S:=fun _=>False) X) (by simp) (by simp)
theorem MH.tN {G H H':AH} {m:Nat} {v:MV} {rows:List (List Value)} {store:List Int} {outs:List (Int×Int)} {trace qN:List Ev} {vt:Value} {cost:Int} (h:MH G H m v rows store outs trace) (M:Mod (fun b=>b=m∨aN v.vt b) H H') (g:H'.get m=some (.cells 14 ({v with vt:=vt,cost:=cost}:MV).cells)) (o:c9 H' 3 vt (cK qN)) (hf:∀b,aN vt b→aN v.vt b∨H.nx≤b):MH G H' m {v with vt:=vt,cost:=cost} rows store outs qN where
 get:=g
 n0:=by rw [M.n0];exact h.n0
 sub:=h.sub.mod M fun b hb=>h.out b (by rcases hb with q|q;exact .inl q;exact .inr (.inr (.inr (.inr q))))
 wf:=M.wf h.wf
 fr:=h.fr.mod M fun b hb q=>by rcases q with rfl|q;exact h.d1.1 hb;exact (h.d2 b hb).2.2 q
 st:=h.st.mod M fun b hb q=>by rcases q with rfl|q;exact h.d1.2.1 hb;exact (h.d3 b hb).2 q
 ou:=h.ou.mod M fun b hb q=>by rcases q with rfl|q;exact h.d1.2.2.1 hb;exact h.d4 b hb q
 tr:=o
 d1:=⟨h.d1.1,h.d1.2.1,h.d1.2.2.1,fun q=>by rcases hf m q with q|q;exact h.d1.2.2.2 q;have:=h.lt (.inl rfl);omega⟩
 d2:=fun b hb=>⟨(h.d2 b hb).1,(h.d2 b hb).2.1,fun q=>by rcases hf b q with q|q;exact (h.d2 b hb).2.2 q;have:=h.lt (.inr (.inl hb));omega⟩
 d3:=fun b hb=>⟨(h.d3 b hb).1,fun q=>by rcases hf b q with q|q;exact (h.d3 b hb).2 q;have:=h.lt (.inr (.inr (.inl hb)));omega⟩
 d4:=fun b hb q=>by rcases hf b q with q|q;exact h.d4 b hb q;have:=h.lt (.inr (.inr (.inr (.inl hb))));omega
 out:=fun b hb=>by
  rcases hb with q|q|q|q|q
  ·exact h.out b (.inl q)
  ·exact h.out b (.inr (.inl q))
  ·exact h.out b (.inr (.inr (.inl q)))
  ·exact h.out b (.inr (.inr (.inr (.inl q))))
  ·rcases hf b q with q|q
   ·exact h.out b (.inr (.inr (.inr (.inr q))))
   ·exact AH.pU (Nat.le_trans h.sub.nx q)
theorem tell {H:AH} {m:Nat} {v:MV} {trace:List Ev} (e:Ev) (hw:H.n0≤H.nx) (g:H.get m=some (.cells 14 v.cells)) (h0:H.n0≤m) (o:c9 H 3 v.vt (cK trace)) (hd:¬ aN v.vt m) (hb:trace.length≤2^41):
 ∃H1 a c H2 H3,ll 1 3 [.int .i64 0,.int .i64 0,.int .i64 0] H [(0,3,.agg #[.int .i64 e.kind,.int .i64 e.at_,.int .i64 e.val])]=some (.slice (some ⟨H.nx,0,none⟩) 1 1,H1)∧aX 3 24 H1 v.vt (.slice (some ⟨H.nx,0,none⟩) 1 1)=some (.slice a (trace.length+1) c,H2)∧H2.st ⟨m,9,none⟩ [.slice a (trace.length+1) c]=some H3∧
  H3.get m=some (.cells 14 ({v with vt:=.slice a (trace.length+1) c}:MV).cells)∧c9 H3 3 (.slice a (trace.length+1) c) (cK (trace++[e]))∧Mod (fun b=>b=m∨aN v.vt b) H H3∧(∀b,aN (.slice a (trace.length+1) c) b→H.nx≤b)∧H1.n0=H.n0∧H.nx≤H1.nx∧Ext H H1∧H2.n0=H.n0∧H1.nx≤H2.nx∧H3.n0=H.n0∧H3.nx=H2.nx∧Mod (aN v.vt) H H2:=by
 have kT:=vz (sz:=3) (z:=[.int .i64 0,.int .i64 0,.int .i64 0]) (H:=H) (v:=.agg #[.int .i64 e.kind,.int .i64 e.at_,.int .i64 e.val]) rfl rfl rfl
 simp only [fh]at kT
 have X:=Ext.alloc H (.cells 3 [.int .i64 e.kind,.int .i64 e.at_,.int .i64 e.val])
 obtain ⟨H1,cV⟩:∃H1,H.alloc (.cells 3 [.int .i64 e.kind,.int .i64 e.at_,.int .i64 e.val])=H1:=⟨_,rfl⟩
 obtain ⟨s',H2,ha,o2,M2,k2,nQ,vF,wf2,Bl,Ed,IL⟩:=jd (bytes:=24) hw o (r:=[.int .i64 e.kind,.int .i64 e.at_,.int .i64 e.val]) rfl cV (by rw [iP];omega) (by rw [iP];omega)
 rw [cV]at kT X
 obtain ⟨a,c,hs⟩:=o2.shape
 rw [alW,List.length_singleton,iP]at hs
 subst hs
 have g2:=M2.get hd g
 obtain ⟨H3,s3,M3,pI,kS,g3⟩:=bw g2 (by rw [nQ];exact h0) (k:=9) (vs:=[.slice a (trace.length+1) c]) (by simp)
 refine ⟨H1,a,c,H2,H3,kT,ha,s3,g3,?_,(M2.mono fun x _ hx=>.inr hx).trans (M3.mono fun x _ hx=>.inl hx),k2,Bl,Ed,X,nQ,IL,kS.trans nQ,pI,M2⟩
 rw [rN]
 exact o2.mod M3 fun b hb q=>by have:=k2 b hb;have:=AH.aL g;omega
def Sw (m:Nat) (v:MV) (V7:List Ev) (lY:List Ev) (R:Nat→Prop) (H:AH):Prop:=∃vt,R=(fun b=>b=m∨aN vt b)∧H.get m=some (.cells 14 ({v with vt:=vt}:MV).cells)∧H.n0≤m∧c9 H 3 vt (cK (V7++lY))∧¬ aN vt m
theorem Nv {G:AH} {m B:Nat} {v:MV} {V7:List Ev} (hB:G.ld ⟨B,0,none⟩=some (.pointer (some ⟨m,0,none⟩))) (hlen:V7.length≤2^40):Sn G 158 #[] #[.pointer (some ⟨B,0,none⟩)] (Sw m v V7)where
 call:=by
  rintro lY R H n i hw ⟨vt,rfl,g,h0,o,hd⟩ X KX hl
  refine Ca.aR (F:=HO) rfl rfl rfl ?_
  have lB:=X.ld hB
  obtain ⟨H1,a,c,H2,H3,hb,ha,hs,g3,o3,M3,k3,Bl,Ed,X1,nQ,vF,kS,pI,M2⟩:=tell (v:={v with vt:=vt}) ⟨1,n,i⟩ hw g h0 o hd (by rw [alW];omega)
  simp only [alW]at ha hs g3 o3 k3
  have abc:=(X.mod M2 (fun b hb=>KX b (.inr hb))).ldn (bm.1 hB)
  have aiH:H1.nx≤H2.nx:=vF
  have l9:=aE g h0 (k:=9) (v:=vt) rfl
  have rO:dW [.int .i64 0,.int .i64 0,.int .i64 0] [(0,1,.int .i64 1),(1,1,.int .i64 n),(2,1,.int .i64 i)]=some (.agg #[.int .i64 1,.int .i64 n,.int .i64 i]):=rfl
  have lBn:=bm.1 lB
  have abd:=X1.ldn lBn
  simp (maxSteps:=4000000)-implicitDefEqProofs+contextual [-X.ev,HO,lB,l9,rO,hb,ha,hs,lBn,abd,abc,Bl,Ed,nQ,vF,kS,pI,aY,aH,aI]
  exact ⟨_,⟨_,rfl,g3,by rw [kS];exact h0,by simpa [List.append_assoc]using o3,fun q=>by have:=k3 m q;have:=AH.aL g;omega⟩,M3,fun b hb=>hb.imp (fun q=>.inl q) (fun q=>k3 b q)⟩
 mod:=by
  rintro lY R T H H' ⟨vt,rfl,g,h0,o,hd⟩ M hT
  exact ⟨vt,rfl,M.get (fun q=>hT m q (.inl rfl)) g,by rw [M.n0];exact h0,o.mod M (fun b hb q=>hT b q (.inr hb)),hd⟩
 lt:=by
  rintro lY R H ⟨vt,rfl,g,h0,o,hd⟩ b hb
  rcases hb with rfl|hb
  ·exact AH.aL g
  ·exact o.lt hb
end Go.Proofs.YtppcmpmnglaleaaGreatDoor.A
namespace Go.Proofs.YtppcmpmnglaleaaGreatDoor.A
open Go
theorem Er {G:AH} {w:Int} {vv vS:Value} {V:List Vr} {S:List (List Int)} {f:Nat} {first cap:Array Value} {I:List Ev→(Nat→Prop)→AH→Prop} (hV:aD w V=true) (hS:KU w V S) (hv:dA G vv V) (fD:Ej vv) (gE:fA G vS S) (qL:Sn G f first cap I)
 {e:cn} {c:List Value} {H:AH} {lY:List Ev} {R:Nat→Prop} (hw:H.n0≤H.nx) (X:Sub G H) (hI:I lY R H) (KX:∀b,R b→G.get b=none) (he:pG G c e) (hf:dP w V S.length e=true) (hb:(lY.length:Int)+ar e≤2^40):
 Ca E O 157 [.int .i64 w,vv,vS,.agg c.toArray,.func (.func f) first cap] H (fun x H'=>x= .int .i64 (bh w V S e)∧∃R',I (lY++nA w V S e) R' H'∧Mod R H H'∧∀b,R' b→R b∨H.nx≤b):=by
 refine Ca.aR (F:=a157) rfl rfl rfl ?_
 obtain ⟨a,c',hvS⟩:=gE.len
 have hc:c.length=4:=by cases he;rfl
 have So:=qL.lt hI
 have X1:=Ext.alloc H (.cells c.length c)
 have d:(H.alloc (.cells c.length c)).ldn ⟨H.nx,0,none⟩ 4=some c:=ba hw 4 (by assumption)
 generalize cV:H.alloc (.cells c.length c)=H1 at X1 d
 have bc:=X1.wf hw
 have rO:dW [.int .i64 0,.slice none 0 0,.int .i64 0] [(0,1,.int .i64 w),(1,1,vv),(2,1,.int .i64 S.length)]=some (.agg #[.int .i64 w,vv,.int .i64 S.length]):=by
  obtain ⟨a1,n1,c1,rfl,_⟩:=fD
  rfl
 have hh:=En hV hS hv fD gE qL _ e c H1 lY R (al2 _) bc (X.M0 X1) (qL.ext hI X1) KX he hf hb
 rw [hvS]at hh⊢
 simp (maxSteps:=4000000)-implicitDefEqProofs+contextual [-X.ev,a157,cV,rO,d]
 apply ah
 ·(simp-implicitDefEqProofs [-X.ev];rfl)
 refine (hh).mono ?_
 rintro x H2 ⟨rfl,R2,hI2,M2,hR2⟩
 have x1:=X1.nx
 simp (maxSteps:=4000000)-implicitDefEqProofs+contextual [-X.ev]
 exact ⟨R2,hI2,(Mod.bE X1).then M2 (fun b _ q=>q),fun b hb=>(hR2 b hb).imp id (fun q=>by omega)⟩
theorem Es {G H:AH} {R:Nat→Prop} (X:Sub G H) (hR:∀b,R b→G.get b=none):Sub G (part H 0 R):=
 ⟨by rw [mM,X.n0],by rw [tL];exact X.nx,fun b x k=>gW.2 ⟨X.get b x k,Nat.zero_le _,fun q=>by rw [hR b q]at k;cases k⟩⟩
theorem sn {H:AH} {n:Nat} {R:Nat→Prop} {b:Nat} (hb:R b):(part H n R).get b=none:=by
 cases h:(part H n R).get b with
 |none=>rfl
 |some x=>exact absurd hb (gW.1 h).2.2
theorem jj {G H:AH} {m:Nat} {v:MV} {rows:List (List Value)} {store:List Int} {outs:List (Int×Int)} {trace:List Ev} {V:List Vr} {e:cn} {c:List Value} (h:MH G H m v rows store outs trace) (hV:aD v.w V=true) (hS:bX v.w V store=true) (hv:dA G v.vv V) (fD:Ej v.vv) (he:pG G c e) (hf:dP v.w V 1 e=true) (hb:(trace.length:Int)+ar e≤2^40) (hc:0≤v.cost∧v.cost+ar e≤2^60):
 Ca E O 142 [.pointer (some ⟨m,0,none⟩),.agg c.toArray] H (fun x H'=>x= .int .i64 (bh v.w V [store] e)∧∃my,MH G H' m {v with vt:=my,cost:=v.cost+ar e} rows store outs (trace++nA v.w V [store] e)∧Mod (fun b=>b=m∨aN v.vt b) H H'∧∀b,aN my b→aN v.vt b∨H.nx≤b):=by
 refine Ca.aR (F:=HL) rfl rfl rfl ?_
 have hc4:c.length=4:=by cases he;rfl
 have hw:=h.wf
 have gB:=bZ H (.cells 1 [.pointer (some ⟨m,0,none⟩)])
 have X1:=Ext.alloc H (.cells 1 [.pointer (some ⟨m,0,none⟩)])
 have d0:(H.alloc (.cells 1 [.pointer (some ⟨m,0,none⟩)])).ld ⟨H.nx,0,none⟩=some (.pointer (some ⟨m,0,none⟩)):=ai hw rfl
 have d:(H.alloc (.cells 1 [.pointer (some ⟨m,0,none⟩)])).ldn ⟨H.nx,0,none⟩ 1=some [.pointer (some ⟨m,0,none⟩)]:=ba hw 1 rfl
 generalize cV:H.alloc (.cells 1 [.pointer (some ⟨m,0,none⟩)])=H1 at X1 d0 d
 have bc:=X1.wf hw
 rw [cV]at gB
 have X2:=Ext.alloc H1 (.cells c.length c)
 have q:(H1.alloc (.cells c.length c)).ldn ⟨H1.nx,0,none⟩ 4=some c:=ba bc 4 (by assumption)
 generalize ju:H1.alloc (.cells c.length c)=H2 at X2 q
 have gV:=X2.wf bc
 have kg:=X1.trans X2
 have h2:=h.ext kg
 have x1:=X1.nx
 have x2:=X2.nx
 have pn:=dV e
 have ltm:=h.lt (.inl rfl)
 have Px:=X2.ld d0
 have l10:=aE h2.get h2.n0 (k:=10) (v:=.int .i64 v.cost) rfl
 have dn:=bm.1 Px
 have ln:=bm.1 l10
 simp (maxSteps:=4000000)-implicitDefEqProofs+contextual [-X.ev,HL,cV,ju,Px,l10,q]
 apply ah
 ·(simp-implicitDefEqProofs [-X.ev];rfl)
 refine (sb _ _ c H2 (al2 _) gV (he.sub h2.sub) (by omega)).mono ?_
 rintro x H3 ⟨rfl,X3⟩
 have h3:=h2.ext X3
 have x3:=X3.nx
 have x30:=X3.n0
 have dn3:=X3.ldn dn
 have ln3:=X3.ldn ln
 have ww:IntKind.i64.wrap (v.cost+ar e)=v.cost+ar e:=aj ⟨by omega,by omega⟩
 obtain ⟨H4,s4,M4,wU,lV,g4⟩:=bw h3.get h3.n0 (k:=10) (vs:=[.int .i64 (v.cost+ar e)]) (by simp)
 have h4:MH G H4 m {v with vt:=v.vt,cost:=v.cost+ar e} rows store outs trace:=h3.tN (M4.mono fun x _ hx=>.inl hx) g4 (h3.tr.mod M4 fun b hb q=>h.d1.2.2.2 (q▸hb)) (fun b hb=>.inl hb)
 have oN:=h4.wf
 have Sx:H4.n0=H.n0:=lV.trans (x30.trans kg.n0)
 have PE:=M4.get (fun q=>by omega) (X3.get (X2.get gB))
 have lB4:H4.ld ⟨H.nx,0,none⟩=some (.pointer (some ⟨m,0,none⟩)):=aE PE (by rw [Sx];exact hw) rfl
 have q4:H4.ldn ⟨H1.nx,0,none⟩ 4=some c:=M4.ldn (fun q=>by simp at q;omega) (X3.ldn q)
 have r1:=aE h4.get h4.n0 (k:=1) (v:=.int .i64 v.w) rfl
 have r2:=aE h4.get h4.n0 (k:=2) (v:=v.vv) rfl
 have r7:=aE h4.get h4.n0 (k:=7) (v:=v.vs) rfl
 obtain ⟨sa,sc,uA⟩:=h.st.shape
 have lD:=vz (sz:=1) (z:=[.slice none 0 0]) (H:=H4) (v:=v.vs) (by rw [uA];rfl) (by rw [uA];rfl) rfl
 have XI:aP v.vs=[v.vs]:=by rw [uA];rfl
 rw [XI]at lD
 have X5:=Ext.alloc H4 (.cells 1 [v.vs])
 have g5:=bZ H4 (.cells 1 [v.vs])
 obtain ⟨H5,VV⟩:∃H5,H4.alloc (.cells 1 [v.vs])=H5:=⟨_,rfl⟩
 rw [VV]at lD X5 g5
 have h5:=h4.ext X5
 have x5:=X5.nx
 have oO:=h5.wf
 have vw:=X5.n0
 obtain ⟨R0,Sy⟩:∃R0:Nat→Prop,R0=(fun b=>b=m∨aN v.vt b):=⟨_,rfl⟩
 have KX:∀b,R0 b→G.get b=none:=fun b hb=>h.out b (by subst Sy;rcases hb with q|q;exact .inl q;exact .inr (.inr (.inr (.inr q))))
 have Sz:∀b,R0 b→b<H.nx:=fun b hb=>h.lt (by subst Sy;rcases hb with q|q;exact .inl q;exact .inr (.inr (.inr (.inr q))))
 have SG:=Es h5.sub KX
 have lBG:(part H5 0 R0).ld ⟨H.nx,0,none⟩=some (.pointer (some ⟨m,0,none⟩)):=aE (gW.2 ⟨X5.get PE,Nat.zero_le _,fun q=>by have:=Sz _ q;omega⟩) (by rw [mM,vw,Sx];exact hw) rfl
 have oS:c9 H5 1 (.slice (some ⟨H4.nx,0,none⟩) 1 1) [[v.vs]]:=⟨.inr ⟨H4.nx,rfl,by rw [vw];exact oN,g5⟩,by simp⟩
 have sC:fA (part H5 0 R0) (.slice (some ⟨H4.nx,0,none⟩) 1 1) [store]:=⟨[[v.vs]],(oS.part fun b hb=>⟨Nat.zero_le _,fun q=>by rw [aW]at hb;have:=Sz _ q;omega⟩).rows,.cons ⟨v.vs,rfl,(h5.st.part fun b hb=>⟨Nat.zero_le _,fun q=>by
  subst Sy
  rcases q with rfl|q
  ·exact h.d1.2.1 hb
  ·exact (h.d3 b hb).2 q⟩).ints⟩ .nil⟩
 have hI:Sw m {v with vt:=v.vt,cost:=v.cost+ar e} trace [] R0 H5:=⟨v.vt,Sy,h5.get,h5.n0,by simpa using h5.tr,h.d1.2.2.2⟩
 have IW:KU v.w V [store]:=fun t ht=>by simp at ht;subst ht;exact hS
 have key:=Er hV IW (dA.sub SG hv) fD sC (Nv lBG (by omega)) oO (zy _ _ _) hI (fun b hb=>sn hb) (he.sub SG) hf (by simp;omega)
 have w1:=aj (n:=v.cost+ar e) ⟨by omega,by omega⟩
 rw [uA]at r7 lD
 simp (maxSteps:=4000000)-implicitDefEqProofs+contextual [-X.ev,ww,s4,x3,x30,wU,lV,dn,dn3,ln,ln3,aY,aH,aI,lB4,r1,r2,r7,lD,X5.ldn q4]
 rw [wU]at key
 apply ah
 ·(simp-implicitDefEqProofs [-X.ev];rfl)
 refine (key).mono ?_
 rintro x H6 ⟨rfl,R6,⟨my,abe,g6,h06,o6,hd6⟩,M6,V4⟩
 have x6:=M6.nx
 have Sv:=M6.n0
 simp (maxSteps:=4000000)-implicitDefEqProofs+contextual [-X.ev,aY,aH,aI,x5,vw,x6,Sv]
 subst Sy
 have fresh:∀b,aN my b→aN v.vt b∨H5.nx≤b:=fun b hb=>by
  rcases V4 b (by rw [abe];exact .inr hb)with(q|q)|q
  ·subst q;exact absurd hb hd6
  ·exact .inl q
  ·exact .inr q
 refine ⟨my,h5.tN M6 g6 (by simpa using o6) fresh,?_,fun b hb=>(fresh b hb).imp id (fun q=>by omega)⟩
 exact (((Mod.bE (kg.trans X3)).trans (M4.mono fun x _ hx=>.inl hx)).trans (Mod.bE X5)).trans M6
end Go.Proofs.YtppcmpmnglaleaaGreatDoor.A
