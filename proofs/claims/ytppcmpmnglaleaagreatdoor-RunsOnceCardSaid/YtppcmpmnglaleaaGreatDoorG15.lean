/- Texts that stand one behind the other: AbsR, S24, S25, S26, S27, S28, S29, S30, S31, S32, S33, S34, S35. -/
import Derived.Test.YtppcmpmnglaleaaGreatDoorG14
import Derived.SizedLaws
import Derived.OpenShut
import Derived.ProofKit
import Derived.ChangeOld
import Derived.ShutString
set_option linter.unusedVariables false
set_option linter.unusedSimpArgs false
namespace Go.Proofs.YtppcmpmnglaleaaGreatDoor.A
open Go Go.RowKit Go.WideShapes Go.ChangeShapes
section
variable{T:Type} {enc:TypeId×Value→T} {P:Program} {W:World}
theorem Pw {α:Type} {l:List α} (h:l.length=2):∃a b,l=[a,b]:=by
 match l,h with
 |[a,b],_=>exact ⟨a,b,rfl⟩
theorem Io {α:Type} {l:List α} (h:l.length=3):∃a b c,l=[a,b,c]:=by
 match l,h with
 |[a,b,c],_=>exact ⟨a,b,c,rfl⟩
def Rd (enc:TypeId×Value→T) (P:Program) (W:World) (n:Nat) (t:TypeId) (cs:List Value) (d:DataW T):Prop:=∃ps,DataW.trod enc P W 0 (fun _=>true) true n t cs=some (d,ps)
def wK (P:Program) (t:TypeId) (d:DataW T):Prop:=∀n∈d.weights P t,n≤reachBytes
theorem jV {n:Nat} {t:TypeId} {k:IntKind} {cs:List Value} {d:DataW T} (ht:P.underlying t=some (.int k)) (h:Rd enc P W n t cs d):∃m,cs=[.int k m]∧(Lit.int k m).wf=true:=by
 obtain ⟨ps,h⟩:=h
 obtain ⟨m,h1,_,h2⟩:=DataW.trod_int ht h
 exact ⟨m,h1,h2⟩
theorem wf_i64 {m:Int} (h:(Lit.int .i64 m).wf=true):kK m:=by
 have:=bounds_i64 h
 unfold kK;omega
theorem R3 {n:Nat} {t:TypeId} {cs:List Value} {d:DataW T} (ht:P.underlying t=some .string) (h:Rd enc P W n t cs d) (hw:wK P t d):∃s:ByteArray,cs=[.string s]∧s.size≤reachBytes:=by
 obtain ⟨ps,h⟩:=h
 obtain ⟨s,h1,h2,_⟩:=DataW.trod_string ht h
 cases h2
 have:=hw s.data.toList.length (by simp [DataW.weights])
 exact ⟨s,h1,by simpa using this⟩
theorem Cz {b o:Nat} {v:Value} (h:W.cell? ⟨b,o,none⟩=some v):∃arr ty fz,W.heap[b]?=some (.cells arr ty fz)∧arr[o]?=some v:=by
 unfold World.cell? at h
 dsimp only at h
 split at h
 ·rename_i c e f hc
  simp at h
  exact ⟨c,e,f,hc,h⟩
 ·cases h
theorem MN {b o n:Nat} {cs l:List Value} (hn:0<n) (hl:cs.length=n) (h:∀j,j<n→W.cell? ⟨b,o+j,none⟩=cs[j]?) (hc:aT W.heap.size cs=some l):b<W.heap.size∧(H0 W).ldn ⟨b,o,none⟩ n=some l:=by
 obtain ⟨arr,ty,fz,hb,h0⟩:=Cz (b:=b) (o:=o) (v:=cs[0]'(by omega)) (by have:=h 0 hn;rw [Nat.add_zero]at this;rw [this];exact asl (by omega))
 have c8:=(asz.1 hb).1
 refine ⟨c8,?_⟩
 have hj:∀j,j<n→arr[o+j]?=cs[j]?:=by
  intro j hj
  have:=h j hj
  obtain ⟨arr',_,_,mi,h'⟩:=Cz (v:=cs[j]'(by omega)) (by rw [this];exact asl (by omega))
  rw [hb]at mi
  cases mi
  rw [h',asl (by omega)]
 have hlen:o+n≤arr.toList.length:=by
  have:=hj (n- 1) (by omega)
  rw [asl (by omega)]at this
  have:=(asz.1 this).1
  rw [Array.length_toList]
  omega
 have XG:(arr.toList.drop o).take n=cs:=by
  apply List.ext_getElem?
  intro j
  by_cases FJ:j<n
  ·rw [List.getElem?_take,if_pos FJ,List.getElem?_drop,Array.getElem?_toList,hj j FJ]
  ·rw [List.getElem?_take,if_neg FJ,List.getElem?_eq_none (by omega)]
 have hg:(H0 W).get b=some (.cells 1048576 arr.toList):=by
  rw [AH.fv c8,As]
  unfold vd
  rw [hb]
 unfold AH.ldn
 dsimp only
 rw [hg]
 simp only [hlen,decide_true,cond_true,XG]
 rw [show decide (b<(H0 W).n0)=true from decide_eq_true c8,cond_true]
 exact hc
inductive fN {α β:Type} (C:α→β→Prop):List α→List β→Prop where
 |nil:fN C [] []
 |cons {a:α} {b:β} {l:List α} {m:List β}:C a b→fN C l m→fN C (a::l) (b::m)
theorem fN.length {α β:Type} {C:α→β→Prop}:∀{l:List α} {m:List β},fN C l m→l.length=m.length
 |_,_,.nil=>rfl
 |_,_,.cons _ h=>by simp [fN.length h]
theorem MO {α β:Type} {C:α→β→Prop} {l:List α}:(∀(i:Nat) (a:α),l[i]?=some a→∃b,C a b)→∃m,fN C l m:=by
 induction l with
 |nil=>exact fun _=>⟨[],.nil⟩
 |cons a l ih=>
  intro h
  obtain ⟨b,hb⟩:=h 0 a rfl
  obtain ⟨m,hm⟩:=ih fun i x hx=>h (i+1) x (by simpa using hx)
  exact ⟨b::m,.cons hb hm⟩
theorem CA {α:Type} {p:Nat→α→Prop}:∀n,(∀i,i<n→∃x,p i x)→∃l:List α,l.length=n∧∀i x,l[i]?=some x→p i x
 |0,_=>⟨[],rfl,by simp⟩
 |n+1,h=>by
  obtain ⟨l,hl,hp⟩:=CA n fun i hi=>h i (by omega)
  obtain ⟨x,hx⟩:=h n (by omega)
  refine ⟨l++[x],by simp [hl],fun i y hy=>?_⟩
  by_cases hi:i<n
  ·rw [asy (by omega)]at hy;exact hp i y hy
  ·rw [List.getElem?_append_right (by omega)]at hy
   have:i=n:=by
    have:=(asr.1 hy).1
    simp at this;omega
   subst this
   simp [hl]at hy
   subst hy;exact hx
theorem MP {α:Type} {C:List Value→α→Prop} {t e:TypeId} {fuel:Nat} {cs:List Value} {d:DataW T} (ht:P.underlying t=some (.slice e)) (U8:0<P.cellsOf e) (hbe:0<P.bytesOf e)
 (h:Rd enc P W fuel t cs d) (hw:wK P t d) (rd:∀m dF d',m<fuel→Rd enc P W m e dF d'→wK P e d'→∃l y,aT W.heap.size dF=some l∧C l y):
 ∃v rows ys,aT W.heap.size cs=some [v]∧Rows (H0 W) (P.cellsOf e) v rows∧fN C rows ys∧rows.length*P.bytesOf e≤reachBytes:=by
 obtain ⟨ps,h⟩:=h
 rcases DataW.trod_slice ht h with⟨rfl,_⟩|⟨a,len,cap,elems,rest,n,hf,rfl,hx,_,hlc,_,hlen,hel,_,_⟩
 ·exact ⟨_,[],[],rfl,⟨_,_,rfl,by simp⟩,.nil,by simp⟩
 cases hx
 have V1:∀m∈((elems.map (·.1)).length+(rest.map (·.1)).length)*P.bytesOf e::(DataW.weightsAll P e (elems.map (·.1))++DataW.weightsAll P e (rest.map (·.1))),m≤reachBytes:=by
  intro m hm
  refine hw m ?_
  simp only [DataW.weights,ht]
  exact hm
 have R7:len*P.bytesOf e≤reachBytes:=by
  have:=V1 _ (List.mem_cons_self ..)
  rw [List.length_map,hlen]at this
  exact Nat.le_trans (Nat.mul_le_mul_right _ (by omega)) this
 have aG:∀(l:List (DataW T)) (x:DataW T),x∈l→∀m∈x.weights P e,m∈DataW.weightsAll P e l:=by
  intro l
  induction l with
  |nil=>intro x hx;cases hx
  |cons y l ih=>
   intro x hx m hm
   simp only [DataW.weightsAll,List.mem_append]
   rcases List.mem_cons.1 hx with rfl|hx
   ·exact .inl hm
   ·exact .inr (ih x hx m hm)
 by_cases h0:len=0
 ·subst h0
  cases hs:(decide (a.block<W.heap.size)&&a.spot.isNone)with
  |true=>exact ⟨.slice (some a) 0 cap,[],[],by simp only [aT,bo,hs,cond_true],⟨_,_,rfl,by simp⟩,.nil,by simp⟩
  |false=>exact ⟨.slice (some ⟨0,0,some 1⟩) 0 0,[],[],by simp [aT,bo,hs],⟨_,_,rfl,by simp⟩,.nil,by simp⟩
 obtain ⟨b,o,spot⟩:=a
 have key:∀i,i<len→∃dF d',(∃m,m<fuel∧Rd enc P W m e dF d')∧wK P e d'∧W.cells? 0 ((⟨b,o,spot⟩:Addr).add (i*P.cellsOf e)) (P.cellsOf e)=some dF:=by
  intro i hi
  have:=hel i hi
  rw [asl (by omega)]at this
  obtain ⟨dF,h1,h2⟩:=asw.1 this
  refine ⟨dF,(elems[i]'(by omega)).1,⟨n,by omega,⟨_,h2⟩⟩,fun m hm=>?_,h1⟩
  refine V1 m (List.mem_cons_of_mem _ (List.mem_append_left _ (aG _ _ ?_ m hm)))
  exact List.mem_map_of_mem (List.getElem_mem _)
 have XH:spot=none∧b<W.heap.size:=by
  obtain ⟨dF,d',_,_,hc⟩:=key 0 (by omega)
  obtain ⟨_,hl,hj⟩:=World.cells?_some hc
  have:=hj 0 U8
  rw [asl (by omega)]at this
  simp only [Nat.zero_mul,Addr.add,if_true]at this
  unfold World.cell? at this
  dsimp only at this
  split at this
  ·rename_i c ty fz uO
   cases spot with
   |none=>exact ⟨rfl,(asz.1 uO).1⟩
   |some x=>simp at this
  ·cases this
 obtain ⟨rfl,hb⟩:=XH
 have XI:∀o k,(⟨b,o,none⟩:Addr).add k=⟨b,o+k,none⟩:=by
  intro o k
  unfold Addr.add
  split
  ·rename_i hk;subst hk;rfl
  ·rfl
 obtain ⟨rows,wz,ig⟩:=CA (p:=fun i (r:List Value)=>(∃y,C r y)∧(H0 W).ldn ⟨b,o+i*P.cellsOf e,none⟩ (P.cellsOf e)=some r) len (fun i hi=>by
  obtain ⟨dF,d',⟨m,hm,hr⟩,zT,hc⟩:=key i hi
  obtain ⟨l,y,h1,h2⟩:=rd m dF d' hm hr zT
  obtain ⟨_,hl,hj⟩:=World.cells?_some hc
  refine ⟨l,⟨y,h2⟩,(MN U8 hl (fun j hjj=>?_) h1).2⟩
  have:=hj j hjj
  rw [XI,XI]at this
  exact this)
 obtain ⟨ys,zM⟩:=MO (l:=rows) (C:=C) fun i r hr=>(ig i r hr).1
 refine ⟨.slice (some ⟨b,o,none⟩) len cap,rows,ys,?_,⟨_,_,by rw [wz],fun i r hi=>⟨b,o,rfl,(ig i r hi).2⟩⟩,zM,by rw [wz];exact R7⟩
 simp [aT,bo,hb]
theorem nr {t:TypeId} {fs:Array Field} {fuel:Nat} {cs:List Value} {d:DataW T} (ht:P.underlying t=some (.struct fs)) (h:Rd enc P W fuel t cs d) (hw:wK P t d):
 cs.length=P.cellsOf t∧∃m,m<fuel∧∀(i:Nat) (f:Field),fs[i]?=some f→∃di,Rd enc P W m f.type ((cs.drop f.offset).take (P.cellsOf f.type)) di∧wK P f.type di:=by
 obtain ⟨ps,h⟩:=h
 obtain ⟨xs,n,hf,hx,hl,Px,EI⟩:=DataW.trod_struct ht h
 cases hx
 refine ⟨hl,n,by omega,fun i f hi=>?_⟩
 have c8:=(asz.1 hi).1
 have:=EI i f hi
 rw [asl (by omega)]at this
 refine ⟨_,⟨_,this⟩,fun m hm=>hw m ?_⟩
 simp only [DataW.weights,ht]
 exact DataW.weights_mem_each (j:=i) (t:=f.type) (d:=(xs[i]'(by omega)).1) (by simp [hi]) (by simp [asl (show i<xs.length by omega)]) m hm
theorem eO {n0:Nat} {k:IntKind} {m:Int} {cs l:List Value} (h:aT n0 cs=some l):aT n0 (.int k m::cs)=some (.int k m::l):=by simp [aT,bo,flat,h]
theorem AP {n0:Nat} {s:ByteArray} {cs l:List Value} (h:aT n0 cs=some l):aT n0 (.string s::cs)=some (.string s::l):=by simp [aT,bo,flat,h]
theorem mF {n0:Nat} {c v:Value} {cs l:List Value} (h1:aT n0 [c]=some [v]) (h:aT n0 cs=some l):aT n0 (c::cs)=some (v::l):=by
 simp only [aT]at h1⊢
 split at h1
 ·rename_i x m h2 h3
  simp only [asm]at h3
  subst h3
  simp only [asm,List.cons.injEq,and_true]at h1
  subst h1
  simp [h2,h]
 ·cases h1
theorem CB {c:Array Value} {l:List Value} (h:aT W.heap.size c.toList=some l):V (tf W) (.agg l.toArray) (.agg c):=by
 obtain ⟨h1,h2⟩:=px (QT W) (l:=c.toList) (m:=l) h
 exact .agg (by simpa using h1) (by simpa using h2)
end
end Go.Proofs.YtppcmpmnglaleaaGreatDoor.A
namespace Go.Proofs.YtppcmpmnglaleaaGreatDoor.A
open Go
section
variable{T:Type} {enc:TypeId×Value→T} {W:World}
theorem EJ {n k:Nat} (h:n*k≤reachBytes) (hk:0<k):n<2^60:=by
 have h1:n*1≤n*k:=Nat.mul_le_mul_left _ hk
 have:reachBytes<2^47:=reachBytes_lt
 omega
theorem cE:Tryz.prog.cellsOf 117=4:=by kernel_rfl
theorem cS:Tryz.prog.cellsOf 114=5:=by kernel_rfl
theorem cV:Tryz.prog.cellsOf 108=3:=by kernel_rfl
theorem cP:Tryz.prog.cellsOf 25=3:=by kernel_rfl
theorem cT:Tryz.prog.cellsOf 56=2:=by kernel_rfl
theorem cI:Tryz.prog.cellsOf 3=1:=by kernel_rfl
theorem cZ:Tryz.prog.cellsOf 9=1:=by kernel_rfl
theorem cEs:Tryz.prog.cellsOf 112=1:=by kernel_rfl
theorem cSs:Tryz.prog.cellsOf 23=1:=by kernel_rfl
theorem cVs:Tryz.prog.cellsOf 22=1:=by kernel_rfl
theorem cIs:Tryz.prog.cellsOf 26=1:=by kernel_rfl
theorem XJ {α:Type} {l:List α} (h:l.length=4):∃a b c d,l=[a,b,c,d]:=by
 match l,h with
 |[a,b,c,d],_=>exact ⟨a,b,c,d,rfl⟩
theorem XL {α:Type} {l:List α} (h:l.length=5):∃a b c d e,l=[a,b,c,d,e]:=by
 match l,h with
 |[a,b,c,d,e],_=>exact ⟨a,b,c,d,e,rfl⟩
theorem R8 (n:Nat) (cs:List Value) (d:DataW T) (h:Rd enc Tryz.prog W n 108 cs d) (hw:wK Tryz.prog 108 d):∃l y,aT W.heap.size cs=some l∧(l=Vr.row y∧y.name.size<2^60):=by
 obtain ⟨hl,m,hm,hf⟩:=nr Tryz.underlying108 h hw
 rw [cV]at hl
 obtain ⟨c0,c1,c2,rfl⟩:=Io hl
 obtain ⟨d0,h0,w0⟩:=hf 0 _ rfl
 obtain ⟨d1,h1,w1⟩:=hf 1 _ rfl
 obtain ⟨d2,h2,w2⟩:=hf 2 _ rfl
 simp only [List.getElem_toArray,List.getElem_cons_zero,List.getElem_cons_succ]at h0 h1 h2 w0 w1 w2
 rw [cZ]at h0
 rw [cI]at h1 h2
 obtain ⟨s,e0,b0⟩:=R3 Tryz.underlying9 h0 w0
 obtain ⟨a,e1,b1⟩:=jV Tryz.underlying3 h1
 obtain ⟨b,e2,b2⟩:=jV Tryz.underlying3 h2
 simp at e0 e1 e2
 subst e0;subst e1;subst e2
 have:reachBytes<2^47:=reachBytes_lt
 exact ⟨_,⟨s,a,b⟩,AP (eO (eO rfl)),rfl,by show s.size<2^60;omega⟩
end
end Go.Proofs.YtppcmpmnglaleaaGreatDoor.A
namespace Go.Proofs.YtppcmpmnglaleaaGreatDoor.A
open Go
theorem iB {a b:Int} (ha:0≤a):cx .rem (.int .i64 a) (.int .i64 b)=if b=0 then none else some (.int .i64 (a%b)):=by
 by_cases h:b=0
 ·simp [cx,dt,ju,h]
 ·simp [cx,dt,ju,h]
  rw [Int.tmod_eq_emod_of_nonneg ha]
theorem wL {a b:Int} (ha:0≤a) (hi:a≤2^62) (hb:0<b):cx .quo (.int .i64 a) (.int .i64 b)=some (.int .i64 (a/b)):=by
 have h0:¬ b=0:=by omega
 have h1:0≤a/b:=Int.ediv_nonneg ha (by omega)
 have h2:a/b≤a:=Int.ediv_le_self _ ha
 simp only [cx,dt,ju,h0,if_true,if_false]
 rw [Int.tdiv_eq_ediv_of_nonneg ha,ai ⟨by omega,by omega⟩]
theorem lO (a:Nat) (h:a<2^62):(BitVec.ofInt 64 (a:Int)).toNat=a:=by
 rw [BitVec.toNat_ofInt]
 have:((a:Int)%((2^64:Nat):Int))=a:=Int.emod_eq_of_lt (by omega) (by omega)
 rw [this];rfl
theorem MQ {a b:Nat} (ha:a<2^62) (hb:b<2^62):cx .and (.int .i64 a) (.int .i64 b)=some (.int .i64 ((a&&&b:Nat):Int)):=by
 have:(BitVec.ofInt IntKind.i64.bits (a:Int)&&&BitVec.ofInt IntKind.i64.bits (b:Int)).toNat=a&&&b:=by
  show(BitVec.ofInt 64 (a:Int)&&&BitVec.ofInt 64 (b:Int)).toNat=a&&&b
  rw [BitVec.toNat_and,lO a ha,lO b hb]
 have h2:a&&&b≤a:=Nat.and_le_left
 simp only [cx,dt,ju,if_true,this]
 rw [ai ⟨by omega,by omega⟩]
theorem R9 {a b:Nat} (ha:a<2^62) (hb:b<2^62):cx .or (.int .i64 a) (.int .i64 b)=some (.int .i64 ((a|||b:Nat):Int)):=by
 have:(BitVec.ofInt IntKind.i64.bits (a:Int)|||BitVec.ofInt IntKind.i64.bits (b:Int)).toNat=a|||b:=by
  show(BitVec.ofInt 64 (a:Int)|||BitVec.ofInt 64 (b:Int)).toNat=a|||b
  rw [BitVec.toNat_or,lO a ha,lO b hb]
 have h2:a|||b<2^62:=Nat.or_lt_two_pow ha hb
 simp only [cx,dt,ju,if_true,this]
 rw [ai ⟨by omega,by omega⟩]
theorem MR {a b:Nat} (ha:a<2^62) (hb:b<2^62):cx .xor (.int .i64 a) (.int .i64 b)=some (.int .i64 ((a^^^b:Nat):Int)):=by
 have:(BitVec.ofInt IntKind.i64.bits (a:Int)^^^BitVec.ofInt IntKind.i64.bits (b:Int)).toNat=a^^^b:=by
  show(BitVec.ofInt 64 (a:Int)^^^BitVec.ofInt 64 (b:Int)).toNat=a^^^b
  rw [BitVec.toNat_xor,lO a ha,lO b hb]
 have h2:a^^^b<2^62:=Nat.xor_lt_two_pow ha hb
 simp only [cx,dt,ju,if_true,this]
 rw [ai ⟨by omega,by omega⟩]
theorem CC {x:Int} {w:Nat} (hw:w≤62):cx .and (.int .i64 x) (.int .i64 (2^w- 1))=some (.int .i64 (x%2^w)):=by
 have hp:0<2^w:=Nat.two_pow_pos w
 have hle:2^w≤2^62:=Nat.pow_le_pow_right (by omega) hw
 have e1:((2:Int)^w- 1)=((2^w- 1:Nat):Int):=by
  rw [Int.natCast_sub hp];simp
 have e2:(BitVec.ofInt IntKind.i64.bits x&&&BitVec.ofInt IntKind.i64.bits ((2^w- 1:Nat):Int)).toNat=(BitVec.ofInt 64 x).toNat%2^w:=by
  show(BitVec.ofInt 64 x&&&BitVec.ofInt 64 ((2^w- 1:Nat):Int)).toNat=(BitVec.ofInt 64 x).toNat%2^w
  rw [BitVec.toNat_and,lO _ (by omega),Nat.and_two_pow_sub_one_eq_mod]
 have e3:(((BitVec.ofInt 64 x).toNat%2^w:Nat):Int)=x%2^w:=by
  rw [BitVec.toNat_ofInt,Int.natCast_emod,Int.toNat_of_nonneg (Int.emod_nonneg _ (by omega))]
  have agE:((2^w:Nat):Int)∣((2^64:Nat):Int):=Int.natCast_dvd_natCast.2 (Nat.pow_dvd_pow 2 (by omega))
  rw [Int.emod_emod_of_dvd _ agE]
  simp
 rw [e1]
 simp only [cx,dt,ju,if_true,e2,e3]
 have h1:0≤x%2^w:=Int.emod_nonneg _ (by have:(0:Int)<2^w:=by exact_mod_cast hp
                                        omega)
 have h2:x%(2:Int)^w<2^w:=Int.emod_lt_of_pos _ (by exact_mod_cast hp)
 have h3:(2:Int)^w≤2^62:=by exact_mod_cast hle
 rw [ai ⟨by omega,by omega⟩]
theorem AQ {a w:Nat} (hw:w≤62) (ha:a<2^w):cx .andNot (.int .i64 (2^w- 1)) (.int .i64 a)=some (.int .i64 (2^w- 1- a)):=by
 have hp:0<2^w:=Nat.two_pow_pos w
 have hle:2^w≤2^62:=Nat.pow_le_pow_right (by omega) hw
 have e1:((2:Int)^w- 1)=((2^w- 1:Nat):Int):=by
  rw [Int.natCast_sub hp];simp
 rw [e1]
 have e2:(BitVec.ofInt IntKind.i64.bits ((2^w- 1:Nat):Int)&&&~~~BitVec.ofInt IntKind.i64.bits (a:Int)).toNat=2^w- 1- a:=by
  show(BitVec.ofInt 64 ((2^w- 1:Nat):Int)&&&~~~BitVec.ofInt 64 (a:Int)).toNat=2^w- 1- a
  rw [BitVec.toNat_and,BitVec.toNat_not,lO _ (by omega),lO a (by omega)]
  have e:2^64- 1- a=2^64- (a+1):=by omega
  rw [e]
  apply Nat.eq_of_testBit_eq
  intro i
  rw [Nat.testBit_and,Nat.testBit_two_pow_sub_one,Nat.testBit_two_pow_sub_succ (by omega),show 2^w- 1- a=2^w- (a+1) by omega,Nat.testBit_two_pow_sub_succ ha]
  by_cases h:i<w
  ·simp [h,show i<64 by omega]
  ·simp [h]
 simp only [cx,dt,ju,if_true,e2]
 rw [ai ⟨by omega,by omega⟩,Int.natCast_sub (by omega)]
def iO (op w a b:Int):Int:=
 if op=2 then(a+b)%2^w.toNat else if op=3 then(a+2^w.toNat- b)%2^w.toNat else if op=4 then a*b%2^w.toNat
 else if op=5 then(if b=0 then 2^w.toNat- 1 else a/b)else if op=6 then(if b=0 then a else a%b)
 else if op=7 then((a.toNat&&&b.toNat:Nat):Int)else if op=8 then((a.toNat|||b.toNat:Nat):Int)else if op=9 then((a.toNat^^^b.toNat:Nat):Int)
 else if op=10 then(if w≤b then 0 else a*2^b.toNat%2^w.toNat)else if op=11 then(if w≤b then 0 else a/2^b.toNat)
 else if op=13 then(if a=b then 1 else 0)else(if a<b then 1 else 0)
def oi (op x y:Int):Int:=if op=7 then x*y else if op=8 then x+y- x*y else(x+y)%2
def pP (op a b:Int):Nat→Int
 |0=>0
 |k+1=>pP op a b k+oi op (a/2^k%2) (b/2^k%2)*2^k
theorem yJ (a k:Nat):((a:Int)/2^k%2)=((a.testBit k).toNat:Int):=by
 rw [Nat.testBit_eq_decide_div_mod_eq]
 have e:((a:Int)/2^k%2)=((a/2^k%2:Nat):Int):=by simp
 rw [e]
 have:a/2^k%2<2:=Nat.mod_lt _ (by omega)
 by_cases h:a/2^k%2=1
 ·simp [h]
 ·have:a/2^k%2=0:=by omega
  simp [this]
theorem nu (op:Int) (f:Bool→Bool→Bool) (g:Nat→Nat→Nat) (hg:∀a b i,(g a b).testBit i=f (a.testBit i) (b.testBit i)) (hf:∀x y:Bool,oi op (x.toNat:Int) (y.toNat:Int)=((f x y).toNat:Int)) (a b:Nat):
 ∀k,pP op a b k=((g a b%2^k:Nat):Int)
 |0=>by simp [pP,Nat.mod_one]
 |k+1=>by
  rw [pP,nu op f g hg hf a b k,yJ,yJ,hf,←hg,Nat.mod_pow_succ,Nat.toNat_testBit]
  push_cast
  rw [Int.mul_comm]
theorem Ip {op w:Int} {a b:Nat} (hw:1≤w∧w≤8) (ha:a<2^w.toNat) (hb:b<2^w.toNat) (ho:op=7∨op=8∨op=9):pP op a b w.toNat=iO op w a b:=by
 rcases ho with rfl|rfl|rfl
 ·rw [nu 7 (fun x y=>x&&y) (fun a b=>a&&&b) (fun a b i=>Nat.testBit_and a b i) (by intro x y;cases x<;>cases y<;>rfl)]
  rw [Nat.mod_eq_of_lt (Nat.lt_of_le_of_lt Nat.and_le_left ha)];simp [iO]
 ·rw [nu 8 (fun x y=>x||y) (fun a b=>a|||b) (fun a b i=>Nat.testBit_or a b i) (by intro x y;cases x<;>cases y<;>rfl)]
  rw [Nat.mod_eq_of_lt (Nat.or_lt_two_pow ha hb)];simp [iO]
 ·rw [nu 9 (fun x y=>x^^y) (fun a b=>a^^^b) (fun a b i=>Nat.testBit_xor a b i) (by intro x y;cases x<;>cases y<;>rfl)]
  rw [Nat.mod_eq_of_lt (Nat.xor_lt_two_pow ha hb)];simp [iO]
theorem fJ {w:Int} (hw:1≤w∧w≤8):2≤(2:Int)^w.toNat∧(2:Int)^w.toNat≤256:=by
 obtain ⟨n,rfl⟩:∃n:Nat,w=n:=⟨w.toNat,by omega⟩
 have:n=1∨n=2∨n=3∨n=4∨n=5∨n=6∨n=7∨n=8:=by omega
 rcases this with rfl|rfl|rfl|rfl|rfl|rfl|rfl|rfl<;>exact ⟨by decide,by decide⟩
theorem tG {a b M:Int} (ha:0≤a∧a<M) (hb:0≤b∧b<M):0≤a*b∧a*b≤M*M:=by
 refine ⟨Int.mul_nonneg ha.1 hb.1,Int.mul_le_mul (by omega) (by omega) hb.1 (by omega)⟩
theorem yK {op w a b:Int} (hw:1≤w∧w≤8) (ha:0≤a∧a<2^w.toNat) (hb:0≤b∧b<2^w.toNat):0≤iO op w a b∧iO op w a b<2^w.toNat:=by
 have hp:=fJ hw
 have hm:∀x:Int,0≤x%2^w.toNat∧x%2^w.toNat<2^w.toNat:=fun x=>⟨Int.emod_nonneg _ (by omega),Int.emod_lt_of_pos _ (by omega)⟩
 have nU:(2:Int)^w.toNat=((2^w.toNat:Nat):Int):=by simp
 have an:a.toNat<2^w.toNat:=by have:=ha.2;rw [nU]at this;omega
 have bn:b.toNat<2^w.toNat:=by have:=hb.2;rw [nU]at this;omega
 have hd:b=0∨¬ b=0:=by omega
 have h13:∀c:Prop,∀_:Decidable c,0≤(if c then(1:Int)else 0)∧(if c then(1:Int)else 0)<2^w.toNat:=fun c _=>by
  by_cases h:c
  ·rw [if_pos h];omega
  ·rw [if_neg h];omega
 by_cases o2:op=2
 ·rw [iO,if_pos o2];exact hm _
 by_cases o3:op=3
 ·rw [iO,if_neg o2,if_pos o3];exact hm _
 by_cases o4:op=4
 ·rw [iO,if_neg o2,if_neg o3,if_pos o4];exact hm _
 by_cases o5:op=5
 ·rw [iO,if_neg o2,if_neg o3,if_neg o4,if_pos o5]
  by_cases yF:b=0
  ·rw [if_pos yF];omega
  ·rw [if_neg yF];exact ⟨Int.ediv_nonneg ha.1 hb.1,Int.lt_of_le_of_lt (Int.ediv_le_self _ ha.1) ha.2⟩
 by_cases o6:op=6
 ·rw [iO,if_neg o2,if_neg o3,if_neg o4,if_neg o5,if_pos o6]
  by_cases yF:b=0
  ·rw [if_pos yF];exact ha
  ·rw [if_neg yF];exact ⟨Int.emod_nonneg _ (by omega),Int.lt_of_lt_of_le (Int.emod_lt_of_pos _ (by omega)) (by omega)⟩
 by_cases o7:op=7
 ·rw [iO,if_neg o2,if_neg o3,if_neg o4,if_neg o5,if_neg o6,if_pos o7,nU];exact ⟨by omega,Int.ofNat_lt.2 (Nat.lt_of_le_of_lt Nat.and_le_left an)⟩
 by_cases o8:op=8
 ·rw [iO,if_neg o2,if_neg o3,if_neg o4,if_neg o5,if_neg o6,if_neg o7,if_pos o8,nU];exact ⟨by omega,Int.ofNat_lt.2 (Nat.or_lt_two_pow an bn)⟩
 by_cases o9:op=9
 ·rw [iO,if_neg o2,if_neg o3,if_neg o4,if_neg o5,if_neg o6,if_neg o7,if_neg o8,if_pos o9,nU];exact ⟨by omega,Int.ofNat_lt.2 (Nat.xor_lt_two_pow an bn)⟩
 by_cases FR:op=10
 ·rw [iO,if_neg o2,if_neg o3,if_neg o4,if_neg o5,if_neg o6,if_neg o7,if_neg o8,if_neg o9,if_pos FR]
  by_cases yF:w≤b
  ·rw [if_pos yF];omega
  ·rw [if_neg yF];exact hm _
 by_cases CD:op=11
 ·rw [iO,if_neg o2,if_neg o3,if_neg o4,if_neg o5,if_neg o6,if_neg o7,if_neg o8,if_neg o9,if_neg FR,if_pos CD]
  by_cases yF:w≤b
  ·rw [if_pos yF];omega
  ·rw [if_neg yF]
   have:(0:Int)≤2^b.toNat:=by have:=two_pow_pos b.toNat;omega
   exact ⟨Int.ediv_nonneg ha.1 this,Int.lt_of_le_of_lt (Int.ediv_le_self _ ha.1) ha.2⟩
 by_cases KO:op=13
 ·rw [iO,if_neg o2,if_neg o3,if_neg o4,if_neg o5,if_neg o6,if_neg o7,if_neg o8,if_neg o9,if_neg FR,if_neg CD,if_pos KO];exact h13 _ _
 ·rw [iO,if_neg o2,if_neg o3,if_neg o4,if_neg o5,if_neg o6,if_neg o7,if_neg o8,if_neg o9,if_neg FR,if_neg CD,if_neg KO];exact h13 _ _
set_option maxRecDepth 10000
open Go
theorem iP {n:Int} (hn:0≤n∧n≤60) (H:AH):Ca E O 81 [.int .i64 n] H (fun x H'=>x= .int .i64 (2^n.toNat)∧H'=H):=by
 have:=Ax n.toNat (by omega) H
 rwa [show((n.toNat:Nat):Int)=n by omega]at this
theorem CE {w:Int} (hw:1≤w∧w≤8) (H:AH):Ca E O 75 [.int .i64 w] H (fun x H'=>x= .int .i64 (2^w.toNat- 1)∧H'=H):=by
 refine Ca.aS (F:=a75) rfl rfl rfl ?_
 have hp:=fJ hw
 simp (maxSteps:=4000000)-implicitDefEqProofs+contextual [-X.ev,a75]
 apply ah
 ·(simp-implicitDefEqProofs [-X.ev];rfl)
 refine (iP (by omega) H).mono ?_
 rintro x H' ⟨rfl,rfl⟩
 simp (maxSteps:=4000000)-implicitDefEqProofs+contextual [-X.ev,ai (n:=2^w.toNat- 1) ⟨by omega,by omega⟩]
theorem Sa {a i:Int} (ha:0≤a∧a≤2^40) (hi:0≤i∧i≤60) (H:AH):Ca E O 119 [.int .i64 a,.int .i64 i] H (fun x H'=>x= .int .i64 (a/2^i.toNat%2)∧H'=H):=by
 refine Ca.aS (F:=a119) rfl rfl rfl ?_
 have hp:=two_pow_pos i.toNat
 have h1:0≤a/2^i.toNat:=Int.ediv_nonneg ha.1 (by omega)
 simp (maxSteps:=4000000)-implicitDefEqProofs+contextual [-X.ev,a119]
 apply ah
 ·(simp-implicitDefEqProofs [-X.ev];rfl)
 refine (iP hi H).mono ?_
 rintro x H' ⟨rfl,rfl⟩
 simp (maxSteps:=4000000)-implicitDefEqProofs+contextual [-X.ev,wL ha.1 (by omega) (show(0:Int)<2^i.toNat by omega),iB h1]
theorem CF {a:Int} {i:Nat} (ha:0≤a∧a≤2^40) (hi:i≤60) (H:AH):Ca E O 119 [.int .i64 a,.int .i64 i] H (fun x H'=>x= .int .i64 (a/2^i%2)∧H'=H):=by
 have:=Sa (i:=i) ha (by omega) H
 rwa [Int.toNat_natCast]at this
theorem MS {op x y:Int} (hx:0≤x∧x≤1) (hy:0≤y∧y≤1) (H:AH):Ca E O 164 [.int .i64 op,.int .i64 x,.int .i64 y] H (fun v H'=>v= .int .i64 (oi op x y)∧H'=H):=by
 refine Ca.aS (F:=a164) rfl rfl rfl ?_
 obtain ⟨m0,m1⟩:=tG (M:=2) ⟨hx.1,by omega⟩ ⟨hy.1,by omega⟩
 have w1:IntKind.i64.wrap (x*y)=x*y:=ai ⟨by omega,by omega⟩
 have w2:IntKind.i64.wrap (x+y)=x+y:=ai ⟨by omega,by omega⟩
 have w3:IntKind.i64.wrap (x+y- x*y)=x+y- x*y:=ai ⟨by omega,by omega⟩
 simp (maxSteps:=4000000)-implicitDefEqProofs+contextual [-X.ev,a164,w1,w2,w3,iB (show 0≤x+y by omega),oi]
theorem EK {op x y:Int} (hx:0≤x∧x≤1) (hy:0≤y∧y≤1):0≤oi op x y∧oi op x y≤1:=by
 have Us:x=0∨x=1:=by omega
 have XM:y=0∨y=1:=by omega
 unfold oi
 rcases Us with rfl|rfl<;>rcases XM with rfl|rfl<;>(repeat' split)<;>simp
def AR (l:List Int):Nat→Int
 |0=>0
 |k+1=>AR l k+(l[k]?).getD 0*2^k
theorem AS {l:List Int} (h:∀x∈l,0≤x∧x≤1):∀k,0≤AR l k∧AR l k<2^k
 |0=>by simp [AR]
 |k+1=>by
  have ih:=AS h k
  have hp:=two_pow_pos k
  rw [AR,Int.pow_succ]
  cases e:l[k]? with
  |none=>simp;omega
  |some x=>
   have:=h x (asq e)
   have hx:x=0∨x=1:=by omega
   rcases hx with rfl|rfl<;>simp<;>omega
theorem Sb {v:Value} {l:List Int} {H:AH} (hl:eM H v l) (h8:l.length≤8) (hb:∀x∈l,0≤x∧x≤1):Ca E O 165 [v] H (fun x H'=>x= .int .i64 (AR l l.length)∧H'=H):=by
 refine Ca.aS (F:=LR) rfl rfl rfl ?_
 obtain ⟨a,c,hv⟩:=hl.len
 simp (maxSteps:=4000000)-implicitDefEqProofs+contextual [-X.ev,LR]
 refine ch (fun k fr H'=>H'=H∧∃i:Nat,i+k=l.length∧fr.get 0=v∧fr.get 3= .int .i64 (AR l i)∧fr.get 4= .int .i64 i) ?_ l.length ⟨rfl,0,by simp,by simp,by simp [AR],by simp⟩
 rintro k fr H' ⟨rfl,i,hi,f0,f3,f4⟩
 by_cases h:i<l.length
 ·obtain ⟨n,hn⟩:∃n,l[i]?=some n:=⟨_,asl h⟩
  obtain ⟨b,o,c',cA,eh⟩:=hl.at hn
  have Iq:=bg.1 eh
  rw [cA]at f0
  have CG:=hb n (asq hn)
  have t1:=AS hb i
  have t2:=AS hb (i+1)
  have t3:=two_pow_pos i
  have t4:=ti (n:=i+1) (by omega)
  have t5:(2:Int)^(i+1)=2^i*2:=Int.pow_succ _ _
  have e:AR l (i+1)=AR l i+n*2^i:=by rw [AR,hn];rfl
  simp (maxSteps:=4000000)-implicitDefEqProofs+contextual [-X.ev,f0,f3,f4,h,eh]
  have hp:=iP (n:=i) (by omega) H'
  apply ah
  ·(simp-implicitDefEqProofs [-X.ev];rfl)
  refine (hp).mono ?_
  rintro x H' ⟨rfl,rfl⟩
  have m0:0≤n*2^i∧n*2^i≤2^i:=by
   have hx:n=0∨n=1:=by omega
   rcases hx with rfl|rfl<;>simp<;>omega
  have w1:IntKind.i64.wrap (n*2^i)=n*2^i:=ai ⟨by omega,by omega⟩
  have w2:IntKind.i64.wrap (AR l i+n*2^i)=AR l i+n*2^i:=ai ⟨by omega,by omega⟩
  have w3:IntKind.i64.wrap ((i:Int)+1)=i+1:=ai ⟨by omega,by omega⟩
  simp (maxSteps:=4000000)-implicitDefEqProofs+contextual [-X.ev,f0,f3,f4,w1,w2,w3,bm,aJ,aK,Iq]
  exact ⟨k- 1,by omega,i+1,by omega,cA.symm,e.symm,by simp⟩
 ·rw [hv]at f0
  simp (maxSteps:=4000000)-implicitDefEqProofs+contextual [-X.ev,f0,f3,f4,h]
  rw [show i=l.length by omega]
theorem Py (a:Int) (k:Nat):0≤a/2^k%2∧a/2^k%2≤1:=by
 have:=Int.emod_nonneg (a/2^k) (show(2:Int)≠0 by omega)
 have:=Int.emod_lt_of_pos (a/2^k) (show(0:Int)<2 by omega)
 omega
theorem wM {op w a b:Int} {H:AH} (hw:H.n0≤H.nx) (eB:1≤w∧w≤8) (ha:0≤a∧a≤2^40) (hb:0≤b∧b≤2^40):Ca E O 151 [.int .i64 op,.int .i64 w,.int .i64 a,.int .i64 b] H (fun x H'=>x= .int .i64 (pP op a b w.toNat)∧Ext H H'):=by
 refine Ca.aS (F:=LO) rfl rfl rfl ?_
 simp (maxSteps:=4000000)-implicitDefEqProofs+contextual [-X.ev,LO]
 have agF:∀(l:List Int) (k:Nat),(∀j,j<k→l[j]?=some (oi op (a/2^j%2) (b/2^j%2)))→AR l k=pP op a b k:=by
  intro l k
  induction k with
  |zero=>intro _;rfl
  |succ k ih=>intro h;rw [AR,pP,ih fun j hj=>h j (by omega),h k (by omega)];rfl
 refine ch (fun k fr H'=>Ext H H'∧∃(i:Nat) (s:Value) (l:List Int),i+k=w.toNat∧fr.get 0= .int .i64 op∧fr.get 1= .int .i64 w∧fr.get 2= .int .i64 a∧fr.get 3= .int .i64 b∧fr.get 9=s∧fr.get 10= .int .i64 i∧dN H' 1 s (a7 l)∧(∀z,aX s z→H.nx≤z)∧l.length=i∧(∀x∈l,0≤x∧x≤1)∧∀j,j<i→l[j]?=some (oi op (a/2^j%2) (b/2^j%2))) ?_ w.toNat ⟨Ext.refl _,0,.slice none 0 0,[],by simp,by simp,by simp,by simp,by simp,by simp,by simp,dN.nil _ _,fun z hz=>absurd hz (dI _ _ _),rfl,by simp,by simp⟩
 rintro k fr H' ⟨X1,i,s,l,hi,f0,f1,f2,f3,f9,f10,ow,gj,Pg,h01,hj⟩
 have lI:=X1.wf hw
 by_cases h:(i:Int)<w
 ·simp (maxSteps:=4000000)-implicitDefEqProofs+contextual [-X.ev,f0,f1,f2,f3,f9,f10,h]
  apply ah
  ·(simp-implicitDefEqProofs [-X.ev];rfl)
  refine (CF (i:=i) ha (by omega) H').mono ?_
  rintro x H' ⟨rfl,rfl⟩
  simp (maxSteps:=4000000)-implicitDefEqProofs+contextual [-X.ev,f0,f1,f2,f3,f9,f10,h]
  apply ah
  ·(simp-implicitDefEqProofs [-X.ev];rfl)
  refine (CF (i:=i) hb (by omega) H').mono ?_
  rintro x H' ⟨rfl,rfl⟩
  have ba:=Py a i
  have bb:=Py b i
  simp (maxSteps:=4000000)-implicitDefEqProofs+contextual [-X.ev,f0,f1,f2,f3,f9,f10,h]
  apply ah
  ·(simp-implicitDefEqProofs [-X.ev];rfl)
  refine (MS ba bb H').mono ?_
  rintro x H' ⟨rfl,rfl⟩
  obtain ⟨g,hg⟩:∃g,oi op (a/2^i%2) (b/2^i%2)=g:=⟨_,rfl⟩
  have g01:=EK (op:=op) ba bb
  rw [hg]at g01⊢
  have kN:=rY (sz:=1) (z:=[.int .i64 0]) (H:=H') (v:=.int .i64 g) rfl rfl rfl
  obtain ⟨H2,kl⟩:∃H2,H'.alloc (.cells 1 [.int .i64 g])=H2:=⟨_,rfl⟩
  obtain ⟨s',H3,Sc,o3,M3,k3,n3,x3,w3⟩:=gT (bytes:=8) lI ow (r:=[.int .i64 g]) rfl kl (by simp [a7];omega) (by simp [a7];omega)
  have wi:IntKind.i64.wrap ((i:Int)+1)=i+1:=ai ⟨by omega,by omega⟩
  simp only [oP,kl]at kN
  simp (maxSteps:=4000000)-implicitDefEqProofs+contextual [-X.ev,f0,f1,f2,f3,f9,f10,h,kN,Sc,wi]
  refine ⟨k- 1,by omega,X1.mod M3 gj,i+1,by omega,by simp,l++[g],by simpa [a7]using o3,fun z hz=>Nat.le_trans X1.nx (k3 z hz),by simp [Pg],fun x hx=>?_,fun j hjj=>?_⟩
  ·rcases List.mem_append.1 hx with hx|hx
   ·exact h01 x hx
   ·simp at hx;subst hx;exact g01
  ·by_cases e:j=i
   ·subst e;rw [List.getElem?_append_right (by omega)];simp [Pg,hg]
   ·rw [asy (by omega)];exact hj j (by omega)
 ·have hiw:i=w.toNat:=by omega
  simp (maxSteps:=4000000)-implicitDefEqProofs+contextual [-X.ev,f0,f1,f2,f3,f9,f10,h]
  apply ah
  ·(simp-implicitDefEqProofs [-X.ev];rfl)
  refine (Sb ow.ints (by omega) h01).mono ?_
  rintro x H' ⟨rfl,rfl⟩
  rw [Pg,agF l i hj,hiw]
  simp (maxSteps:=4000000)-implicitDefEqProofs+contextual [-X.ev,X1]
theorem MT {w a:Int} (hw:1≤w∧w≤8) (ha:0≤a∧a<2^w.toNat) (H:AH):Ca E O 122 [.int .i64 w,.int .i64 a] H (fun x H'=>x= .int .i64 (2^w.toNat- 1- a)∧H'=H):=by
 refine Ca.aS (F:=LG) rfl rfl rfl ?_
 have hp:=fJ hw
 simp (maxSteps:=4000000)-implicitDefEqProofs+contextual [-X.ev,LG]
 apply ah
 ·(simp-implicitDefEqProofs [-X.ev];rfl)
 refine (CE hw H).mono ?_
 rintro x H' ⟨rfl,rfl⟩
 simp (maxSteps:=4000000)-implicitDefEqProofs+contextual [-X.ev,ai (n:=2^w.toNat- 1- a) ⟨by omega,by omega⟩]
end Go.Proofs.YtppcmpmnglaleaaGreatDoor.A
namespace Go.Proofs.YtppcmpmnglaleaaGreatDoor.A
open Go
theorem tH {a w:Int} (ha:0≤a∧a<2^w.toNat):a.toNat<2^w.toNat:=by
 have h:((2^w.toNat:Nat):Int)=2^w.toNat:=by simp
 have:=ha.2
 omega
theorem qL {op w a b:Int} (eB:1≤w∧w≤8) (ha:0≤a∧a<2^w.toNat) (hb:0≤b∧b<2^w.toNat) (ho:op=7∨op=8∨op=9):pP op a b w.toNat=iO op w a b:=by
 have:=Ip (op:=op) eB (tH ha) (tH hb) ho
 rwa [show((a.toNat:Nat):Int)=a by omega,show((b.toNat:Nat):Int)=b by omega]at this
theorem Sd {op w a b:Int} {H:AH} (hw:H.n0≤H.nx) (eB:1≤w∧w≤8) (ha:0≤a∧a<2^w.toNat) (hb:0≤b∧b<2^w.toNat):Ca E O 123 [.int .i64 op,.int .i64 w,.int .i64 a,.int .i64 b] H (fun x H'=>x= .int .i64 (iO op w a b)∧Ext H H'):=by
 refine Ca.aS (F:=lH) rfl rfl rfl ?_
 have hp:=fJ eB
 obtain ⟨m0,m1⟩:=tG ha hb
 have mw:(2:Int)^w.toNat*2^w.toNat≤256*256:=Int.mul_le_mul hp.2 hp.2 (by omega) (by omega)
 have pz:¬ (2:Int)^w.toNat=0:=by omega
 have XR:=Ext.refl H
 have XN:0≤w∧w≤60:=by omega
 by_cases o2:op=2
 ·subst o2
  have w1:IntKind.i64.wrap (a+b)=a+b:=ai ⟨by omega,by omega⟩
  simp (maxSteps:=4000000)-implicitDefEqProofs+contextual [-X.ev,lH,w1]
  apply ah
  ·(simp-implicitDefEqProofs [-X.ev];rfl)
  refine (iP XN H).mono ?_
  rintro x H ⟨rfl,rfl⟩
  simp (maxSteps:=4000000)-implicitDefEqProofs+contextual [-X.ev,iB (show 0≤a+b by omega),pz,iO,XR]
 by_cases o3:op=3
 ·subst o3
  have w1:IntKind.i64.wrap (a+2^w.toNat)=a+2^w.toNat:=ai ⟨by omega,by omega⟩
  have w2:IntKind.i64.wrap (a+2^w.toNat- b)=a+2^w.toNat- b:=ai ⟨by omega,by omega⟩
  simp (maxSteps:=4000000)-implicitDefEqProofs+contextual [-X.ev,lH]
  apply ah
  ·(simp-implicitDefEqProofs [-X.ev];rfl)
  refine (iP XN H).mono ?_
  rintro x H ⟨rfl,rfl⟩
  simp (maxSteps:=4000000)-implicitDefEqProofs+contextual [-X.ev,w1,w2]
  apply ah
  ·(simp-implicitDefEqProofs [-X.ev];rfl)
  refine (iP XN H).mono ?_
  rintro x H ⟨rfl,rfl⟩
  simp (maxSteps:=4000000)-implicitDefEqProofs+contextual [-X.ev,iB (show 0≤a+2^w.toNat- b by omega),pz,iO,XR]
 by_cases o4:op=4
 ·subst o4
  have w1:IntKind.i64.wrap (a*b)=a*b:=ai ⟨by omega,by omega⟩
  simp (maxSteps:=4000000)-implicitDefEqProofs+contextual [-X.ev,lH,w1]
  apply ah
  ·(simp-implicitDefEqProofs [-X.ev];rfl)
  refine (iP XN H).mono ?_
  rintro x H ⟨rfl,rfl⟩
  simp (maxSteps:=4000000)-implicitDefEqProofs+contextual [-X.ev,iB m0,pz,iO,XR]
 by_cases o5:op=5
 ·subst o5
  by_cases b0:b=0
  ·subst b0
   simp (maxSteps:=4000000)-implicitDefEqProofs+contextual [-X.ev,lH]
   apply ah
   ·(simp-implicitDefEqProofs [-X.ev];rfl)
   refine (CE eB H).mono ?_
   rintro x H ⟨rfl,rfl⟩
   simp (maxSteps:=4000000)-implicitDefEqProofs+contextual [-X.ev,iO,XR]
  ·simp (maxSteps:=4000000)-implicitDefEqProofs+contextual [-X.ev,lH,b0,wL ha.1 (by omega) (show 0<b by omega),iO,XR]
 by_cases o6:op=6
 ·subst o6
  by_cases b0:b=0
  ·subst b0
   simp (maxSteps:=4000000)-implicitDefEqProofs+contextual [-X.ev,lH,iO,XR]
  ·simp (maxSteps:=4000000)-implicitDefEqProofs+contextual [-X.ev,lH,b0,iB ha.1,iO,XR]
 by_cases o7:op=7
 ·subst o7
  simp (maxSteps:=4000000)-implicitDefEqProofs+contextual [-X.ev,lH]
  apply ah
  ·(simp-implicitDefEqProofs [-X.ev];rfl)
  refine (wM hw eB (by omega) (by omega)).mono ?_
  rintro x H1 ⟨rfl,X1⟩
  rw [qL eB ha hb (by omega)]
  simp (maxSteps:=4000000)-implicitDefEqProofs+contextual [-X.ev,X1]
 by_cases o8:op=8
 ·subst o8
  simp (maxSteps:=4000000)-implicitDefEqProofs+contextual [-X.ev,lH]
  apply ah
  ·(simp-implicitDefEqProofs [-X.ev];rfl)
  refine (wM hw eB (by omega) (by omega)).mono ?_
  rintro x H1 ⟨rfl,X1⟩
  rw [qL eB ha hb (by omega)]
  simp (maxSteps:=4000000)-implicitDefEqProofs+contextual [-X.ev,X1]
 by_cases o9:op=9
 ·subst o9
  simp (maxSteps:=4000000)-implicitDefEqProofs+contextual [-X.ev,lH]
  apply ah
  ·(simp-implicitDefEqProofs [-X.ev];rfl)
  refine (wM hw eB (by omega) (by omega)).mono ?_
  rintro x H1 ⟨rfl,X1⟩
  rw [qL eB ha hb (by omega)]
  simp (maxSteps:=4000000)-implicitDefEqProofs+contextual [-X.ev,X1]
 by_cases FR:op=10
 ·subst FR
  by_cases b0:w≤b
  ·simp (maxSteps:=4000000)-implicitDefEqProofs+contextual [-X.ev,lH,b0,iO,XR]
  have hpb:=fJ (w:=w) eB
  have mj:(2:Int)^b.toNat≤256:=by
   have:(2:Nat)^b.toNat≤2^8:=Nat.pow_le_pow_right (by omega) (by omega)
   have h2:((2^b.toNat:Nat):Int)≤((2^8:Nat):Int):=Int.ofNat_le.2 this
   simpa using h2
  have iL:=two_pow_pos b.toNat
  obtain ⟨q0,q1⟩:=tG (M:=257) ⟨ha.1,by omega⟩ (b:=2^b.toNat) ⟨by omega,by omega⟩
  have w1:IntKind.i64.wrap (a*2^b.toNat)=a*2^b.toNat:=ai ⟨by omega,by omega⟩
  simp (maxSteps:=4000000)-implicitDefEqProofs+contextual [-X.ev,lH,b0]
  apply ah
  ·(simp-implicitDefEqProofs [-X.ev];rfl)
  refine (iP (by omega) H).mono ?_
  rintro x H ⟨rfl,rfl⟩
  simp (maxSteps:=4000000)-implicitDefEqProofs+contextual [-X.ev,w1]
  apply ah
  ·(simp-implicitDefEqProofs [-X.ev];rfl)
  refine (iP XN H).mono ?_
  rintro x H ⟨rfl,rfl⟩
  simp (maxSteps:=4000000)-implicitDefEqProofs+contextual [-X.ev,iB q0,pz,iO,b0,XR]
 by_cases CD:op=11
 ·subst CD
  by_cases b0:w≤b
  ·simp (maxSteps:=4000000)-implicitDefEqProofs+contextual [-X.ev,lH,b0,iO,XR]
  have iL:=two_pow_pos b.toNat
  simp (maxSteps:=4000000)-implicitDefEqProofs+contextual [-X.ev,lH,b0]
  apply ah
  ·(simp-implicitDefEqProofs [-X.ev];rfl)
  refine (iP (by omega) H).mono ?_
  rintro x H ⟨rfl,rfl⟩
  simp (maxSteps:=4000000)-implicitDefEqProofs+contextual [-X.ev,wL ha.1 (by omega) (show 0<(2:Int)^b.toNat by omega),iO,b0,XR]
 by_cases KO:op=13
 ·subst KO
  simp (maxSteps:=4000000)-implicitDefEqProofs+contextual [-X.ev,lH]
  apply ah
  ·(simp-implicitDefEqProofs [-X.ev];rfl)
  refine (wy (decide (a=b)) H).mono ?_
  rintro x H ⟨rfl,rfl⟩
  simp (maxSteps:=4000000)-implicitDefEqProofs+contextual [-X.ev,iO,XR]
 simp (maxSteps:=4000000)-implicitDefEqProofs+contextual [-X.ev,lH,o2,o3,o4,o5,o6,o7,o8,o9,FR,CD,KO]
 apply ah
 ·(simp-implicitDefEqProofs [-X.ev];rfl)
 refine (wy (decide (a<b)) H).mono ?_
 rintro x H ⟨rfl,rfl⟩
 simp (maxSteps:=4000000)-implicitDefEqProofs+contextual [-X.ev,iO,o2,o3,o4,o5,o6,o7,o8,o9,FR,CD,KO,XR]
theorem Ir {v:Value} {l:List Int} {H:AH} (hw:H.n0≤H.nx) (hl:eM H v l) (hb:l.length≤2^40):Ca E O 27 [v] H (fun x H'=>dN H' 1 x (a7 l)∧Ext H H'∧∀b,aX x b→H.nx≤b):=by
 refine Ca.aS (F:=a27) rfl rfl rfl ?_
 obtain ⟨a,c,hv⟩:=hl.len
 simp (maxSteps:=4000000)-implicitDefEqProofs+contextual [-X.ev,a27]
 refine ch (fun k fr H'=>Ext H H'∧∃(i:Nat) (s:Value),i+k=l.length∧fr.get 0=v∧fr.get 3=s∧fr.get 4= .int .i64 i∧dN H' 1 s (a7 (l.take i))∧(∀z,aX s z→H.nx≤z)) ?_ l.length ⟨Ext.refl _,0,.slice none 0 0,by simp,by simp,by simp,by simp,by simpa [a7]using dN.nil H 1,fun z hz=>absurd hz (dI _ _ _)⟩
 rintro k fr H' ⟨X1,i,s,hi,f0,f3,f4,ow,gj⟩
 have lI:=X1.wf hw
 by_cases h:i<l.length
 ·obtain ⟨n,hn⟩:∃n,l[i]?=some n:=⟨_,asl h⟩
  obtain ⟨b,o,c',cA,eh⟩:=(eM.ext X1 hl).at hn
  rw [cA]at f0
  have kN:=rY (sz:=1) (z:=[.int .i64 0]) (H:=H') (v:=.int .i64 n) rfl rfl rfl
  obtain ⟨H2,kl⟩:∃H2,H'.alloc (.cells 1 [.int .i64 n])=H2:=⟨_,rfl⟩
  obtain ⟨s',H3,Sc,o3,M3,k3,n3,x3,w3⟩:=gT (bytes:=8) lI ow (r:=[.int .i64 n]) rfl kl (by simp [a7];omega) (by simp [a7];omega)
  have wi:IntKind.i64.wrap ((i:Int)+1)=i+1:=ai ⟨by omega,by omega⟩
  simp only [oP,kl]at kN
  simp (maxSteps:=4000000)-implicitDefEqProofs+contextual [-X.ev,f0,f3,f4,h,eh,kN,Sc,wi]
  refine ⟨k- 1,by omega,X1.mod M3 gj,i+1,by omega,cA.symm,by simp,?_,fun z hz=>Nat.le_trans X1.nx (k3 z hz)⟩
  rw [List.take_add_one,hn]
  simpa [a7]using o3
 ·rw [hv]at f0
  rw [ass (by omega)]at ow
  simp (maxSteps:=4000000)-implicitDefEqProofs+contextual [-X.ev,f0,f3,f4,h,ow,X1]
  exact gj
theorem Is {v u:Value} {l m:List Int} {H:AH} (hl:eM H v l) (hm:eM H u m) (hb:l.length≤2^60):Ca E O 29 [v,u] H (fun x H'=>x= .bool (decide (l=m))∧H'=H):=by
 refine Ca.aS (F:=WG) rfl rfl rfl ?_
 obtain ⟨p1,c1,hv⟩:=hl.len
 obtain ⟨p2,c2,hu⟩:=hm.len
 obtain ⟨F,hF⟩:∃F,decide (l=m)=F:=⟨_,rfl⟩
 rw [hF]
 by_cases q:(l.length:Int)=m.length
 case neg=>
  have oK:F=false:=by rw [←hF,decide_eq_false_iff_not];rintro rfl;exact q rfl
  have q':¬ l.length=m.length:=by omega
  simp (maxSteps:=4000000)-implicitDefEqProofs+contextual [-X.ev,WG,hv,hu,q,q',oK]
 have q':l.length=m.length:=by omega
 simp (maxSteps:=4000000)-implicitDefEqProofs+contextual [-X.ev,WG,hv,hu,q,q']
 refine ch (fun k fr H'=>H'=H∧∃i:Nat,i+k=l.length∧fr.get 0=v∧fr.get 1=u∧fr.get 5= .int .i64 i∧l.take i=m.take i) ?_ l.length ⟨rfl,0,by simp,by simp [hv,q'],by simp [hu],by simp,by simp⟩
 rintro k fr H' ⟨rfl,i,hi,f0,f1,f5,U9⟩
 by_cases h:i<l.length
 ·obtain ⟨x,hx⟩:∃n,l[i]?=some n:=⟨_,asl h⟩
  obtain ⟨y,hy⟩:∃n,m[i]?=some n:=⟨_,asl (by omega)⟩
  obtain ⟨b,o,c',cA,eh⟩:=hl.at hx
  obtain ⟨b2,o2,c2',DW,tn⟩:=hm.at hy
  rw [cA]at f0
  rw [DW]at f1
  have h2:i<m.length:=by omega
  by_cases e:x=y
  ·subst e
   simp (maxSteps:=4000000)-implicitDefEqProofs+contextual [-X.ev,f0,f1,f5,h,h2,eh,tn,bm,aJ,aK]
   rw [ai (n:=(i:Int)+1) ⟨by omega,by omega⟩]
   refine ⟨k- 1,by omega,i+1,by omega,cA.symm,DW.symm,by simp,?_⟩
   rw [List.take_add_one,List.take_add_one,hx,hy,U9]
  ·have oK:F=false:=by
    rw [←hF,decide_eq_false_iff_not];rintro rfl;rw [hx]at hy;cases hy;exact e rfl
   simp (maxSteps:=4000000)-implicitDefEqProofs+contextual [-X.ev,f0,f1,f5,h,h2,eh,tn,bm,aJ,aK,e,oK]
 ·have AK:F=true:=by
   rw [←hF,decide_eq_true_iff]
   rwa [ass (by omega),ass (by omega)]at U9
  rw [hv]at f0
  simp (maxSteps:=4000000)-implicitDefEqProofs+contextual [-X.ev,f0,f1,f5,h,AK]
open Go
theorem agG {n:Int} (h:0≤n∧n<2^62):IntKind.u64.wrap n=n:=IntWalk.u64_in n ⟨by omega,by omega⟩
theorem wN {w:Int} (hw:1≤w∧w≤8) (H:AH):Ca E O 182 [.int .i64 w] H (fun x H'=>x= .int .i64 (2^w.toNat- 1)∧H'=H):=by
 refine Ca.aS (F:=a182) rfl rfl rfl ?_
 have hp:=fJ hw
 simp (maxSteps:=4000000)-implicitDefEqProofs+contextual [-X.ev,a182,yE hw,ai (n:=2^w.toNat- 1) ⟨by omega,by omega⟩]
theorem Pz {w:Int} {v:Value} {l:List Int} {H:AH} (hl:eM H v l) (iu:l.length<2^60):Ca E O 181 [.int .i64 w,v] H (fun x H'=>x= .bool (bC w&&l.all (isWord w))∧H'=H):=by
 refine Ca.aS (F:=Ek) rfl rfl rfl ?_
 obtain ⟨p1,c1,hv⟩:=hl.len
 obtain ⟨F,hF⟩:∃F,(bC w&&l.all (isWord w))=F:=⟨_,rfl⟩
 rw [hF]
 by_cases h1:w<1
 ·have oK:F=false:=by rw [←hF];simp [bC];omega
  simp (maxSteps:=4000000)-implicitDefEqProofs+contextual [-X.ev,Ek,h1,oK]
 by_cases h2:8<w
 ·have oK:F=false:=by rw [←hF];simp [bC];omega
  simp (maxSteps:=4000000)-implicitDefEqProofs+contextual [-X.ev,Ek,h1,h2,oK]
 have eB:1≤w∧w≤8:=by omega
 have zT:bC w=true:=by simp [bC,eB]
 simp (maxSteps:=4000000)-implicitDefEqProofs+contextual [-X.ev,Ek,h1,h2,hv]
 refine ch (fun k fr H'=>H'=H∧∃i:Nat,i+k=l.length∧fr.get 0= .int .i64 w∧fr.get 13=v∧fr.get 14= .int .i64 l.length∧fr.get 15= .int .i64 i∧∀a∈l.take i,isWord w a=true) ?_ l.length ⟨rfl,0,by simp,by simp,by simp [hv],by simp,by simp,by simp⟩
 rintro k fr H' ⟨rfl,i,hi,f0,f13,f14,f15,aG⟩
 by_cases h:i<l.length
 ·obtain ⟨n,hn⟩:∃n,l[i]?=some n:=⟨_,asl h⟩
  obtain ⟨b,o,c',cA,eh⟩:=hl.at hn
  rw [cA]at f13
  have oK:isWord w n=false→F=false:=fun z=>by
   rw [←hF,Bool.and_eq_false_iff];right
   rw [List.all_eq_false]
   exact ⟨n,asq hn,by rw [z];simp⟩
  rw [k8 eB]at oK
  have hp:=fJ eB
  by_cases z1:n<0
  ·simp (maxSteps:=4000000)-implicitDefEqProofs+contextual [-X.ev,f0,f13,f14,f15,h,eh,z1,oK]
  simp (maxSteps:=4000000)-implicitDefEqProofs+contextual [-X.ev,f0,f13,f14,f15,h,eh,z1]
  apply ah
  ·(simp-implicitDefEqProofs [-X.ev];rfl)
  refine (wN eB H').mono ?_
  rintro x H' ⟨rfl,rfl⟩
  by_cases z2:2^w.toNat- 1<n
  ·have z3:2^w.toNat≤n:=by omega
   simp (maxSteps:=4000000)-implicitDefEqProofs+contextual [-X.ev,f0,f13,f14,f15,z2,z3,oK]
  have z3:¬ 2^w.toNat≤n:=by omega
  simp (maxSteps:=4000000)-implicitDefEqProofs+contextual [-X.ev,f0,f13,f14,f15,h,z2]
  rw [ai (n:=(i:Int)+1) ⟨by omega,by omega⟩]
  refine ⟨k- 1,by omega,i+1,by omega,cA.symm,by simp,fun z hz=>?_⟩
  rw [List.take_add_one,hn]at hz
  rcases List.mem_append.1 hz with hz|hz
  ·exact aG z hz
  ·simp at hz;subst hz;rw [k8 eB];simp [z1,z3]
 ·have AK:F=true:=by
   rw [ass (by omega)]at aG
   rw [←hF,zT,Bool.true_and,asB];exact aG
  simp (maxSteps:=4000000)-implicitDefEqProofs+contextual [-X.ev,f0,f13,f14,f15,h,AK]
theorem nv {w a:Int} (hw:1≤w∧w≤8) (ha:0≤a∧a<2^w.toNat):isWord w a=true:=by
 simp [isWord,bC,hw,ha]
theorem XO {H:AH} (hw:H.n0≤H.nx) (a:Int):eM (H.alloc (.cells 1 [.int .i64 a])) (.slice (some ⟨H.nx,0,none⟩) 1 1) [a]:=⟨_,_,rfl,fun i r hi=>⟨H.nx,0,rfl,by
 have:=bl hw (z:=1) (c:=[.int .i64 a]) 1 rfl
 cases i with
 |zero=>simp at hi;subst hi;simpa using this
 |succ i=>simp at hi⟩⟩
theorem XP {H:AH} (hw:H.n0≤H.nx) (a b:Int):eM (H.alloc (.cells 1 [.int .i64 a,.int .i64 b])) (.slice (some ⟨H.nx,0,none⟩) 2 2) [a,b]:=⟨_,_,rfl,fun i r hi=>⟨H.nx,0,rfl,by
 have hg:=cK H (.cells 1 [.int .i64 a,.int .i64 b])
 match i,hi with
 |0,hi=>simp at hi;subst hi;exact bW hg hw (k:=0) (n:=1) (by simp)
 |1,hi=>simp at hi;subst hi;exact bW hg hw (k:=1) (n:=1) (by simp)
 |i+2,hi=>simp at hi⟩⟩
theorem MU {w a:Int} {H:AH} (hw:H.n0≤H.nx) (eB:1≤w∧w≤8) (ha:0≤a∧a<2^w.toNat):Ca E O 177 [.int .i64 w,.int .i64 a] H (fun x H'=>x= .tuple #[.int .i64 (2^w.toNat- 1- a),.int .i64 0]∧Ext H H'):=by
 refine Ca.aS (F:=LU) rfl rfl rfl ?_
 have kN:=rY (sz:=1) (z:=[.int .i64 0]) (H:=H) (v:=.int .i64 a) rfl rfl rfl
 have X1:=Ext.alloc H (.cells 1 [.int .i64 a])
 have uT:=XO hw a
 simp only [oP]at kN
 generalize H.alloc (.cells 1 [.int .i64 a])=H1 at kN X1 uT
 simp (maxSteps:=4000000)-implicitDefEqProofs+contextual [-X.ev,LU,kN]
 apply ah
 ·(simp-implicitDefEqProofs [-X.ev];rfl)
 refine (Pz uT (by simp)).mono ?_
 rintro x H1 ⟨rfl,rfl⟩
 have e:(bC w&&[a].all (isWord w))=true:=by simp [bC,eB,nv eB ha]
 rw [e]
 simp (maxSteps:=4000000)-implicitDefEqProofs+contextual [-X.ev]
 apply ah
 ·(simp-implicitDefEqProofs [-X.ev];rfl)
 refine (wN eB H1).mono ?_
 rintro x H1 ⟨rfl,rfl⟩
 have hn:cx .andNot (.int .i64 (2^w.toNat- 1)) (.int .i64 a)=some (.int .i64 (2^w.toNat- 1- a)):=by
  have:=AQ (a:=a.toNat) (w:=w.toNat) (by omega) (tH ha)
  rwa [show((a.toNat:Nat):Int)=a by omega]at this
 simp (maxSteps:=4000000)-implicitDefEqProofs+contextual [-X.ev,hn,X1]
theorem yL (b:Bool) (H:AH):Ca E O 196 [.bool b] H (fun x H'=>x= .int .i64 (if b=true then 1 else 0)∧H'=H):=by
 refine Ca.aS (F:=a196) rfl rfl rfl ?_
 cases b<;>simp (maxSteps:=4000000)-implicitDefEqProofs+contextual [-X.ev,a196]
theorem XQ {a b:Int} (ha:0≤a∧a<256) (hb:0≤b∧b<8):cx .shl (.int .i64 a) (.int .u64 b)=some (.int .i64 (a*2^b.toNat)):=by
 have iL:=two_pow_pos b.toNat
 have mj:(2:Int)^b.toNat≤256:=by
  have:(2:Nat)^b.toNat≤2^8:=Nat.pow_le_pow_right (by omega) (by omega)
  have h2:((2^b.toNat:Nat):Int)≤((2^8:Nat):Int):=Int.ofNat_le.2 this
  simpa using h2
 obtain ⟨q0,q1⟩:=tG (M:=257) ⟨ha.1,by omega⟩ (b:=2^b.toNat) ⟨by omega,by omega⟩
 have h0:¬ b<0:=by omega
 have h1:min b.toNat IntKind.i64.bits=b.toNat:=Nat.min_eq_left (by show b.toNat≤64;omega)
 simp only [cx,dt,h0,if_false,h1]
 rw [ai ⟨by omega,by omega⟩]
theorem XS {a b:Int} (ha:0≤a∧a<256) (hb:0≤b∧b<8):cx .shr (.int .i64 a) (.int .u64 b)=some (.int .i64 (a/2^b.toNat)):=by
 have iL:=two_pow_pos b.toNat
 have h0:¬ b<0:=by omega
 have h1:min b.toNat IntKind.i64.bits=b.toNat:=Nat.min_eq_left (by show b.toNat≤64;omega)
 simp only [cx,dt,h0,if_false,h1]
 rw [Int.fdiv_eq_ediv_of_nonneg _ (by omega)]
theorem tI {w a b:Int} {up:Bool} (hw:1≤w∧w≤8) (ha:0≤a∧a<256) (hb:0≤b) (H:AH):Ca E O 193 [.int .i64 w,.int .i64 a,.int .i64 b,.bool up] H (fun x H'=>x= .int .i64 (if w≤b then 0 else if up=true then a*2^b.toNat else a/2^b.toNat)∧H'=H):=by
 refine Ca.aS (F:=a193) rfl rfl rfl ?_
 by_cases h:w≤b
 ·simp (maxSteps:=4000000)-implicitDefEqProofs+contextual [-X.ev,a193,h]
 have wb:IntKind.u64.wrap b=b:=agG ⟨hb,by omega⟩
 cases up
 ·simp (maxSteps:=4000000)-implicitDefEqProofs+contextual [-X.ev,a193,h,wb,XS ha ⟨hb,by omega⟩]
 ·simp (maxSteps:=4000000)-implicitDefEqProofs+contextual [-X.ev,a193,h,wb,XQ ha ⟨hb,by omega⟩]
def CH (op:Int):Value:=
 if op=2 then .func (.func 184) #[] #[]else if op=3 then .func (.func 185) #[] #[]else if op=4 then .func (.func 186) #[] #[]else if op=5 then .func (.func 187) #[] #[]else if op=6 then .func (.func 188) #[] #[]else if op=7 then .func (.func 189) #[] #[]else if op=8 then .func (.func 190) #[] #[]else if op=9 then .func (.func 191) #[] #[]else if op=10 then .func (.func 192) #[] #[]else if op=11 then .func (.func 194) #[] #[]else if op=13 then .func (.func 195) #[] #[]else if op=14 then .func (.func 197) #[] #[]else .nilFunc
theorem MW {op:Int} {H:AH} (hw:H.n0≤H.nx):Ca E O 183 [.int .i64 op] H (fun x H'=>x=CH op∧Ext H H'):=by
 refine Ca.aS (F:=a183) rfl rfl rfl ?_
 have X0:=Ext.alloc H (.map [])
 have g0:=cK H (.map [])
 generalize Ch:H.alloc (.map [])=H0 at X0 g0
 have z0:H0.n0≤H.nx:=by rw [X0.n0];exact hw
 obtain ⟨H1,s1,M1,It,CG,g1⟩:=iy (kk:=0) (k:=.int .i64 2) (v:=.func (.func 184) #[] #[]) g0 z0 rfl rfl rfl
 have z1:H1.n0≤H.nx:=by rw [M1.n0];exact z0
 obtain ⟨H2,s2,M2,xF,qt,g2⟩:=iy (kk:=0) (k:=.int .i64 3) (v:=.func (.func 185) #[] #[]) g1 z1 rfl rfl rfl
 have z2:H2.n0≤H.nx:=by rw [M2.n0];exact z1
 obtain ⟨H3,s3,M3,sr,nk,g3⟩:=iy (kk:=0) (k:=.int .i64 4) (v:=.func (.func 186) #[] #[]) g2 z2 rfl rfl rfl
 have z3:H3.n0≤H.nx:=by rw [M3.n0];exact z2
 obtain ⟨H4,s4,M4,zP,oQ,g4⟩:=iy (kk:=0) (k:=.int .i64 5) (v:=.func (.func 187) #[] #[]) g3 z3 rfl rfl rfl
 have z4:H4.n0≤H.nx:=by rw [M4.n0];exact z3
 obtain ⟨H5,s5,M5,Pt,yG,g5⟩:=iy (kk:=0) (k:=.int .i64 6) (v:=.func (.func 188) #[] #[]) g4 z4 rfl rfl rfl
 have z5:H5.n0≤H.nx:=by rw [M5.n0];exact z4
 obtain ⟨H6,s6,M6,nx6,MY,g6⟩:=iy (kk:=0) (k:=.int .i64 7) (v:=.func (.func 189) #[] #[]) g5 z5 rfl rfl rfl
 have z6:H6.n0≤H.nx:=by rw [M6.n0];exact z5
 obtain ⟨H7,s7,M7,nx7,EL,g7⟩:=iy (kk:=0) (k:=.int .i64 8) (v:=.func (.func 190) #[] #[]) g6 z6 rfl rfl rfl
 have z7:H7.n0≤H.nx:=by rw [M7.n0];exact z6
 obtain ⟨H8,s8,M8,Va,CI,g8⟩:=iy (kk:=0) (k:=.int .i64 9) (v:=.func (.func 191) #[] #[]) g7 z7 rfl rfl rfl
 have z8:H8.n0≤H.nx:=by rw [M8.n0];exact z7
 obtain ⟨H9,s9,M9,XT,PA,g9⟩:=iy (kk:=0) (k:=.int .i64 10) (v:=.func (.func 192) #[] #[]) g8 z8 rfl rfl rfl
 have z9:H9.n0≤H.nx:=by rw [M9.n0];exact z8
 obtain ⟨zQ,s10,KP,aoD,aoE,g10⟩:=iy (kk:=0) (k:=.int .i64 11) (v:=.func (.func 194) #[] #[]) g9 z9 rfl rfl rfl
 have z10:zQ.n0≤H.nx:=by rw [KP.n0];exact z9
 obtain ⟨H11,s11,M11,XC,XD,g11⟩:=iy (kk:=0) (k:=.int .i64 13) (v:=.func (.func 195) #[] #[]) g10 z10 rfl rfl rfl
 have z11:H11.n0≤H.nx:=by rw [M11.n0];exact z10
 obtain ⟨EM,s12,Vb,MZ,Iu,g12⟩:=iy (kk:=0) (k:=.int .i64 14) (v:=.func (.func 197) #[] #[]) g11 z11 rfl rfl rfl
 have z12:EM.n0≤H.nx:=by rw [Vb.n0];exact z11
 have XX:Ext H EM:=X0.mod (M1.trans (M2.trans (M3.trans (M4.trans (M5.trans (M6.trans (M7.trans (M8.trans (M9.trans (KP.trans (M11.trans (Vb)))))))))))) (by rintro x rfl;exact asp _)
 have lk:js 0 .nilFunc EM (.map (some H.nx)) (.int .i64 op) false=some (CH op):=by
  unfold CH
  by_cases o2:op=2
  ·subst o2;exact fG g12 z12 rfl rfl
  rw [if_neg o2]
  by_cases o3:op=3
  ·subst o3;exact fG g12 z12 rfl rfl
  rw [if_neg o3]
  by_cases o4:op=4
  ·subst o4;exact fG g12 z12 rfl rfl
  rw [if_neg o4]
  by_cases o5:op=5
  ·subst o5;exact fG g12 z12 rfl rfl
  rw [if_neg o5]
  by_cases o6:op=6
  ·subst o6;exact fG g12 z12 rfl rfl
  rw [if_neg o6]
  by_cases o7:op=7
  ·subst o7;exact fG g12 z12 rfl rfl
  rw [if_neg o7]
  by_cases o8:op=8
  ·subst o8;exact fG g12 z12 rfl rfl
  rw [if_neg o8]
  by_cases o9:op=9
  ·subst o9;exact fG g12 z12 rfl rfl
  rw [if_neg o9]
  by_cases FR:op=10
  ·subst FR;exact fG g12 z12 rfl rfl
  rw [if_neg FR]
  by_cases CD:op=11
  ·subst CD;exact fG g12 z12 rfl rfl
  rw [if_neg CD]
  by_cases KO:op=13
  ·subst KO;exact fG g12 z12 rfl rfl
  rw [if_neg KO]
  by_cases o14:op=14
  ·subst o14;exact fG g12 z12 rfl rfl
  rw [if_neg o14]
  refine Ct g12 z12 rfl ?_
  have gF:∀k:Int,¬ op=k→(op==k)=false:=fun k h=>by simpa using h
  simp [gI,iq,mn,gF _ o2,gF _ o3,gF _ o4,gF _ o5,gF _ o6,gF _ o7,gF _ o8,gF _ o9,gF _ FR,gF _ CD,gF _ KO,gF _ o14]
 simp (maxSteps:=4000000)-implicitDefEqProofs+contextual [-X.ev,a183,Ch,s1,s2,s3,s4,s5,s6,s7,s8,s9,s10,s11,s12,lk,XX]
theorem Iv {op w a b:Int} (ho:(2≤op∧op≤11)∨op=13∨op=14) (eB:1≤w∧w≤8) (ha:0≤a∧a<2^w.toNat) (hb:0≤b∧b<2^w.toNat):
 ∃f,CH op= .func (.func f) #[] #[]∧∀H:AH,Ca E O f [.int .i64 w,.int .i64 a,.int .i64 b] H (fun x H'=>∃y,x= .int .i64 y∧y%2^w.toNat=iO op w a b∧H'=H):=by
 have hp:=fJ eB
 obtain ⟨m0,m1⟩:=tG ha hb
 have mw:(2:Int)^w.toNat*2^w.toNat≤256*256:=Int.mul_le_mul hp.2 hp.2 (by omega) (by omega)
 have hd:=yK (op:=op) eB ha hb
 have hm:iO op w a b%2^w.toNat=iO op w a b:=Int.emod_eq_of_lt hd.1 hd.2
 have PD:0≤a∧a<256:=by omega
 have M0:op=2∨op=3∨op=4∨op=5∨op=6∨op=7∨op=8∨op=9∨op=10∨op=11∨op=13∨op=14:=by omega
 have EN:((a.toNat:Nat):Int)=a∧((b.toNat:Nat):Int)=b:=by omega
 have an:=tH ha
 have bn:=tH hb
 have n62:(2:Nat)^w.toNat≤2^62:=Nat.pow_le_pow_right (by omega) (by omega)
 rcases M0 with rfl|rfl|rfl|rfl|rfl|rfl|rfl|rfl|rfl|rfl|rfl|rfl
 ·refine ⟨184,rfl,fun H=>?_⟩
  refine Ca.aS (F:=LW) rfl rfl rfl ?_
  simp (maxSteps:=4000000)-implicitDefEqProofs+contextual [-X.ev,LW,ai (n:=a+b) ⟨by omega,by omega⟩]
  simp [iO]
 ·refine ⟨185,rfl,fun H=>?_⟩
  refine Ca.aS (F:=LX) rfl rfl rfl ?_
  simp (maxSteps:=4000000)-implicitDefEqProofs+contextual [-X.ev,LX,ai (n:=a- b) ⟨by omega,by omega⟩]
  simp only [iO]
  rw [if_neg (show¬ (3:Int)=2 by omega),if_pos trivial,show a+2^w.toNat- b=(a- b)+2^w.toNat by omega,Int.add_emod_right]
 ·refine ⟨186,rfl,fun H=>?_⟩
  refine Ca.aS (F:=LY) rfl rfl rfl ?_
  simp (maxSteps:=4000000)-implicitDefEqProofs+contextual [-X.ev,LY,ai (n:=a*b) ⟨by omega,by omega⟩]
  simp [iO]
 ·refine ⟨187,rfl,fun H=>?_⟩
  refine Ca.aS (F:=Ht) rfl rfl rfl ?_
  by_cases b0:b=0
  ·subst b0
   simp (maxSteps:=4000000)-implicitDefEqProofs+contextual [-X.ev,Ht]
   apply ah
   ·(simp-implicitDefEqProofs [-X.ev];rfl)
   refine (wN eB H).mono ?_
   rintro x H ⟨rfl,rfl⟩
   simp (maxSteps:=4000000)-implicitDefEqProofs+contextual [-X.ev]
   rw [←hm];simp [iO]
  ·simp (maxSteps:=4000000)-implicitDefEqProofs+contextual [-X.ev,Ht,b0,wL ha.1 (by omega) (show 0<b by omega)]
   rw [←hm];simp [iO,b0]
 ·refine ⟨188,rfl,fun H=>?_⟩
  refine Ca.aS (F:=Hu) rfl rfl rfl ?_
  by_cases b0:b=0
  ·subst b0
   simp (maxSteps:=4000000)-implicitDefEqProofs+contextual [-X.ev,Hu]
   rw [←hm];simp [iO]
  ·simp (maxSteps:=4000000)-implicitDefEqProofs+contextual [-X.ev,Hu,b0,iB ha.1]
   rw [←hm];simp [iO,b0]
 ·refine ⟨189,rfl,fun H=>?_⟩
  refine Ca.aS (F:=LZ) rfl rfl rfl ?_
  have hn:=MQ (a:=a.toNat) (b:=b.toNat) (by omega) (by omega)
  rw [EN.1,EN.2]at hn
  simp (maxSteps:=4000000)-implicitDefEqProofs+contextual [-X.ev,LZ,hn]
  rw [←hm];simp [iO]
 ·refine ⟨190,rfl,fun H=>?_⟩
  refine Ca.aS (F:=L0) rfl rfl rfl ?_
  have hn:=R9 (a:=a.toNat) (b:=b.toNat) (by omega) (by omega)
  rw [EN.1,EN.2]at hn
  simp (maxSteps:=4000000)-implicitDefEqProofs+contextual [-X.ev,L0,hn]
  rw [←hm];simp [iO]
 ·refine ⟨191,rfl,fun H=>?_⟩
  refine Ca.aS (F:=L3) rfl rfl rfl ?_
  have hn:=MR (a:=a.toNat) (b:=b.toNat) (by omega) (by omega)
  rw [EN.1,EN.2]at hn
  simp (maxSteps:=4000000)-implicitDefEqProofs+contextual [-X.ev,L3,hn]
  rw [←hm];simp [iO]
 ·refine ⟨192,rfl,fun H=>?_⟩
  refine Ca.aS (F:=L4) rfl rfl rfl ?_
  simp (maxSteps:=4000000)-implicitDefEqProofs+contextual [-X.ev,L4]
  apply ah
  ·(simp-implicitDefEqProofs [-X.ev];rfl)
  refine (tI (up:=true) eB PD hb.1 H).mono ?_
  rintro x H ⟨rfl,rfl⟩
  simp (maxSteps:=4000000)-implicitDefEqProofs+contextual [-X.ev]
  by_cases b0:w≤b
  ·simp [iO,b0]
  ·simp [iO,b0]
 ·refine ⟨194,rfl,fun H=>?_⟩
  refine Ca.aS (F:=a194) rfl rfl rfl ?_
  simp (maxSteps:=4000000)-implicitDefEqProofs+contextual [-X.ev,a194]
  apply ah
  ·(simp-implicitDefEqProofs [-X.ev];rfl)
  refine (tI (up:=false) eB PD hb.1 H).mono ?_
  rintro x H ⟨rfl,rfl⟩
  simp (maxSteps:=4000000)-implicitDefEqProofs+contextual [-X.ev]
  rw [←hm]
  by_cases b0:w≤b
  ·simp [iO,b0]
  ·simp [iO,b0]
 ·refine ⟨195,rfl,fun H=>?_⟩
  refine Ca.aS (F:=L5) rfl rfl rfl ?_
  simp (maxSteps:=4000000)-implicitDefEqProofs+contextual [-X.ev,L5]
  apply ah
  ·(simp-implicitDefEqProofs [-X.ev];rfl)
  refine (yL (decide (a=b)) H).mono ?_
  rintro x H ⟨rfl,rfl⟩
  simp (maxSteps:=4000000)-implicitDefEqProofs+contextual [-X.ev]
  rw [←hm];simp [iO]
 ·refine ⟨197,rfl,fun H=>?_⟩
  refine Ca.aS (F:=L6) rfl rfl rfl ?_
  simp (maxSteps:=4000000)-implicitDefEqProofs+contextual [-X.ev,L6]
  apply ah
  ·(simp-implicitDefEqProofs [-X.ev];rfl)
  refine (yL (decide (a<b)) H).mono ?_
  rintro x H ⟨rfl,rfl⟩
  simp (maxSteps:=4000000)-implicitDefEqProofs+contextual [-X.ev]
  rw [←hm];simp [iO]
theorem Se {op w a b:Int} {H:AH} (hw:H.n0≤H.nx) (ho:(2≤op∧op≤11)∨op=13∨op=14) (eB:1≤w∧w≤8) (ha:0≤a∧a<2^w.toNat) (hb:0≤b∧b<2^w.toNat):Ca E O 178 [.int .i64 op,.int .i64 w,.int .i64 a,.int .i64 b] H (fun x H'=>x= .tuple #[.int .i64 (iO op w a b),.int .i64 0]∧Ext H H'):=by
 refine Ca.aS (F:=LV) rfl rfl rfl ?_
 have kN:nL 2 1 [.int .i64 0,.int .i64 0] H [(0,1,.int .i64 a),(1,1,.int .i64 b)]=some (.slice (some ⟨H.nx,0,none⟩) 2 2,H.alloc (.cells 1 [.int .i64 a,.int .i64 b])):=rfl
 have X1:=Ext.alloc H (.cells 1 [.int .i64 a,.int .i64 b])
 have uT:=XP hw a b
 generalize H.alloc (.cells 1 [.int .i64 a,.int .i64 b])=H1 at kN X1 uT
 simp (maxSteps:=4000000)-implicitDefEqProofs+contextual [-X.ev,LV,kN]
 apply ah
 ·(simp-implicitDefEqProofs [-X.ev];rfl)
 refine (Pz uT (by simp)).mono ?_
 rintro x H1 ⟨rfl,rfl⟩
 have e:(bC w&&[a,b].all (isWord w))=true:=by simp [bC,eB,nv eB ha,nv eB hb]
 rw [e]
 simp (maxSteps:=4000000)-implicitDefEqProofs+contextual [-X.ev]
 apply ah
 ·(simp-implicitDefEqProofs [-X.ev];rfl)
 refine (MW (op:=op) (X1.wf hw)).mono ?_
 rintro x H2 ⟨rfl,X2⟩
 obtain ⟨f,hf,gk⟩:=Iv ho eB ha hb
 rw [hf]
 simp (maxSteps:=4000000)-implicitDefEqProofs+contextual [-X.ev]
 apply kX
 ·(simp-implicitDefEqProofs [-X.ev,-Value.func.injEq];rfl)
 ·(simp-implicitDefEqProofs [-X.ev];rfl)
 refine (gk H2).mono ?_
 rintro x H2 ⟨y,rfl,hy,rfl⟩
 simp (maxSteps:=4000000)-implicitDefEqProofs+contextual [-X.ev]
 apply ah
 ·(simp-implicitDefEqProofs [-X.ev];rfl)
 refine (wN eB H2).mono ?_
 rintro x H2 ⟨rfl,rfl⟩
 have ht:=CC (x:=y) (w:=w.toNat) (by omega)
 rw [hy]at ht
 simp (maxSteps:=4000000)-implicitDefEqProofs+contextual [-X.ev,ht,X1.trans X2]
end Go.Proofs.YtppcmpmnglaleaaGreatDoor.A
namespace Go.Proofs.YtppcmpmnglaleaaGreatDoor.A
open Go
def Sf (l:List Int) (i:Int):Int:=(l[i.toNat]?).getD 0
def bk (V:List Vr) (n:Int):Int:=du ((V.take n.toNat).map (·.cells))
def ei (l:List Int) (k:Nat):Int:=(l[k]?).getD 0
def storeAt (S:List (List Int)) (cp:Int):List Int:=(S[cp.toNat]?).getD []
mutual
def GH (w:Int) (V:List Vr) (S:List (List Int)):b9→Int
 | .mk op n cp args=>if op=0 then n else if op=1 then Sf (storeAt S cp) (bk V n+ei (bU w V S args) 0%al V n)
   else if op=12 then 2^w.toNat- 1- ei (bU w V S args) 0 else if op=15 then(if ei (bU w V S args) 0=0 then ei (bU w V S args) 2 else ei (bU w V S args) 1)
   else iO op w (ei (bU w V S args) 0) (ei (bU w V S args) 1)
def bU (w:Int) (V:List Vr) (S:List (List Int)):List b9→List Int
 |[]=>[]
 |e::es=>GH w V S e::bU w V S es
end
theorem tJ {w:Int} {V:List Vr} {S:List (List Int)}:∀(l:List b9) (i:Nat),(bU w V S l)[i]?=(l[i]?).map (GH w V S)
 |[],i=>by simp [bU]
 |e::es,0=>by simp [bU]
 |e::es,i+1=>by simp [bU,tJ es i]
structure Ev where
 kind:Int
 at_:Int
 val:Int
mutual
def nw (w:Int) (V:List Vr) (S:List (List Int)):b9→List Ev
 | .mk op n cp args=>eI w V S args++if op=1∧args≠[]then [⟨1,n,ei (bU w V S args) 0%al V n⟩]else []
def eI (w:Int) (V:List Vr) (S:List (List Int)):List b9→List Ev
 |[]=>[]
 |e::es=>nw w V S e++eI w V S es
end
theorem qM {V:List Vr} (h:∀v∈V,1≤v.cells∧v.cells≤8) (hl:V.length≤18):∀i,i≤V.length→(i:Int)≤du ((V.take i).map (·.cells))∧du ((V.take i).map (·.cells))≤8*i∧∀j,j≤i→du ((V.take j).map (·.cells))≤du ((V.take i).map (·.cells)):=by
 intro i
 induction i with
 |zero=>intro _;exact ⟨by simp [du],by simp [du],fun j hj=>by rw [show j=0 by omega];exact Int.le_refl _⟩
 |succ i ih=>
  intro hi
  obtain ⟨h1,h2,h3⟩:=ih (by omega)
  obtain ⟨y,hy⟩:∃y,V[i]?=some y:=⟨_,asl (by omega)⟩
  have hc:=h y (asq hy)
  have e:du ((V.take (i+1)).map (·.cells))=du ((V.take i).map (·.cells))+y.cells:=by
   rw [List.take_add_one]
   simp only [hy,Option.toList_some,List.map_append,List.map_cons,List.map_nil,du,List.foldl_append,List.foldl_cons,List.foldl_nil]
   exact ai ⟨by unfold du at h1;omega,by unfold du at h2;omega⟩
  refine ⟨by omega,by omega,fun j hj=>?_⟩
  by_cases hji:j=i+1
  ·subst hji;exact Int.le_refl _
  ·have:=h3 j (by omega);omega
theorem iC {w:Int} {V:List Vr} (h:aC w V=true):(∀v∈V,1≤v.cells∧v.cells≤8)∧V.length≤18∧du (V.map (·.cells))≤48:=by
 refine ⟨fun v hv=>?_,(aF h).2.2.2,?_⟩
 ·obtain ⟨i,hi,e⟩:=List.mem_iff_getElem.1 hv
  exact jm h (i:=i) (by rw [asl hi,e])
 ·rw [gQ]at h;simp only [aso,asx]at h;exact h.2.2.2.2
theorem ny {w:Int} {V:List Vr} (h:aC w V=true) {n:Int} (hn:0≤n∧n<V.length) (i:Int):
 0≤bk V n∧bk V n≤48∧1≤al V n∧al V n≤8∧0≤i%al V n∧i%al V n<al V n∧bk V n+i%al V n<du (V.map (·.cells)):=by
 obtain ⟨h1,h2,h3⟩:=iC h
 obtain ⟨y,hy⟩:∃y,V[n.toNat]?=some y:=⟨_,asl (by omega)⟩
 have hc:al V n=y.cells:=by simp [al,hy]
 have FT:=h1 y (asq hy)
 obtain ⟨a1,a2,_⟩:=qM h1 h2 n.toNat (by omega)
 obtain ⟨b1,b2,b3⟩:=qM h1 h2 (n.toNat+1) (by omega)
 obtain ⟨_,_,c3⟩:=qM h1 h2 V.length (asp _)
 have e:du ((V.take (n.toNat+1)).map (·.cells))=du ((V.take n.toNat).map (·.cells))+y.cells:=by
  rw [List.take_add_one]
  simp only [hy,Option.toList_some,List.map_append,List.map_cons,List.map_nil,du,List.foldl_append,List.foldl_cons,List.foldl_nil]
  exact ai ⟨by unfold du at a1;omega,by unfold du at a2;omega⟩
 have d1:=c3 (n.toNat+1) (by omega)
 have d2:=c3 n.toNat (by omega)
 rw [List.take_length]at d1 d2
 have m1:=Int.emod_nonneg i (show y.cells≠0 by omega)
 have m2:=Int.emod_lt_of_pos i (show 0<y.cells by omega)
 rw [hc]
 unfold bk
 omega
def EO (w:Int) (V:List Vr) (S:List (List Int)):Prop:=∀s∈S,aO w V s=true
theorem iY {w:Int} {V:List Vr} {s:List Int} (eB:1≤w∧w≤8) (h:aO w V s=true) {i:Int} (hi:0≤i∧i<du (V.map (·.cells))):∃a,s[i.toNat]?=some a∧0≤a∧a<2^w.toNat∧Sf s i=a:=by
 simp only [aO,aso,asx,asB]at h
 obtain ⟨a,ha⟩:∃y,s[i.toNat]?=some y:=⟨_,asl (by omega)⟩
 have:=h.2 a (asq ha)
 rw [k8 eB]at this
 simp at this
 exact ⟨a,ha,this.1,this.2,by simp [Sf,ha]⟩
theorem lP {w k op n cp:Int} {V:List Vr} {args:List b9} (eB:1≤w∧w≤8) (h:dA w V k (.mk op n cp args)=true):
 (∀e∈args,dA w V k e=true)∧((op=0∧args=[]∧0≤n∧n<2^w.toNat)∨(op=1∧0≤n∧n<V.length∧0≤cp∧cp<k∧((args=[]∧¬ 1<al V n)∨(∃a,args=[a])∧1<al V n))∨(op=12∧∃a,args=[a])∨(op=15∧∃a b c,args=[a,b,c])∨
  (((2≤op∧op≤11)∨op=13∨op=14)∧∃a b,args=[a,b])):=by
 rw [dA,aso]at h
 refine ⟨jI.1 h.2,?_⟩
 have h1:=h.1
 rw [wE eB,aso,asx]at h1
 obtain ⟨h1,h2⟩:=h1
 unfold mE at h1
 unfold vq at h2
 by_cases o0:op=0
 ·rw [if_pos o0]at h1 h2
  simp at h2
  exact .inl ⟨o0,List.eq_nil_of_length_eq_zero (by omega),h2.1,h2.2.1⟩
 rw [if_neg o0]at h1 h2
 by_cases o1:op=1
 ·rw [if_pos o1]at h2
  simp at h2
  by_cases hn:0≤n∧n<V.length
  ·rw [if_pos ⟨o1,hn⟩]at h1
   refine .inr (.inl ⟨o1,hn.1,hn.2,h2.1,h2.2,?_⟩)
   by_cases hc:1<al V n
   ·rw [if_pos hc]at h1
    exact .inr ⟨List.length_eq_one_iff.1 (by omega),hc⟩
   ·rw [if_neg hc]at h1
    exact .inl ⟨List.eq_nil_of_length_eq_zero (by omega),hc⟩
  ·rw [if_neg (fun q=>hn q.2),if_neg (by omega),if_neg (by omega),if_neg (by omega)]at h1
   omega
 rw [if_neg (fun q=>o1 q.1)]at h1
 by_cases o2:(2≤op∧op≤11)∨op=13∨op=14
 ·rw [if_pos o2]at h1
  exact .inr (.inr (.inr (.inr ⟨o2,Pw (by omega)⟩)))
 rw [if_neg o2]at h1
 by_cases o3:op=12
 ·rw [if_pos o3]at h1
  exact .inr (.inr (.inl ⟨o3,List.length_eq_one_iff.1 (by omega)⟩))
 rw [if_neg o3]at h1
 by_cases o4:op=15
 ·rw [if_pos o4]at h1
  exact .inr (.inr (.inr (.inl ⟨o4,Io (by omega)⟩)))
 rw [if_neg o4]at h1
 omega
theorem iZ {w:Int} {V:List Vr} {S:List (List Int)} (hV:aC w V=true) (hS:EO w V S):∀e,dA w V S.length e=true→0≤GH w V S e∧GH w V S e<2^w.toNat:=pJ fun op n cp args ih hf=>by
 have eB:1≤w∧w≤8:=⟨(aF hV).1,(aF hV).2.1⟩
 have hp:=fJ eB
 obtain ⟨aG,hc⟩:=lP eB hf
 rcases hc with⟨rfl,rfl,h1,h2⟩|⟨rfl,h1,h2,h3,h4,_⟩|⟨rfl,a,rfl⟩|⟨rfl,a,b,c,rfl⟩|⟨ho,a,b,rfl⟩
 ·rw [GH,if_pos rfl];exact ⟨h1,h2⟩
 ·rw [GH,if_neg (by omega),if_pos rfl]
  obtain ⟨s,hs⟩:∃s,S[cp.toNat]?=some s:=⟨_,asl (by omega)⟩
  have eT:=hS s (asq hs)
  have hc:=ny hV ⟨h1,h2⟩ (ei (bU w V S args) 0)
  obtain ⟨x,_,Gi,zL,AT⟩:=iY eB eT (i:=bk V n+ei (bU w V S args) 0%al V n) (by omega)
  have:storeAt S cp=s:=by simp [storeAt,hs]
  rw [this,AT]
  exact ⟨Gi,zL⟩
 ·rw [GH,if_neg (by omega),if_neg (by omega),if_pos rfl]
  have:=ih a (by simp) (aG a (by simp))
  simp only [bU,ei,asj,Option.getD_some]
  omega
 ·rw [GH,if_neg (by omega),if_neg (by omega),if_neg (by omega),if_pos rfl]
  have hb:=ih b (by simp) (aG b (by simp))
  have hc:=ih c (by simp) (aG c (by simp))
  by_cases q:ei (bU w V S [a,b,c]) 0=0
  ·rw [if_pos q];exact hc
  ·rw [if_neg q];exact hb
 ·rw [GH,if_neg (by omega),if_neg (by omega),if_neg (by omega),if_neg (by omega)]
  have ha:=ih a (by simp) (aG a (by simp))
  have hb:=ih b (by simp) (aG b (by simp))
  simp only [bU,ei,asj,List.getElem?_cons_succ,Option.getD_some]
  exact yK eB ha hb
def et (H:AH) (v:Value) (S:List (List Int)):Prop:=∃rows,Rows H 1 v rows∧fN (fun r s=>∃u,r=[u]∧eM H u s) rows S
theorem fN.get {α β:Type} {C:α→β→Prop}:∀{l:List α} {m:List β} {i:Nat} {y:β},fN C l m→m[i]?=some y→∃x,l[i]?=some x∧C x y
 |_,_,i,y,.nil,h=>by simp at h
 |_,_,0,y,.cons a b,h=>by simp at h;subst h;exact ⟨_,rfl,a⟩
 |_,_,i+1,y,.cons a b,h=>by obtain ⟨x,h1,h2⟩:=fN.get b (by simpa using h);exact ⟨x,by simpa using h1,h2⟩
theorem fN.imp {α β:Type} {C D:α→β→Prop} (h:∀a b,C a b→D a b):∀{l:List α} {m:List β},fN C l m→fN D l m
 |_,_,.nil=>.nil
 |_,_,.cons a b=>.cons (h _ _ a) (fN.imp h b)
theorem et.sub {H H':AH} (X:Sub H H') {v:Value} {S:List (List Int)} (h:et H v S):et H' v S:=by
 obtain ⟨rows,h1,h2⟩:=h
 exact ⟨rows,h1.sub X,h2.imp fun _ _ ⟨u,e,k⟩=>⟨u,e,k.sub X⟩⟩
theorem et.ext {H H':AH} (X:Ext H H') {v:Value} {S:List (List Int)} (h:et H v S):et H' v S:=h.sub (Sub.cj X)
theorem et.at {H:AH} {v:Value} {S:List (List Int)} (h:et H v S) {i:Nat} {s:List Int} (hi:S[i]?=some s):∃b o c a c',v= .slice (some ⟨b,o,none⟩) S.length c∧H.ld ⟨b,o+i,none⟩=some (.slice a s.length c')∧eM H (.slice a s.length c') s:=by
 obtain ⟨rows,h1,h2⟩:=h
 obtain ⟨r,hr,u,rfl,hu⟩:=h2.get hi
 obtain ⟨b,o,c,e,hl⟩:=h1.at hr
 obtain ⟨a,c',e2⟩:=hu.len
 rw [h2.length]at e
 have:=aR hl (j:=0) rfl
 rw [e2]at this hu
 exact ⟨b,o,c,a,c',e,by simpa using this,hu⟩
theorem et.len {H:AH} {v:Value} {S:List (List Int)} (h:et H v S):∃a c,v= .slice a S.length c:=by
 obtain ⟨rows,h1,h2⟩:=h
 obtain ⟨a,c,e⟩:=h1.len
 rw [h2.length]at e
 exact ⟨a,c,e⟩
open Go
theorem EP:∀(N:Nat) (e:b9) (c:List Value) (H:AH),SizeOf.sizeOf e<N→H.n0≤H.nx→nX H c e→aB e<2^60→
 Ca E O 91 [.agg c.toArray] H (fun x H'=>x= .int .i64 (aB e)∧Ext H H'):=by
 intro N
 induction N with
 |zero=>intro e c H h;omega
 |succ N ih=>
  intro e c H hN hw he hm
  cases he with| @mk op n cp v rows args i1 i2 i3 hlen hr hl=>
  refine Ca.aS (F:=a91) rfl rfl rfl ?_
  have X1:=Ext.alloc H (.cells 4 [.int .i64 op,.int .i64 n,.int .i64 cp,v])
  have d0:(H.alloc (.cells 4 [.int .i64 op,.int .i64 n,.int .i64 cp,v])).ld ⟨H.nx,0,none⟩=some (.int .i64 op):=ak hw rfl
  have d1:(H.alloc (.cells 4 [.int .i64 op,.int .i64 n,.int .i64 cp,v])).ld ⟨H.nx,1,none⟩=some (.int .i64 n):=ak hw rfl
  have d2:(H.alloc (.cells 4 [.int .i64 op,.int .i64 n,.int .i64 cp,v])).ld ⟨H.nx,2,none⟩=some (.int .i64 cp):=ak hw rfl
  have d3:(H.alloc (.cells 4 [.int .i64 op,.int .i64 n,.int .i64 cp,v])).ld ⟨H.nx,3,none⟩=some v:=ak hw rfl
  have d:(H.alloc (.cells 4 [.int .i64 op,.int .i64 n,.int .i64 cp,v])).ldn ⟨H.nx,0,none⟩ 4=some [.int .i64 op,.int .i64 n,.int .i64 cp,v]:=bl hw 4 rfl
  generalize cJ:H.alloc (.cells 4 [.int .i64 op,.int .i64 n,.int .i64 cp,v])=H1 at X1 d0 d1 d2 d3 d
  have bP:=X1.wf hw
  rw [aB]at hm
  obtain ⟨p0,c0,hv⟩:=hr.len
  rw [hl.length]at hv
  simp (maxSteps:=4000000)-implicitDefEqProofs+contextual [-X.ev,a91,cJ]
  refine ch (fun k fr H'=>Ext H1 H'∧∃i:Nat,i+k=args.length∧fr.get 1= .pointer (some ⟨H.nx,0,none⟩)∧fr.get 4= .int .i64 i∧fr.get 3= .int .i64 (1+aw (args.take i))) ?_ args.length ⟨Ext.refl _,0,by simp,by simp,by simp,by simp [aw]⟩
  rintro k fr H2 ⟨X2,i,hi,f1,f4,f3⟩
  have fU:=X1.trans X2
  have jr:=fU.wf hw
  have D3:=X2.ld d3
  by_cases h:i<args.length
  ·obtain ⟨y,hy⟩:∃y,args[i]?=some y:=⟨_,asl h⟩
   obtain ⟨b,o,c',va,r,cA,bJ,rfl,kO⟩:=gG.row (hr.ext fU) (hl.ext fU) hy
   rw [cA]at D3
   have t1:=eK hy
   have t2:=bj args (i+1)
   have t3:=bj args i
   have t4:=ec y
   have hs:=gO (op:=op) (n:=n) (cp:=cp) hy
   simp (maxSteps:=4000000)-implicitDefEqProofs+contextual [-X.ev,f1,f4,f3,h,bJ,D3]
   apply ah
   ·(simp-implicitDefEqProofs [-X.ev];rfl)
   refine (ih y _ H2 (by omega) jr kO (by omega)).mono ?_
   rintro x H4 ⟨rfl,X4⟩
   simp (maxSteps:=4000000)-implicitDefEqProofs+contextual [-X.ev,f1,f4,f3]
   rw [ai (n:=(i:Int)+1) ⟨by omega,by omega⟩,ai ⟨by omega,by omega⟩]
   exact ⟨k- 1,by omega,X2.trans X4,i+1,by omega,by simp,by omega⟩
  ·rw [hv]at D3
   simp (maxSteps:=4000000)-implicitDefEqProofs+contextual [-X.ev,f1,f4,f3,h,D3]
   rw [ass (by omega)]
   exact ⟨by rw [aB],fU⟩
theorem Iw {w n i:Int} {vv:Value} {V:List Vr} {H:AH} (hv:dz H vv V) (hV:aC w V=true) (hn:0≤n∧n<V.length) (hi:0≤i∧i<2^40):
 Ca E O 121 [vv,.int .i64 n,.int .i64 i] H (fun x H'=>x= .int .i64 (bk V n+i%al V n)∧H'=H):=by
 refine Ca.aS (F:=LF) rfl rfl rfl ?_
 have hc:=ny hV hn i
 obtain ⟨y,hy⟩:∃y,V[n.toNat]?=some y:=⟨_,asl (by omega)⟩
 obtain ⟨b,o,c',cA,_,_,_,eh⟩:=hv.at hy
 have AU:al V n=y.cells:=by simp [al,hy]
 have bJ:=bg.1 eh
 have hl:V.length<2^60:=by have:=(iC hV).2.1;omega
 have hf:Ca E O 41 [vv,.int .i64 n] H (fun x H'=>x= .int .i64 (bk V n)∧H'=H):=by
  have:=tk hv hl n.toNat (by omega)
  rwa [show((n.toNat:Nat):Int)=n by omega]at this
 rw [AU]at hc⊢
 have y0:¬ y.cells=0:=by omega
 have rn:=iB (a:=i) (b:=y.cells) hi.1
 rw [if_neg y0]at rn
 rw [cA]at hf⊢
 simp (maxSteps:=4000000)-implicitDefEqProofs+contextual [-X.ev,LF,hn.1,hn.2,eh,rn]
 apply ah
 ·(simp-implicitDefEqProofs [-X.ev];rfl)
 refine (hf).mono ?_
 rintro x H ⟨rfl,rfl⟩
 have ww:IntKind.i64.wrap (bk V n+i%y.cells)=bk V n+i%y.cells:=ai ⟨by omega,by omega⟩
 simp (maxSteps:=4000000)-implicitDefEqProofs+contextual [-X.ev,ww,bm,aJ,aK,bJ]
theorem yM {w:Int} {vv vS:Value} {V:List Vr} {S:List (List Int)} (hV:aC w V=true) (hS:EO w V S):∀(N:Nat) (e:b9) (c:List Value) (H:AH),SizeOf.sizeOf e<N→H.n0≤H.nx→dz H vv V→et H vS S→nX H c e→dA w V S.length e=true→
 Ca E O 90 [.int .i64 w,vv,vS,.agg c.toArray] H (fun x H'=>x= .int .i64 (GH w V S e)∧Ext H H'):=by
 have eB:1≤w∧w≤8:=⟨(aF hV).1,(aF hV).2.1⟩
 have hp:=fJ eB
 intro N
 induction N with
 |zero=>intro e c H h;omega
 |succ N ih=>
  intro e c H hN hw hv hs he hf
  cases he with| @mk op n cp va rows args i1 i2 i3 hlen hr hl=>
  refine Ca.aS (F:=Lw) rfl rfl rfl ?_
  have X1:=Ext.alloc H (.cells 4 [.int .i64 op,.int .i64 n,.int .i64 cp,va])
  have d0:(H.alloc (.cells 4 [.int .i64 op,.int .i64 n,.int .i64 cp,va])).ld ⟨H.nx,0,none⟩=some (.int .i64 op):=ak hw rfl
  have d1:(H.alloc (.cells 4 [.int .i64 op,.int .i64 n,.int .i64 cp,va])).ld ⟨H.nx,1,none⟩=some (.int .i64 n):=ak hw rfl
  have d2:(H.alloc (.cells 4 [.int .i64 op,.int .i64 n,.int .i64 cp,va])).ld ⟨H.nx,2,none⟩=some (.int .i64 cp):=ak hw rfl
  have d3:(H.alloc (.cells 4 [.int .i64 op,.int .i64 n,.int .i64 cp,va])).ld ⟨H.nx,3,none⟩=some va:=ak hw rfl
  have d:(H.alloc (.cells 4 [.int .i64 op,.int .i64 n,.int .i64 cp,va])).ldn ⟨H.nx,0,none⟩ 4=some [.int .i64 op,.int .i64 n,.int .i64 cp,va]:=bl hw 4 rfl
  generalize cJ:H.alloc (.cells 4 [.int .i64 op,.int .i64 n,.int .i64 cp,va])=H1 at X1 d0 d1 d2 d3 d
  have bP:=X1.wf hw
  obtain ⟨aG,hc⟩:=lP eB hf
  have arg:∀(H2:AH) (i:Nat) (y:b9),Ext H1 H2→args[i]?=some y→∃b o c' vy,va= .slice (some ⟨b,o,none⟩) args.length c'∧H2.ldn ⟨b,o+i*4,none⟩ 4=some [.int .i64 y.op,.int .i64 y.n,.int .i64 y.cp,vy]∧
   Ca E O 90 [.int .i64 w,vv,vS,.agg #[.int .i64 y.op,.int .i64 y.n,.int .i64 y.cp,vy]] H2 (fun x H'=>x= .int .i64 (GH w V S y)∧Ext H2 H'):=by
   intro H2 i y X2 hy
   have fU:=X1.trans X2
   obtain ⟨b,o,c',vy,r,cA,bJ,rfl,kO⟩:=gG.row (hr.ext fU) (hl.ext fU) hy
   have iu:=gO (op:=op) (n:=n) (cp:=cp) hy
   exact ⟨b,o,c',vy,cA,bJ,ih y _ H2 (by omega) (fU.wf hw) (hv.ext fU) (hs.ext fU) kO (aG y (asq hy))⟩
  have wd:∀y∈args,0≤GH w V S y∧GH w V S y<2^w.toNat:=fun y hy=>iZ hV hS y (aG y hy)
  rcases hc with⟨rfl,rfl,h1,h2⟩|⟨rfl,h1,h2,h3,h4,fS⟩|⟨rfl,x0,rfl⟩|⟨rfl,x0,x1,x2,rfl⟩|⟨ho,x0,x1,rfl⟩
  ·simp (maxSteps:=4000000)-implicitDefEqProofs+contextual [-X.ev,Lw,cJ,d0,d1,GH,X1]
  ·obtain ⟨s,Na⟩:∃s,S[cp.toNat]?=some s:=⟨_,asl (by omega)⟩
   have eT:=hS s (asq Na)
   have XU:storeAt S cp=s:=by simp [storeAt,Na]
   have mG:=ny hV ⟨h1,h2⟩ (ei (bU w V S args) 0)
   obtain ⟨x,hx,Gi,zL,AT⟩:=iY eB eT (i:=bk V n+ei (bU w V S args) 0%al V n) (by omega)
   have c8:bk V n+ei (bU w V S args) 0%al V n<(s.length:Int):=by
    have:=(asr.1 hx).1;omega
   rcases fS with⟨rfl,Vc⟩|⟨⟨y,rfl⟩,Vc⟩
   ·obtain ⟨b,o,c',a',FG,oH,eh,uT⟩:=(hs.ext X1).at Na
    obtain ⟨a5,c5,gq⟩:=hr.len
    rw [hl.length]at gq
    obtain ⟨b3,o3,c3,FD,rZ⟩:=uT.at hx
    cases FD
    rw [gq]at d3
    have D2:=bg.1 d2
    have HN:=bg.1 eh
    rw [oH]
    have Vd:cp<S.length:=by omega
    simp (maxSteps:=4000000)-implicitDefEqProofs+contextual [-X.ev,Lw,cJ,d0,d1,d2,d3,eh,h3,Vd]
    apply ah
    ·(simp-implicitDefEqProofs [-X.ev];rfl)
    refine (Iw (i:=0) (hv.ext X1) hV ⟨h1,h2⟩ (by omega)).mono ?_
    rintro x H1 ⟨rfl,rfl⟩
    have e0:ei (bU w V S []) 0=0:=rfl
    rw [e0]at mG c8 rZ AT
    simp only [Int.zero_emod,Int.add_zero]at mG c8 rZ AT
    have g1:0≤bk V n:=by omega
    have tq:GH w V S (.mk 1 n cp [])=x:=by
     rw [GH,if_neg (by omega),if_pos rfl,XU,e0,Int.zero_emod,Int.add_zero,AT]
    simp (maxSteps:=4000000)-implicitDefEqProofs+contextual [-X.ev,bm,aJ,aK,D2,HN,g1,c8,rZ,X1,tq]
   ·obtain ⟨b0,o0,c0,vy,Sg,AV,gk⟩:=arg H1 0 y (Ext.refl _) rfl
    rw [Sg]at d3
    have tK:H1.ldn ⟨b0,o0,none⟩ 4=some [.int .i64 y.op,.int .i64 y.n,.int .i64 y.cp,vy]:=by simpa using AV
    simp (maxSteps:=4000000)-implicitDefEqProofs+contextual [-X.ev,Lw,cJ,d0,d1,d2,d3,tK]
    apply ah
    ·(simp-implicitDefEqProofs [-X.ev];rfl)
    refine (gk).mono ?_
    rintro x H2 ⟨rfl,X2⟩
    replace d0:=X2.ld d0
    replace d1:=X2.ld d1
    replace d2:=X2.ld d2
    replace d3:=X2.ld d3
    have fU:=X1.trans X2
    have KQ:=wd y (by simp)
    have e0:ei (bU w V S [y]) 0=GH w V S y:=rfl
    obtain ⟨b,o,c',a',FG,oH,eh,uT⟩:=(hs.ext fU).at Na
    obtain ⟨b3,o3,c3,FD,rZ⟩:=uT.at hx
    cases FD
    have D2:=bg.1 d2
    have HN:=bg.1 eh
    rw [oH]
    have Vd:cp<S.length:=by omega
    rw [e0]at mG c8 rZ AT
    have g1:0≤bk V n+GH w V S y%al V n:=by omega
    simp (maxSteps:=4000000)-implicitDefEqProofs+contextual [-X.ev,d0,d1,d2,d3,eh,h3,Vd]
    apply ah
    ·(simp-implicitDefEqProofs [-X.ev];rfl)
    refine (Iw (i:=GH w V S y) (hv.ext fU) hV ⟨h1,h2⟩ ⟨KQ.1,by omega⟩).mono ?_
    rintro x H2 ⟨rfl,rfl⟩
    simp (maxSteps:=4000000)-implicitDefEqProofs+contextual [-X.ev,bm,aJ,aK,D2,HN,g1,c8,rZ,fU]
    rw [GH,if_neg (by omega),if_pos rfl,XU,e0,AT]
  ·obtain ⟨b0,o0,c0,vy,Sg,AV,gk⟩:=arg H1 0 x0 (Ext.refl _) rfl
   rw [Sg]at d3
   have tK:H1.ldn ⟨b0,o0,none⟩ 4=some [.int .i64 x0.op,.int .i64 x0.n,.int .i64 x0.cp,vy]:=by simpa using AV
   simp (maxSteps:=4000000)-implicitDefEqProofs+contextual [-X.ev,Lw,cJ,d0,d1,d2,d3,tK]
   apply ah
   ·(simp-implicitDefEqProofs [-X.ev];rfl)
   refine (gk).mono ?_
   rintro x H2 ⟨rfl,X2⟩
   simp (maxSteps:=4000000)-implicitDefEqProofs+contextual [-X.ev]
   apply ah
   ·(simp-implicitDefEqProofs [-X.ev];rfl)
   refine (MT eB (wd x0 (by simp)) H2).mono ?_
   rintro x H2 ⟨rfl,rfl⟩
   simp (maxSteps:=4000000)-implicitDefEqProofs+contextual [-X.ev,X1.trans X2]
   rw [GH,if_neg (by omega),if_neg (by omega),if_pos rfl];rfl
  ·obtain ⟨b0,o0,c0,vy,Sg,AV,gk⟩:=arg H1 0 x0 (Ext.refl _) rfl
   have FU:=d3
   rw [Sg]at d3
   have tK:H1.ldn ⟨b0,o0,none⟩ 4=some [.int .i64 x0.op,.int .i64 x0.n,.int .i64 x0.cp,vy]:=by simpa using AV
   simp (maxSteps:=4000000)-implicitDefEqProofs+contextual [-X.ev,Lw,cJ,d0,d1,d2,d3,tK]
   apply ah
   ·(simp-implicitDefEqProofs [-X.ev];rfl)
   refine (gk).mono ?_
   rintro x H2 ⟨rfl,X2⟩
   replace d0:=X2.ld d0
   replace d3:=X2.ld d3
   replace FU:=X2.ld FU
   obtain ⟨b1,o1,c1,vy1,tm,Iq,AW⟩:=arg H2 1 x1 X2 rfl
   rw [tm]at FU
   have Ix:H2.ldn ⟨b1,o1+4,none⟩ 4=some [.int .i64 x1.op,.int .i64 x1.n,.int .i64 x1.cp,vy1]:=by simpa using Iq
   simp (maxSteps:=4000000)-implicitDefEqProofs+contextual [-X.ev,FU,Ix]
   apply ah
   ·(simp-implicitDefEqProofs [-X.ev];rfl)
   refine (AW).mono ?_
   rintro x H3 ⟨rfl,X3⟩
   replace d0:=X3.ld d0
   replace d3:=X3.ld d3
   replace FU:=X3.ld FU
   by_cases q:GH w V S x0=0
   ·obtain ⟨b2,o2,c2,vy2,xB,tn,Sh⟩:=arg H3 2 x2 (X2.trans X3) rfl
    rw [tm]at xB
    cases xB
    have XV:H3.ldn ⟨b1,o1+8,none⟩ 4=some [.int .i64 x2.op,.int .i64 x2.n,.int .i64 x2.cp,vy2]:=by simpa using tn
    simp (maxSteps:=4000000)-implicitDefEqProofs+contextual [-X.ev,d0,q,FU,XV]
    apply ah
    ·(simp-implicitDefEqProofs [-X.ev];rfl)
    refine (Sh).mono ?_
    rintro x H4 ⟨rfl,X4⟩
    simp (maxSteps:=4000000)-implicitDefEqProofs+contextual [-X.ev,X1.trans (X2.trans (X3.trans X4))]
    rw [GH,if_neg (by omega),if_neg (by omega),if_neg (by omega),if_pos rfl,if_pos (show ei (bU w V S [x0,x1,x2]) 0=0 from q)];rfl
   ·simp (maxSteps:=4000000)-implicitDefEqProofs+contextual [-X.ev,d0,q,X1.trans (X2.trans X3)]
    rw [GH,if_neg (by omega),if_neg (by omega),if_neg (by omega),if_pos rfl,if_neg (show¬ ei (bU w V S [x0,x1,x2]) 0=0 from q)];rfl
  ·have n0:¬ op=0:=by omega
   have n1:¬ op=1:=by omega
   have XW:¬ op=12:=by omega
   have n15:¬ op=15:=by omega
   obtain ⟨b0,o0,c0,vy,Sg,AV,gk⟩:=arg H1 0 x0 (Ext.refl _) rfl
   have FU:=d3
   rw [Sg]at d3
   have tK:H1.ldn ⟨b0,o0,none⟩ 4=some [.int .i64 x0.op,.int .i64 x0.n,.int .i64 x0.cp,vy]:=by simpa using AV
   simp (maxSteps:=4000000)-implicitDefEqProofs+contextual [-X.ev,Lw,cJ,d0,d1,d2,d3,tK,n0,n1,XW,n15]
   apply ah
   ·(simp-implicitDefEqProofs [-X.ev];rfl)
   refine (gk).mono ?_
   rintro x H2 ⟨rfl,X2⟩
   replace d0:=X2.ld d0
   replace d3:=X2.ld d3
   replace FU:=X2.ld FU
   obtain ⟨b1,o1,c1,vy1,tm,Iq,AW⟩:=arg H2 1 x1 X2 rfl
   rw [tm]at FU
   have Ix:H2.ldn ⟨b1,o1+4,none⟩ 4=some [.int .i64 x1.op,.int .i64 x1.n,.int .i64 x1.cp,vy1]:=by simpa using Iq
   simp (maxSteps:=4000000)-implicitDefEqProofs+contextual [-X.ev,FU,Ix]
   apply ah
   ·(simp-implicitDefEqProofs [-X.ev];rfl)
   refine (AW).mono ?_
   rintro x H3 ⟨rfl,X3⟩
   replace d0:=X3.ld d0
   have iM:=X1.trans (X2.trans X3)
   simp (maxSteps:=4000000)-implicitDefEqProofs+contextual [-X.ev,d0,n15]
   apply ah
   ·(simp-implicitDefEqProofs [-X.ev];rfl)
   refine (Sd (iM.wf hw) eB (wd x0 (by simp)) (wd x1 (by simp))).mono ?_
   rintro x H4 ⟨rfl,X4⟩
   simp (maxSteps:=4000000)-implicitDefEqProofs+contextual [-X.ev,iM.trans X4]
   rw [GH,if_neg n0,if_neg n1,if_neg XW,if_neg n15];rfl
end Go.Proofs.YtppcmpmnglaleaaGreatDoor.A
namespace Go.Proofs.YtppcmpmnglaleaaGreatDoor.A
open Go
def Ev.row (e:Ev):List Value:=[.int .i64 e.kind,.int .i64 e.at_,.int .i64 e.val]
def c9 (l:List Ev):List (List Value):=l.map Ev.row
theorem kL (l m:List Ev):c9 (l++m)=c9 l++c9 m:=by simp [c9]
theorem cO (l:List Ev):(c9 l).length=l.length:=by simp [c9]
theorem jJ {w:Int} {V:List Vr} {S:List (List Int)} {l:List b9} (h:∀e∈l,((nw w V S e).length:Int)≤aB e):((eI w V S l).length:Int)≤aw l:=by
 induction l with
 |nil=>simp [eI,aw]
 |cons x l ih=>
  rw [eI,aw,asu]
  have h1:=h x (by simp)
  have h2:=ih fun e he=>h e (by simp [he])
  omega
theorem dV {w:Int} {V:List Vr} {S:List (List Int)}:∀e,((nw w V S e).length:Int)≤aB e:=pJ fun op n cp args ih=>by
 have h1:=jJ (w:=w) (V:=V) (S:=S) ih
 rw [nw,aB,asu]
 split
 ·simp;omega
 ·simp;omega
theorem mH {w:Int} {V:List Vr} {S:List (List Int)} {l:List b9} {i:Nat} {y:b9} (h:l[i]?=some y):eI w V S (l.take (i+1))=eI w V S (l.take i)++nw w V S y:=by
 induction l generalizing i with
 |nil=>simp at h
 |cons x l ih=>
  cases i with
  |zero=>simp at h;subst h;simp [eI]
  |succ i=>simp only [List.take_succ_cons,eI];rw [ih (by simpa using h),List.append_assoc]
theorem mI {w:Int} {V:List Vr} {S:List (List Int)} (l:List b9) (i:Nat):((eI w V S (l.take i)).length:Int)≤aw l:=by
 have:=jJ (w:=w) (V:=V) (S:=S) (l:=l.take i) fun e _=>dV e
 have:=bj l i
 omega
theorem Nb {H H1:AH} {u:Value} {s:List Int} {a:Option Addr} {c:Nat} (hw:H.n0≤H.nx) (hu:eM H u s) (h1:H.alloc (.cells 1 [u])=H1):et H1 (.slice (some ⟨H.nx,0,none⟩) 1 1) [s]:=by
 subst h1
 refine ⟨[[u]],⟨_,_,rfl,fun i r hi=>⟨H.nx,0,rfl,?_⟩⟩,.cons ⟨u,rfl,eM.ext (Ext.alloc _ _) hu⟩ .nil⟩
 cases i with
 |zero=>
  simp at hi;subst hi
  have:=bl hw (z:=1) (c:=[u]) 1 rfl
  simpa using this
 |succ i=>simp at hi
theorem Si (a b c:Int):fg [.int .i64 0,.int .i64 0,.int .i64 0] [(0,1,.int .i64 a),(1,1,.int .i64 b),(2,1,.int .i64 c)]=some (.agg #[.int .i64 a,.int .i64 b,.int .i64 c]):=rfl
theorem ER {w:Int} {vv vs:Value} {V:List Vr} {s:List Int} (hV:aC w V=true) (hS:aO w V s=true):∀(N:Nat) (e:b9) (c:List Value) (H:AH),SizeOf.sizeOf e<N→H.n0≤H.nx→dz H vv V→eM H vs s→nX H c e→dA w V 1 e=true→aB e≤2^30→
 Ca E O 92 [.int .i64 w,vv,vs,.agg c.toArray] H (fun x H'=>dN H' 3 x (c9 (nw w V [s] e))∧Ext H H'∧∀b,aX x b→H.nx≤b):=by
 have eB:1≤w∧w≤8:=⟨(aF hV).1,(aF hV).2.1⟩
 have hp:=fJ eB
 have zU:EO w V [s]:=fun t ht=>by simp at ht;subst ht;exact hS
 intro N
 induction N with
 |zero=>intro e c H h;omega
 |succ N ih=>
  intro e c H hN hw hv hs he hf nz
  cases he with| @mk op n cp va rows args i1 i2 i3 hlen hr hl=>
  refine Ca.aS (F:=a92) rfl rfl rfl ?_
  have X1:=Ext.alloc H (.cells 4 [.int .i64 op,.int .i64 n,.int .i64 cp,va])
  have d0:(H.alloc (.cells 4 [.int .i64 op,.int .i64 n,.int .i64 cp,va])).ld ⟨H.nx,0,none⟩=some (.int .i64 op):=ak hw rfl
  have d1:(H.alloc (.cells 4 [.int .i64 op,.int .i64 n,.int .i64 cp,va])).ld ⟨H.nx,1,none⟩=some (.int .i64 n):=ak hw rfl
  have d2:(H.alloc (.cells 4 [.int .i64 op,.int .i64 n,.int .i64 cp,va])).ld ⟨H.nx,2,none⟩=some (.int .i64 cp):=ak hw rfl
  have d3:(H.alloc (.cells 4 [.int .i64 op,.int .i64 n,.int .i64 cp,va])).ld ⟨H.nx,3,none⟩=some va:=ak hw rfl
  have d:(H.alloc (.cells 4 [.int .i64 op,.int .i64 n,.int .i64 cp,va])).ldn ⟨H.nx,0,none⟩ 4=some [.int .i64 op,.int .i64 n,.int .i64 cp,va]:=bl hw 4 rfl
  generalize cJ:H.alloc (.cells 4 [.int .i64 op,.int .i64 n,.int .i64 cp,va])=H1 at X1 d0 d1 d2 d3 d
  have bP:=X1.wf hw
  obtain ⟨aG,hc⟩:=lP eB hf
  rw [aB]at nz
  obtain ⟨p0,c0,gq⟩:=hr.len
  rw [hl.length]at gq
  simp (maxSteps:=4000000)-implicitDefEqProofs+contextual [-X.ev,a92,cJ]
  refine ch (fun k fr H'=>Ext H1 H'∧∃(i:Nat) (z:Value),i+k=args.length∧fr.get 0= .int .i64 w∧fr.get 1=vv∧fr.get 2=vs∧fr.get 7= .pointer (some ⟨H.nx,0,none⟩)∧fr.get 9=z∧fr.get 10= .int .i64 i∧dN H' 3 z (c9 (eI w V [s] (args.take i)))∧(∀b,aX z b→H1.nx≤b)) ?_ args.length ⟨Ext.refl _,0,.slice none 0 0,by simp,by simp,by simp,by simp,by simp,by simp,by simp,by simpa [eI,c9]using dN.nil _ 3,fun b hb=>absurd hb (dI _ _ _)⟩
  rintro k fr H2 ⟨X2,i,z,hi,f0,f1,f2,f7,f9,f10,ow,gj⟩
  have fU:=X1.trans X2
  have jr:=fU.wf hw
  have D3:=X2.ld d3
  have tl:=mI (w:=w) (V:=V) (S:=[s]) args i
  by_cases h:i<args.length
  ·obtain ⟨y,hy⟩:∃y,args[i]?=some y:=⟨_,asl h⟩
   obtain ⟨b,o,c',vy,r,cA,bJ,rfl,kO⟩:=gG.row (hr.ext fU) (hl.ext fU) hy
   rw [cA]at D3
   have iu:=gO (op:=op) (n:=n) (cp:=cp) hy
   have t1:=eK hy
   have t2:=bj args (i+1)
   have t3:=bj args i
   have bd:=dV (w:=w) (V:=V) (S:=[s]) y
   simp (maxSteps:=4000000)-implicitDefEqProofs+contextual [-X.ev,f0,f1,f2,f7,f9,f10,h,bJ,D3]
   apply ah
   ·(simp-implicitDefEqProofs [-X.ev];rfl)
   refine (ih y _ H2 (by omega) jr (hv.ext fU) (eM.ext fU hs) kO (aG y (asq hy)) (by omega)).mono ?_
   rintro x H3 ⟨o3,X3,k3⟩
   have nm:=X3.wf jr
   obtain ⟨z',H4,Sj,o4,M4,k4⟩:=wH (bytes:=24) nm (ow.ext X3) o3.rows (by rw [cO,cO];omega) (by rw [cO,cO];omega)
   simp (maxSteps:=4000000)-implicitDefEqProofs+contextual [-X.ev,f0,f1,f2,f7,f9,f10,Sj]
   rw [ai (n:=(i:Int)+1) ⟨by omega,by omega⟩]
   refine ⟨k- 1,by omega,(X2.trans X3).mod M4 gj,i+1,by omega,by simp,?_,fun q hq=>?_⟩
   ·rw [mH hy,kL];exact o4
   ·rcases k4 q hq with h|h
    ·exact gj q h
    ·exact Nat.le_trans (Nat.le_trans X2.nx X3.nx) h
  ·have ht:args.take i=args:=ass (by omega)
   rw [ht]at ow
   have D3':=D3
   rw [gq]at D3
   have D0:=X2.ld d0
   have D1:=X2.ld d1
   obtain ⟨R,hR⟩:∃R,nw w V [s] (.mk op n cp args)=R:=⟨_,rfl⟩
   rw [hR]
   rw [nw]at hR
   have Sk:∀q,aX z q→H.nx≤q:=fun q hq=>Nat.le_trans X1.nx (gj q hq)
   by_cases o1:op=1∧args≠[]
   ·obtain ⟨rfl,gF⟩:=o1
    rcases hc with⟨h0,_⟩|⟨_,h1,h2,h3,h4,fS⟩|⟨h0,_⟩|⟨h0,_⟩|⟨h0,_⟩
    ·omega
    rotate_left
    ·omega
    ·omega
    ·omega
    rcases fS with⟨rfl,_⟩|⟨⟨y,rfl⟩,Vc⟩
    ·exact absurd rfl gF
    obtain ⟨yv,AX⟩:∃yv,V[n.toNat]?=some yv:=⟨_,asl (by omega)⟩
    have AU:al V n=yv.cells:=by simp [al,AX]
    have KQ:=iZ hV zU y (aG y (by simp))
    have e0:ei (bU w V [s] [y]) 0=GH w V [s] y:=rfl
    have hi1:¬ (i:Int)<1:=by simp at h;omega
    rw [e0,if_pos ⟨rfl,gF⟩,AU]at hR
    have zN:=eM.ext fU hs
    obtain ⟨as_,cs_,oH⟩:=zN.len
    have kN:=rY (sz:=1) (z:=[.slice none 0 0]) (H:=H2) (v:=vs) (by rw [oH];rfl) (by rw [oH];rfl) rfl
    have VZ:aZ vs=[vs]:=by rw [oH];rfl
    rw [VZ]at kN
    have X3:=Ext.alloc H2 (.cells 1 [vs])
    have eT:=Nb (a:=none) (c:=0) jr zN rfl
    have nm:=X3.wf jr
    generalize KR:H2.alloc (.cells 1 [vs])=H3 at kN X3 eT nm
    have iM:=fU.trans X3
    obtain ⟨b,o,c',vy,r,cA,bJ,rfl,kO⟩:=gG.row (hr.ext iM) (hl.ext iM) (i:=0) (y:=y) rfl
    have XY:H3.ldn ⟨b,o,none⟩ 4=some [.int .i64 y.op,.int .i64 y.n,.int .i64 y.cp,vy]:=by simpa using bJ
    have d33:=X3.ld D3'
    rw [cA]at d33
    simp (maxSteps:=4000000)-implicitDefEqProofs+contextual [-X.ev,f0,f1,f2,f7,f9,f10,hi1,D3,D0,kN,d33,XY]
    apply ah
    ·(simp-implicitDefEqProofs [-X.ev];rfl)
    refine (yM hV zU _ y _ H3 (asA _) nm (hv.ext iM) eT kO (aG y (by simp))).mono ?_
    rintro x H4 ⟨rfl,X4⟩
    have qu:=iM.trans X4
    have qv:=X4.wf nm
    have D14:=(X3.trans X4).ld D1
    obtain ⟨bb,oo,cc,lC,_,_,_,eh⟩:=(hv.ext qu).at AX
    have OW:=jm hV AX
    have rn:=iB (a:=GH w V [s] y) (b:=yv.cells) KQ.1
    rw [if_neg (by omega)]at rn
    have lY:=rY (sz:=3) (z:=[.int .i64 0,.int .i64 0,.int .i64 0]) (H:=H4) (v:=.agg #[.int .i64 1,.int .i64 n,.int .i64 (GH w V [s] y%yv.cells)]) rfl rfl rfl
    simp only [fZ]at lY
    obtain ⟨H5,Sl⟩:∃H5,H4.alloc (.cells 3 [.int .i64 1,.int .i64 n,.int .i64 (GH w V [s] y%yv.cells)])=H5:=⟨_,rfl⟩
    obtain ⟨z',H6,Sn,o6,M6,k6,c1,c2,c3,c4,c5,c6⟩:=gT (bytes:=24) qv (ow.ext (X3.trans X4)) (r:=[.int .i64 1,.int .i64 n,.int .i64 (GH w V [s] y%yv.cells)]) rfl Sl (by rw [cO];rw [ht]at tl;omega) (by rw [cO];rw [ht]at tl;omega)
    rw [Sl]at lY
    rw [lC]at f1
    simp (maxSteps:=4000000)-implicitDefEqProofs+contextual [-X.ev,f0,f1,f2,f7,f9,f10,D14,h1,h2,eh,rn,Si,lY,Sn,bm,aJ,aK,c1,c4,c5,c6]
    refine ⟨by rw [←hR,kL];exact o6,qu.mod M6 Sk,fun q hq=>Nat.le_trans qu.nx (k6 q hq)⟩
   ·rw [if_neg o1,List.append_nil]at hR
    rw [hR]at ow
    by_cases q1:op=1
    ·have q2:args=[]:=by
      rcases Classical.em (args=[])with e|e
      ·exact e
      ·exact absurd ⟨q1,e⟩ o1
     subst q2
     have hi0:¬ (i:Int)<0:=by omega
     simp (maxSteps:=4000000)-implicitDefEqProofs+contextual [-X.ev,f0,f1,f2,f7,f9,f10,D3,D0,q1,hi0,ow,fU]
     exact Sk
    ·simp (maxSteps:=4000000)-implicitDefEqProofs+contextual [-X.ev,f0,f1,f2,f7,f9,f10,h,D3,D0,q1,ow,fU]
     exact Sk
open Go
abbrev kv:=Int×bD
def bK:List bD→Int→List kv
 |[],_=>[]
 | .mk op n args thn els::ss,k=>(k,.mk op n args thn els)::bK ss (k+1+ar thn+ar els)
theorem oN.sub:∀{G H:AH} (X:Sub G H) {c:List Value} {e:bD},oN G c e→oN H c e:=by
 intro G H X
 have hE:∀(N:Nat) (e:b9) (c:List Value),SizeOf.sizeOf e<N→nX G c e→nX H c e:=by
  intro N
  induction N with
  |zero=>intro e c h;omega
  |succ N ih=>
   intro e c hN h
   cases h with| @mk op n cp v rows args i1 i2 i3 hl hr ig=>
   refine .mk i1 i2 i3 hl (hr.sub X) ?_
   have:∀(rows:List (List Value)) (l:List b9),(∀y∈l,SizeOf.sizeOf y<N)→gG G rows l→gG H rows l:=by
    intro rows l
    induction l generalizing rows with
    |nil=>intro _ h;cases h;exact .nil
    |cons x l tp=>intro hs h;cases h with|cons a b=>exact .cons (ih x _ (hs x (by simp)) a) (tp _ (fun y hy=>hs y (by simp [hy])) b)
   exact this rows args (fun y hy=>by have:=List.sizeOf_lt_of_mem hy;simp at hN;omega) ig
 have hEL:∀(rows:List (List Value)) (l:List b9),gG G rows l→gG H rows l:=by
  intro rows l
  induction l generalizing rows with
  |nil=>intro h;cases h;exact .nil
  |cons x l tp=>intro h;cases h with|cons a b=>exact .cons (hE _ x _ (asA _) a) (tp _ b)
 have hS:∀(N:Nat) (e:bD) (c:List Value),SizeOf.sizeOf e<N→oN G c e→oN H c e:=by
  intro N
  induction N with
  |zero=>intro e c h;omega
  |succ N ih=>
   intro e c hN h
   cases h with| @mk op n va vt ve ra rt re args thn els i1 i2 i3 i4 i5 h1 h2 h3 h4 h5 h6=>
   have key:∀(rows:List (List Value)) (l:List bD),(∀y∈l,SizeOf.sizeOf y<N)→iN G rows l→iN H rows l:=by
    intro rows l
    induction l generalizing rows with
    |nil=>intro _ h;cases h;exact .nil
    |cons x l tp=>intro hs h;cases h with|cons a b=>exact .cons (ih x _ (hs x (by simp)) a) (tp _ (fun y hy=>hs y (by simp [hy])) b)
   refine .mk i1 i2 i3 i4 i5 (h1.sub X) (hEL _ _ h2) (h3.sub X) (key _ _ (fun y hy=>?_) h4) (h5.sub X) (key _ _ (fun y hy=>?_) h6)
   ·have:=List.sizeOf_lt_of_mem hy;simp at hN;omega
   ·have:=List.sizeOf_lt_of_mem hy;simp at hN;omega
 exact fun{c e} h=>hS _ e c (asA _) h
theorem iN.sub {G H:AH} (X:Sub G H):∀{rows:List (List Value)} {l:List bD},iN G rows l→iN H rows l
 |_,_,.nil=>.nil
 |_,_,.cons a b=>.cons (a.sub X) (iN.sub X b)
end Go.Proofs.YtppcmpmnglaleaaGreatDoor.A
namespace Go.Proofs.YtppcmpmnglaleaaGreatDoor.A
open Go
noncomputable def part (H:AH) (n:Nat) (S:Nat→Prop):AH:=H.uS ((List.range H.nx).filter fun b=>@decide (b<n∨S b) (Classical.propDecidable _))
theorem jW {H:AH} {n:Nat} {S:Nat→Prop} {b:Nat} {x:qy}:(part H n S).get b=some x↔H.get b=some x∧n≤b∧¬ S b:=by
 unfold part
 rw [tD]
 have hm:b∈((List.range H.nx).filter fun b=>@decide (b<n∨S b) (Classical.propDecidable _))↔b<H.nx∧(b<n∨S b):=by rw [List.mem_filter,List.mem_range,@asx _ (Classical.propDecidable _)]
 constructor
 ·intro h
  split at h
  ·cases h
  ·rename_i q
   rw [hm]at q
   have hb:=AH.a8 h
   exact ⟨h,Nat.le_of_not_lt fun k=>q ⟨hb,.inl k⟩,fun k=>q ⟨hb,.inr k⟩⟩
 ·rintro ⟨h,k1,k2⟩
  rw [if_neg]
  ·exact h
  ·rw [hm]
   rintro ⟨_,q|q⟩
   ·omega
   ·exact k2 q
theorem pQ (H:AH) (n:Nat) (S:Nat→Prop):(part H n S).n0=H.n0:=wI _ _
theorem wO (H:AH) (n:Nat) (S:Nat→Prop):(part H n S).nx=H.nx:=wJ _ _
theorem CJ (H:AH) (n:Nat) (S:Nat→Prop):Sub (part H n S) H:=Ik _ _
theorem eZ {H H':AH} {n m:Nat} {S S':Nat→Prop} (h0:H'.n0=H.n0) (hx:H.nx≤H'.nx) (h:∀b x,H.get b=some x→n≤b→¬ S b→H'.get b=some x∧m≤b∧¬ S' b):Sub (part H n S) (part H' m S'):=
 ⟨by rw [pQ,pQ,h0],by rw [wO,wO];exact hx,fun b x k=>jW.2 (let⟨a,b',c⟩:=jW.1 k;h b x a b' c)⟩
theorem dN.part {H:AH} {sz n:Nat} {v:Value} {rows:List (List Value)} {S:Nat→Prop} (h:dN H sz v rows) (hs:∀b,aX v b→n≤b∧¬ S b):dN (part H n S) sz v rows:=by
 refine ⟨?_,h.len⟩
 rcases h.is with⟨rfl,rfl⟩|⟨b,rfl,h0,hg⟩
 ·exact .inl ⟨rfl,rfl⟩
 ·have:=hs b ((bG _ _ _ _ _).2 rfl)
  exact .inr ⟨b,rfl,by rw [pQ];exact h0,jW.2 ⟨hg,this.1,this.2⟩⟩
theorem dN.sub {G H:AH} (X:Sub G H) {sz:Nat} {v:Value} {rows:List (List Value)} (h:dN G sz v rows):dN H sz v rows:=by
 refine ⟨?_,h.len⟩
 rcases h.is with⟨rfl,rfl⟩|⟨b,rfl,h0,hg⟩
 ·exact .inl ⟨rfl,rfl⟩
 ·exact .inr ⟨b,rfl,by rw [X.n0];exact h0,X.get _ _ hg⟩
abbrev zV:Nat→Prop:=fun _=>False
theorem nX.sub {G H:AH} (X:Sub G H):∀{c:List Value} {e:b9},nX G c e→nX H c e:=by
 have hE:∀(N:Nat) (e:b9) (c:List Value),SizeOf.sizeOf e<N→nX G c e→nX H c e:=by
  intro N
  induction N with
  |zero=>intro e c h;omega
  |succ N ih=>
   intro e c hN h
   cases h with| @mk op n cp v rows args i1 i2 i3 hl hr ig=>
   refine .mk i1 i2 i3 hl (hr.sub X) ?_
   have:∀(rows:List (List Value)) (l:List b9),(∀y∈l,SizeOf.sizeOf y<N)→gG G rows l→gG H rows l:=by
    intro rows l
    induction l generalizing rows with
    |nil=>intro _ h;cases h;exact .nil
    |cons x l tp=>intro hs h;cases h with|cons a b=>exact .cons (ih x _ (hs x (by simp)) a) (tp _ (fun y hy=>hs y (by simp [hy])) b)
   exact this rows args (fun y hy=>by have:=List.sizeOf_lt_of_mem hy;simp at hN;omega) ig
 exact fun{c e} h=>hE _ e c (asA _) h
theorem gG.sub {G H:AH} (X:Sub G H):∀{rows:List (List Value)} {l:List b9},gG G rows l→gG H rows l
 |_,_,.nil=>.nil
 |_,_,.cons a b=>.cons (a.sub X) (gG.sub X b)
theorem gG.snoc {H:AH}:∀{rows:List (List Value)} {l:List b9} {r:List Value} {y:b9},gG H rows l→nX H r y→gG H (rows++[r]) (l++[y])
 |_,_,_,_,.nil,h=>.cons h .nil
 |_,_,_,_,.cons a b,h=>.cons a (gG.snoc b h)
theorem nA {α:Type} {l:List α} {i:Nat} {y:α} (h:l[i]?=some y):l.take (i+1)=l.take i++[y]:=by rw [List.take_add_one,h];rfl
theorem lQ:∀l:List b9,(l.length:Int)≤aw l
 |[]=>by simp [aw]
 |x::l=>by have:=ec x;have:=lQ l;simp [aw];omega
theorem tL:∀(N:Nat) (l:List b9) (vl:Value) (rows:List (List Value)) (H:AH),SizeOf.sizeOf l<N→H.n0≤H.nx→Rows H 4 vl rows→gG H rows l→l.length≤2^40→aw l≤2^40→
 Ca E O 140 [vl] H (fun x H'=>∃rs,dN H' 4 x rs∧gG (part H' H.nx (aX x)) rs l∧Ext H H'∧∀b,aX x b→H.nx≤b):=by
 intro N
 induction N with
 |zero=>intro l vl rows H h;omega
 |succ N ih=>
  intro l vl rows H hN hw hr hl hlen nz
  refine Ca.aS (F:=LM) rfl rfl rfl ?_
  obtain ⟨p0,c0,kW⟩:=hr.len
  rw [hl.length]at kW
  simp (maxSteps:=4000000)-implicitDefEqProofs+contextual [-X.ev,LM,kW]
  refine ch (fun k fr H'=>Ext H H'∧∃(i:Nat) (z:Value) (rs:List (List Value)),i+k=l.length∧fr.get 6=vl∧fr.get 3=z∧fr.get 7= .int .i64 l.length∧fr.get 8= .int .i64 i∧dN H' 4 z rs∧rs.length=i∧gG (part H' H.nx (aX z)) rs (l.take i)∧(∀b,aX z b→H.nx≤b)) ?_ l.length ⟨Ext.refl _,0,.slice none 0 0,[],by simp,by simp [kW],by simp,by simp [kW],by simp,dN.nil _ _,rfl,by simpa using gG.nil,fun b hb=>absurd hb (dI _ _ _)⟩
  rintro k fr H1 ⟨X1,i,z,rs,hi,f6,f3,f7,f8,ow,Ar,aG,gj⟩
  have lI:=X1.wf hw
  by_cases h:i<l.length
  ·obtain ⟨y,hy⟩:∃y,l[i]?=some y:=⟨_,asl h⟩
   obtain ⟨op,n,cp,args⟩:=y
   obtain ⟨b,o,c',va,r,cA,bJ,rfl,kO⟩:=gG.row (hr.ext X1) (hl.ext X1) hy
   simp only [b9.op,b9.n,b9.cp]at bJ kO
   have So:=f6
   rw [cA]at So
   have pN:=List.sizeOf_lt_of_mem (asq hy)
   have ht1:=eK hy
   have ht2:=bj l (i+1)
   have ht3:=bj l i
   rw [aB]at ht1
   have hla:=lQ args
   cases kO with| @mk _ _ _ _ ra _ i1 i2 i3 Cw G4 agL=>
   obtain ⟨H2,sH2,X2,agf,Xq,q,lH2⟩:=eN (H:=H1) lI (z:=4) (c:=[.int .i64 0,.int .i64 0,.int .i64 0,.slice none 0 0]) (vs:=[.int .i64 op,.int .i64 n,.int .i64 cp,va]) rfl
   have q0:H2.ld ⟨H1.nx,0,none⟩=some (.int .i64 op):=lH2 0 _ rfl
   have q1:H2.ld ⟨H1.nx,1,none⟩=some (.int .i64 n):=lH2 1 _ rfl
   have q2:H2.ld ⟨H1.nx,2,none⟩=some (.int .i64 cp):=lH2 2 _ rfl
   have q3:H2.ld ⟨H1.nx,3,none⟩=some va:=lH2 3 _ rfl
   clear lH2
   replace q:H2.ldn ⟨H1.nx,0,none⟩ 4=some [.int .i64 op,.int .i64 n,.int .i64 cp,va]:=q
   have jU:=X2.wf lI
   have g2:H2.get H1.nx=some (.cells 4 [.int .i64 op,.int .i64 n,.int .i64 cp,va]):=by
    obtain ⟨H2',s2,_,_,_,g⟩:=jy lI (z:=4) (c:=[.int .i64 0,.int .i64 0,.int .i64 0,.slice none 0 0]) (vs:=[.int .i64 op,.int .i64 n,.int .i64 cp,va]) rfl
    rw [sH2]at s2
    cases s2
    exact g
   have lt2:=AH.a8 g2
   simp (maxSteps:=4000000)-implicitDefEqProofs+contextual [-X.ev,So,f3,f7,f8,h,bJ,sH2,q3]
   apply ah
   ·(simp-implicitDefEqProofs [-X.ev];rfl)
   refine (ih args va ra H2 (by simp at pN;omega) jU (G4.ext X2) (agL.ext X2) (by omega) (by omega)).mono ?_
   rintro x0 H3 ⟨PE,o3,e3,X3,k3⟩
   obtain ⟨xa,xc,hx⟩:=o3.shape
   subst hx
   have nm:=X3.wf jU
   have g3:=X3.get g2
   obtain ⟨H4,s4,M4,zP,oQ,g4⟩:=cg g3 (by rw [X3.n0,X2.n0];exact lI) (k:=3) (vs:=[.slice xa PE.length xc]) (by simp)
   have ji:aP [.int .i64 op,.int .i64 n,.int .i64 cp,va] 3 [.slice xa PE.length xc]=[.int .i64 op,.int .i64 n,.int .i64 cp,.slice xa PE.length xc]:=rfl
   rw [ji]at g4
   have qv:=M4.wf nm
   have h04:H4.n0≤H1.nx:=by rw [oQ,X3.n0,X2.n0];exact lI
   have l4:H4.ldn ⟨H1.nx,0,none⟩ 4=some [.int .i64 op,.int .i64 n,.int .i64 cp,.slice xa PE.length xc]:=by rw [bW g4 h04 (by simp)];rfl
   have Sp:∀b,aX z b→b<H1.nx:=fun b hb=>ow.lt hb
   have ow4:dN H4 4 z rs:=(ow.ext (X2.trans X3)).mod M4 (fun b hb q=>by have:=Sp b hb;omega)
   have xH:=rY (sz:=4) (z:=[.int .i64 0,.int .i64 0,.int .i64 0,.slice none 0 0]) (H:=H4) (v:=.agg #[.int .i64 op,.int .i64 n,.int .i64 cp,.slice xa PE.length xc]) rfl rfl rfl
   simp only [fZ]at xH
   obtain ⟨H5,Sl⟩:∃H5,H4.alloc (.cells 4 [.int .i64 op,.int .i64 n,.int .i64 cp,.slice xa PE.length xc])=H5:=⟨_,rfl⟩
   obtain ⟨z',H6,Sn,o6,M6,k6,c1,c2,c3,c4,c5,c6⟩:=gT (bytes:=48) qv ow4 (r:=[.int .i64 op,.int .i64 n,.int .i64 cp,.slice xa PE.length xc]) rfl Sl (by omega) (by omega)
   rw [Sl]at xH
   have hX:Ext H H6:=((X1.trans (X2.trans X3)).mod M4 (fun b hb=>by have:=X1.nx;omega)).mod M6 gj
   have XW:=X2.nx
   have n23:=X3.nx
   have CG:=X1.nx
   simp (maxSteps:=4000000)-implicitDefEqProofs+contextual [-X.ev,So,f3,f7,f8,s4,l4,xH,Sn]
   rw [ai (n:=(i:Int)+1) ⟨by omega,by omega⟩]
   refine ⟨k- 1,by omega,hX,i+1,by omega,cA.symm,by omega,_,o6,by simp [Ar],?_,fun q hq=>by have:=k6 q hq;omega⟩
   rw [nA hy]
   refine gG.snoc (aG.sub (eZ (c1.trans (oQ.trans (X3.n0.trans X2.n0))) (by omega) fun b y hb hn hz=>?_)) (.mk i1 i2 i3 Cw (rows:=PE) (Rows.sub (eZ (n:=H2.nx) (S:=zV) (c1.trans oQ) (by omega) fun b y hb hn hz=>?_) (o3.part (fun b hb=>⟨k3 b hb,fun q=>q⟩)).rows) (e3.sub (eZ (c1.trans oQ) (by omega) fun b y hb hn hz=>?_)))
   ·have mj:=AH.a8 hb
    refine ⟨M6.get (fun q=>hz q) (M4.get (fun q=>by omega) (X3.get (X2.get hb))),hn,fun q=>by have:=k6 b q;omega⟩
   ·have mj:=AH.a8 hb
    refine ⟨M6.get (fun q=>by have:=Sp b q;omega) (M4.get (fun q=>by omega) hb),by omega,fun q=>by have:=k6 b q;omega⟩
   ·have mj:=AH.a8 hb
    refine ⟨M6.get (fun q=>by have:=Sp b q;omega) (M4.get (fun q=>by omega) hb),by omega,fun q=>by have:=k6 b q;omega⟩
  ·rw [ass (by omega)]at aG
   simp (maxSteps:=4000000)-implicitDefEqProofs+contextual [-X.ev,f6,f3,f7,f8,h,X1]
   exact ⟨rs,ow,aG,gj⟩
open Go
def Fit (H:AH) (v:Value):Prop:=∃a n c,v= .slice a n c∧n≤c∧(0<n→∃b o,a=some ⟨b,o,none⟩∧H.lE b 5=true)
theorem wP {H:AH} {b z k:Nat} {c:List Value} (h:H.get b=some (.cells z c)) (hk:k≤z):H.lE b k=true:=by simp [AH.lE,h,hk]
theorem dN.fit {H:AH} {v:Value} {rows:List (List Value)} (h:dN H 5 v rows):Fit H v:=by
 rcases h.is with⟨rfl,_⟩|⟨b,rfl,_,hg⟩
 ·exact ⟨_,_,_,rfl,asp _,fun h=>absurd h (by omega)⟩
 ·exact ⟨_,_,_,rfl,asp _,fun _=>⟨_,_,rfl,wP hg (asp _)⟩⟩
theorem Fit.sub {G H:AH} (X:Sub G H) {v:Value} (h:Fit G v):Fit H v:=by
 obtain ⟨a,n,c,e,h1,h2⟩:=h
 refine ⟨a,n,c,e,h1,fun h=>?_⟩
 obtain ⟨b,o,e2,hz⟩:=h2 h
 refine ⟨b,o,e2,?_⟩
 unfold AH.lE at hz⊢
 split at hz
 ·rename_i hg;rw [X.get _ _ hg];exact hz
 ·cases hz
mutual
inductive zW (H:AH):List Value→bD→Prop where
 |mk {op n:Int} {va vt ve:Value} {ra rt re:List (List Value)} {args:List b9} {thn els:List bD}:kK op→kK n→args.length<2^60→thn.length<2^60→els.length<2^60→
  Rows H 4 va ra→gG H ra args→Rows H 5 vt rt→fh H rt thn→Fit H vt→Rows H 5 ve re→fh H re els→Fit H ve→zW H [.int .i64 op,.int .i64 n,va,vt,ve] (.mk op n args thn els)
inductive fh (H:AH):List (List Value)→List bD→Prop where
 |nil:fh H [] []
 |cons {r:List Value} {e:bD} {rs:List (List Value)} {es:List bD}:zW H r e→fh H rs es→fh H (r::rs) (e::es)
end
mutual
theorem zW.toC {H:AH} {c:List Value} {e:bD}:zW H c e→oN H c e
 | .mk a b c d e ra la rt lt _ re le _=>.mk a b c d e ra la rt (fh.XZ lt) re (fh.XZ le)
theorem fh.XZ {H:AH} {c:List (List Value)} {e:List bD}:fh H c e→iN H c e
 | .nil=>.nil
 | .cons a b=>.cons (zW.toC a) (fh.XZ b)
end
mutual
theorem zW.sub {G H:AH} (X:Sub G H) {c:List Value} {e:bD}:zW G c e→zW H c e
 | .mk a b c d e ra la rt lt ft re le fe=>.mk a b c d e (ra.sub X) (gG.sub X la) (rt.sub X) (fh.sub X lt) (ft.sub X) (re.sub X) (fh.sub X le) (fe.sub X)
theorem fh.sub {G H:AH} (X:Sub G H) {c:List (List Value)} {e:List bD}:fh G c e→fh H c e
 | .nil=>.nil
 | .cons a b=>.cons (zW.sub X a) (fh.sub X b)
end
theorem fh.length {H:AH}:∀{c:List (List Value)} {e:List bD},fh H c e→c.length=e.length:=fun h=>h.XZ.length
theorem fh.snoc {H:AH}:∀{rows:List (List Value)} {l:List bD} {r:List Value} {y:bD},fh H rows l→zW H r y→fh H (rows++[r]) (l++[y])
 |_,_,_,_,.nil,h=>.cons h .nil
 |_,_,_,_,.cons a b,h=>.cons a (fh.snoc b h)
theorem zW.len {H:AH} {c:List Value} {s:bD} (h:zW H c s):c.length=5:=by cases h;rfl
abbrev zS:List Value:=[.int .i64 0,.int .i64 0,.slice none 0 0,.slice none 0 0,.slice none 0 0]
theorem fA:∀l:List bD,(l.length:Int)≤av l
 |[]=>by simp [av]
 |x::l=>by have:=ku x;have:=fA l;simp [av];omega
theorem yN {H1 H3:AH} {n m:Nat} {z:Value} {rs:List (List Value)} {l1:List bD} {cs:List Value} {s:bD} (lI:H1.n0≤H1.nx) (X:Ext H1 H3) (hm:H1.nx≤m) (hn:n≤H1.nx) (ow:dN H1 5 z rs) (aG:fh (part H1 n (aX z)) rs l1) (hk:zW (part H3 m zV) cs s) (hb:rs.length≤2^40):
 ∃z' H4 H5,nL 1 5 zS H3 [(0,5,.agg cs.toArray)]=some (.slice (some ⟨H3.nx,0,none⟩) 1 1,H4)∧bI 5 88 H4 z (.slice (some ⟨H3.nx,0,none⟩) 1 1)=some (z',H5)∧dN H5 5 z' (rs++[cs])∧fh (part H5 n (aX z')) (rs++[cs]) (l1++[s])∧Mod (aX z) H3 H5∧∀b,aX z' b→H3.nx≤b:=by
 have nm:=X.wf lI
 have xH:=rY (sz:=5) (z:=zS) (H:=H3) (v:=.agg cs.toArray) (by simpa using hk.len) rfl rfl
 simp only [fZ]at xH
 obtain ⟨H4,hH4⟩:∃H4,H3.alloc (.cells 5 cs)=H4:=⟨_,rfl⟩
 obtain ⟨z',H6,Sn,o6,M6,k6,c1,c2,c3,c4,c5,c6⟩:=gT (bytes:=88) nm (ow.ext X) hk.len hH4 (by omega) (by omega)
 rw [hH4]at xH
 have Sp:∀b,aX z b→b<H1.nx:=fun b hb=>ow.lt hb
 have nx:=X.nx
 refine ⟨z',H4,H6,xH,Sn,o6,fh.snoc (aG.sub (eZ (c1.trans X.n0) (by omega) fun b y hb hn hz=>?_)) (hk.sub (eZ c1 (by omega) fun b y hb hn hz=>?_)),M6,k6⟩
 ·have mj:=AH.a8 hb
  exact ⟨M6.get (fun q=>hz q) (X.get hb),hn,fun q=>by have:=k6 b q;omega⟩
 ·have mj:=AH.a8 hb
  exact ⟨M6.get (fun q=>by have:=Sp b q;omega) hb,by omega,fun q=>by have:=k6 b q;omega⟩
theorem ES:∀(N:Nat) (s:bD) (c:List Value) (H:AH),SizeOf.sizeOf s<N→H.n0≤H.nx→oN H c s→bu s≤2^40→
 Ca E O 104 [.agg c.toArray] H (fun x H'=>∃cs,x= .agg cs.toArray∧zW (part H' H.nx zV) cs s∧Ext H H'):=by
 intro N
 induction N with
 |zero=>intro s c H h;omega
 |succ N ih=>
  intro s c H hN hw hs nz
  cases hs with| @mk op n va vt ve ra rt re args thn els i1 i2 i3 i4 i5 h1 h2 h3 h4 h5 h6=>
  refine Ca.aS (F:=Lz) rfl rfl rfl ?_
  rw [bu]at nz
  have na:=bc args
  have nt:=bF thn
  have ne:=bF els
  have la:=lQ args
  have lt:=fA thn
  have le:=fA els
  obtain ⟨p1,q1,xG⟩:=h3.len
  rw [h4.length]at xG
  obtain ⟨p2,q2,tq⟩:=h5.len
  rw [h6.length]at tq
  have gB:=cK H (.cells 5 [.int .i64 op,.int .i64 n,va,vt,ve])
  have X1:=Ext.alloc H (.cells 5 [.int .i64 op,.int .i64 n,va,vt,ve])
  have d0:(H.alloc (.cells 5 [.int .i64 op,.int .i64 n,va,vt,ve])).ld ⟨H.nx,0,none⟩=some (.int .i64 op):=ak hw rfl
  have d1:(H.alloc (.cells 5 [.int .i64 op,.int .i64 n,va,vt,ve])).ld ⟨H.nx,1,none⟩=some (.int .i64 n):=ak hw rfl
  have d2:(H.alloc (.cells 5 [.int .i64 op,.int .i64 n,va,vt,ve])).ld ⟨H.nx,2,none⟩=some va:=ak hw rfl
  have d3:(H.alloc (.cells 5 [.int .i64 op,.int .i64 n,va,vt,ve])).ld ⟨H.nx,3,none⟩=some vt:=ak hw rfl
  have d4:(H.alloc (.cells 5 [.int .i64 op,.int .i64 n,va,vt,ve])).ld ⟨H.nx,4,none⟩=some ve:=ak hw rfl
  have d:(H.alloc (.cells 5 [.int .i64 op,.int .i64 n,va,vt,ve])).ldn ⟨H.nx,0,none⟩ 5=some [.int .i64 op,.int .i64 n,va,vt,ve]:=bl hw 5 rfl
  generalize cJ:H.alloc (.cells 5 [.int .i64 op,.int .i64 n,va,vt,ve])=H1 at X1 d0 d1 d2 d3 d4 d
  have bP:=X1.wf hw
  rw [cJ]at gB
  have X2:=Ext.alloc H1 (.cells 5 zS)
  have gR:=cK H1 (.cells 5 zS)
  obtain ⟨H2,kl⟩:∃H2,H1.alloc (.cells 5 zS)=H2:=⟨_,rfl⟩
  rw [kl]at X2 gR
  have jr:=X2.wf bP
  have fU:=X1.trans X2
  have ltB:=AH.a8 gB
  have ltR:=AH.a8 gR
  have d22:=X2.ld d2
  have n1:=X1.nx
  have n2:=X2.nx
  simp at hN
  simp (maxSteps:=4000000)-implicitDefEqProofs+contextual [-X.ev,Lz,cJ,kl,d22]
  apply ah
  ·(simp-implicitDefEqProofs [-X.ev];rfl)
  refine (tL _ args va ra H2 (asA _) jr (h1.ext fU) (h2.ext fU) (by omega) (by omega)).mono ?_
  rintro x H3 ⟨FV,oa,ea,X3,ka⟩
  obtain ⟨xa,xc,hx⟩:=oa.shape
  subst hx
  have nm:=X3.wf jr
  have n3:=X3.nx
  obtain ⟨H4,s4,M4,zP,oQ,Ve⟩:=cg (X3.get (X2.get gB)) (by rw [X3.n0,X2.n0,X1.n0];exact hw) (k:=2) (vs:=[.slice xa FV.length xc]) (by simp)
  have ji:aP [.int .i64 op,.int .i64 n,va,vt,ve] 2 [.slice xa FV.length xc]=[.int .i64 op,.int .i64 n,.slice xa FV.length xc,vt,ve]:=rfl
  rw [ji]at Ve
  have qv:=M4.wf nm
  have qu:Ext H H4:=(fU.trans X3).mod M4 (fun b hb=>by omega)
  have gR4:=M4.get (fun q=>by omega) (X3.get gR)
  have B0:H4.n0≤H.nx:=by rw [qu.n0];exact hw
  have e3:=aI Ve B0 (k:=3) (v:=vt) rfl
  have Uw:=e3
  rw [xG]at Uw
  simp (maxSteps:=4000000)-implicitDefEqProofs+contextual [-X.ev,s4,Uw]
  refine ch (fun k fr H'=>Ext H4 H'∧∃(i:Nat) (z:Value) (rs:List (List Value)),i+k=thn.length∧fr.get 1= .pointer (some ⟨H.nx,0,none⟩)∧fr.get 2= .pointer (some ⟨H1.nx,0,none⟩)∧fr.get 3=z∧fr.get 4= .slice none 0 0∧fr.get 14=vt∧fr.get 15= .int .i64 thn.length∧fr.get 16= .int .i64 i∧dN H' 5 z rs∧rs.length=i∧fh (part H' H4.nx (aX z)) rs (thn.take i)∧(∀b,aX z b→H4.nx≤b)) ?_ thn.length ⟨Ext.refl _,0,.slice none 0 0,[],by simp,by simp,by simp,by simp,by simp,by simp [xG],by simp,by simp,dN.nil _ _,rfl,by simpa using fh.nil,fun b hb=>absurd hb (dI _ _ _)⟩
  rintro k fr H5 ⟨X5,i,z,rs,hi,f1,f2,f3,f4,f14,f15,f16,ow,Ar,aG,gj⟩
  have rI:=X5.wf qv
  have Il:=qu.trans X5
  by_cases h:i<thn.length
  ·obtain ⟨y,hy⟩:∃y,thn[i]?=some y:=⟨_,asl h⟩
   obtain ⟨l7,yn,kz,pR,pS⟩:=y
   obtain ⟨b,o,c',pT,pU,pV,Ya,Yb,Yc,cA,bJ,_,_,_,_,_,j1,j2,j3,j4,j5,g1,g2,g3,g4,g5,g6⟩:=iN.row (h3.ext Il) (iN.ext Il h4) hy
   have FT:oN H5 [.int .i64 l7,.int .i64 yn,pT,pU,pV] (.mk l7 yn kz pR pS):=.mk j1 j2 j3 j4 j5 g1 g2 g3 g4 g5 g6
   have pN:=List.sizeOf_lt_of_mem (asq hy)
   have t1:=fy hy
   have t2:=aV thn (i+1)
   have t3:=aV thn i
   have AY:=f14
   rw [cA]at AY
   obtain ⟨H6,MI,X6,RW,RX,q,uR⟩:=eN (H:=H5) rI (z:=5) (c:=[.int .i64 0,.int .i64 0,.slice none 0 0,.slice none 0 0,.slice none 0 0]) (vs:=[.int .i64 l7,.int .i64 yn,pT,pU,pV]) rfl
   have q0:H6.ld ⟨H5.nx,0,none⟩=some (.int .i64 l7):=uR 0 _ rfl
   have q1:H6.ld ⟨H5.nx,1,none⟩=some (.int .i64 yn):=uR 1 _ rfl
   have q2:H6.ld ⟨H5.nx,2,none⟩=some pT:=uR 2 _ rfl
   have q3:H6.ld ⟨H5.nx,3,none⟩=some pU:=uR 3 _ rfl
   have q4:H6.ld ⟨H5.nx,4,none⟩=some pV:=uR 4 _ rfl
   clear uR
   replace q:H6.ldn ⟨H5.nx,0,none⟩ 5=some [.int .i64 l7,.int .i64 yn,pT,pU,pV]:=q
   have HX:=X6.wf rI
   simp (maxSteps:=4000000)-implicitDefEqProofs+contextual [-X.ev,AY,f3,f15,f16,h,bJ,MI,q]
   apply ah
   ·(simp-implicitDefEqProofs [-X.ev];rfl)
   refine (ih _ _ H6 (by omega) HX (oN.ext X6 FT) (by omega)).mono ?_
   rintro x H7 ⟨cs,rfl,hk,X7⟩
   obtain ⟨z',H8,H9,b8,a9,o9,s9,M9,k9⟩:=yN rI (X6.trans X7) X6.nx X5.nx ow aG hk (by omega)
   have n6:=X6.nx
   have n7:=X7.nx
   have n5:=X5.nx
   simp (maxSteps:=4000000)-implicitDefEqProofs+contextual [-X.ev,AY,f3,f15,f16,b8,a9]
   rw [ai (n:=(i:Int)+1) ⟨by omega,by omega⟩]
   exact ⟨k- 1,by omega,((X5.trans X6).trans X7).mod M9 gj,i+1,by omega,f1,f2,f4,cA.symm,by omega,_,o9,by simp [Ar],by rw [nA hy];exact s9,fun q hq=>by have:=k9 q hq;omega⟩
  rw [ass (by omega)]at aG
  have gB5:=X5.get Ve
  have B5:H5.n0≤H.nx:=by rw [X5.n0];exact B0
  have e4:=aI gB5 B5 (k:=4) (v:=ve) rfl
  rw [tq]at e4
  obtain ⟨za,zc,hz⟩:=ow.shape
  have n5:=X5.nx
  have AY:=f14
  rw [xG]at AY
  simp (maxSteps:=4000000)-implicitDefEqProofs+contextual [-X.ev,f1,f2,f3,f4,AY,f15,f16,h,e4]
  refine ch (fun k fr H'=>Ext H5 H'∧∃(j:Nat) (z2:Value) (FW:List (List Value)),j+k=els.length∧fr.get 1= .pointer (some ⟨H.nx,0,none⟩)∧fr.get 2= .pointer (some ⟨H1.nx,0,none⟩)∧fr.get 3=z∧fr.get 4=z2∧fr.get 27=ve∧fr.get 28= .int .i64 els.length∧fr.get 29= .int .i64 j∧dN H' 5 z2 FW∧FW.length=j∧fh (part H' H5.nx (aX z2)) FW (els.take j)∧(∀b,aX z2 b→H5.nx≤b)) ?_ els.length ⟨Ext.refl _,0,.slice none 0 0,[],by simp,by simp [f1],by simp [f2],by simp [f3],by simp [f4],by simp [tq],by simp,by simp,dN.nil _ _,rfl,by simpa using fh.nil,fun b hb=>absurd hb (dI _ _ _)⟩
  clear f1 f2 f3 f4 f14 AY f15 f16 fr
  rintro k fr H6 ⟨X6,j,z2,FW,hj,f1,f2,f3,f4,f27,f28,f29,ow2,agM,ts,Sq⟩
  have ED:=X6.wf rI
  have X06:=Il.trans X6
  by_cases h':j<els.length
  ·obtain ⟨y,hy⟩:∃y,els[j]?=some y:=⟨_,asl h'⟩
   obtain ⟨l7,yn,kz,pR,pS⟩:=y
   obtain ⟨b,o,c',pT,pU,pV,Ya,Yb,Yc,cA,bJ,_,_,_,_,_,j1,j2,j3,j4,j5,g1,g2,g3,g4,g5,g6⟩:=iN.row (h5.ext X06) (iN.ext X06 h6) hy
   have FT:oN H6 [.int .i64 l7,.int .i64 yn,pT,pU,pV] (.mk l7 yn kz pR pS):=.mk j1 j2 j3 j4 j5 g1 g2 g3 g4 g5 g6
   have pN:=List.sizeOf_lt_of_mem (asq hy)
   have t1:=fy hy
   have t2:=aV els (j+1)
   have t3:=aV els j
   have ET:=f27
   rw [cA]at ET
   obtain ⟨H7,sH7,X7,aoQ,aoR,q,Vf⟩:=eN (H:=H6) ED (z:=5) (c:=[.int .i64 0,.int .i64 0,.slice none 0 0,.slice none 0 0,.slice none 0 0]) (vs:=[.int .i64 l7,.int .i64 yn,pT,pU,pV]) rfl
   have q0:H7.ld ⟨H6.nx,0,none⟩=some (.int .i64 l7):=Vf 0 _ rfl
   have q1:H7.ld ⟨H6.nx,1,none⟩=some (.int .i64 yn):=Vf 1 _ rfl
   have q2:H7.ld ⟨H6.nx,2,none⟩=some pT:=Vf 2 _ rfl
   have q3:H7.ld ⟨H6.nx,3,none⟩=some pU:=Vf 3 _ rfl
   have q4:H7.ld ⟨H6.nx,4,none⟩=some pV:=Vf 4 _ rfl
   clear Vf
   replace q:H7.ldn ⟨H6.nx,0,none⟩ 5=some [.int .i64 l7,.int .i64 yn,pT,pU,pV]:=q
   have agO:=X7.wf ED
   simp (maxSteps:=4000000)-implicitDefEqProofs+contextual [-X.ev,ET,f4,f28,f29,h',bJ,sH7,q]
   apply ah
   ·(simp-implicitDefEqProofs [-X.ev];rfl)
   refine (ih _ _ H7 (by omega) agO (oN.ext X7 FT) (by omega)).mono ?_
   rintro x H8 ⟨cs,rfl,hk,X8⟩
   obtain ⟨z',Ha,Hb,b8,a9,o9,s9,M9,k9⟩:=yN ED (X7.trans X8) X7.nx X6.nx ow2 ts hk (by omega)
   have n6:=X6.nx
   have n7:=X7.nx
   have n8:=X8.nx
   simp (maxSteps:=4000000)-implicitDefEqProofs+contextual [-X.ev,ET,f4,f28,f29,b8,a9]
   rw [ai (n:=(j:Int)+1) ⟨by omega,by omega⟩]
   exact ⟨k- 1,by omega,((X6.trans X7).trans X8).mod M9 Sq,j+1,by omega,f1,f2,f3,cA.symm,by omega,_,o9,by simp [agM],by rw [nA hy];exact s9,fun q hq=>by have:=k9 q hq;omega⟩
  rw [ass (by omega)]at ts
  obtain ⟨ya,yc,hz2⟩:=ow2.shape
  have n6:=X6.nx
  have gB6:=X6.get gB5
  have gR6:=X6.get (X5.get gR4)
  have B6:H6.n0≤H.nx:=by rw [X6.n0];exact B5
  subst hz hz2
  obtain ⟨H7,s7,M7,nx7,EL,Yd⟩:=cg gB6 B6 (k:=3) (vs:=[.slice za rs.length zc]) (by simp)
  have agP:aP [.int .i64 op,.int .i64 n,.slice xa FV.length xc,vt,ve] 3 [.slice za rs.length zc]=[.int .i64 op,.int .i64 n,.slice xa FV.length xc,.slice za rs.length zc,ve]:=rfl
  rw [agP]at Yd
  obtain ⟨H8,s8,M8,Va,CI,Ye⟩:=cg Yd (by rw [EL];exact B6) (k:=4) (vs:=[.slice ya FW.length yc]) (by simp)
  have Sr:aP [.int .i64 op,.int .i64 n,.slice xa FV.length xc,.slice za rs.length zc,ve] 4 [.slice ya FW.length yc]=[.int .i64 op,.int .i64 n,.slice xa FV.length xc,.slice za rs.length zc,.slice ya FW.length yc]:=rfl
  rw [Sr]at Ye
  have l8:H8.ldn ⟨H.nx,0,none⟩ 5=some [.int .i64 op,.int .i64 n,.slice xa FV.length xc,.slice za rs.length zc,.slice ya FW.length yc]:=by rw [bW Ye (by rw [CI,EL];exact B6) (by simp)];rfl
  have gR8:=M8.get (fun q=>by omega) (M7.get (fun q=>by omega) gR6)
  obtain ⟨H9,s9,M9,XT,PA,Yf⟩:=cg gR8 (by rw [CI,EL];omega) (k:=0) (vs:=[.int .i64 op,.int .i64 n,.slice xa FV.length xc,.slice za rs.length zc,.slice ya FW.length yc]) (by simp)
  have Ss:aP zS 0 [.int .i64 op,.int .i64 n,.slice xa FV.length xc,.slice za rs.length zc,.slice ya FW.length yc]=[.int .i64 op,.int .i64 n,.slice xa FV.length xc,.slice za rs.length zc,.slice ya FW.length yc]:=rfl
  rw [Ss]at Yf
  have l9:H9.ldn ⟨H1.nx,0,none⟩ 5=some [.int .i64 op,.int .i64 n,.slice xa FV.length xc,.slice za rs.length zc,.slice ya FW.length yc]:=by rw [bW Yf (by rw [PA,CI,EL];omega) (by simp)];rfl
  have ET:=f27
  rw [tq]at ET
  simp (maxSteps:=4000000)-implicitDefEqProofs+contextual [-X.ev,f1,f2,f3,f4,ET,f28,f29,h',s7,s8,l8,s9,l9]
  have key:∀b x,H.nx≤b→b≠H.nx→b≠H1.nx→H6.get b=some x→H9.get b=some x∧H.nx≤b∧¬ zV b:=fun b x hb h1 h2 hg=>⟨M9.get h2 (M8.get h1 (M7.get h1 hg)),hb,fun q=>q⟩
  have e09:H9.n0=H6.n0:=PA.trans (CI.trans EL)
  have xa9:Sub (part H3 H2.nx zV) (part H9 H.nx zV):=eZ (by rw [e09,X6.n0,X5.n0,oQ]) (by omega) fun b x hb hn _=>key b x (by omega) (by omega) (by omega) (X6.get (X5.get (M4.get (fun q=>by omega) hb)))
  have x59:Sub (part H5 H4.nx zV) (part H9 H.nx zV):=eZ (by rw [e09,X6.n0]) (by omega) fun b x hb hn _=>key b x (by omega) (by omega) (by omega) (X6.get hb)
  have x69:Sub (part H6 H5.nx zV) (part H9 H.nx zV):=eZ e09 (by omega) fun b x hb hn _=>key b x (by omega) (by omega) (by omega) hb
  have un:∀(G:AH) (k:Nat) (S:Nat→Prop),Sub (part G k S) (part G k zV):=fun G k S=>eZ rfl (asp _) fun b x hb hn _=>⟨hb,hn,fun q=>q⟩
  refine ⟨.mk i1 i2 i3 i4 i5 (dN.part (n:=H2.nx) (S:=zV) oa (fun b hb=>⟨ka b hb,fun q=>q⟩)|>.sub xa9).rows (ea.sub ((un _ _ _).trans xa9)) (dN.part (n:=H4.nx) (S:=zV) ow (fun b hb=>⟨gj b hb,fun q=>q⟩)|>.sub x59).rows (aG.sub ((un _ _ _).trans x59)) (dN.part (n:=H4.nx) (S:=zV) ow (fun b hb=>⟨gj b hb,fun q=>q⟩)|>.sub x59).fit (dN.part (n:=H5.nx) (S:=zV) ow2 (fun b hb=>⟨Sq b hb,fun q=>q⟩)|>.sub x69).rows (ts.sub ((un _ _ _).trans x69)) (dN.part (n:=H5.nx) (S:=zV) ow2 (fun b hb=>⟨Sq b hb,fun q=>q⟩)|>.sub x69).fit,?_⟩
  exact (((X06.mod M7 (fun b hb=>by omega)).mod M8 (fun b hb=>by omega)).mod M9 (fun b hb=>by omega))
end Go.Proofs.YtppcmpmnglaleaaGreatDoor.A
namespace Go.Proofs.YtppcmpmnglaleaaGreatDoor.A
open Go
structure gg (H:AH) (sz:Nat) (v:Value) (rows:List (List Value)):Prop where
 is:(v= .slice none 0 0∧rows=[])∨∃b c junk,v= .slice (some ⟨b,0,none⟩) rows.length c∧H.n0≤b∧H.get b=some (.cells sz (rows.flatten++junk))∧rows.length*sz+junk.length=c*sz∧rows.length≤c
 len:∀r∈rows,r.length=sz
theorem dN.Su {H:AH} {sz:Nat} {v:Value} {rows:List (List Value)} (h:dN H sz v rows):gg H sz v rows:=by
 refine ⟨?_,h.len⟩
 rcases h.is with⟨rfl,rfl⟩|⟨b,rfl,h0,hg⟩
 ·exact .inl ⟨rfl,rfl⟩
 ·exact .inr ⟨b,_,[],rfl,h0,by simpa using hg,by simp,asp _⟩
theorem gg.lt {H:AH} {sz b:Nat} {v:Value} {rows:List (List Value)} (h:gg H sz v rows) (hb:aX v b):b<H.nx:=by
 rcases h.is with⟨rfl,_⟩|⟨b',c,j,rfl,_,hg,_⟩
 ·exact absurd hb (dI _ _ _)
 ·rw [(bG _ _ _ _ _).1 hb];exact AH.a8 hg
theorem gg.shape {H:AH} {sz:Nat} {v:Value} {rows:List (List Value)} (h:gg H sz v rows):∃a c,v= .slice a rows.length c:=by
 rcases h.is with⟨rfl,rfl⟩|⟨b,c,j,rfl,_⟩
 ·exact ⟨_,_,rfl⟩
 ·exact ⟨_,_,rfl⟩
theorem gg.mod {S:Nat→Prop} {H H':AH} {sz:Nat} {v:Value} {rows:List (List Value)} (h:gg H sz v rows) (M:Mod S H H') (hs:∀b,aX v b→¬ S b):gg H' sz v rows:=by
 refine ⟨?_,h.len⟩
 rcases h.is with⟨rfl,rfl⟩|⟨b,c,j,rfl,h0,hg,h1,h2⟩
 ·exact .inl ⟨rfl,rfl⟩
 ·exact .inr ⟨b,c,j,rfl,by rw [M.n0];exact h0,M.get (hs b ((bG _ _ _ _ _).2 rfl)) hg,h1,h2⟩
theorem gg.ext {H H':AH} {sz:Nat} {v:Value} {rows:List (List Value)} (h:gg H sz v rows) (X:Ext H H'):gg H' sz v rows:=h.mod (Mod.cj (S:=fun _=>False) X) (by simp)
theorem gg.rows {H:AH} {sz:Nat} {v:Value} {rows:List (List Value)} (h:gg H sz v rows):Rows H sz v rows:=by
 rcases h.is with⟨rfl,rfl⟩|⟨b,c,j,rfl,h0,hg,h1,h2⟩
 ·exact ⟨_,_,rfl,by simp⟩
 ·refine ⟨_,_,rfl,fun i r hi=>⟨b,0,rfl,?_⟩⟩
  obtain ⟨e1,e2⟩:=jz h.len hi
  rw [bW hg h0 (by simp only [asu];omega)]
  rw [Nat.zero_add,List.drop_append_of_le_length (by omega),List.take_append_of_le_length (by rw [List.length_drop];omega)]
  rw [e1]
theorem qN (a b c d:List Value) (h:b.length=c.length):aP (a++(b++d)) a.length c=a++(c++d):=by
 induction a with
 |nil=>
  have:aP (b++d) 0 c=c++(b++d).drop c.length:=by cases (b++d)<;>rfl
  rw [List.nil_append,List.length_nil,this,←h,List.drop_left];rfl
 |cons x a ih=>simp only [List.cons_append,List.length_cons,aP,ih]
theorem gg.push {H H1:AH} {sz bytes:Nat} {s:Value} {rows:List (List Value)} {r:List Value} (hw:H.n0≤H.nx) (hs:gg H sz s rows) (hz:0<sz) (hr:r.length=sz) (h1:H.alloc (.cells sz r)=H1) (hb:(rows.length+1)*bytes≤2^47) (tC:rows.length+1<2^62):
 ∃s' H',bI sz bytes H1 s (.slice (some ⟨H.nx,0,none⟩) 1 1)=some (s',H')∧gg H' sz s' (rows++[r])∧Mod (aX s) H H'∧(∀b,aX s' b→aX s b∨H.nx≤b)∧H'.n0=H.n0∧H.nx≤H'.nx∧H1.nx≤H'.nx:=by
 rcases hs.is with⟨rfl,rfl⟩|⟨b,c,junk,rfl,h0,hg,hlen,hc⟩
 ·obtain ⟨s',H',a,o,M,k,n0,nx,wf,q1,q2,q3⟩:=gT (bytes:=bytes) hw (dN.nil H sz) hr h1 hb tC
  exact ⟨s',H',a,o.Su,M,fun b hb=>.inr (k b hb),n0,nx,q3⟩
 subst h1
 have X:=Ext.alloc H (.cells sz r)
 have hg1:=X.get hg
 have xE:∀q∈rows++[r],q.length=sz:=by
  intro q hq
  rcases List.mem_append.1 hq with h|h
  ·exact hs.len q h
  ·simp at h;subst h;exact hr
 have my:qz (H.alloc (.cells sz r)) sz (.slice (some ⟨H.nx,0,none⟩) 1 1)=some r:=by
  have:=sq hw sz r
  rw [hr]at this
  simp [qz,nb,this,hr]
 have yH:(H.alloc (.cells sz r)).lE b sz=true:=wP hg1 (asp _)
 have fX:=cC hs.len
 by_cases room:rows.length+1≤c
 ·have hj:sz≤junk.length:=by
   have:(rows.length+1)*sz≤c*sz:=Nat.mul_le_mul_right _ room
   rw [Nat.succ_mul]at this
   omega
  obtain ⟨H',st,M,nx,n0,g⟩:=cg hg1 (by exact h0) (k:=rows.length*sz) (vs:=r) (by simp only [asu];omega)
  refine ⟨.slice (some ⟨b,0,none⟩) (rows.length+1) c,H',?_,⟨.inr ⟨b,c,junk.drop sz,by simp,by rw [n0];exact h0,?_,?_,by simpa using room⟩,xE⟩,(Mod.cj X).trans (M.mono fun x _ hx=>(bG _ _ _ _ _).2 hx),fun q hq=>.inl ?_,n0.trans X.n0,by rw [nx];exact X.nx,by rw [nx];exact asp _⟩
  ·simp [bI,nI,my,hb,tC,room,yH,st]
  ·rw [g]
   have e:=qN rows.flatten (junk.take sz) r (junk.drop sz) (by rw [List.length_take,hr];omega)
   rw [List.take_append_drop,fX]at e
   rw [e];simp
  ·simp only [asu,List.length_drop,List.length_singleton,Nat.succ_mul];omega
  ·rw [bG]at hq⊢;exact hq
 ·have U8:c=rows.length:=by omega
  subst U8
  have hj:junk=[]:=List.eq_nil_of_length_eq_zero (by omega)
  subst hj
  rw [List.append_nil]at hg hg1
  have ow:dN H sz (.slice (some ⟨b,0,none⟩) rows.length rows.length) rows:=⟨.inr ⟨b,rfl,h0,hg⟩,hs.len⟩
  obtain ⟨s',H',a,o,M,k,n0,nx,wf,q1,q2,q3⟩:=gT (bytes:=bytes) hw ow hr rfl hb tC
  exact ⟨s',H',a,o.Su,M,fun b hb=>.inr (k b hb),n0,nx,q3⟩
theorem gg.last {H:AH} {sz:Nat} {v:Value} {rows:List (List Value)} {r:List Value} (h:gg H sz v (rows++[r])):∃b c,v= .slice (some ⟨b,0,none⟩) (rows.length+1) c∧rows.length+1≤c∧H.n0≤b∧b<H.nx∧H.lE b sz=true∧H.ldn ⟨b,rows.length*sz,none⟩ sz=some r∧
 (∀(j:Nat) (x:Value),j<sz→∃H',H.st ⟨b,rows.length*sz+j,none⟩ [x]=some H'∧gg H' sz v (rows++[r.set j x])∧Mod (fun q=>q=b) H H'∧H'.nx=H.nx∧H'.n0=H.n0)∧gg H sz (.slice (some ⟨b,0,none⟩) rows.length c) rows:=by
 rcases h.is with⟨_,e⟩|⟨b,c,junk,rfl,h0,hg,hlen,hc⟩
 ·simp at e
 have KS:∀q∈rows,q.length=sz:=fun q hq=>h.len q (by simp [hq])
 have hr:=h.len r (by simp)
 have fX:=cC KS
 simp only [asu,List.length_singleton]at hlen hc
 refine ⟨b,c,by simp,hc,h0,AH.a8 hg,wP hg (asp _),?_,fun j x hj=>?_,⟨.inr ⟨b,c,r++junk,rfl,h0,by simpa using hg,by rw [Nat.succ_mul]at hlen;simp only [asu];omega,by omega⟩,KS⟩⟩
 ·obtain ⟨b',o,c',e,hl⟩:=h.rows.at (i:=rows.length) (r:=r) (by simp)
  cases e
  simpa using hl
 ·obtain ⟨H',st,M,nx,n0,g⟩:=cg hg h0 (k:=rows.length*sz+j) (vs:=[x]) (by rw [asu,cC h.len];simp only [asu,List.length_singleton,Nat.succ_mul];omega)
  refine ⟨H',st,⟨.inr ⟨b,c,junk,by simp,by rw [n0];exact h0,?_,by simpa using hlen,by simpa using hc⟩,?_⟩,M,nx,n0⟩
  ·rw [g]
   have e:r=r.take j++([r[j]'(by omega)]++r.drop (j+1)):=by
    rw [←List.append_assoc];simp
   have e2:r.set j x=r.take j++([x]++r.drop (j+1)):=by rw [List.set_eq_take_append_cons_drop,if_pos (by omega)];rfl
   have:=qN (rows.flatten++r.take j) [r[j]'(by omega)] [x] (r.drop (j+1)++junk) rfl
   rw [asu,List.length_take,fX,Nat.min_eq_left (by omega)]at this
   have e3:(rows++[r]).flatten++junk=rows.flatten++r.take j++([r[j]'(by omega)]++(r.drop (j+1)++junk)):=by
    simp only [List.flatten_append,List.flatten_cons,List.flatten_nil,List.append_nil,List.append_assoc]
    congr 1
    conv=>lhs;rw [e]
    simp only [List.append_assoc]
   rw [e3,this]
   simp only [List.flatten_append,List.flatten_cons,List.flatten_nil,List.append_nil,List.append_assoc,e2]
  ·intro q hq
   rcases List.mem_append.1 hq with hq|hq
   ·exact KS q hq
   ·simp at hq;subst hq;simpa using hr
theorem CK:∀(N:Nat) (s:bD) (c:List Value) (H:AH),SizeOf.sizeOf s<N→H.n0≤H.nx→oN H c s→bu s<2^60→
 Ca E O 159 [.agg c.toArray] H (fun x H'=>x= .int .i64 (bw s)∧Ext H H'):=by
 intro N
 induction N with
 |zero=>intro s c H h;omega
 |succ N ih=>
  intro s c H hN hw hs nz
  cases hs with| @mk op n va vt ve ra rt re args thn els i1 i2 i3 i4 i5 h1 h2 h3 h4 h5 h6=>
  refine Ca.aS (F:=a159) rfl rfl rfl ?_
  rw [bu]at nz
  have na:=bc args
  have nt:=bF thn
  have ne:=bF els
  obtain ⟨p1,q1,xG⟩:=h3.len
  rw [h4.length]at xG
  obtain ⟨p2,q2,tq⟩:=h5.len
  rw [h6.length]at tq
  have X1:=Ext.alloc H (.cells 5 [.int .i64 op,.int .i64 n,va,vt,ve])
  have d0:(H.alloc (.cells 5 [.int .i64 op,.int .i64 n,va,vt,ve])).ld ⟨H.nx,0,none⟩=some (.int .i64 op):=ak hw rfl
  have d1:(H.alloc (.cells 5 [.int .i64 op,.int .i64 n,va,vt,ve])).ld ⟨H.nx,1,none⟩=some (.int .i64 n):=ak hw rfl
  have d2:(H.alloc (.cells 5 [.int .i64 op,.int .i64 n,va,vt,ve])).ld ⟨H.nx,2,none⟩=some va:=ak hw rfl
  have d3:(H.alloc (.cells 5 [.int .i64 op,.int .i64 n,va,vt,ve])).ld ⟨H.nx,3,none⟩=some vt:=ak hw rfl
  have d4:(H.alloc (.cells 5 [.int .i64 op,.int .i64 n,va,vt,ve])).ld ⟨H.nx,4,none⟩=some ve:=ak hw rfl
  have d:(H.alloc (.cells 5 [.int .i64 op,.int .i64 n,va,vt,ve])).ldn ⟨H.nx,0,none⟩ 5=some [.int .i64 op,.int .i64 n,va,vt,ve]:=bl hw 5 rfl
  generalize cJ:H.alloc (.cells 5 [.int .i64 op,.int .i64 n,va,vt,ve])=H1 at X1 d0 d1 d2 d3 d4 d
  have bP:=X1.wf hw
  have d3':=d3
  rw [xG]at d3'
  simp at hN
  simp (maxSteps:=4000000)-implicitDefEqProofs+contextual [-X.ev,a159,cJ,d3']
  refine ch (fun k fr H'=>Ext H1 H'∧∃i:Nat,i+k=thn.length∧fr.get 1= .pointer (some ⟨H.nx,0,none⟩)∧fr.get 9=vt∧fr.get 10= .int .i64 thn.length∧fr.get 11= .int .i64 i∧fr.get 3= .int .i64 (1+ar (thn.take i))) ?_ thn.length ⟨Ext.refl _,0,by simp,by simp,by simp [xG],by simp,by simp,by simp [ar]⟩
  rintro k fr H2 ⟨X2,i,hi,f1,f9,f10,f11,f3⟩
  have jr:=X2.wf bP
  have fU:=X1.trans X2
  have bt:=aQ thn
  have be:=aQ els
  by_cases h:i<thn.length
  ·obtain ⟨y,hy⟩:∃y,thn[i]?=some y:=⟨_,asl h⟩
   have pN:=List.sizeOf_lt_of_mem (asq hy)
   have t1:=fy hy
   have t2:=aV thn (i+1)
   have t3:=aV thn i
   have u1:=gv hy
   have u2:=cm thn i
   have u3:=cm thn (i+1)
   obtain ⟨l7,yn,kz,pR,pS⟩:=y
   obtain ⟨b,o,c',pT,pU,pV,Ya,Yb,Yc,cA,bJ,_,_,_,_,_,j1,j2,j3,j4,j5,g1,g2,g3,g4,g5,g6⟩:=iN.row (h3.ext fU) (iN.ext fU h4) hy
   have FT:oN H2 [.int .i64 l7,.int .i64 yn,pT,pU,pV] (.mk l7 yn kz pR pS):=.mk j1 j2 j3 j4 j5 g1 g2 g3 g4 g5 g6
   have f9':=f9
   rw [cA]at f9'
   obtain ⟨H3,FP,X3,HU,HV,q,mm⟩:=eN (H:=H2) jr (z:=5) (c:=[.int .i64 0,.int .i64 0,.slice none 0 0,.slice none 0 0,.slice none 0 0]) (vs:=[.int .i64 l7,.int .i64 yn,pT,pU,pV]) rfl
   have q0:H3.ld ⟨H2.nx,0,none⟩=some (.int .i64 l7):=mm 0 _ rfl
   have q1:H3.ld ⟨H2.nx,1,none⟩=some (.int .i64 yn):=mm 1 _ rfl
   have q2:H3.ld ⟨H2.nx,2,none⟩=some pT:=mm 2 _ rfl
   have q3:H3.ld ⟨H2.nx,3,none⟩=some pU:=mm 3 _ rfl
   have q4:H3.ld ⟨H2.nx,4,none⟩=some pV:=mm 4 _ rfl
   clear mm
   replace q:H3.ldn ⟨H2.nx,0,none⟩ 5=some [.int .i64 l7,.int .i64 yn,pT,pU,pV]:=q
   have yD:=X3.wf jr
   have w1:IntKind.i64.wrap (1+ar (thn.take i)+bw (.mk l7 yn kz pR pS))=1+ar (thn.take (i+1)):=by rw [ai ⟨by omega,by omega⟩];omega
   simp (maxSteps:=4000000)-implicitDefEqProofs+contextual [-X.ev,f9',f3,f10,f11,h,bJ,FP,q]
   apply ah
   ·(simp-implicitDefEqProofs [-X.ev];rfl)
   refine (ih _ _ H3 (by omega) yD (oN.ext X3 FT) (by omega)).mono ?_
   rintro x H4 ⟨rfl,X4⟩
   simp (maxSteps:=4000000)-implicitDefEqProofs+contextual [-X.ev,f9',f3,f10,f11,w1]
   rw [ai (n:=(i:Int)+1) ⟨by omega,by omega⟩]
   exact ⟨k- 1,by omega,(X2.trans X3).trans X4,i+1,by omega,f1,cA.symm,by simp,rfl⟩
  rw [ass (by omega)]at f3
  have e4:=X2.ld d4
  rw [tq]at e4
  rw [xG]at f9
  simp (maxSteps:=4000000)-implicitDefEqProofs+contextual [-X.ev,f1,f9,f3,f10,f11,h,e4]
  refine ch (fun k fr H'=>Ext H2 H'∧∃j:Nat,j+k=els.length∧fr.get 21=ve∧fr.get 22= .int .i64 els.length∧fr.get 23= .int .i64 j∧fr.get 3= .int .i64 (1+ar thn+ar (els.take j))) ?_ els.length ⟨Ext.refl _,0,by simp,by simp [tq],by simp,by simp,by simp [ar,f3]⟩
  clear f1 f9 f10 f11 f3 fr
  rintro k fr H3 ⟨X3,j,hj,f21,f22,f23,f3⟩
  have nm:=X3.wf jr
  have iM:=fU.trans X3
  by_cases h':j<els.length
  ·obtain ⟨y,hy⟩:∃y,els[j]?=some y:=⟨_,asl h'⟩
   have pN:=List.sizeOf_lt_of_mem (asq hy)
   have t1:=fy hy
   have t2:=aV els (j+1)
   have t3:=aV els j
   have u1:=gv hy
   have u2:=cm els j
   have u3:=cm els (j+1)
   obtain ⟨l7,yn,kz,pR,pS⟩:=y
   obtain ⟨b,o,c',pT,pU,pV,Ya,Yb,Yc,cA,bJ,_,_,_,_,_,j1,j2,j3,j4,j5,g1,g2,g3,g4,g5,g6⟩:=iN.row (h5.ext iM) (iN.ext iM h6) hy
   have FT:oN H3 [.int .i64 l7,.int .i64 yn,pT,pU,pV] (.mk l7 yn kz pR pS):=.mk j1 j2 j3 j4 j5 g1 g2 g3 g4 g5 g6
   have Sv:=f21
   rw [cA]at Sv
   obtain ⟨H4,sH4,X4,agB,agC,q,Im⟩:=eN (H:=H3) nm (z:=5) (c:=[.int .i64 0,.int .i64 0,.slice none 0 0,.slice none 0 0,.slice none 0 0]) (vs:=[.int .i64 l7,.int .i64 yn,pT,pU,pV]) rfl
   have q0:H4.ld ⟨H3.nx,0,none⟩=some (.int .i64 l7):=Im 0 _ rfl
   have q1:H4.ld ⟨H3.nx,1,none⟩=some (.int .i64 yn):=Im 1 _ rfl
   have q2:H4.ld ⟨H3.nx,2,none⟩=some pT:=Im 2 _ rfl
   have q3:H4.ld ⟨H3.nx,3,none⟩=some pU:=Im 3 _ rfl
   have q4:H4.ld ⟨H3.nx,4,none⟩=some pV:=Im 4 _ rfl
   clear Im
   replace q:H4.ldn ⟨H3.nx,0,none⟩ 5=some [.int .i64 l7,.int .i64 yn,pT,pU,pV]:=q
   have XF:=X4.wf nm
   have w1:IntKind.i64.wrap (1+ar thn+ar (els.take j)+bw (.mk l7 yn kz pR pS))=1+ar thn+ar (els.take (j+1)):=by rw [ai ⟨by omega,by omega⟩];omega
   simp (maxSteps:=4000000)-implicitDefEqProofs+contextual [-X.ev,Sv,f3,f22,f23,h',bJ,sH4,q]
   apply ah
   ·(simp-implicitDefEqProofs [-X.ev];rfl)
   refine (ih _ _ H4 (by omega) XF (oN.ext X4 FT) (by omega)).mono ?_
   rintro x H5 ⟨rfl,X5⟩
   simp (maxSteps:=4000000)-implicitDefEqProofs+contextual [-X.ev,Sv,f3,f22,f23,w1]
   rw [ai (n:=(j:Int)+1) ⟨by omega,by omega⟩]
   exact ⟨k- 1,by omega,(X3.trans X4).trans X5,j+1,by omega,cA.symm,by simp,rfl⟩
  rw [ass (by omega)]at f3
  rw [tq]at f21
  simp (maxSteps:=4000000)-implicitDefEqProofs+contextual [-X.ev,f21,f3,f22,f23,h',bw]
  exact iM
end Go.Proofs.YtppcmpmnglaleaaGreatDoor.A
