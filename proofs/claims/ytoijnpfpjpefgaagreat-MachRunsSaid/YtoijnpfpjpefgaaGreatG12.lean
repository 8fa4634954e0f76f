/- Texts that stand one behind the other: AbsR, S24, S25, S26, S27, S28, S29, S30, S31, S32, S33, S34, S35. -/
import Derived.Test.YtoijnpfpjpefgaaGreatG11
import Derived.SizedLaws
import Derived.OpenShut
import Derived.ProofKit
import Derived.ChangeOld
import Derived.ShutString
/- A text without what this claim does not need: AbsR. -/
set_option linter.unusedVariables false
set_option linter.unusedSimpArgs false
namespace Go.Proofs.YtoijnpfpjpefgaaGreat.A
open Go Go.RowKit Go.WideShapes Go.ChangeShapes
section
variable {T:Type} {enc:TypeId × Value → T} {P:Program} {W:World}
theorem list2 {α:Type} {l:List α} (h:l.length = 2):∃ a b,l = [a,b]:=by
 match l,h with
 | [a,b],_=>exact ⟨a,b,rfl⟩
theorem list3 {α:Type} {l:List α} (h:l.length = 3):∃ a b c,l = [a,b,c]:=by
 match l,h with
 | [a,b,c],_=>exact ⟨a,b,c,rfl⟩
def Rd (enc:TypeId × Value → T) (P:Program) (W:World) (n:Nat) (t:TypeId) (cs:List Value) (d:DataW T):Prop:=∃ ps,DataW.trod enc P W 0 (fun _=>true) true n t cs = some (d,ps)
def Wt' (P:Program) (t:TypeId) (d:DataW T):Prop:=∀ n ∈ d.weights P t,n ≤ reachBytes
theorem rd_int {n:Nat} {t:TypeId} {k:IntKind} {cs:List Value} {d:DataW T} (ht:P.underlying t = some (.int k)) (h:Rd enc P W n t cs d):∃ m,cs = [.int k m] ∧ (Lit.int k m).wf = true:=by
 obtain ⟨ps,h⟩:=h
 obtain ⟨m,h1,_,h2⟩:=DataW.trod_int ht h
 exact ⟨m,h1,h2⟩
theorem wf_i64 {m:Int} (h:(Lit.int .i64 m).wf = true):I64 m:=by
 have:=bounds_i64 h
 unfold I64; omega
theorem rd_str {n:Nat} {t:TypeId} {cs:List Value} {d:DataW T} (ht:P.underlying t = some .string) (h:Rd enc P W n t cs d) (hw:Wt' P t d):∃ s:ByteArray,cs = [.string s] ∧ s.size ≤ reachBytes:=by
 obtain ⟨ps,h⟩:=h
 obtain ⟨s,h1,h2,_⟩:=DataW.trod_string ht h
 cases h2
 have:=hw s.data.toList.length (by simp [DataW.weights])
 exact ⟨s,h1,by simpa using this⟩
theorem cell_at {b o:Nat} {v:Value} (h:W.cell? ⟨b,o,none⟩ = some v):∃ arr ty fz,W.heap[b]? = some (.cells arr ty fz) ∧ arr[o]? = some v:=by
 unfold World.cell? at h
 dsimp only at h
 split at h
 ·rename_i c e f hc
  simp at h
  exact ⟨c,e,f,hc,h⟩
 ·cases h
theorem ldn_old {b o n:Nat} {cs l:List Value} (hn:0 < n) (hl:cs.length = n) (h:∀ j,j < n → W.cell? ⟨b,o + j,none⟩ = cs[j]?) (hc:cleanL W.heap.size cs = some l):b < W.heap.size ∧ (H0 W).ldn ⟨b,o,none⟩ n = some l:=by
 obtain ⟨arr,ty,fz,hb,h0⟩:=cell_at (b:=b) (o:=o) (v:=cs[0]'(by omega)) (by have:=h 0 hn; rw [Nat.add_zero] at this; rw [this]; exact List.getElem?_eq_getElem (by omega))
 have hlt:=(Array.getElem?_eq_some_iff.1 hb).1
 refine ⟨hlt,?_⟩
 have hj:∀ j,j < n → arr[o + j]? = cs[j]?:=by
  intro j hj
  have:=h j hj
  obtain ⟨arr',_,_,hb',h'⟩:=cell_at (v:=cs[j]'(by omega)) (by rw [this]; exact List.getElem?_eq_getElem (by omega))
  rw [hb] at hb'
  cases hb'
  rw [h',List.getElem?_eq_getElem (by omega)]
 have hlen:o + n ≤ arr.toList.length:=by
  have:=hj (n - 1) (by omega)
  rw [List.getElem?_eq_getElem (by omega)] at this
  have:=(Array.getElem?_eq_some_iff.1 this).1
  rw [Array.length_toList]
  omega
 have htake:(arr.toList.drop o).take n = cs:=by
  apply List.ext_getElem?
  intro j
  by_cases hj':j < n
  ·rw [List.getElem?_take,if_pos hj',List.getElem?_drop,Array.getElem?_toList,hj j hj']
  ·rw [List.getElem?_take,if_neg hj',List.getElem?_eq_none (by omega)]
 have hg:(H0 W).get b = some (.cells 1048576 arr.toList):=by
  rw [AH.get_of hlt,H0_raw]
  unfold memOf
  rw [hb]
 unfold AH.ldn
 dsimp only
 rw [hg]
 simp only [hlen,decide_true,cond_true,htake]
 rw [show decide (b < (H0 W).n0) = true from decide_eq_true hlt,cond_true]
 exact hc
inductive All2 {α β:Type} (C:α → β → Prop):List α → List β → Prop where
 | nil:All2 C [] []
 | cons {a:α} {b:β} {l:List α} {m:List β}:C a b → All2 C l m → All2 C (a :: l) (b :: m)
theorem All2.length {α β:Type} {C:α → β → Prop}:∀ {l:List α} {m:List β},All2 C l m → l.length = m.length
 | _,_,.nil=>rfl
 | _,_,.cons _ h=>by simp [All2.length h]
theorem all2_of {α β:Type} {C:α → β → Prop} {l:List α}:(∀ (i:Nat) (a:α),l[i]? = some a → ∃ b,C a b) → ∃ m,All2 C l m:=by
 induction l with
 | nil=>exact fun _=>⟨[],.nil⟩
 | cons a l ih =>
  intro h
  obtain ⟨b,hb⟩:=h 0 a rfl
  obtain ⟨m,hm⟩:=ih fun i x hx=>h (i + 1) x (by simpa using hx)
  exact ⟨b :: m,.cons hb hm⟩
theorem list_of {α:Type} {p:Nat → α → Prop}:∀ n,(∀ i,i < n → ∃ x,p i x) → ∃ l:List α,l.length = n ∧ ∀ i x,l[i]? = some x → p i x
 | 0,_=>⟨[],rfl,by simp⟩
 | n + 1,h=>by
  obtain ⟨l,hl,hp⟩:=list_of n fun i hi=>h i (by omega)
  obtain ⟨x,hx⟩:=h n (by omega)
  refine ⟨l ++ [x],by simp [hl],fun i y hy=>?_⟩
  by_cases hi:i < n
  ·rw [List.getElem?_append_left (by omega)] at hy; exact hp i y hy
  ·rw [List.getElem?_append_right (by omega)] at hy
   have:i = n:=by
    have:=(List.getElem?_eq_some_iff.1 hy).1
    simp at this; omega
   subst this
   simp [hl] at hy
   subst hy; exact hx
theorem rd_rows {α:Type} {C:List Value → α → Prop} {t e:TypeId} {fuel:Nat} {cs:List Value} {d:DataW T} (ht:P.underlying t = some (.slice e)) (hce:0 < P.cellsOf e) (hbe:0 < P.bytesOf e)
  (h:Rd enc P W fuel t cs d) (hw:Wt' P t d) (rd:∀ m cs' d',m < fuel → Rd enc P W m e cs' d' → Wt' P e d' → ∃ l y,cleanL W.heap.size cs' = some l ∧ C l y) :
  ∃ v rows ys,cleanL W.heap.size cs = some [v] ∧ Rows (H0 W) (P.cellsOf e) v rows ∧ All2 C rows ys ∧ rows.length * P.bytesOf e ≤ reachBytes:=by
 obtain ⟨ps,h⟩:=h
 rcases DataW.trod_slice ht h with ⟨rfl,_⟩ | ⟨a,len,cap,elems,rest,n,hf,rfl,hx,_,hlc,_,hlen,hel,_,_⟩
 ·exact ⟨_,[],[],rfl,⟨_,_,rfl,by simp⟩,.nil,by simp⟩
 cases hx
 have hwt:∀ m ∈ ((elems.map (·.1)).length + (rest.map (·.1)).length) * P.bytesOf e :: (DataW.weightsAll P e (elems.map (·.1)) ++ DataW.weightsAll P e (rest.map (·.1))),m ≤ reachBytes:=by
  intro m hm
  refine hw m ?_
  simp only [DataW.weights,ht]
  exact hm
 have hbytes:len * P.bytesOf e ≤ reachBytes:=by
  have:=hwt _ (List.mem_cons_self ..)
  rw [List.length_map,hlen] at this
  exact Nat.le_trans (Nat.mul_le_mul_right _ (by omega)) this
 have hall:∀ (l:List (DataW T)) (x:DataW T),x ∈ l → ∀ m ∈ x.weights P e,m ∈ DataW.weightsAll P e l:=by
  intro l
  induction l with
  | nil=>intro x hx; cases hx
  | cons y l ih =>
   intro x hx m hm
   simp only [DataW.weightsAll,List.mem_append]
   rcases List.mem_cons.1 hx with rfl | hx
   ·exact .inl hm
   ·exact .inr (ih x hx m hm)
 by_cases h0:len = 0
 ·subst h0
  cases hs:(decide (a.block < W.heap.size) && a.spot.isNone) with
  | true=>exact ⟨.slice (some a) 0 cap,[],[],by simp only [cleanL,cleanOld,hs,cond_true],⟨_,_,rfl,by simp⟩,.nil,by simp⟩
  | false=>exact ⟨.slice (some ⟨0,0,some 1⟩) 0 0,[],[],by simp [cleanL,cleanOld,hs],⟨_,_,rfl,by simp⟩,.nil,by simp⟩
 obtain ⟨b,o,spot⟩:=a
 have key:∀ i,i < len → ∃ cs' d',(∃ m,m < fuel ∧ Rd enc P W m e cs' d') ∧ Wt' P e d' ∧ W.cells? 0 ((⟨b,o,spot⟩:Addr).add (i * P.cellsOf e)) (P.cellsOf e) = some cs':=by
  intro i hi
  have:=hel i hi
  rw [List.getElem?_eq_getElem (by omega)] at this
  obtain ⟨cs',h1,h2⟩:=Option.bind_eq_some_iff.1 this
  refine ⟨cs',(elems[i]'(by omega)).1,⟨n,by omega,⟨_,h2⟩⟩,fun m hm=>?_,h1⟩
  refine hwt m (List.mem_cons_of_mem _ (List.mem_append_left _ (hall _ _ ?_ m hm)))
  exact List.mem_map_of_mem (List.getElem_mem _)
 have hspot:spot = none ∧ b < W.heap.size:=by
  obtain ⟨cs',d',_,_,hc⟩:=key 0 (by omega)
  obtain ⟨_,hl,hj⟩:=World.cells?_some hc
  have:=hj 0 hce
  rw [List.getElem?_eq_getElem (by omega)] at this
  simp only [Nat.zero_mul,Addr.add,if_true] at this
  unfold World.cell? at this
  dsimp only at this
  split at this
  ·rename_i c ty fz hcc
   cases spot with
   | none=>exact ⟨rfl,(Array.getElem?_eq_some_iff.1 hcc).1⟩
   | some x=>simp at this
  ·cases this
 obtain ⟨rfl,hb⟩:=hspot
 have hadd:∀ o k,(⟨b,o,none⟩:Addr).add k = ⟨b,o + k,none⟩:=by
  intro o k
  unfold Addr.add
  split
  ·rename_i hk; subst hk; rfl
  ·rfl
 obtain ⟨rows,hrl,hrows⟩:=list_of (p:=fun i (r:List Value)=>(∃ y,C r y) ∧ (H0 W).ldn ⟨b,o + i * P.cellsOf e,none⟩ (P.cellsOf e) = some r) len (fun i hi=>by
  obtain ⟨cs',d',⟨m,hm,hr⟩,hwd,hc⟩:=key i hi
  obtain ⟨l,y,h1,h2⟩:=rd m cs' d' hm hr hwd
  obtain ⟨_,hl,hj⟩:=World.cells?_some hc
  refine ⟨l,⟨y,h2⟩,(ldn_old hce hl (fun j hjj=>?_) h1).2⟩
  have:=hj j hjj
  rw [hadd,hadd] at this
  exact this)
 obtain ⟨ys,hys⟩:=all2_of (l:=rows) (C:=C) fun i r hr=>(hrows i r hr).1
 refine ⟨.slice (some ⟨b,o,none⟩) len cap,rows,ys,?_,⟨_,_,by rw [hrl],fun i r hi=>⟨b,o,rfl,(hrows i r hi).2⟩⟩,hys,by rw [hrl]; exact hbytes⟩
 simp [cleanL,cleanOld,hb]
theorem rd_struct {t:TypeId} {fs:Array Field} {fuel:Nat} {cs:List Value} {d:DataW T} (ht:P.underlying t = some (.struct fs)) (h:Rd enc P W fuel t cs d) (hw:Wt' P t d) :
  cs.length = P.cellsOf t ∧ ∃ m,m < fuel ∧ ∀ (i:Nat) (f:Field),fs[i]? = some f → ∃ di,Rd enc P W m f.type ((cs.drop f.offset).take (P.cellsOf f.type)) di ∧ Wt' P f.type di:=by
 obtain ⟨ps,h⟩:=h
 obtain ⟨xs,n,hf,hx,hl,hxs,hfs⟩:=DataW.trod_struct ht h
 cases hx
 refine ⟨hl,n,by omega,fun i f hi=>?_⟩
 have hlt:=(Array.getElem?_eq_some_iff.1 hi).1
 have:=hfs i f hi
 rw [List.getElem?_eq_getElem (by omega)] at this
 refine ⟨_,⟨_,this⟩,fun m hm=>hw m ?_⟩
 simp only [DataW.weights,ht]
 exact DataW.weights_mem_each (j:=i) (t:=f.type) (d:=(xs[i]'(by omega)).1) (by simp [hi]) (by simp [List.getElem?_eq_getElem (show i < xs.length by omega)]) m hm
theorem cleanL_int {n0:Nat} {k:IntKind} {m:Int} {cs l:List Value} (h:cleanL n0 cs = some l):cleanL n0 (.int k m :: cs) = some (.int k m :: l):=by simp [cleanL,cleanOld,flat,h]
theorem cleanL_str {n0:Nat} {s:ByteArray} {cs l:List Value} (h:cleanL n0 cs = some l):cleanL n0 (.string s :: cs) = some (.string s :: l):=by simp [cleanL,cleanOld,flat,h]
theorem cleanL_cons {n0:Nat} {c v:Value} {cs l:List Value} (h1:cleanL n0 [c] = some [v]) (h:cleanL n0 cs = some l):cleanL n0 (c :: cs) = some (v :: l):=by
 simp only [cleanL] at h1 ⊢
 split at h1
 ·rename_i x m h2 h3
  simp only [Option.some.injEq] at h3
  subst h3
  simp only [Option.some.injEq,List.cons.injEq,and_true] at h1
  subst h1
  simp [h2,h]
 ·cases h1
theorem agg_old {c:Array Value} {l:List Value} (h:cleanL W.heap.size c.toList = some l):V (phi0 W) (.agg l.toArray) (.agg c):=by
 obtain ⟨h1,h2⟩:=cleanL_V (rel0 W) (l:=c.toList) (m:=l) h
 exact .agg (by simpa using h1) (by simpa using h2)
end
end Go.Proofs.YtoijnpfpjpefgaaGreat.A
/- A text without what this claim does not need: S24. -/
set_option linter.unusedVariables false
set_option linter.unusedSimpArgs false
namespace Go.Proofs.YtoijnpfpjpefgaaGreat.A
open Go
section
variable {T:Type} {enc:TypeId × Value → T} {W:World}
theorem rb60 {n k:Nat} (h:n * k ≤ reachBytes) (hk:0 < k):n < 2 ^ 60:=by
 have h1:n * 1 ≤ n * k:=Nat.mul_le_mul_left _ hk
 have:reachBytes < 2 ^ 47:=reachBytes_lt
 omega
theorem cE:Tryz.prog.cellsOf 114 = 4:=by kernel_rfl
theorem cS:Tryz.prog.cellsOf 92 = 5:=by kernel_rfl
theorem cV:Tryz.prog.cellsOf 89 = 3:=by kernel_rfl
theorem cP:Tryz.prog.cellsOf 25 = 3:=by kernel_rfl
theorem cT:Tryz.prog.cellsOf 28 = 2:=by kernel_rfl
theorem cI:Tryz.prog.cellsOf 3 = 1:=by kernel_rfl
theorem cZ:Tryz.prog.cellsOf 9 = 1:=by kernel_rfl
theorem cEs:Tryz.prog.cellsOf 90 = 1:=by kernel_rfl
theorem cSs:Tryz.prog.cellsOf 23 = 1:=by kernel_rfl
theorem cVs:Tryz.prog.cellsOf 22 = 1:=by kernel_rfl
theorem cIs:Tryz.prog.cellsOf 26 = 1:=by kernel_rfl
theorem list4 {α:Type} {l:List α} (h:l.length = 4):∃ a b c d,l = [a,b,c,d]:=by
 match l,h with
 | [a,b,c,d],_=>exact ⟨a,b,c,d,rfl⟩
theorem list5 {α:Type} {l:List α} (h:l.length = 5):∃ a b c d e,l = [a,b,c,d,e]:=by
 match l,h with
 | [a,b,c,d,e],_=>exact ⟨a,b,c,d,e,rfl⟩
theorem rd_var (n:Nat) (cs:List Value) (d:DataW T) (h:Rd enc Tryz.prog W n 89 cs d) (hw:Wt' Tryz.prog 89 d):∃ l y,cleanL W.heap.size cs = some l ∧ (l = Vr.row y ∧ y.name.size < 2 ^ 60):=by
 obtain ⟨hl,m,hm,hf⟩:=rd_struct Tryz.underlying89 h hw
 rw [cV] at hl
 obtain ⟨c0,c1,c2,rfl⟩:=list3 hl
 obtain ⟨d0,h0,w0⟩:=hf 0 _ rfl
 obtain ⟨d1,h1,w1⟩:=hf 1 _ rfl
 obtain ⟨d2,h2,w2⟩:=hf 2 _ rfl
 simp only [List.getElem_toArray,List.getElem_cons_zero,List.getElem_cons_succ] at h0 h1 h2 w0 w1 w2
 rw [cZ] at h0
 rw [cI] at h1 h2
 obtain ⟨s,e0,b0⟩:=rd_str Tryz.underlying9 h0 w0
 obtain ⟨a,e1,b1⟩:=rd_int Tryz.underlying3 h1
 obtain ⟨b,e2,b2⟩:=rd_int Tryz.underlying3 h2
 simp at e0 e1 e2
 subst e0; subst e1; subst e2
 have:reachBytes < 2 ^ 47:=reachBytes_lt
 exact ⟨_,⟨s,a,b⟩,cleanL_str (cleanL_int (cleanL_int rfl)),rfl,by show s.size < 2 ^ 60; omega⟩
end
end Go.Proofs.YtoijnpfpjpefgaaGreat.A
/- A text without what this claim does not need: S25. -/
set_option linter.unusedVariables false
set_option linter.unusedSimpArgs false
namespace Go.Proofs.YtoijnpfpjpefgaaGreat.A
open Go
theorem rem_nn {a b:Int} (ha:0 ≤ a):abin .rem (.int .i64 a) (.int .i64 b) = if b = 0 then none else some (.int .i64 (a % b)):=by
 by_cases h:b = 0
 ·simp [abin,intbin,ibin,h]
 ·simp [abin,intbin,ibin,h]
  rw [Int.tmod_eq_emod_of_nonneg ha]
theorem quo_nn {a b:Int} (ha:0 ≤ a) (hi:a ≤ 2 ^ 62) (hb:0 < b):abin .quo (.int .i64 a) (.int .i64 b) = some (.int .i64 (a / b)):=by
 have h0:¬ b = 0:=by omega
 have h1:0 ≤ a / b:=Int.ediv_nonneg ha (by omega)
 have h2:a / b ≤ a:=Int.ediv_le_self _ ha
 simp only [abin,intbin,ibin,h0,if_true,if_false]
 rw [Int.tdiv_eq_ediv_of_nonneg ha,wrap_in ⟨by omega,by omega⟩]
theorem bv_nat (a:Nat) (h:a < 2 ^ 62):(BitVec.ofInt 64 (a:Int)).toNat = a:=by
 rw [BitVec.toNat_ofInt]
 have:((a:Int) % ((2 ^ 64:Nat):Int)) = a:=Int.emod_eq_of_lt (by omega) (by omega)
 rw [this]; rfl
theorem and_nat {a b:Nat} (ha:a < 2 ^ 62) (hb:b < 2 ^ 62):abin .and (.int .i64 a) (.int .i64 b) = some (.int .i64 ((a &&& b:Nat):Int)):=by
 have:(BitVec.ofInt IntKind.i64.bits (a:Int) &&& BitVec.ofInt IntKind.i64.bits (b:Int)).toNat = a &&& b:=by
  show (BitVec.ofInt 64 (a:Int) &&& BitVec.ofInt 64 (b:Int)).toNat = a &&& b
  rw [BitVec.toNat_and,bv_nat a ha,bv_nat b hb]
 have h2:a &&& b ≤ a:=Nat.and_le_left
 simp only [abin,intbin,ibin,if_true,this]
 rw [wrap_in ⟨by omega,by omega⟩]
theorem or_nat {a b:Nat} (ha:a < 2 ^ 62) (hb:b < 2 ^ 62):abin .or (.int .i64 a) (.int .i64 b) = some (.int .i64 ((a ||| b:Nat):Int)):=by
 have:(BitVec.ofInt IntKind.i64.bits (a:Int) ||| BitVec.ofInt IntKind.i64.bits (b:Int)).toNat = a ||| b:=by
  show (BitVec.ofInt 64 (a:Int) ||| BitVec.ofInt 64 (b:Int)).toNat = a ||| b
  rw [BitVec.toNat_or,bv_nat a ha,bv_nat b hb]
 have h2:a ||| b < 2 ^ 62:=Nat.or_lt_two_pow ha hb
 simp only [abin,intbin,ibin,if_true,this]
 rw [wrap_in ⟨by omega,by omega⟩]
theorem xor_nat {a b:Nat} (ha:a < 2 ^ 62) (hb:b < 2 ^ 62):abin .xor (.int .i64 a) (.int .i64 b) = some (.int .i64 ((a ^^^ b:Nat):Int)):=by
 have:(BitVec.ofInt IntKind.i64.bits (a:Int) ^^^ BitVec.ofInt IntKind.i64.bits (b:Int)).toNat = a ^^^ b:=by
  show (BitVec.ofInt 64 (a:Int) ^^^ BitVec.ofInt 64 (b:Int)).toNat = a ^^^ b
  rw [BitVec.toNat_xor,bv_nat a ha,bv_nat b hb]
 have h2:a ^^^ b < 2 ^ 62:=Nat.xor_lt_two_pow ha hb
 simp only [abin,intbin,ibin,if_true,this]
 rw [wrap_in ⟨by omega,by omega⟩]
theorem and_top {x : Int} {w : Nat} (hw : w ≤ 62) : abin .and (.int .i64 x) (.int .i64 (2 ^ w - 1)) = some (.int .i64 (x % 2 ^ w)) := by
  have hp : 0 < 2 ^ w := Nat.two_pow_pos w
  have hle : 2 ^ w ≤ 2 ^ 62 := Nat.pow_le_pow_right (by omega) hw
  have e1 : ((2 : Int) ^ w - 1) = ((2 ^ w - 1 : Nat) : Int) := by
    rw [Int.natCast_sub hp]; simp
  have e2 : (BitVec.ofInt IntKind.i64.bits x &&& BitVec.ofInt IntKind.i64.bits ((2 ^ w - 1 : Nat) : Int)).toNat = (BitVec.ofInt 64 x).toNat % 2 ^ w := by
    show (BitVec.ofInt 64 x &&& BitVec.ofInt 64 ((2 ^ w - 1 : Nat) : Int)).toNat = (BitVec.ofInt 64 x).toNat % 2 ^ w
    rw [BitVec.toNat_and, bv_nat _ (by omega), Nat.and_two_pow_sub_one_eq_mod]
  have e3 : (((BitVec.ofInt 64 x).toNat % 2 ^ w : Nat) : Int) = x % 2 ^ w := by
    rw [BitVec.toNat_ofInt, Int.natCast_emod, Int.toNat_of_nonneg (Int.emod_nonneg _ (by omega))]
    have hdvd : ((2 ^ w : Nat) : Int) ∣ ((2 ^ 64 : Nat) : Int) := Int.natCast_dvd_natCast.2 (Nat.pow_dvd_pow 2 (by omega))
    rw [Int.emod_emod_of_dvd _ hdvd]
    simp
  rw [e1]
  simp only [abin, intbin, ibin, if_true, e2, e3]
  have h1 : 0 ≤ x % 2 ^ w := Int.emod_nonneg _ (by have : (0 : Int) < 2 ^ w := by exact_mod_cast hp
                                                   omega)
  have h2 : x % (2 : Int) ^ w < 2 ^ w := Int.emod_lt_of_pos _ (by exact_mod_cast hp)
  have h3 : (2 : Int) ^ w ≤ 2 ^ 62 := by exact_mod_cast hle
  rw [wrap_in ⟨by omega, by omega⟩]
theorem andNot_top {a w:Nat} (hw:w ≤ 62) (ha:a < 2 ^ w):abin .andNot (.int .i64 (2 ^ w - 1)) (.int .i64 a) = some (.int .i64 (2 ^ w - 1 - a)):=by
 have hp:0 < 2 ^ w:=Nat.two_pow_pos w
 have hle:2 ^ w ≤ 2 ^ 62:=Nat.pow_le_pow_right (by omega) hw
 have e1:((2:Int) ^ w - 1) = ((2 ^ w - 1:Nat):Int):=by
  rw [Int.natCast_sub hp]; simp
 rw [e1]
 have e2:(BitVec.ofInt IntKind.i64.bits ((2 ^ w - 1:Nat):Int) &&& ~~~ BitVec.ofInt IntKind.i64.bits (a:Int)).toNat = 2 ^ w - 1 - a:=by
  show (BitVec.ofInt 64 ((2 ^ w - 1:Nat):Int) &&& ~~~ BitVec.ofInt 64 (a:Int)).toNat = 2 ^ w - 1 - a
  rw [BitVec.toNat_and,BitVec.toNat_not,bv_nat _ (by omega),bv_nat a (by omega)]
  have e:2 ^ 64 - 1 - a = 2 ^ 64 - (a + 1):=by omega
  rw [e]
  apply Nat.eq_of_testBit_eq
  intro i
  rw [Nat.testBit_and,Nat.testBit_two_pow_sub_one,Nat.testBit_two_pow_sub_succ (by omega),show 2 ^ w - 1 - a = 2 ^ w - (a + 1) by omega,Nat.testBit_two_pow_sub_succ ha]
  by_cases h:i < w
  ·simp [h,show i < 64 by omega]
  ·simp [h]
 simp only [abin,intbin,ibin,if_true,e2]
 rw [wrap_in ⟨by omega,by omega⟩,Int.natCast_sub (by omega)]
def doM (op w a b:Int):Int :=
 if op = 2 then (a + b) % 2 ^ w.toNat else if op = 3 then (a + 2 ^ w.toNat - b) % 2 ^ w.toNat else if op = 4 then a * b % 2 ^ w.toNat
 else if op = 5 then (if b = 0 then 2 ^ w.toNat - 1 else a / b) else if op = 6 then (if b = 0 then a else a % b)
 else if op = 7 then ((a.toNat &&& b.toNat:Nat):Int) else if op = 8 then ((a.toNat ||| b.toNat:Nat):Int) else if op = 9 then ((a.toNat ^^^ b.toNat:Nat):Int)
 else if op = 10 then (if w ≤ b then 0 else a * 2 ^ b.toNat % 2 ^ w.toNat) else if op = 11 then (if w ≤ b then 0 else a / 2 ^ b.toNat)
 else if op = 13 then (if a = b then 1 else 0) else (if a < b then 1 else 0)
def gateM (op x y:Int):Int:=if op = 7 then x * y else if op = 8 then x + y - x * y else (x + y) % 2
def eachM (op a b:Int):Nat → Int
 | 0=>0
 | k + 1=>eachM op a b k + gateM op (a / 2 ^ k % 2) (b / 2 ^ k % 2) * 2 ^ k
theorem bit_cast (a k:Nat):((a:Int) / 2 ^ k % 2) = ((a.testBit k).toNat:Int):=by
 rw [Nat.testBit_eq_decide_div_mod_eq]
 have e:((a:Int) / 2 ^ k % 2) = ((a / 2 ^ k % 2:Nat):Int):=by simp
 rw [e]
 have:a / 2 ^ k % 2 < 2:=Nat.mod_lt _ (by omega)
 by_cases h:a / 2 ^ k % 2 = 1
 ·simp [h]
 ·have:a / 2 ^ k % 2 = 0:=by omega
  simp [this]
theorem eachM_gen (op:Int) (f:Bool → Bool → Bool) (g:Nat → Nat → Nat) (hg:∀ a b i,(g a b).testBit i = f (a.testBit i) (b.testBit i)) (hf:∀ x y:Bool,gateM op (x.toNat:Int) (y.toNat:Int) = ((f x y).toNat:Int)) (a b:Nat) :
  ∀ k,eachM op a b k = ((g a b % 2 ^ k:Nat):Int)
 | 0=>by simp [eachM,Nat.mod_one]
 | k + 1=>by
  rw [eachM,eachM_gen op f g hg hf a b k,bit_cast,bit_cast,hf,← hg,Nat.mod_pow_succ,Nat.toNat_testBit]
  push_cast
  rw [Int.mul_comm]
theorem each_doM {op w:Int} {a b:Nat} (hw:1 ≤ w ∧ w ≤ 8) (ha:a < 2 ^ w.toNat) (hb:b < 2 ^ w.toNat) (ho:op = 7 ∨ op = 8 ∨ op = 9):eachM op a b w.toNat = doM op w a b:=by
 rcases ho with rfl | rfl | rfl
 ·rw [eachM_gen 7 (fun x y=>x && y) (fun a b=>a &&& b) (fun a b i=>Nat.testBit_and a b i) (by intro x y; cases x <;> cases y <;> rfl)]
  rw [Nat.mod_eq_of_lt (Nat.lt_of_le_of_lt Nat.and_le_left ha)]; simp [doM]
 ·rw [eachM_gen 8 (fun x y=>x || y) (fun a b=>a ||| b) (fun a b i=>Nat.testBit_or a b i) (by intro x y; cases x <;> cases y <;> rfl)]
  rw [Nat.mod_eq_of_lt (Nat.or_lt_two_pow ha hb)]; simp [doM]
 ·rw [eachM_gen 9 (fun x y=>x ^^ y) (fun a b=>a ^^^ b) (fun a b i=>Nat.testBit_xor a b i) (by intro x y; cases x <;> cases y <;> rfl)]
  rw [Nat.mod_eq_of_lt (Nat.xor_lt_two_pow ha hb)]; simp [doM]
theorem pow_w {w:Int} (hw:1 ≤ w ∧ w ≤ 8):2 ≤ (2:Int) ^ w.toNat ∧ (2:Int) ^ w.toNat ≤ 256:=by
 obtain ⟨n,rfl⟩:∃ n:Nat,w = n:=⟨w.toNat,by omega⟩
 have:n = 1 ∨ n = 2 ∨ n = 3 ∨ n = 4 ∨ n = 5 ∨ n = 6 ∨ n = 7 ∨ n = 8:=by omega
 rcases this with rfl | rfl | rfl | rfl | rfl | rfl | rfl | rfl <;> exact ⟨by decide,by decide⟩
theorem mul_bd {a b M:Int} (ha:0 ≤ a ∧ a < M) (hb:0 ≤ b ∧ b < M):0 ≤ a * b ∧ a * b ≤ M * M:=by
 refine ⟨Int.mul_nonneg ha.1 hb.1,Int.mul_le_mul (by omega) (by omega) hb.1 (by omega)⟩
theorem doM_word {op w a b:Int} (hw:1 ≤ w ∧ w ≤ 8) (ha:0 ≤ a ∧ a < 2 ^ w.toNat) (hb:0 ≤ b ∧ b < 2 ^ w.toNat):0 ≤ doM op w a b ∧ doM op w a b < 2 ^ w.toNat:=by
 have hp:=pow_w hw
 have hm:∀ x:Int,0 ≤ x % 2 ^ w.toNat ∧ x % 2 ^ w.toNat < 2 ^ w.toNat:=fun x=>⟨Int.emod_nonneg _ (by omega),Int.emod_lt_of_pos _ (by omega)⟩
 have hpn:(2:Int) ^ w.toNat = ((2 ^ w.toNat:Nat):Int):=by simp
 have an:a.toNat < 2 ^ w.toNat:=by have:=ha.2; rw [hpn] at this; omega
 have bn:b.toNat < 2 ^ w.toNat:=by have:=hb.2; rw [hpn] at this; omega
 have hd:b = 0 ∨ ¬ b = 0:=by omega
 have h13:∀ c:Prop,∀ _:Decidable c,0 ≤ (if c then (1:Int) else 0) ∧ (if c then (1:Int) else 0) < 2 ^ w.toNat:=fun c _=>by
  by_cases h:c
  ·rw [if_pos h]; omega
  ·rw [if_neg h]; omega
 by_cases o2:op = 2
 ·rw [doM,if_pos o2]; exact hm _
 by_cases o3:op = 3
 ·rw [doM,if_neg o2,if_pos o3]; exact hm _
 by_cases o4:op = 4
 ·rw [doM,if_neg o2,if_neg o3,if_pos o4]; exact hm _
 by_cases o5:op = 5
 ·rw [doM,if_neg o2,if_neg o3,if_neg o4,if_pos o5]
  by_cases hb0:b = 0
  ·rw [if_pos hb0]; omega
  ·rw [if_neg hb0]; exact ⟨Int.ediv_nonneg ha.1 hb.1,Int.lt_of_le_of_lt (Int.ediv_le_self _ ha.1) ha.2⟩
 by_cases o6:op = 6
 ·rw [doM,if_neg o2,if_neg o3,if_neg o4,if_neg o5,if_pos o6]
  by_cases hb0:b = 0
  ·rw [if_pos hb0]; exact ha
  ·rw [if_neg hb0]; exact ⟨Int.emod_nonneg _ (by omega),Int.lt_of_lt_of_le (Int.emod_lt_of_pos _ (by omega)) (by omega)⟩
 by_cases o7:op = 7
 ·rw [doM,if_neg o2,if_neg o3,if_neg o4,if_neg o5,if_neg o6,if_pos o7,hpn]; exact ⟨by omega,Int.ofNat_lt.2 (Nat.lt_of_le_of_lt Nat.and_le_left an)⟩
 by_cases o8:op = 8
 ·rw [doM,if_neg o2,if_neg o3,if_neg o4,if_neg o5,if_neg o6,if_neg o7,if_pos o8,hpn]; exact ⟨by omega,Int.ofNat_lt.2 (Nat.or_lt_two_pow an bn)⟩
 by_cases o9:op = 9
 ·rw [doM,if_neg o2,if_neg o3,if_neg o4,if_neg o5,if_neg o6,if_neg o7,if_neg o8,if_pos o9,hpn]; exact ⟨by omega,Int.ofNat_lt.2 (Nat.xor_lt_two_pow an bn)⟩
 by_cases o10:op = 10
 ·rw [doM,if_neg o2,if_neg o3,if_neg o4,if_neg o5,if_neg o6,if_neg o7,if_neg o8,if_neg o9,if_pos o10]
  by_cases hb0:w ≤ b
  ·rw [if_pos hb0]; omega
  ·rw [if_neg hb0]; exact hm _
 by_cases o11:op = 11
 ·rw [doM,if_neg o2,if_neg o3,if_neg o4,if_neg o5,if_neg o6,if_neg o7,if_neg o8,if_neg o9,if_neg o10,if_pos o11]
  by_cases hb0:w ≤ b
  ·rw [if_pos hb0]; omega
  ·rw [if_neg hb0]
   have:(0:Int) ≤ 2 ^ b.toNat:=by have:=two_pow_pos b.toNat; omega
   exact ⟨Int.ediv_nonneg ha.1 this,Int.lt_of_le_of_lt (Int.ediv_le_self _ ha.1) ha.2⟩
 by_cases o13:op = 13
 ·rw [doM,if_neg o2,if_neg o3,if_neg o4,if_neg o5,if_neg o6,if_neg o7,if_neg o8,if_neg o9,if_neg o10,if_neg o11,if_pos o13]; exact h13 _ _
 ·rw [doM,if_neg o2,if_neg o3,if_neg o4,if_neg o5,if_neg o6,if_neg o7,if_neg o8,if_neg o9,if_neg o10,if_neg o11,if_neg o13]; exact h13 _ _
end Go.Proofs.YtoijnpfpjpefgaaGreat.A
/- A text without what this claim does not need: S26. -/
set_option linter.unusedVariables false
set_option linter.unusedSimpArgs false
set_option maxRecDepth 10000
namespace Go.Proofs.YtoijnpfpjpefgaaGreat.A
open Go
theorem Pow_ca' {n:Int} (hn:0 ≤ n ∧ n ≤ 60) (H:AH):Ca E O 113 [.int .i64 n] H (fun x H'=>x = .int .i64 (2 ^ n.toNat) ∧ H' = H):=by
 have:=Pow_ca n.toNat (by omega) H
 rwa [show ((n.toNat:Nat):Int) = n by omega] at this
theorem RTop_ca {w:Int} (hw:1 ≤ w ∧ w ≤ 8) (H:AH):Ca E O 115 [.int .i64 w] H (fun x H'=>x = .int .i64 (2 ^ w.toNat - 1) ∧ H' = H):=by
 refine Ca.bodyV (F:=a115) rfl rfl rfl ?_
 have hp:=pow_w hw
 simp (maxSteps:=4000000) -implicitDefEqProofs +contextual [-X.ev,a115]
 apply Vx_callM
 ·(simp -implicitDefEqProofs [-X.ev]; rfl)
 refine (Pow_ca' (by omega) H).mono ?_
 rintro x H' ⟨rfl,rfl⟩
 simp (maxSteps:=4000000) -implicitDefEqProofs +contextual [-X.ev,wrap_in (n:=2 ^ w.toNat - 1) ⟨by omega,by omega⟩]
theorem Bit_ca {a i:Int} (ha:0 ≤ a ∧ a ≤ 2 ^ 40) (hi:0 ≤ i ∧ i ≤ 60) (H:AH):Ca E O 131 [.int .i64 a,.int .i64 i] H (fun x H'=>x = .int .i64 (a / 2 ^ i.toNat % 2) ∧ H' = H):=by
 refine Ca.bodyV (F:=a131) rfl rfl rfl ?_
 have hp:=two_pow_pos i.toNat
 have h1:0 ≤ a / 2 ^ i.toNat:=Int.ediv_nonneg ha.1 (by omega)
 simp (maxSteps:=4000000) -implicitDefEqProofs +contextual [-X.ev,a131]
 apply Vx_callM
 ·(simp -implicitDefEqProofs [-X.ev]; rfl)
 refine (Pow_ca' hi H).mono ?_
 rintro x H' ⟨rfl,rfl⟩
 simp (maxSteps:=4000000) -implicitDefEqProofs +contextual [-X.ev,quo_nn ha.1 (by omega) (show (0:Int) < 2 ^ i.toNat by omega),rem_nn h1]
theorem BitN_ca {a:Int} {i:Nat} (ha:0 ≤ a ∧ a ≤ 2 ^ 40) (hi:i ≤ 60) (H:AH):Ca E O 131 [.int .i64 a,.int .i64 i] H (fun x H'=>x = .int .i64 (a / 2 ^ i % 2) ∧ H' = H):=by
 have:=Bit_ca (i:=i) ha (by omega) H
 rwa [Int.toNat_natCast] at this
theorem gate_ca {op x y:Int} (hx:0 ≤ x ∧ x ≤ 1) (hy:0 ≤ y ∧ y ≤ 1) (H:AH):Ca E O 130 [.int .i64 op,.int .i64 x,.int .i64 y] H (fun v H'=>v = .int .i64 (gateM op x y) ∧ H' = H):=by
 refine Ca.bodyV (F:=a130) rfl rfl rfl ?_
 obtain ⟨m0,m1⟩:=mul_bd (M:=2) ⟨hx.1,by omega⟩ ⟨hy.1,by omega⟩
 have w1:IntKind.i64.wrap (x * y) = x * y:=wrap_in ⟨by omega,by omega⟩
 have w2:IntKind.i64.wrap (x + y) = x + y:=wrap_in ⟨by omega,by omega⟩
 have w3:IntKind.i64.wrap (x + y - x * y) = x + y - x * y:=wrap_in ⟨by omega,by omega⟩
 simp (maxSteps:=4000000) -implicitDefEqProofs +contextual [-X.ev,a130,w1,w2,w3,rem_nn (show 0 ≤ x + y by omega),gateM]
theorem gateM_bit {op x y:Int} (hx:0 ≤ x ∧ x ≤ 1) (hy:0 ≤ y ∧ y ≤ 1):0 ≤ gateM op x y ∧ gateM op x y ≤ 1:=by
 have hx':x = 0 ∨ x = 1:=by omega
 have hy':y = 0 ∨ y = 1:=by omega
 unfold gateM
 rcases hx' with rfl | rfl <;> rcases hy' with rfl | rfl <;> (repeat' split) <;> simp
def ofT (l:List Int):Nat → Int
 | 0=>0
 | k + 1=>ofT l k + (l[k]?).getD 0 * 2 ^ k
theorem ofT_bd {l:List Int} (h:∀ x ∈ l,0 ≤ x ∧ x ≤ 1):∀ k,0 ≤ ofT l k ∧ ofT l k < 2 ^ k
 | 0=>by simp [ofT]
 | k + 1=>by
  have ih:=ofT_bd h k
  have hp:=two_pow_pos k
  rw [ofT,Int.pow_succ]
  cases e:l[k]? with
  | none=>simp; omega
  | some x =>
   have:=h x (List.mem_of_getElem? e)
   have hx:x = 0 ∨ x = 1:=by omega
   rcases hx with rfl | rfl <;> simp <;> omega
theorem ROf_ca {v:Value} {l:List Int} {H:AH} (hl:Ints H v l) (h8:l.length ≤ 8) (hb:∀ x ∈ l,0 ≤ x ∧ x ≤ 1):Ca E O 132 [v] H (fun x H'=>x = .int .i64 (ofT l l.length) ∧ H' = H):=by
 refine Ca.bodyV (F:=a132) rfl rfl rfl ?_
 obtain ⟨a,c,hv⟩:=hl.len
 simp (maxSteps:=4000000) -implicitDefEqProofs +contextual [-X.ev,a132]
 refine Vk_loop (fun k fr H'=>H' = H ∧ ∃ i:Nat,i + k = l.length ∧ fr.get 0 = v ∧ fr.get 3 = .int .i64 (ofT l i) ∧ fr.get 4 = .int .i64 i) ?_ l.length ⟨rfl,0,by simp,by simp,by simp [ofT],by simp⟩
 rintro k fr H' ⟨rfl,i,hi,f0,f3,f4⟩
 by_cases h:i < l.length
 ·obtain ⟨n,hn⟩:∃ n,l[i]? = some n:=⟨_,List.getElem?_eq_getElem h⟩
  obtain ⟨b,o,c',hv',hld⟩:=hl.at hn
  have hld1:=ld_ldn.1 hld
  rw [hv'] at f0
  have n01:=hb n (List.mem_of_getElem? hn)
  have t1:=ofT_bd hb i
  have t2:=ofT_bd hb (i + 1)
  have t3:=two_pow_pos i
  have t4:=two_pow_le (n:=i + 1) (by omega)
  have t5:(2:Int) ^ (i + 1) = 2 ^ i * 2:=Int.pow_succ _ _
  have e:ofT l (i + 1) = ofT l i + n * 2 ^ i:=by rw [ofT,hn]; rfl
  simp (maxSteps:=4000000) -implicitDefEqProofs +contextual [-X.ev,f0,f3,f4,h,hld]
  have hp:=Pow_ca' (n:=i) (by omega) H'
  apply Vx_callM
  ·(simp -implicitDefEqProofs [-X.ev]; rfl)
  refine (hp).mono ?_
  rintro x H' ⟨rfl,rfl⟩
  have m0:0 ≤ n * 2 ^ i ∧ n * 2 ^ i ≤ 2 ^ i:=by
   have hx:n = 0 ∨ n = 1:=by omega
   rcases hx with rfl | rfl <;> simp <;> omega
  have w1:IntKind.i64.wrap (n * 2 ^ i) = n * 2 ^ i:=wrap_in ⟨by omega,by omega⟩
  have w2:IntKind.i64.wrap (ofT l i + n * 2 ^ i) = ofT l i + n * 2 ^ i:=wrap_in ⟨by omega,by omega⟩
  have w3:IntKind.i64.wrap ((i:Int) + 1) = i + 1:=wrap_in ⟨by omega,by omega⟩
  simp (maxSteps:=4000000) -implicitDefEqProofs +contextual [-X.ev,f0,f3,f4,w1,w2,w3,okD_of,chain_2,chain_1,hld1]
  exact ⟨k - 1,by omega,i + 1,by omega,hv'.symm,e.symm,by simp⟩
 ·rw [hv] at f0
  simp (maxSteps:=4000000) -implicitDefEqProofs +contextual [-X.ev,f0,f3,f4,h]
  rw [show i = l.length by omega]
theorem bit01 (a:Int) (k:Nat):0 ≤ a / 2 ^ k % 2 ∧ a / 2 ^ k % 2 ≤ 1:=by
 have:=Int.emod_nonneg (a / 2 ^ k) (show (2:Int) ≠ 0 by omega)
 have:=Int.emod_lt_of_pos (a / 2 ^ k) (show (0:Int) < 2 by omega)
 omega
theorem each_ca {op w a b:Int} {H:AH} (hw:H.n0 ≤ H.nx) (hw8:1 ≤ w ∧ w ≤ 8) (ha:0 ≤ a ∧ a ≤ 2 ^ 40) (hb:0 ≤ b ∧ b ≤ 2 ^ 40):Ca E O 116 [.int .i64 op,.int .i64 w,.int .i64 a,.int .i64 b] H (fun x H'=>x = .int .i64 (eachM op a b w.toNat) ∧ Ext H H'):=by
 refine Ca.bodyV (F:=a116) rfl rfl rfl ?_
 simp (maxSteps:=4000000) -implicitDefEqProofs +contextual [-X.ev,a116]
 have hofT:∀ (l:List Int) (k:Nat),(∀ j,j < k → l[j]? = some (gateM op (a / 2 ^ j % 2) (b / 2 ^ j % 2))) → ofT l k = eachM op a b k:=by
  intro l k
  induction k with
  | zero=>intro _; rfl
  | succ k ih=>intro h; rw [ofT,eachM,ih fun j hj=>h j (by omega),h k (by omega)]; rfl
 refine Vk_loop (fun k fr H'=>Ext H H' ∧ ∃ (i:Nat) (s:Value) (l:List Int),i + k = w.toNat ∧ fr.get 0 = .int .i64 op ∧ fr.get 1 = .int .i64 w ∧ fr.get 2 = .int .i64 a ∧ fr.get 3 = .int .i64 b ∧ fr.get 9 = s ∧ fr.get 10 = .int .i64 i ∧ Own H' 1 s (intRows l) ∧ (∀ z,blk s z → H.nx ≤ z) ∧ l.length = i ∧ (∀ x ∈ l,0 ≤ x ∧ x ≤ 1) ∧ ∀ j,j < i → l[j]? = some (gateM op (a / 2 ^ j % 2) (b / 2 ^ j % 2))) ?_ w.toNat ⟨Ext.refl _,0,.slice none 0 0,[],by simp,by simp,by simp,by simp,by simp,by simp,by simp,Own.nil _ _,fun z hz=>absurd hz (blk_nil _ _ _),rfl,by simp,by simp⟩
 rintro k fr H' ⟨X1,i,s,l,hi,f0,f1,f2,f3,f9,f10,ow,hfr,hll,h01,hj⟩
 have hw1:=X1.wf hw
 by_cases h:(i:Int) < w
 ·simp (maxSteps:=4000000) -implicitDefEqProofs +contextual [-X.ev,f0,f1,f2,f3,f9,f10,h]
  apply Vx_callM
  ·(simp -implicitDefEqProofs [-X.ev]; rfl)
  refine (BitN_ca (i:=i) ha (by omega) H').mono ?_
  rintro x H' ⟨rfl,rfl⟩
  simp (maxSteps:=4000000) -implicitDefEqProofs +contextual [-X.ev,f0,f1,f2,f3,f9,f10,h]
  apply Vx_callM
  ·(simp -implicitDefEqProofs [-X.ev]; rfl)
  refine (BitN_ca (i:=i) hb (by omega) H').mono ?_
  rintro x H' ⟨rfl,rfl⟩
  have ba:=bit01 a i
  have bb:=bit01 b i
  simp (maxSteps:=4000000) -implicitDefEqProofs +contextual [-X.ev,f0,f1,f2,f3,f9,f10,h]
  apply Vx_callM
  ·(simp -implicitDefEqProofs [-X.ev]; rfl)
  refine (gate_ca ba bb H').mono ?_
  rintro x H' ⟨rfl,rfl⟩
  obtain ⟨g,hg⟩:∃ g,gateM op (a / 2 ^ i % 2) (b / 2 ^ i % 2) = g:=⟨_,rfl⟩
  have g01:=gateM_bit (op:=op) ba bb
  rw [hg] at g01 ⊢
  have hbs:=bsl1 (sz:=1) (z:=[.int .i64 0]) (H:=H') (v:=.int .i64 g) rfl rfl rfl
  obtain ⟨H2,hH2⟩:∃ H2,H'.alloc (.cells 1 [.int .i64 g]) = H2:=⟨_,rfl⟩
  obtain ⟨s',H3,ha3,o3,M3,k3,n3,x3,w3⟩:=app1_own (bytes:=8) hw1 ow (r:=[.int .i64 g]) rfl hH2 (by simp [intRows]; omega) (by simp [intRows]; omega)
  have wi:IntKind.i64.wrap ((i:Int) + 1) = i + 1:=wrap_in ⟨by omega,by omega⟩
  simp only [vcells_int,hH2] at hbs
  simp (maxSteps:=4000000) -implicitDefEqProofs +contextual [-X.ev,f0,f1,f2,f3,f9,f10,h,hbs,ha3,wi]
  refine ⟨k - 1,by omega,X1.mod M3 hfr,i + 1,by omega,by simp,l ++ [g],by simpa [intRows] using o3,fun z hz=>Nat.le_trans X1.nx (k3 z hz),by simp [hll],fun x hx=>?_,fun j hjj=>?_⟩
  ·rcases List.mem_append.1 hx with hx | hx
   ·exact h01 x hx
   ·simp at hx; subst hx; exact g01
  ·by_cases e:j = i
   ·subst e; rw [List.getElem?_append_right (by omega)]; simp [hll,hg]
   ·rw [List.getElem?_append_left (by omega)]; exact hj j (by omega)
 ·have hiw:i = w.toNat:=by omega
  simp (maxSteps:=4000000) -implicitDefEqProofs +contextual [-X.ev,f0,f1,f2,f3,f9,f10,h]
  apply Vx_callM
  ·(simp -implicitDefEqProofs [-X.ev]; rfl)
  refine (ROf_ca ow.ints (by omega) h01).mono ?_
  rintro x H' ⟨rfl,rfl⟩
  rw [hll,hofT l i hj,hiw]
  simp (maxSteps:=4000000) -implicitDefEqProofs +contextual [-X.ev,X1]
theorem RNot_ca {w a:Int} (hw:1 ≤ w ∧ w ≤ 8) (ha:0 ≤ a ∧ a < 2 ^ w.toNat) (H:AH):Ca E O 95 [.int .i64 w,.int .i64 a] H (fun x H'=>x = .int .i64 (2 ^ w.toNat - 1 - a) ∧ H' = H):=by
 refine Ca.bodyV (F:=a95) rfl rfl rfl ?_
 have hp:=pow_w hw
 simp (maxSteps:=4000000) -implicitDefEqProofs +contextual [-X.ev,a95]
 apply Vx_callM
 ·(simp -implicitDefEqProofs [-X.ev]; rfl)
 refine (RTop_ca hw H).mono ?_
 rintro x H' ⟨rfl,rfl⟩
 simp (maxSteps:=4000000) -implicitDefEqProofs +contextual [-X.ev,wrap_in (n:=2 ^ w.toNat - 1 - a) ⟨by omega,by omega⟩]
end Go.Proofs.YtoijnpfpjpefgaaGreat.A
/- A text without what this claim does not need: S27. -/
set_option linter.unusedVariables false
set_option linter.unusedSimpArgs false
set_option maxRecDepth 10000
namespace Go.Proofs.YtoijnpfpjpefgaaGreat.A
open Go
theorem nat_lt {a w:Int} (ha:0 ≤ a ∧ a < 2 ^ w.toNat):a.toNat < 2 ^ w.toNat:=by
 have h:((2 ^ w.toNat:Nat):Int) = 2 ^ w.toNat:=by simp
 have:=ha.2
 omega
theorem each_doM' {op w a b:Int} (hw8:1 ≤ w ∧ w ≤ 8) (ha:0 ≤ a ∧ a < 2 ^ w.toNat) (hb:0 ≤ b ∧ b < 2 ^ w.toNat) (ho:op = 7 ∨ op = 8 ∨ op = 9):eachM op a b w.toNat = doM op w a b:=by
 have:=each_doM (op:=op) hw8 (nat_lt ha) (nat_lt hb) ho
 rwa [show ((a.toNat:Nat):Int) = a by omega,show ((b.toNat:Nat):Int) = b by omega] at this
theorem RDo_ca {op w a b:Int} {H:AH} (hw:H.n0 ≤ H.nx) (hw8:1 ≤ w ∧ w ≤ 8) (ha:0 ≤ a ∧ a < 2 ^ w.toNat) (hb:0 ≤ b ∧ b < 2 ^ w.toNat):Ca E O 96 [.int .i64 op,.int .i64 w,.int .i64 a,.int .i64 b] H (fun x H'=>x = .int .i64 (doM op w a b) ∧ Ext H H'):=by
 refine Ca.bodyV (F:=a96) rfl rfl rfl ?_
 have hp:=pow_w hw8
 obtain ⟨m0,m1⟩:=mul_bd ha hb
 have mw:(2:Int) ^ w.toNat * 2 ^ w.toNat ≤ 256 * 256:=Int.mul_le_mul hp.2 hp.2 (by omega) (by omega)
 have pz:¬ (2:Int) ^ w.toNat = 0:=by omega
 have XR:=Ext.refl H
 have w60:0 ≤ w ∧ w ≤ 60:=by omega
 by_cases o2:op = 2
 ·subst o2
  have w1:IntKind.i64.wrap (a + b) = a + b:=wrap_in ⟨by omega,by omega⟩
  simp (maxSteps:=4000000) -implicitDefEqProofs +contextual [-X.ev,a96,w1]
  apply Vx_callM
  ·(simp -implicitDefEqProofs [-X.ev]; rfl)
  refine (Pow_ca' w60 H).mono ?_
  rintro x H ⟨rfl,rfl⟩
  simp (maxSteps:=4000000) -implicitDefEqProofs +contextual [-X.ev,rem_nn (show 0 ≤ a + b by omega),pz,doM,XR]
 by_cases o3:op = 3
 ·subst o3
  have w1:IntKind.i64.wrap (a + 2 ^ w.toNat) = a + 2 ^ w.toNat:=wrap_in ⟨by omega,by omega⟩
  have w2:IntKind.i64.wrap (a + 2 ^ w.toNat - b) = a + 2 ^ w.toNat - b:=wrap_in ⟨by omega,by omega⟩
  simp (maxSteps:=4000000) -implicitDefEqProofs +contextual [-X.ev,a96]
  apply Vx_callM
  ·(simp -implicitDefEqProofs [-X.ev]; rfl)
  refine (Pow_ca' w60 H).mono ?_
  rintro x H ⟨rfl,rfl⟩
  simp (maxSteps:=4000000) -implicitDefEqProofs +contextual [-X.ev,w1,w2]
  apply Vx_callM
  ·(simp -implicitDefEqProofs [-X.ev]; rfl)
  refine (Pow_ca' w60 H).mono ?_
  rintro x H ⟨rfl,rfl⟩
  simp (maxSteps:=4000000) -implicitDefEqProofs +contextual [-X.ev,rem_nn (show 0 ≤ a + 2 ^ w.toNat - b by omega),pz,doM,XR]
 by_cases o4:op = 4
 ·subst o4
  have w1:IntKind.i64.wrap (a * b) = a * b:=wrap_in ⟨by omega,by omega⟩
  simp (maxSteps:=4000000) -implicitDefEqProofs +contextual [-X.ev,a96,w1]
  apply Vx_callM
  ·(simp -implicitDefEqProofs [-X.ev]; rfl)
  refine (Pow_ca' w60 H).mono ?_
  rintro x H ⟨rfl,rfl⟩
  simp (maxSteps:=4000000) -implicitDefEqProofs +contextual [-X.ev,rem_nn m0,pz,doM,XR]
 by_cases o5:op = 5
 ·subst o5
  by_cases b0:b = 0
  ·subst b0
   simp (maxSteps:=4000000) -implicitDefEqProofs +contextual [-X.ev,a96]
   apply Vx_callM
   ·(simp -implicitDefEqProofs [-X.ev]; rfl)
   refine (RTop_ca hw8 H).mono ?_
   rintro x H ⟨rfl,rfl⟩
   simp (maxSteps:=4000000) -implicitDefEqProofs +contextual [-X.ev,doM,XR]
  ·simp (maxSteps:=4000000) -implicitDefEqProofs +contextual [-X.ev,a96,b0,quo_nn ha.1 (by omega) (show 0 < b by omega),doM,XR]
 by_cases o6:op = 6
 ·subst o6
  by_cases b0:b = 0
  ·subst b0
   simp (maxSteps:=4000000) -implicitDefEqProofs +contextual [-X.ev,a96,doM,XR]
  ·simp (maxSteps:=4000000) -implicitDefEqProofs +contextual [-X.ev,a96,b0,rem_nn ha.1,doM,XR]
 by_cases o7:op = 7
 ·subst o7
  simp (maxSteps:=4000000) -implicitDefEqProofs +contextual [-X.ev,a96]
  apply Vx_callM
  ·(simp -implicitDefEqProofs [-X.ev]; rfl)
  refine (each_ca hw hw8 (by omega) (by omega)).mono ?_
  rintro x H1 ⟨rfl,X1⟩
  rw [each_doM' hw8 ha hb (by omega)]
  simp (maxSteps:=4000000) -implicitDefEqProofs +contextual [-X.ev,X1]
 by_cases o8:op = 8
 ·subst o8
  simp (maxSteps:=4000000) -implicitDefEqProofs +contextual [-X.ev,a96]
  apply Vx_callM
  ·(simp -implicitDefEqProofs [-X.ev]; rfl)
  refine (each_ca hw hw8 (by omega) (by omega)).mono ?_
  rintro x H1 ⟨rfl,X1⟩
  rw [each_doM' hw8 ha hb (by omega)]
  simp (maxSteps:=4000000) -implicitDefEqProofs +contextual [-X.ev,X1]
 by_cases o9:op = 9
 ·subst o9
  simp (maxSteps:=4000000) -implicitDefEqProofs +contextual [-X.ev,a96]
  apply Vx_callM
  ·(simp -implicitDefEqProofs [-X.ev]; rfl)
  refine (each_ca hw hw8 (by omega) (by omega)).mono ?_
  rintro x H1 ⟨rfl,X1⟩
  rw [each_doM' hw8 ha hb (by omega)]
  simp (maxSteps:=4000000) -implicitDefEqProofs +contextual [-X.ev,X1]
 by_cases o10:op = 10
 ·subst o10
  by_cases b0:w ≤ b
  ·simp (maxSteps:=4000000) -implicitDefEqProofs +contextual [-X.ev,a96,b0,doM,XR]
  have hpb:=pow_w (w:=w) hw8
  have hb1:(2:Int) ^ b.toNat ≤ 256:=by
   have:(2:Nat) ^ b.toNat ≤ 2 ^ 8:=Nat.pow_le_pow_right (by omega) (by omega)
   have h2:((2 ^ b.toNat:Nat):Int) ≤ ((2 ^ 8:Nat):Int):=Int.ofNat_le.2 this
   simpa using h2
  have hb2:=two_pow_pos b.toNat
  obtain ⟨q0,q1⟩:=mul_bd (M:=257) ⟨ha.1,by omega⟩ (b:=2 ^ b.toNat) ⟨by omega,by omega⟩
  have w1:IntKind.i64.wrap (a * 2 ^ b.toNat) = a * 2 ^ b.toNat:=wrap_in ⟨by omega,by omega⟩
  simp (maxSteps:=4000000) -implicitDefEqProofs +contextual [-X.ev,a96,b0]
  apply Vx_callM
  ·(simp -implicitDefEqProofs [-X.ev]; rfl)
  refine (Pow_ca' (by omega) H).mono ?_
  rintro x H ⟨rfl,rfl⟩
  simp (maxSteps:=4000000) -implicitDefEqProofs +contextual [-X.ev,w1]
  apply Vx_callM
  ·(simp -implicitDefEqProofs [-X.ev]; rfl)
  refine (Pow_ca' w60 H).mono ?_
  rintro x H ⟨rfl,rfl⟩
  simp (maxSteps:=4000000) -implicitDefEqProofs +contextual [-X.ev,rem_nn q0,pz,doM,b0,XR]
 by_cases o11:op = 11
 ·subst o11
  by_cases b0:w ≤ b
  ·simp (maxSteps:=4000000) -implicitDefEqProofs +contextual [-X.ev,a96,b0,doM,XR]
  have hb2:=two_pow_pos b.toNat
  simp (maxSteps:=4000000) -implicitDefEqProofs +contextual [-X.ev,a96,b0]
  apply Vx_callM
  ·(simp -implicitDefEqProofs [-X.ev]; rfl)
  refine (Pow_ca' (by omega) H).mono ?_
  rintro x H ⟨rfl,rfl⟩
  simp (maxSteps:=4000000) -implicitDefEqProofs +contextual [-X.ev,quo_nn ha.1 (by omega) (show 0 < (2:Int) ^ b.toNat by omega),doM,b0,XR]
 by_cases o13:op = 13
 ·subst o13
  simp (maxSteps:=4000000) -implicitDefEqProofs +contextual [-X.ev,a96]
  apply Vx_callM
  ·(simp -implicitDefEqProofs [-X.ev]; rfl)
  refine (One_ca (decide (a = b)) H).mono ?_
  rintro x H ⟨rfl,rfl⟩
  simp (maxSteps:=4000000) -implicitDefEqProofs +contextual [-X.ev,doM,XR]
 simp (maxSteps:=4000000) -implicitDefEqProofs +contextual [-X.ev,a96,o2,o3,o4,o5,o6,o7,o8,o9,o10,o11,o13]
 apply Vx_callM
 ·(simp -implicitDefEqProofs [-X.ev]; rfl)
 refine (One_ca (decide (a < b)) H).mono ?_
 rintro x H ⟨rfl,rfl⟩
 simp (maxSteps:=4000000) -implicitDefEqProofs +contextual [-X.ev,doM,o2,o3,o4,o5,o6,o7,o8,o9,o10,o11,o13,XR]
theorem RCopy_ca {v:Value} {l:List Int} {H:AH} (hw:H.n0 ≤ H.nx) (hl:Ints H v l) (hb:l.length ≤ 2 ^ 40):Ca E O 20 [v] H (fun x H'=>Own H' 1 x (intRows l) ∧ Ext H H' ∧ ∀ b,blk x b → H.nx ≤ b):=by
 refine Ca.bodyV (F:=a20) rfl rfl rfl ?_
 obtain ⟨a,c,hv⟩:=hl.len
 simp (maxSteps:=4000000) -implicitDefEqProofs +contextual [-X.ev,a20]
 refine Vk_loop (fun k fr H'=>Ext H H' ∧ ∃ (i:Nat) (s:Value),i + k = l.length ∧ fr.get 0 = v ∧ fr.get 3 = s ∧ fr.get 4 = .int .i64 i ∧ Own H' 1 s (intRows (l.take i)) ∧ (∀ z,blk s z → H.nx ≤ z)) ?_ l.length ⟨Ext.refl _,0,.slice none 0 0,by simp,by simp,by simp,by simp,by simpa [intRows] using Own.nil H 1,fun z hz=>absurd hz (blk_nil _ _ _)⟩
 rintro k fr H' ⟨X1,i,s,hi,f0,f3,f4,ow,hfr⟩
 have hw1:=X1.wf hw
 by_cases h:i < l.length
 ·obtain ⟨n,hn⟩:∃ n,l[i]? = some n:=⟨_,List.getElem?_eq_getElem h⟩
  obtain ⟨b,o,c',hv',hld⟩:=(Ints.ext X1 hl).at hn
  rw [hv'] at f0
  have hbs:=bsl1 (sz:=1) (z:=[.int .i64 0]) (H:=H') (v:=.int .i64 n) rfl rfl rfl
  obtain ⟨H2,hH2⟩:∃ H2,H'.alloc (.cells 1 [.int .i64 n]) = H2:=⟨_,rfl⟩
  obtain ⟨s',H3,ha3,o3,M3,k3,n3,x3,w3⟩:=app1_own (bytes:=8) hw1 ow (r:=[.int .i64 n]) rfl hH2 (by simp [intRows]; omega) (by simp [intRows]; omega)
  have wi:IntKind.i64.wrap ((i:Int) + 1) = i + 1:=wrap_in ⟨by omega,by omega⟩
  simp only [vcells_int,hH2] at hbs
  simp (maxSteps:=4000000) -implicitDefEqProofs +contextual [-X.ev,f0,f3,f4,h,hld,hbs,ha3,wi]
  refine ⟨k - 1,by omega,X1.mod M3 hfr,i + 1,by omega,hv'.symm,by simp,?_,fun z hz=>Nat.le_trans X1.nx (k3 z hz)⟩
  rw [List.take_add_one,hn]
  simpa [intRows] using o3
 ·rw [hv] at f0
  rw [List.take_of_length_le (by omega)] at ow
  simp (maxSteps:=4000000) -implicitDefEqProofs +contextual [-X.ev,f0,f3,f4,h,ow,X1]
  exact hfr
theorem RSame_ca {v u:Value} {l m:List Int} {H:AH} (hl:Ints H v l) (hm:Ints H u m) (hb:l.length ≤ 2 ^ 60):Ca E O 43 [v,u] H (fun x H'=>x = .bool (decide (l = m)) ∧ H' = H):=by
 refine Ca.bodyV (F:=a43) rfl rfl rfl ?_
 obtain ⟨p1,c1,hv⟩:=hl.len
 obtain ⟨p2,c2,hu⟩:=hm.len
 obtain ⟨F,hF⟩:∃ F,decide (l = m) = F:=⟨_,rfl⟩
 rw [hF]
 by_cases q:(l.length:Int) = m.length
 case neg =>
  have hF0:F = false:=by rw [← hF,decide_eq_false_iff_not]; rintro rfl; exact q rfl
  have q':¬ l.length = m.length:=by omega
  simp (maxSteps:=4000000) -implicitDefEqProofs +contextual [-X.ev,a43,hv,hu,q,q',hF0]
 have q':l.length = m.length:=by omega
 simp (maxSteps:=4000000) -implicitDefEqProofs +contextual [-X.ev,a43,hv,hu,q,q']
 refine Vk_loop (fun k fr H'=>H' = H ∧ ∃ i:Nat,i + k = l.length ∧ fr.get 0 = v ∧ fr.get 1 = u ∧ fr.get 5 = .int .i64 i ∧ l.take i = m.take i) ?_ l.length ⟨rfl,0,by simp,by simp [hv,q'],by simp [hu],by simp,by simp⟩
 rintro k fr H' ⟨rfl,i,hi,f0,f1,f5,htk⟩
 by_cases h:i < l.length
 ·obtain ⟨x,hx⟩:∃ n,l[i]? = some n:=⟨_,List.getElem?_eq_getElem h⟩
  obtain ⟨y,hy⟩:∃ n,m[i]? = some n:=⟨_,List.getElem?_eq_getElem (by omega)⟩
  obtain ⟨b,o,c',hv',hld⟩:=hl.at hx
  obtain ⟨b2,o2,c2',hu',hld2⟩:=hm.at hy
  rw [hv'] at f0
  rw [hu'] at f1
  have h2:i < m.length:=by omega
  by_cases e:x = y
  ·subst e
   simp (maxSteps:=4000000) -implicitDefEqProofs +contextual [-X.ev,f0,f1,f5,h,h2,hld,hld2,okD_of,chain_2,chain_1]
   rw [wrap_in (n:=(i:Int) + 1) ⟨by omega,by omega⟩]
   refine ⟨k - 1,by omega,i + 1,by omega,hv'.symm,hu'.symm,by simp,?_⟩
   rw [List.take_add_one,List.take_add_one,hx,hy,htk]
  ·have hF0:F = false:=by
    rw [← hF,decide_eq_false_iff_not]; rintro rfl; rw [hx] at hy; cases hy; exact e rfl
   simp (maxSteps:=4000000) -implicitDefEqProofs +contextual [-X.ev,f0,f1,f5,h,h2,hld,hld2,okD_of,chain_2,chain_1,e,hF0]
 ·have hF1:F = true:=by
   rw [← hF,decide_eq_true_iff]
   rwa [List.take_of_length_le (by omega),List.take_of_length_le (by omega)] at htk
  rw [hv] at f0
  simp (maxSteps:=4000000) -implicitDefEqProofs +contextual [-X.ev,f0,f1,f5,h,hF1]
end Go.Proofs.YtoijnpfpjpefgaaGreat.A
/- A text without what this claim does not need: S28. -/
set_option linter.unusedVariables false
set_option linter.unusedSimpArgs false
set_option maxRecDepth 10000
namespace Go.Proofs.YtoijnpfpjpefgaaGreat.A
open Go
theorem wu64 {n:Int} (h:0 ≤ n ∧ n < 2 ^ 62):IntKind.u64.wrap n = n:=IntWalk.u64_in n ⟨by omega,by omega⟩
theorem top_ca {w:Int} (hw:1 ≤ w ∧ w ≤ 8) (H:AH):Ca E O 142 [.int .i64 w] H (fun x H'=>x = .int .i64 (2 ^ w.toNat - 1) ∧ H' = H):=by
 refine Ca.bodyV (F:=a142) rfl rfl rfl ?_
 have hp:=pow_w hw
 simp (maxSteps:=4000000) -implicitDefEqProofs +contextual [-X.ev,a142,shl_w hw,wrap_in (n:=2 ^ w.toNat - 1) ⟨by omega,by omega⟩]
theorem ok_ca {w:Int} {v:Value} {l:List Int} {H:AH} (hl:Ints H v l) (hsz:l.length < 2 ^ 60):Ca E O 141 [.int .i64 w,v] H (fun x H'=>x = .bool (isWidth w && l.all (isWord w)) ∧ H' = H):=by
 refine Ca.bodyV (F:=a141) rfl rfl rfl ?_
 obtain ⟨p1,c1,hv⟩:=hl.len
 obtain ⟨F,hF⟩:∃ F,(isWidth w && l.all (isWord w)) = F:=⟨_,rfl⟩
 rw [hF]
 by_cases h1:w < 1
 ·have hF0:F = false:=by rw [← hF]; simp [isWidth]; omega
  simp (maxSteps:=4000000) -implicitDefEqProofs +contextual [-X.ev,a141,h1,hF0]
 by_cases h2:8 < w
 ·have hF0:F = false:=by rw [← hF]; simp [isWidth]; omega
  simp (maxSteps:=4000000) -implicitDefEqProofs +contextual [-X.ev,a141,h1,h2,hF0]
 have hw8:1 ≤ w ∧ w ≤ 8:=by omega
 have hwd:isWidth w = true:=by simp [isWidth,hw8]
 simp (maxSteps:=4000000) -implicitDefEqProofs +contextual [-X.ev,a141,h1,h2,hv]
 refine Vk_loop (fun k fr H'=>H' = H ∧ ∃ i:Nat,i + k = l.length ∧ fr.get 0 = .int .i64 w ∧ fr.get 13 = v ∧ fr.get 14 = .int .i64 l.length ∧ fr.get 15 = .int .i64 i ∧ ∀ a ∈ l.take i,isWord w a = true) ?_ l.length ⟨rfl,0,by simp,by simp,by simp [hv],by simp,by simp,by simp⟩
 rintro k fr H' ⟨rfl,i,hi,f0,f13,f14,f15,hall⟩
 by_cases h:i < l.length
 ·obtain ⟨n,hn⟩:∃ n,l[i]? = some n:=⟨_,List.getElem?_eq_getElem h⟩
  obtain ⟨b,o,c',hv',hld⟩:=hl.at hn
  rw [hv'] at f13
  have hF0:isWord w n = false → F = false:=fun z=>by
   rw [← hF,Bool.and_eq_false_iff]; right
   rw [List.all_eq_false]
   exact ⟨n,List.mem_of_getElem? hn,by rw [z]; simp⟩
  rw [isWord_p hw8] at hF0
  have hp:=pow_w hw8
  by_cases z1:n < 0
  ·simp (maxSteps:=4000000) -implicitDefEqProofs +contextual [-X.ev,f0,f13,f14,f15,h,hld,z1,hF0]
  simp (maxSteps:=4000000) -implicitDefEqProofs +contextual [-X.ev,f0,f13,f14,f15,h,hld,z1]
  apply Vx_callM
  ·(simp -implicitDefEqProofs [-X.ev]; rfl)
  refine (top_ca hw8 H').mono ?_
  rintro x H' ⟨rfl,rfl⟩
  by_cases z2:2 ^ w.toNat - 1 < n
  ·have z3:2 ^ w.toNat ≤ n:=by omega
   simp (maxSteps:=4000000) -implicitDefEqProofs +contextual [-X.ev,f0,f13,f14,f15,z2,z3,hF0]
  have z3:¬ 2 ^ w.toNat ≤ n:=by omega
  simp (maxSteps:=4000000) -implicitDefEqProofs +contextual [-X.ev,f0,f13,f14,f15,h,z2]
  rw [wrap_in (n:=(i:Int) + 1) ⟨by omega,by omega⟩]
  refine ⟨k - 1,by omega,i + 1,by omega,hv'.symm,by simp,fun z hz=>?_⟩
  rw [List.take_add_one,hn] at hz
  rcases List.mem_append.1 hz with hz | hz
  ·exact hall z hz
  ·simp at hz; subst hz; rw [isWord_p hw8]; simp [z1,z3]
 ·have hF1:F = true:=by
   rw [List.take_of_length_le (by omega)] at hall
   rw [← hF,hwd,Bool.true_and,List.all_eq_true]; exact hall
  simp (maxSteps:=4000000) -implicitDefEqProofs +contextual [-X.ev,f0,f13,f14,f15,h,hF1]
theorem isWord_of {w a:Int} (hw:1 ≤ w ∧ w ≤ 8) (ha:0 ≤ a ∧ a < 2 ^ w.toNat):isWord w a = true:=by
 simp [isWord,isWidth,hw,ha]
theorem ints1 {H:AH} (hw:H.n0 ≤ H.nx) (a:Int):Ints (H.alloc (.cells 1 [.int .i64 a])) (.slice (some ⟨H.nx,0,none⟩) 1 1) [a]:=⟨_,_,rfl,fun i r hi=>⟨H.nx,0,rfl,by
 have:=ld_box hw (z:=1) (c:=[.int .i64 a]) 1 rfl
 cases i with
 | zero=>simp at hi; subst hi; simpa using this
 | succ i=>simp at hi⟩⟩
theorem ints2 {H:AH} (hw:H.n0 ≤ H.nx) (a b:Int):Ints (H.alloc (.cells 1 [.int .i64 a,.int .i64 b])) (.slice (some ⟨H.nx,0,none⟩) 2 2) [a,b]:=⟨_,_,rfl,fun i r hi=>⟨H.nx,0,rfl,by
 have hg:=get_new H (.cells 1 [.int .i64 a,.int .i64 b])
 match i,hi with
 | 0,hi=>simp at hi; subst hi; exact ldn_get hg hw (k:=0) (n:=1) (by simp)
 | 1,hi=>simp at hi; subst hi; exact ldn_get hg hw (k:=1) (n:=1) (by simp)
 | i + 2,hi=>simp at hi⟩⟩
theorem WNot_ca {w a:Int} {H:AH} (hw:H.n0 ≤ H.nx) (hw8:1 ≤ w ∧ w ≤ 8) (ha:0 ≤ a ∧ a < 2 ^ w.toNat):Ca E O 137 [.int .i64 w,.int .i64 a] H (fun x H'=>x = .tuple #[.int .i64 (2 ^ w.toNat - 1 - a),.int .i64 0] ∧ Ext H H'):=by
 refine Ca.bodyV (F:=a137) rfl rfl rfl ?_
 have hbs:=bsl1 (sz:=1) (z:=[.int .i64 0]) (H:=H) (v:=.int .i64 a) rfl rfl rfl
 have X1:=Ext.alloc H (.cells 1 [.int .i64 a])
 have hin:=ints1 hw a
 simp only [vcells_int] at hbs
 generalize H.alloc (.cells 1 [.int .i64 a]) = H1 at hbs X1 hin
 simp (maxSteps:=4000000) -implicitDefEqProofs +contextual [-X.ev,a137,hbs]
 apply Vx_callM
 ·(simp -implicitDefEqProofs [-X.ev]; rfl)
 refine (ok_ca hin (by simp)).mono ?_
 rintro x H1 ⟨rfl,rfl⟩
 have e:(isWidth w && [a].all (isWord w)) = true:=by simp [isWidth,hw8,isWord_of hw8 ha]
 rw [e]
 simp (maxSteps:=4000000) -implicitDefEqProofs +contextual [-X.ev]
 apply Vx_callM
 ·(simp -implicitDefEqProofs [-X.ev]; rfl)
 refine (top_ca hw8 H1).mono ?_
 rintro x H1 ⟨rfl,rfl⟩
 have hn:abin .andNot (.int .i64 (2 ^ w.toNat - 1)) (.int .i64 a) = some (.int .i64 (2 ^ w.toNat - 1 - a)):=by
  have:=andNot_top (a:=a.toNat) (w:=w.toNat) (by omega) (nat_lt ha)
  rwa [show ((a.toNat:Nat):Int) = a by omega] at this
 simp (maxSteps:=4000000) -implicitDefEqProofs +contextual [-X.ev,hn,X1]
theorem truth_ca (b:Bool) (H:AH):Ca E O 158 [.bool b] H (fun x H'=>x = .int .i64 (if b = true then 1 else 0) ∧ H' = H):=by
 refine Ca.bodyV (F:=a158) rfl rfl rfl ?_
 cases b <;> simp (maxSteps:=4000000) -implicitDefEqProofs +contextual [-X.ev,a158]
theorem shl_b {a b:Int} (ha:0 ≤ a ∧ a < 256) (hb:0 ≤ b ∧ b < 8):abin .shl (.int .i64 a) (.int .u64 b) = some (.int .i64 (a * 2 ^ b.toNat)):=by
 have hb2:=two_pow_pos b.toNat
 have hb1:(2:Int) ^ b.toNat ≤ 256:=by
  have:(2:Nat) ^ b.toNat ≤ 2 ^ 8:=Nat.pow_le_pow_right (by omega) (by omega)
  have h2:((2 ^ b.toNat:Nat):Int) ≤ ((2 ^ 8:Nat):Int):=Int.ofNat_le.2 this
  simpa using h2
 obtain ⟨q0,q1⟩:=mul_bd (M:=257) ⟨ha.1,by omega⟩ (b:=2 ^ b.toNat) ⟨by omega,by omega⟩
 have h0:¬ b < 0:=by omega
 have h1:min b.toNat IntKind.i64.bits = b.toNat:=Nat.min_eq_left (by show b.toNat ≤ 64; omega)
 simp only [abin,intbin,h0,if_false,h1]
 rw [wrap_in ⟨by omega,by omega⟩]
theorem shr_b {a b:Int} (ha:0 ≤ a ∧ a < 256) (hb:0 ≤ b ∧ b < 8):abin .shr (.int .i64 a) (.int .u64 b) = some (.int .i64 (a / 2 ^ b.toNat)):=by
 have hb2:=two_pow_pos b.toNat
 have h0:¬ b < 0:=by omega
 have h1:min b.toNat IntKind.i64.bits = b.toNat:=Nat.min_eq_left (by show b.toNat ≤ 64; omega)
 simp only [abin,intbin,h0,if_false,h1]
 rw [Int.fdiv_eq_ediv_of_nonneg _ (by omega)]
theorem shifted_ca {w a b:Int} {up:Bool} (hw:1 ≤ w ∧ w ≤ 8) (ha:0 ≤ a ∧ a < 256) (hb:0 ≤ b) (H:AH):Ca E O 155 [.int .i64 w,.int .i64 a,.int .i64 b,.bool up] H (fun x H'=>x = .int .i64 (if w ≤ b then 0 else if up = true then a * 2 ^ b.toNat else a / 2 ^ b.toNat) ∧ H' = H):=by
 refine Ca.bodyV (F:=a155) rfl rfl rfl ?_
 by_cases h:w ≤ b
 ·simp (maxSteps:=4000000) -implicitDefEqProofs +contextual [-X.ev,a155,h]
 have wb:IntKind.u64.wrap b = b:=wu64 ⟨hb,by omega⟩
 cases up
 ·simp (maxSteps:=4000000) -implicitDefEqProofs +contextual [-X.ev,a155,h,wb,shr_b ha ⟨hb,by omega⟩]
 ·simp (maxSteps:=4000000) -implicitDefEqProofs +contextual [-X.ev,a155,h,wb,shl_b ha ⟨hb,by omega⟩]
def doesV (op:Int):Value :=
 if op = 2 then .func (.func 146) #[] #[] else if op = 3 then .func (.func 147) #[] #[] else if op = 4 then .func (.func 148) #[] #[] else if op = 5 then .func (.func 149) #[] #[] else if op = 6 then .func (.func 150) #[] #[] else if op = 7 then .func (.func 151) #[] #[] else if op = 8 then .func (.func 152) #[] #[] else if op = 9 then .func (.func 153) #[] #[] else if op = 10 then .func (.func 154) #[] #[] else if op = 11 then .func (.func 156) #[] #[] else if op = 13 then .func (.func 157) #[] #[] else if op = 14 then .func (.func 159) #[] #[] else .nilFunc
theorem does_ca {op:Int} {H:AH} (hw:H.n0 ≤ H.nx):Ca E O 143 [.int .i64 op] H (fun x H'=>x = doesV op ∧ Ext H H'):=by
 refine Ca.bodyV (F:=a143) rfl rfl rfl ?_
 have X0:=Ext.alloc H (.map [])
 have g0:=get_new H (.map [])
 generalize hH0:H.alloc (.map []) = H0 at X0 g0
 have z0:H0.n0 ≤ H.nx:=by rw [X0.n0]; exact hw
 obtain ⟨H1,s1,M1,nx1,n01,g1⟩:=mupV_m (kk:=0) (k:=.int .i64 2) (v:=.func (.func 146) #[] #[]) g0 z0 rfl rfl rfl
 have z1:H1.n0 ≤ H.nx:=by rw [M1.n0]; exact z0
 obtain ⟨H2,s2,M2,nx2,n02,g2⟩:=mupV_m (kk:=0) (k:=.int .i64 3) (v:=.func (.func 147) #[] #[]) g1 z1 rfl rfl rfl
 have z2:H2.n0 ≤ H.nx:=by rw [M2.n0]; exact z1
 obtain ⟨H3,s3,M3,nx3,n03,g3⟩:=mupV_m (kk:=0) (k:=.int .i64 4) (v:=.func (.func 148) #[] #[]) g2 z2 rfl rfl rfl
 have z3:H3.n0 ≤ H.nx:=by rw [M3.n0]; exact z2
 obtain ⟨H4,s4,M4,nx4,n04,g4⟩:=mupV_m (kk:=0) (k:=.int .i64 5) (v:=.func (.func 149) #[] #[]) g3 z3 rfl rfl rfl
 have z4:H4.n0 ≤ H.nx:=by rw [M4.n0]; exact z3
 obtain ⟨H5,s5,M5,nx5,n05,g5⟩:=mupV_m (kk:=0) (k:=.int .i64 6) (v:=.func (.func 150) #[] #[]) g4 z4 rfl rfl rfl
 have z5:H5.n0 ≤ H.nx:=by rw [M5.n0]; exact z4
 obtain ⟨H6,s6,M6,nx6,n06,g6⟩:=mupV_m (kk:=0) (k:=.int .i64 7) (v:=.func (.func 151) #[] #[]) g5 z5 rfl rfl rfl
 have z6:H6.n0 ≤ H.nx:=by rw [M6.n0]; exact z5
 obtain ⟨H7,s7,M7,nx7,n07,g7⟩:=mupV_m (kk:=0) (k:=.int .i64 8) (v:=.func (.func 152) #[] #[]) g6 z6 rfl rfl rfl
 have z7:H7.n0 ≤ H.nx:=by rw [M7.n0]; exact z6
 obtain ⟨H8,s8,M8,nx8,n08,g8⟩:=mupV_m (kk:=0) (k:=.int .i64 9) (v:=.func (.func 153) #[] #[]) g7 z7 rfl rfl rfl
 have z8:H8.n0 ≤ H.nx:=by rw [M8.n0]; exact z7
 obtain ⟨H9,s9,M9,nx9,n09,g9⟩:=mupV_m (kk:=0) (k:=.int .i64 10) (v:=.func (.func 154) #[] #[]) g8 z8 rfl rfl rfl
 have z9:H9.n0 ≤ H.nx:=by rw [M9.n0]; exact z8
 obtain ⟨H10,s10,M10,nx10,n010,g10⟩:=mupV_m (kk:=0) (k:=.int .i64 11) (v:=.func (.func 156) #[] #[]) g9 z9 rfl rfl rfl
 have z10:H10.n0 ≤ H.nx:=by rw [M10.n0]; exact z9
 obtain ⟨H11,s11,M11,nx11,n011,g11⟩:=mupV_m (kk:=0) (k:=.int .i64 13) (v:=.func (.func 157) #[] #[]) g10 z10 rfl rfl rfl
 have z11:H11.n0 ≤ H.nx:=by rw [M11.n0]; exact z10
 obtain ⟨H12,s12,M12,nx12,n012,g12⟩:=mupV_m (kk:=0) (k:=.int .i64 14) (v:=.func (.func 159) #[] #[]) g11 z11 rfl rfl rfl
 have z12:H12.n0 ≤ H.nx:=by rw [M12.n0]; exact z11
 have XX:Ext H H12:=X0.mod (M1.trans (M2.trans (M3.trans (M4.trans (M5.trans (M6.trans (M7.trans (M8.trans (M9.trans (M10.trans (M11.trans (M12)))))))))))) (by rintro x rfl; exact Nat.le_refl _)
 have lk:lookV 0 .nilFunc H12 (.map (some H.nx)) (.int .i64 op) false = some (doesV op):=by
  unfold doesV
  by_cases o2:op = 2
  ·subst o2; exact lookV_f g12 z12 rfl rfl
  rw [if_neg o2]
  by_cases o3:op = 3
  ·subst o3; exact lookV_f g12 z12 rfl rfl
  rw [if_neg o3]
  by_cases o4:op = 4
  ·subst o4; exact lookV_f g12 z12 rfl rfl
  rw [if_neg o4]
  by_cases o5:op = 5
  ·subst o5; exact lookV_f g12 z12 rfl rfl
  rw [if_neg o5]
  by_cases o6:op = 6
  ·subst o6; exact lookV_f g12 z12 rfl rfl
  rw [if_neg o6]
  by_cases o7:op = 7
  ·subst o7; exact lookV_f g12 z12 rfl rfl
  rw [if_neg o7]
  by_cases o8:op = 8
  ·subst o8; exact lookV_f g12 z12 rfl rfl
  rw [if_neg o8]
  by_cases o9:op = 9
  ·subst o9; exact lookV_f g12 z12 rfl rfl
  rw [if_neg o9]
  by_cases o10:op = 10
  ·subst o10; exact lookV_f g12 z12 rfl rfl
  rw [if_neg o10]
  by_cases o11:op = 11
  ·subst o11; exact lookV_f g12 z12 rfl rfl
  rw [if_neg o11]
  by_cases o13:op = 13
  ·subst o13; exact lookV_f g12 z12 rfl rfl
  rw [if_neg o13]
  by_cases o14:op = 14
  ·subst o14; exact lookV_f g12 z12 rfl rfl
  rw [if_neg o14]
  refine lookV_n g12 z12 rfl ?_
  have hne:∀ k:Int,¬ op = k → (op == k) = false:=fun k h=>by simpa using h
  simp [findA,veq?,updA,hne _ o2,hne _ o3,hne _ o4,hne _ o5,hne _ o6,hne _ o7,hne _ o8,hne _ o9,hne _ o10,hne _ o11,hne _ o13,hne _ o14]
 simp (maxSteps:=4000000) -implicitDefEqProofs +contextual [-X.ev,a143,hH0,s1,s2,s3,s4,s5,s6,s7,s8,s9,s10,s11,s12,lk,XX]
theorem doesF_ca {op w a b:Int} (ho:(2 ≤ op ∧ op ≤ 11) ∨ op = 13 ∨ op = 14) (hw8:1 ≤ w ∧ w ≤ 8) (ha:0 ≤ a ∧ a < 2 ^ w.toNat) (hb:0 ≤ b ∧ b < 2 ^ w.toNat) :
  ∃ f,doesV op = .func (.func f) #[] #[] ∧ ∀ H:AH,Ca E O f [.int .i64 w,.int .i64 a,.int .i64 b] H (fun x H'=>∃ y,x = .int .i64 y ∧ y % 2 ^ w.toNat = doM op w a b ∧ H' = H):=by
 have hp:=pow_w hw8
 obtain ⟨m0,m1⟩:=mul_bd ha hb
 have mw:(2:Int) ^ w.toNat * 2 ^ w.toNat ≤ 256 * 256:=Int.mul_le_mul hp.2 hp.2 (by omega) (by omega)
 have hd:=doM_word (op:=op) hw8 ha hb
 have hm:doM op w a b % 2 ^ w.toNat = doM op w a b:=Int.emod_eq_of_lt hd.1 hd.2
 have ha256:0 ≤ a ∧ a < 256:=by omega
 have cases12:op = 2 ∨ op = 3 ∨ op = 4 ∨ op = 5 ∨ op = 6 ∨ op = 7 ∨ op = 8 ∨ op = 9 ∨ op = 10 ∨ op = 11 ∨ op = 13 ∨ op = 14:=by omega
 have hnat:((a.toNat:Nat):Int) = a ∧ ((b.toNat:Nat):Int) = b:=by omega
 have an:=nat_lt ha
 have bn:=nat_lt hb
 have n62:(2:Nat) ^ w.toNat ≤ 2 ^ 62:=Nat.pow_le_pow_right (by omega) (by omega)
 rcases cases12 with rfl | rfl | rfl | rfl | rfl | rfl | rfl | rfl | rfl | rfl | rfl | rfl
 ·refine ⟨146,rfl,fun H=>?_⟩
  refine Ca.bodyV (F:=a146) rfl rfl rfl ?_
  simp (maxSteps:=4000000) -implicitDefEqProofs +contextual [-X.ev,a146,wrap_in (n:=a + b) ⟨by omega,by omega⟩]
  simp [doM]
 ·refine ⟨147,rfl,fun H=>?_⟩
  refine Ca.bodyV (F:=a147) rfl rfl rfl ?_
  simp (maxSteps:=4000000) -implicitDefEqProofs +contextual [-X.ev,a147,wrap_in (n:=a - b) ⟨by omega,by omega⟩]
  simp only [doM]
  rw [if_neg (show ¬ (3:Int) = 2 by omega),if_pos trivial,show a + 2 ^ w.toNat - b = (a - b) + 2 ^ w.toNat by omega,Int.add_emod_right]
 ·refine ⟨148,rfl,fun H=>?_⟩
  refine Ca.bodyV (F:=a148) rfl rfl rfl ?_
  simp (maxSteps:=4000000) -implicitDefEqProofs +contextual [-X.ev,a148,wrap_in (n:=a * b) ⟨by omega,by omega⟩]
  simp [doM]
 ·refine ⟨149,rfl,fun H=>?_⟩
  refine Ca.bodyV (F:=a149) rfl rfl rfl ?_
  by_cases b0:b = 0
  ·subst b0
   simp (maxSteps:=4000000) -implicitDefEqProofs +contextual [-X.ev,a149]
   apply Vx_callM
   ·(simp -implicitDefEqProofs [-X.ev]; rfl)
   refine (top_ca hw8 H).mono ?_
   rintro x H ⟨rfl,rfl⟩
   simp (maxSteps:=4000000) -implicitDefEqProofs +contextual [-X.ev]
   rw [← hm]; simp [doM]
  ·simp (maxSteps:=4000000) -implicitDefEqProofs +contextual [-X.ev,a149,b0,quo_nn ha.1 (by omega) (show 0 < b by omega)]
   rw [← hm]; simp [doM,b0]
 ·refine ⟨150,rfl,fun H=>?_⟩
  refine Ca.bodyV (F:=a150) rfl rfl rfl ?_
  by_cases b0:b = 0
  ·subst b0
   simp (maxSteps:=4000000) -implicitDefEqProofs +contextual [-X.ev,a150]
   rw [← hm]; simp [doM]
  ·simp (maxSteps:=4000000) -implicitDefEqProofs +contextual [-X.ev,a150,b0,rem_nn ha.1]
   rw [← hm]; simp [doM,b0]
 ·refine ⟨151,rfl,fun H=>?_⟩
  refine Ca.bodyV (F:=a151) rfl rfl rfl ?_
  have hn:=and_nat (a:=a.toNat) (b:=b.toNat) (by omega) (by omega)
  rw [hnat.1,hnat.2] at hn
  simp (maxSteps:=4000000) -implicitDefEqProofs +contextual [-X.ev,a151,hn]
  rw [← hm]; simp [doM]
 ·refine ⟨152,rfl,fun H=>?_⟩
  refine Ca.bodyV (F:=a152) rfl rfl rfl ?_
  have hn:=or_nat (a:=a.toNat) (b:=b.toNat) (by omega) (by omega)
  rw [hnat.1,hnat.2] at hn
  simp (maxSteps:=4000000) -implicitDefEqProofs +contextual [-X.ev,a152,hn]
  rw [← hm]; simp [doM]
 ·refine ⟨153,rfl,fun H=>?_⟩
  refine Ca.bodyV (F:=a153) rfl rfl rfl ?_
  have hn:=xor_nat (a:=a.toNat) (b:=b.toNat) (by omega) (by omega)
  rw [hnat.1,hnat.2] at hn
  simp (maxSteps:=4000000) -implicitDefEqProofs +contextual [-X.ev,a153,hn]
  rw [← hm]; simp [doM]
 ·refine ⟨154,rfl,fun H=>?_⟩
  refine Ca.bodyV (F:=a154) rfl rfl rfl ?_
  simp (maxSteps:=4000000) -implicitDefEqProofs +contextual [-X.ev,a154]
  apply Vx_callM
  ·(simp -implicitDefEqProofs [-X.ev]; rfl)
  refine (shifted_ca (up:=true) hw8 ha256 hb.1 H).mono ?_
  rintro x H ⟨rfl,rfl⟩
  simp (maxSteps:=4000000) -implicitDefEqProofs +contextual [-X.ev]
  by_cases b0:w ≤ b
  ·simp [doM,b0]
  ·simp [doM,b0]
 ·refine ⟨156,rfl,fun H=>?_⟩
  refine Ca.bodyV (F:=a156) rfl rfl rfl ?_
  simp (maxSteps:=4000000) -implicitDefEqProofs +contextual [-X.ev,a156]
  apply Vx_callM
  ·(simp -implicitDefEqProofs [-X.ev]; rfl)
  refine (shifted_ca (up:=false) hw8 ha256 hb.1 H).mono ?_
  rintro x H ⟨rfl,rfl⟩
  simp (maxSteps:=4000000) -implicitDefEqProofs +contextual [-X.ev]
  rw [← hm]
  by_cases b0:w ≤ b
  ·simp [doM,b0]
  ·simp [doM,b0]
 ·refine ⟨157,rfl,fun H=>?_⟩
  refine Ca.bodyV (F:=a157) rfl rfl rfl ?_
  simp (maxSteps:=4000000) -implicitDefEqProofs +contextual [-X.ev,a157]
  apply Vx_callM
  ·(simp -implicitDefEqProofs [-X.ev]; rfl)
  refine (truth_ca (decide (a = b)) H).mono ?_
  rintro x H ⟨rfl,rfl⟩
  simp (maxSteps:=4000000) -implicitDefEqProofs +contextual [-X.ev]
  rw [← hm]; simp [doM]
 ·refine ⟨159,rfl,fun H=>?_⟩
  refine Ca.bodyV (F:=a159) rfl rfl rfl ?_
  simp (maxSteps:=4000000) -implicitDefEqProofs +contextual [-X.ev,a159]
  apply Vx_callM
  ·(simp -implicitDefEqProofs [-X.ev]; rfl)
  refine (truth_ca (decide (a < b)) H).mono ?_
  rintro x H ⟨rfl,rfl⟩
  simp (maxSteps:=4000000) -implicitDefEqProofs +contextual [-X.ev]
  rw [← hm]; simp [doM]
theorem WDo_ca {op w a b:Int} {H:AH} (hw:H.n0 ≤ H.nx) (ho:(2 ≤ op ∧ op ≤ 11) ∨ op = 13 ∨ op = 14) (hw8:1 ≤ w ∧ w ≤ 8) (ha:0 ≤ a ∧ a < 2 ^ w.toNat) (hb:0 ≤ b ∧ b < 2 ^ w.toNat):Ca E O 138 [.int .i64 op,.int .i64 w,.int .i64 a,.int .i64 b] H (fun x H'=>x = .tuple #[.int .i64 (doM op w a b),.int .i64 0] ∧ Ext H H'):=by
 refine Ca.bodyV (F:=a138) rfl rfl rfl ?_
 have hbs:bslV 2 1 [.int .i64 0,.int .i64 0] H [(0,1,.int .i64 a),(1,1,.int .i64 b)] = some (.slice (some ⟨H.nx,0,none⟩) 2 2,H.alloc (.cells 1 [.int .i64 a,.int .i64 b])):=rfl
 have X1:=Ext.alloc H (.cells 1 [.int .i64 a,.int .i64 b])
 have hin:=ints2 hw a b
 generalize H.alloc (.cells 1 [.int .i64 a,.int .i64 b]) = H1 at hbs X1 hin
 simp (maxSteps:=4000000) -implicitDefEqProofs +contextual [-X.ev,a138,hbs]
 apply Vx_callM
 ·(simp -implicitDefEqProofs [-X.ev]; rfl)
 refine (ok_ca hin (by simp)).mono ?_
 rintro x H1 ⟨rfl,rfl⟩
 have e:(isWidth w && [a,b].all (isWord w)) = true:=by simp [isWidth,hw8,isWord_of hw8 ha,isWord_of hw8 hb]
 rw [e]
 simp (maxSteps:=4000000) -implicitDefEqProofs +contextual [-X.ev]
 apply Vx_callM
 ·(simp -implicitDefEqProofs [-X.ev]; rfl)
 refine (does_ca (op:=op) (X1.wf hw)).mono ?_
 rintro x H2 ⟨rfl,X2⟩
 obtain ⟨f,hf,hcall⟩:=doesF_ca ho hw8 ha hb
 rw [hf]
 simp (maxSteps:=4000000) -implicitDefEqProofs +contextual [-X.ev]
 apply Vx_callvM
 ·(simp -implicitDefEqProofs [-X.ev,-Value.func.injEq]; rfl)
 ·(simp -implicitDefEqProofs [-X.ev]; rfl)
 refine (hcall H2).mono ?_
 rintro x H2 ⟨y,rfl,hy,rfl⟩
 simp (maxSteps:=4000000) -implicitDefEqProofs +contextual [-X.ev]
 apply Vx_callM
 ·(simp -implicitDefEqProofs [-X.ev]; rfl)
 refine (top_ca hw8 H2).mono ?_
 rintro x H2 ⟨rfl,rfl⟩
 have ht:=and_top (x:=y) (w:=w.toNat) (by omega)
 rw [hy] at ht
 simp (maxSteps:=4000000) -implicitDefEqProofs +contextual [-X.ev,ht,X1.trans X2]
end Go.Proofs.YtoijnpfpjpefgaaGreat.A
/- A text without what this claim does not need: S29. -/
set_option linter.unusedVariables false
set_option linter.unusedSimpArgs false
set_option maxRecDepth 10000
namespace Go.Proofs.YtoijnpfpjpefgaaGreat.A
open Go
def getI (l:List Int) (i:Int):Int:=(l[i.toNat]?).getD 0
def firstV (V:List Vr) (n:Int):Int:=wsum ((V.take n.toNat).map (·.cells))
def vAt (l:List Int) (k:Nat):Int:=(l[k]?).getD 0
def storeAt (S:List (List Int)) (cp:Int):List Int:=(S[cp.toNat]?).getD []
mutual
def valE (w:Int) (V:List Vr) (S:List (List Int)):Exp → Int
 | .mk op n cp args=>if op = 0 then n else if op = 1 then getI (storeAt S cp) (firstV V n + vAt (valL w V S args) 0 % cellsAt V n)
  else if op = 12 then 2 ^ w.toNat - 1 - vAt (valL w V S args) 0 else if op = 15 then (if vAt (valL w V S args) 0 = 0 then vAt (valL w V S args) 2 else vAt (valL w V S args) 1)
  else doM op w (vAt (valL w V S args) 0) (vAt (valL w V S args) 1)
def valL (w:Int) (V:List Vr) (S:List (List Int)):List Exp → List Int
 | []=>[]
 | e :: es=>valE w V S e :: valL w V S es
end
theorem valL_get {w:Int} {V:List Vr} {S:List (List Int)}:∀ (l:List Exp) (i:Nat),(valL w V S l)[i]? = (l[i]?).map (valE w V S)
 | [],i=>by simp [valL]
 | e :: es,0=>by simp [valL]
 | e :: es,i + 1=>by simp [valL,valL_get es i]
structure Ev where
 kind:Int
 at_:Int
 val:Int
mutual
def evE (w:Int) (V:List Vr) (S:List (List Int)):Exp → List Ev
 | .mk op n cp args=>evL w V S args ++ if op = 1 ∧ args ≠ [] then [⟨1,n,vAt (valL w V S args) 0 % cellsAt V n⟩] else []
def evL (w:Int) (V:List Vr) (S:List (List Int)):List Exp → List Ev
 | []=>[]
 | e :: es=>evE w V S e ++ evL w V S es
end
theorem wsum_take {V:List Vr} (h:∀ v ∈ V,1 ≤ v.cells ∧ v.cells ≤ 8) (hl:V.length ≤ 18):∀ i,i ≤ V.length → (i:Int) ≤ wsum ((V.take i).map (·.cells)) ∧ wsum ((V.take i).map (·.cells)) ≤ 8 * i ∧ ∀ j,j ≤ i → wsum ((V.take j).map (·.cells)) ≤ wsum ((V.take i).map (·.cells)):=by
 intro i
 induction i with
 | zero=>intro _; exact ⟨by simp [wsum],by simp [wsum],fun j hj=>by rw [show j = 0 by omega]; exact Int.le_refl _⟩
 | succ i ih =>
  intro hi
  obtain ⟨h1,h2,h3⟩:=ih (by omega)
  obtain ⟨y,hy⟩:∃ y,V[i]? = some y:=⟨_,List.getElem?_eq_getElem (by omega)⟩
  have hc:=h y (List.mem_of_getElem? hy)
  have e:wsum ((V.take (i + 1)).map (·.cells)) = wsum ((V.take i).map (·.cells)) + y.cells:=by
   rw [List.take_add_one]
   simp only [hy,Option.toList_some,List.map_append,List.map_cons,List.map_nil,wsum,List.foldl_append,List.foldl_cons,List.foldl_nil]
   exact wrap_in ⟨by unfold wsum at h1; omega,by unfold wsum at h2; omega⟩
  refine ⟨by omega,by omega,fun j hj=>?_⟩
  by_cases hji:j = i + 1
  ·subst hji; exact Int.le_refl _
  ·have:=h3 j (by omega); omega
theorem head_cells {w:Int} {V:List Vr} (h:isHeading w V = true):(∀ v ∈ V,1 ≤ v.cells ∧ v.cells ≤ 8) ∧ V.length ≤ 18 ∧ wsum (V.map (·.cells)) ≤ 48:=by
 refine ⟨fun v hv=>?_,(isHeading_w h).2.2.2,?_⟩
 ·obtain ⟨i,hi,e⟩:=List.mem_iff_getElem.1 hv
  exact isHeading_cells h (i:=i) (by rw [List.getElem?_eq_getElem hi,e])
 ·rw [isHeading_eq] at h; simp only [Bool.and_eq_true,decide_eq_true_eq] at h; exact h.2.2.2.2
theorem cell_in {w:Int} {V:List Vr} (h:isHeading w V = true) {n:Int} (hn:0 ≤ n ∧ n < V.length) (i:Int) :
  0 ≤ firstV V n ∧ firstV V n ≤ 48 ∧ 1 ≤ cellsAt V n ∧ cellsAt V n ≤ 8 ∧ 0 ≤ i % cellsAt V n ∧ i % cellsAt V n < cellsAt V n ∧ firstV V n + i % cellsAt V n < wsum (V.map (·.cells)):=by
 obtain ⟨h1,h2,h3⟩:=head_cells h
 obtain ⟨y,hy⟩:∃ y,V[n.toNat]? = some y:=⟨_,List.getElem?_eq_getElem (by omega)⟩
 have hc:cellsAt V n = y.cells:=by simp [cellsAt,hy]
 have hyc:=h1 y (List.mem_of_getElem? hy)
 obtain ⟨a1,a2,_⟩:=wsum_take h1 h2 n.toNat (by omega)
 obtain ⟨b1,b2,b3⟩:=wsum_take h1 h2 (n.toNat + 1) (by omega)
 obtain ⟨_,_,c3⟩:=wsum_take h1 h2 V.length (Nat.le_refl _)
 have e:wsum ((V.take (n.toNat + 1)).map (·.cells)) = wsum ((V.take n.toNat).map (·.cells)) + y.cells:=by
  rw [List.take_add_one]
  simp only [hy,Option.toList_some,List.map_append,List.map_cons,List.map_nil,wsum,List.foldl_append,List.foldl_cons,List.foldl_nil]
  exact wrap_in ⟨by unfold wsum at a1; omega,by unfold wsum at a2; omega⟩
 have d1:=c3 (n.toNat + 1) (by omega)
 have d2:=c3 n.toNat (by omega)
 rw [List.take_length] at d1 d2
 have m1:=Int.emod_nonneg i (show y.cells ≠ 0 by omega)
 have m2:=Int.emod_lt_of_pos i (show 0 < y.cells by omega)
 rw [hc]
 unfold firstV
 omega
def SOk (w:Int) (V:List Vr) (S:List (List Int)):Prop:=∀ s ∈ S,isStore w V s = true
theorem isStore_get {w:Int} {V:List Vr} {s:List Int} (hw8:1 ≤ w ∧ w ≤ 8) (h:isStore w V s = true) {i:Int} (hi:0 ≤ i ∧ i < wsum (V.map (·.cells))):∃ a,s[i.toNat]? = some a ∧ 0 ≤ a ∧ a < 2 ^ w.toNat ∧ getI s i = a:=by
 simp only [isStore,Bool.and_eq_true,decide_eq_true_eq,List.all_eq_true] at h
 obtain ⟨a,ha⟩:∃ y,s[i.toNat]? = some y:=⟨_,List.getElem?_eq_getElem (by omega)⟩
 have:=h.2 a (List.mem_of_getElem? ha)
 rw [isWord_p hw8] at this
 simp at this
 exact ⟨a,ha,this.1,this.2,by simp [getI,ha]⟩
theorem form_cases {w k op n cp:Int} {V:List Vr} {args:List Exp} (hw8:1 ≤ w ∧ w ≤ 8) (h:formE w V k (.mk op n cp args) = true) :
  (∀ e ∈ args,formE w V k e = true) ∧ ((op = 0 ∧ args = [] ∧ 0 ≤ n ∧ n < 2 ^ w.toNat) ∨ (op = 1 ∧ 0 ≤ n ∧ n < V.length ∧ 0 ≤ cp ∧ cp < k ∧ ((args = [] ∧ ¬ 1 < cellsAt V n) ∨ (∃ a,args = [a]) ∧ 1 < cellsAt V n)) ∨ (op = 12 ∧ ∃ a,args = [a]) ∨ (op = 15 ∧ ∃ a b c,args = [a,b,c]) ∨
   (((2 ≤ op ∧ op ≤ 11) ∨ op = 13 ∨ op = 14) ∧ ∃ a b,args = [a,b])):=by
 rw [formE,Bool.and_eq_true] at h
 refine ⟨formL_all.1 h.2,?_⟩
 have h1:=h.1
 rw [node_eq hw8,Bool.and_eq_true,decide_eq_true_eq] at h1
 obtain ⟨h1,h2⟩:=h1
 unfold arityP at h1
 unfold caseP at h2
 by_cases o0:op = 0
 ·rw [if_pos o0] at h1 h2
  simp at h2
  exact .inl ⟨o0,List.eq_nil_of_length_eq_zero (by omega),h2.1,h2.2.1⟩
 rw [if_neg o0] at h1 h2
 by_cases o1:op = 1
 ·rw [if_pos o1] at h2
  simp at h2
  by_cases hn:0 ≤ n ∧ n < V.length
  ·rw [if_pos ⟨o1,hn⟩] at h1
   refine .inr (.inl ⟨o1,hn.1,hn.2,h2.1,h2.2,?_⟩)
   by_cases hc:1 < cellsAt V n
   ·rw [if_pos hc] at h1
    exact .inr ⟨List.length_eq_one_iff.1 (by omega),hc⟩
   ·rw [if_neg hc] at h1
    exact .inl ⟨List.eq_nil_of_length_eq_zero (by omega),hc⟩
  ·rw [if_neg (fun q=>hn q.2),if_neg (by omega),if_neg (by omega),if_neg (by omega)] at h1
   omega
 rw [if_neg (fun q=>o1 q.1)] at h1
 by_cases o2:(2 ≤ op ∧ op ≤ 11) ∨ op = 13 ∨ op = 14
 ·rw [if_pos o2] at h1
  exact .inr (.inr (.inr (.inr ⟨o2,list2 (by omega)⟩)))
 rw [if_neg o2] at h1
 by_cases o3:op = 12
 ·rw [if_pos o3] at h1
  exact .inr (.inr (.inl ⟨o3,List.length_eq_one_iff.1 (by omega)⟩))
 rw [if_neg o3] at h1
 by_cases o4:op = 15
 ·rw [if_pos o4] at h1
  exact .inr (.inr (.inr (.inl ⟨o4,list3 (by omega)⟩)))
 rw [if_neg o4] at h1
 omega
theorem val_word {w:Int} {V:List Vr} {S:List (List Int)} (hV:isHeading w V = true) (hS:SOk w V S):∀ e,formE w V S.length e = true → 0 ≤ valE w V S e ∧ valE w V S e < 2 ^ w.toNat:=exp_rec fun op n cp args ih hf=>by
 have hw8:1 ≤ w ∧ w ≤ 8:=⟨(isHeading_w hV).1,(isHeading_w hV).2.1⟩
 have hp:=pow_w hw8
 obtain ⟨hall,hc⟩:=form_cases hw8 hf
 rcases hc with ⟨rfl,rfl,h1,h2⟩ | ⟨rfl,h1,h2,h3,h4,_⟩ | ⟨rfl,a,rfl⟩ | ⟨rfl,a,b,c,rfl⟩ | ⟨ho,a,b,rfl⟩
 ·rw [valE,if_pos rfl]; exact ⟨h1,h2⟩
 ·rw [valE,if_neg (by omega),if_pos rfl]
  obtain ⟨s,hs⟩:∃ s,S[cp.toNat]? = some s:=⟨_,List.getElem?_eq_getElem (by omega)⟩
  have hst:=hS s (List.mem_of_getElem? hs)
  have hc:=cell_in hV ⟨h1,h2⟩ (vAt (valL w V S args) 0)
  obtain ⟨x,_,hx1,hx2,hx3⟩:=isStore_get hw8 hst (i:=firstV V n + vAt (valL w V S args) 0 % cellsAt V n) (by omega)
  have:storeAt S cp = s:=by simp [storeAt,hs]
  rw [this,hx3]
  exact ⟨hx1,hx2⟩
 ·rw [valE,if_neg (by omega),if_neg (by omega),if_pos rfl]
  have:=ih a (by simp) (hall a (by simp))
  simp only [valL,vAt,List.getElem?_cons_zero,Option.getD_some]
  omega
 ·rw [valE,if_neg (by omega),if_neg (by omega),if_neg (by omega),if_pos rfl]
  have hb:=ih b (by simp) (hall b (by simp))
  have hc:=ih c (by simp) (hall c (by simp))
  by_cases q:vAt (valL w V S [a,b,c]) 0 = 0
  ·rw [if_pos q]; exact hc
  ·rw [if_neg q]; exact hb
 ·rw [valE,if_neg (by omega),if_neg (by omega),if_neg (by omega),if_neg (by omega)]
  have ha:=ih a (by simp) (hall a (by simp))
  have hb:=ih b (by simp) (hall b (by simp))
  simp only [valL,vAt,List.getElem?_cons_zero,List.getElem?_cons_succ,Option.getD_some]
  exact doM_word hw8 ha hb
def StoresC (H:AH) (v:Value) (S:List (List Int)):Prop:=∃ rows,Rows H 1 v rows ∧ All2 (fun r s=>∃ u,r = [u] ∧ Ints H u s) rows S
theorem All2.get {α β:Type} {C:α → β → Prop}:∀ {l:List α} {m:List β} {i:Nat} {y:β},All2 C l m → m[i]? = some y → ∃ x,l[i]? = some x ∧ C x y
 | _,_,i,y,.nil,h=>by simp at h
 | _,_,0,y,.cons a b,h=>by simp at h; subst h; exact ⟨_,rfl,a⟩
 | _,_,i + 1,y,.cons a b,h=>by obtain ⟨x,h1,h2⟩:=All2.get b (by simpa using h); exact ⟨x,by simpa using h1,h2⟩
theorem All2.imp {α β:Type} {C D:α → β → Prop} (h:∀ a b,C a b → D a b):∀ {l:List α} {m:List β},All2 C l m → All2 D l m
 | _,_,.nil=>.nil
 | _,_,.cons a b=>.cons (h _ _ a) (All2.imp h b)
theorem StoresC.sub {H H':AH} (X:Sub H H') {v:Value} {S:List (List Int)} (h:StoresC H v S):StoresC H' v S:=by
 obtain ⟨rows,h1,h2⟩:=h
 exact ⟨rows,h1.sub X,h2.imp fun _ _ ⟨u,e,k⟩=>⟨u,e,k.sub X⟩⟩
theorem StoresC.ext {H H':AH} (X:Ext H H') {v:Value} {S:List (List Int)} (h:StoresC H v S):StoresC H' v S:=h.sub (Sub.of_ext X)
theorem StoresC.at {H:AH} {v:Value} {S:List (List Int)} (h:StoresC H v S) {i:Nat} {s:List Int} (hi:S[i]? = some s):∃ b o c a c',v = .slice (some ⟨b,o,none⟩) S.length c ∧ H.ld ⟨b,o + i,none⟩ = some (.slice a s.length c') ∧ Ints H (.slice a s.length c') s:=by
 obtain ⟨rows,h1,h2⟩:=h
 obtain ⟨r,hr,u,rfl,hu⟩:=h2.get hi
 obtain ⟨b,o,c,e,hl⟩:=h1.at hr
 obtain ⟨a,c',e2⟩:=hu.len
 rw [h2.length] at e
 have:=ld_of_ldn hl (j:=0) rfl
 rw [e2] at this hu
 exact ⟨b,o,c,a,c',e,by simpa using this,hu⟩
theorem StoresC.len {H:AH} {v:Value} {S:List (List Int)} (h:StoresC H v S):∃ a c,v = .slice a S.length c:=by
 obtain ⟨rows,h1,h2⟩:=h
 obtain ⟨a,c,e⟩:=h1.len
 rw [h2.length] at e
 exact ⟨a,c,e⟩
end Go.Proofs.YtoijnpfpjpefgaaGreat.A
/- A text without what this claim does not need: S30. -/
set_option linter.unusedVariables false
set_option linter.unusedSimpArgs false
set_option maxRecDepth 10000
namespace Go.Proofs.YtoijnpfpjpefgaaGreat.A
open Go
theorem RNodes_ca:∀ (N:Nat) (e:Exp) (c:List Value) (H:AH),SizeOf.sizeOf e < N → H.n0 ≤ H.nx → ExC H c e → nodesE e < 2 ^ 60 →
  Ca E O 71 [.agg c.toArray] H (fun x H'=>x = .int .i64 (nodesE e) ∧ Ext H H'):=by
 intro N
 induction N with
 | zero=>intro e c H h; omega
 | succ N ih =>
  intro e c H hN hw he hm
  cases he with | @mk op n cp v rows args i1 i2 i3 hlen hr hl =>
  refine Ca.bodyV (F:=a71) rfl rfl rfl ?_
  have X1:=Ext.alloc H (.cells 4 [.int .i64 op,.int .i64 n,.int .i64 cp,v])
  have d0:(H.alloc (.cells 4 [.int .i64 op,.int .i64 n,.int .i64 cp,v])).ld ⟨H.nx,0,none⟩ = some (.int .i64 op):=ld_new hw rfl
  have d1:(H.alloc (.cells 4 [.int .i64 op,.int .i64 n,.int .i64 cp,v])).ld ⟨H.nx,1,none⟩ = some (.int .i64 n):=ld_new hw rfl
  have d2:(H.alloc (.cells 4 [.int .i64 op,.int .i64 n,.int .i64 cp,v])).ld ⟨H.nx,2,none⟩ = some (.int .i64 cp):=ld_new hw rfl
  have d3:(H.alloc (.cells 4 [.int .i64 op,.int .i64 n,.int .i64 cp,v])).ld ⟨H.nx,3,none⟩ = some v:=ld_new hw rfl
  have d:(H.alloc (.cells 4 [.int .i64 op,.int .i64 n,.int .i64 cp,v])).ldn ⟨H.nx,0,none⟩ 4 = some [.int .i64 op,.int .i64 n,.int .i64 cp,v]:=ld_box hw 4 rfl
  generalize hH1:H.alloc (.cells 4 [.int .i64 op,.int .i64 n,.int .i64 cp,v]) = H1 at X1 d0 d1 d2 d3 d
  have hwH1:=X1.wf hw
  rw [nodesE] at hm
  obtain ⟨p0,c0,hv⟩:=hr.len
  rw [hl.length] at hv
  simp (maxSteps:=4000000) -implicitDefEqProofs +contextual [-X.ev,a71,hH1]
  refine Vk_loop (fun k fr H'=>Ext H1 H' ∧ ∃ i:Nat,i + k = args.length ∧ fr.get 1 = .pointer (some ⟨H.nx,0,none⟩) ∧ fr.get 4 = .int .i64 i ∧ fr.get 3 = .int .i64 (1 + nodesL (args.take i))) ?_ args.length ⟨Ext.refl _,0,by simp,by simp,by simp,by simp [nodesL]⟩
  rintro k fr H2 ⟨X2,i,hi,f1,f4,f3⟩
  have X02:=X1.trans X2
  have hw2:=X02.wf hw
  have D3:=X2.ld d3
  by_cases h:i < args.length
  ·obtain ⟨y,hy⟩:∃ y,args[i]? = some y:=⟨_,List.getElem?_eq_getElem h⟩
   obtain ⟨b,o,c',va,r,hv',hldn,rfl,hey⟩:=ExL.row (hr.ext X02) (hl.ext X02) hy
   rw [hv'] at D3
   have t1:=nodesL_take hy
   have t2:=nodesL_take_le args (i + 1)
   have t3:=nodesL_take_le args i
   have t4:=nodesE_pos y
   have hs:=size_arg (op:=op) (n:=n) (cp:=cp) hy
   simp (maxSteps:=4000000) -implicitDefEqProofs +contextual [-X.ev,f1,f4,f3,h,hldn,D3]
   apply Vx_callM
   ·(simp -implicitDefEqProofs [-X.ev]; rfl)
   refine (ih y _ H2 (by omega) hw2 hey (by omega)).mono ?_
   rintro x H4 ⟨rfl,X4⟩
   simp (maxSteps:=4000000) -implicitDefEqProofs +contextual [-X.ev,f1,f4,f3]
   rw [wrap_in (n:=(i:Int) + 1) ⟨by omega,by omega⟩,wrap_in ⟨by omega,by omega⟩]
   exact ⟨k - 1,by omega,X2.trans X4,i + 1,by omega,by simp,by omega⟩
  ·rw [hv] at D3
   simp (maxSteps:=4000000) -implicitDefEqProofs +contextual [-X.ev,f1,f4,f3,h,D3]
   rw [List.take_of_length_le (by omega)]
   exact ⟨by rw [nodesE],X02⟩
theorem At_ca {w n i:Int} {vv:Value} {V:List Vr} {H:AH} (hv:Vars H vv V) (hV:isHeading w V = true) (hn:0 ≤ n ∧ n < V.length) (hi:0 ≤ i ∧ i < 2 ^ 40) :
  Ca E O 94 [vv,.int .i64 n,.int .i64 i] H (fun x H'=>x = .int .i64 (firstV V n + i % cellsAt V n) ∧ H' = H):=by
 refine Ca.bodyV (F:=a94) rfl rfl rfl ?_
 have hc:=cell_in hV hn i
 obtain ⟨y,hy⟩:∃ y,V[n.toNat]? = some y:=⟨_,List.getElem?_eq_getElem (by omega)⟩
 obtain ⟨b,o,c',hv',_,_,_,hld⟩:=hv.at hy
 have hcy:cellsAt V n = y.cells:=by simp [cellsAt,hy]
 have hldn:=ld_ldn.1 hld
 have hl:V.length < 2 ^ 60:=by have:=(head_cells hV).2.1; omega
 have hf:Ca E O 61 [vv,.int .i64 n] H (fun x H'=>x = .int .i64 (firstV V n) ∧ H' = H):=by
  have:=First_ca hv hl n.toNat (by omega)
  rwa [show ((n.toNat:Nat):Int) = n by omega] at this
 rw [hcy] at hc ⊢
 have y0:¬ y.cells = 0:=by omega
 have rn:=rem_nn (a:=i) (b:=y.cells) hi.1
 rw [if_neg y0] at rn
 rw [hv'] at hf ⊢
 simp (maxSteps:=4000000) -implicitDefEqProofs +contextual [-X.ev,a94,hn.1,hn.2,hld,rn]
 apply Vx_callM
 ·(simp -implicitDefEqProofs [-X.ev]; rfl)
 refine (hf).mono ?_
 rintro x H ⟨rfl,rfl⟩
 have ww:IntKind.i64.wrap (firstV V n + i % y.cells) = firstV V n + i % y.cells:=wrap_in ⟨by omega,by omega⟩
 simp (maxSteps:=4000000) -implicitDefEqProofs +contextual [-X.ev,ww,okD_of,chain_2,chain_1,hldn]
theorem Value_ca {w:Int} {vv vS:Value} {V:List Vr} {S:List (List Int)} (hV:isHeading w V = true) (hS:SOk w V S):∀ (N:Nat) (e:Exp) (c:List Value) (H:AH),SizeOf.sizeOf e < N → H.n0 ≤ H.nx → Vars H vv V → StoresC H vS S → ExC H c e → formE w V S.length e = true →
  Ca E O 70 [.int .i64 w,vv,vS,.agg c.toArray] H (fun x H'=>x = .int .i64 (valE w V S e) ∧ Ext H H'):=by
 have hw8:1 ≤ w ∧ w ≤ 8:=⟨(isHeading_w hV).1,(isHeading_w hV).2.1⟩
 have hp:=pow_w hw8
 intro N
 induction N with
 | zero=>intro e c H h; omega
 | succ N ih =>
  intro e c H hN hw hv hs he hf
  cases he with | @mk op n cp va rows args i1 i2 i3 hlen hr hl =>
  refine Ca.bodyV (F:=a70) rfl rfl rfl ?_
  have X1:=Ext.alloc H (.cells 4 [.int .i64 op,.int .i64 n,.int .i64 cp,va])
  have d0:(H.alloc (.cells 4 [.int .i64 op,.int .i64 n,.int .i64 cp,va])).ld ⟨H.nx,0,none⟩ = some (.int .i64 op):=ld_new hw rfl
  have d1:(H.alloc (.cells 4 [.int .i64 op,.int .i64 n,.int .i64 cp,va])).ld ⟨H.nx,1,none⟩ = some (.int .i64 n):=ld_new hw rfl
  have d2:(H.alloc (.cells 4 [.int .i64 op,.int .i64 n,.int .i64 cp,va])).ld ⟨H.nx,2,none⟩ = some (.int .i64 cp):=ld_new hw rfl
  have d3:(H.alloc (.cells 4 [.int .i64 op,.int .i64 n,.int .i64 cp,va])).ld ⟨H.nx,3,none⟩ = some va:=ld_new hw rfl
  have d:(H.alloc (.cells 4 [.int .i64 op,.int .i64 n,.int .i64 cp,va])).ldn ⟨H.nx,0,none⟩ 4 = some [.int .i64 op,.int .i64 n,.int .i64 cp,va]:=ld_box hw 4 rfl
  generalize hH1:H.alloc (.cells 4 [.int .i64 op,.int .i64 n,.int .i64 cp,va]) = H1 at X1 d0 d1 d2 d3 d
  have hwH1:=X1.wf hw
  obtain ⟨hall,hc⟩:=form_cases hw8 hf
  -- the values of the arguments,one by one
  have arg:∀ (H2:AH) (i:Nat) (y:Exp),Ext H1 H2 → args[i]? = some y → ∃ b o c' vy,va = .slice (some ⟨b,o,none⟩) args.length c' ∧ H2.ldn ⟨b,o + i * 4,none⟩ 4 = some [.int .i64 y.op,.int .i64 y.n,.int .i64 y.cp,vy] ∧
    Ca E O 70 [.int .i64 w,vv,vS,.agg #[.int .i64 y.op,.int .i64 y.n,.int .i64 y.cp,vy]] H2 (fun x H'=>x = .int .i64 (valE w V S y) ∧ Ext H2 H'):=by
   intro H2 i y X2 hy
   have X02:=X1.trans X2
   obtain ⟨b,o,c',vy,r,hv',hldn,rfl,hey⟩:=ExL.row (hr.ext X02) (hl.ext X02) hy
   have hsz:=size_arg (op:=op) (n:=n) (cp:=cp) hy
   exact ⟨b,o,c',vy,hv',hldn,ih y _ H2 (by omega) (X02.wf hw) (hv.ext X02) (hs.ext X02) hey (hall y (List.mem_of_getElem? hy))⟩
  have wd:∀ y ∈ args,0 ≤ valE w V S y ∧ valE w V S y < 2 ^ w.toNat:=fun y hy=>val_word hV hS y (hall y hy)
  rcases hc with ⟨rfl,rfl,h1,h2⟩ | ⟨rfl,h1,h2,h3,h4,hargs⟩ | ⟨rfl,x0,rfl⟩ | ⟨rfl,x0,x1,x2,rfl⟩ | ⟨ho,x0,x1,rfl⟩
  ·simp (maxSteps:=4000000) -implicitDefEqProofs +contextual [-X.ev,a70,hH1,d0,d1,valE,X1]
  ·obtain ⟨s,hss⟩:∃ s,S[cp.toNat]? = some s:=⟨_,List.getElem?_eq_getElem (by omega)⟩
   have hst:=hS s (List.mem_of_getElem? hss)
   have hsa:storeAt S cp = s:=by simp [storeAt,hss]
   have hcell:=cell_in hV ⟨h1,h2⟩ (vAt (valL w V S args) 0)
   obtain ⟨x,hx,hx1,hx2,hx3⟩:=isStore_get hw8 hst (i:=firstV V n + vAt (valL w V S args) 0 % cellsAt V n) (by omega)
   have hlt:firstV V n + vAt (valL w V S args) 0 % cellsAt V n < (s.length:Int):=by
    have:=(List.getElem?_eq_some_iff.1 hx).1; omega
   rcases hargs with ⟨rfl,hcn⟩ | ⟨⟨y,rfl⟩,hcn⟩
   ·obtain ⟨b,o,c',a',c'',hvs,hld,hin⟩:=(hs.ext X1).at hss
    obtain ⟨a5,c5,hva⟩:=hr.len
    rw [hl.length] at hva
    obtain ⟨b3,o3,c3,hv3,hld3⟩:=hin.at hx
    cases hv3
    rw [hva] at d3
    have D2:=ld_ldn.1 d2
    have HN:=ld_ldn.1 hld
    rw [hvs]
    have cpS:cp < S.length:=by omega
    simp (maxSteps:=4000000) -implicitDefEqProofs +contextual [-X.ev,a70,hH1,d0,d1,d2,d3,hld,h3,cpS]
    apply Vx_callM
    ·(simp -implicitDefEqProofs [-X.ev]; rfl)
    refine (At_ca (i:=0) (hv.ext X1) hV ⟨h1,h2⟩ (by omega)).mono ?_
    rintro x H1 ⟨rfl,rfl⟩
    have e0:vAt (valL w V S []) 0 = 0:=rfl
    rw [e0] at hcell hlt hld3 hx3
    simp only [Int.zero_emod,Int.add_zero] at hcell hlt hld3 hx3
    have g1:0 ≤ firstV V n:=by omega
    have hve:valE w V S (.mk 1 n cp []) = x:=by
     rw [valE,if_neg (by omega),if_pos rfl,hsa,e0,Int.zero_emod,Int.add_zero,hx3]
    simp (maxSteps:=4000000) -implicitDefEqProofs +contextual [-X.ev,okD_of,chain_2,chain_1,D2,HN,g1,hlt,hld3,X1,hve]
   ·obtain ⟨b0,o0,c0,vy,hv0,hld0,hcall⟩:=arg H1 0 y (Ext.refl _) rfl
    rw [hv0] at d3
    have hld0':H1.ldn ⟨b0,o0,none⟩ 4 = some [.int .i64 y.op,.int .i64 y.n,.int .i64 y.cp,vy]:=by simpa using hld0
    simp (maxSteps:=4000000) -implicitDefEqProofs +contextual [-X.ev,a70,hH1,d0,d1,d2,d3,hld0']
    apply Vx_callM
    ·(simp -implicitDefEqProofs [-X.ev]; rfl)
    refine (hcall).mono ?_
    rintro x H2 ⟨rfl,X2⟩
    replace d0:=X2.ld d0
    replace d1:=X2.ld d1
    replace d2:=X2.ld d2
    replace d3:=X2.ld d3
    have X02:=X1.trans X2
    have hwy:=wd y (by simp)
    have e0:vAt (valL w V S [y]) 0 = valE w V S y:=rfl
    obtain ⟨b,o,c',a',c'',hvs,hld,hin⟩:=(hs.ext X02).at hss
    obtain ⟨b3,o3,c3,hv3,hld3⟩:=hin.at hx
    cases hv3
    have D2:=ld_ldn.1 d2
    have HN:=ld_ldn.1 hld
    rw [hvs]
    have cpS:cp < S.length:=by omega
    rw [e0] at hcell hlt hld3 hx3
    have g1:0 ≤ firstV V n + valE w V S y % cellsAt V n:=by omega
    simp (maxSteps:=4000000) -implicitDefEqProofs +contextual [-X.ev,d0,d1,d2,d3,hld,h3,cpS]
    apply Vx_callM
    ·(simp -implicitDefEqProofs [-X.ev]; rfl)
    refine (At_ca (i:=valE w V S y) (hv.ext X02) hV ⟨h1,h2⟩ ⟨hwy.1,by omega⟩).mono ?_
    rintro x H2 ⟨rfl,rfl⟩
    simp (maxSteps:=4000000) -implicitDefEqProofs +contextual [-X.ev,okD_of,chain_2,chain_1,D2,HN,g1,hlt,hld3,X02]
    rw [valE,if_neg (by omega),if_pos rfl,hsa,e0,hx3]
  ·obtain ⟨b0,o0,c0,vy,hv0,hld0,hcall⟩:=arg H1 0 x0 (Ext.refl _) rfl
   rw [hv0] at d3
   have hld0':H1.ldn ⟨b0,o0,none⟩ 4 = some [.int .i64 x0.op,.int .i64 x0.n,.int .i64 x0.cp,vy]:=by simpa using hld0
   simp (maxSteps:=4000000) -implicitDefEqProofs +contextual [-X.ev,a70,hH1,d0,d1,d2,d3,hld0']
   apply Vx_callM
   ·(simp -implicitDefEqProofs [-X.ev]; rfl)
   refine (hcall).mono ?_
   rintro x H2 ⟨rfl,X2⟩
   simp (maxSteps:=4000000) -implicitDefEqProofs +contextual [-X.ev]
   apply Vx_callM
   ·(simp -implicitDefEqProofs [-X.ev]; rfl)
   refine (RNot_ca hw8 (wd x0 (by simp)) H2).mono ?_
   rintro x H2 ⟨rfl,rfl⟩
   simp (maxSteps:=4000000) -implicitDefEqProofs +contextual [-X.ev,X1.trans X2]
   rw [valE,if_neg (by omega),if_neg (by omega),if_pos rfl]; rfl
  ·obtain ⟨b0,o0,c0,vy,hv0,hld0,hcall⟩:=arg H1 0 x0 (Ext.refl _) rfl
   have d3s:=d3
   rw [hv0] at d3
   have hld0':H1.ldn ⟨b0,o0,none⟩ 4 = some [.int .i64 x0.op,.int .i64 x0.n,.int .i64 x0.cp,vy]:=by simpa using hld0
   simp (maxSteps:=4000000) -implicitDefEqProofs +contextual [-X.ev,a70,hH1,d0,d1,d2,d3,hld0']
   apply Vx_callM
   ·(simp -implicitDefEqProofs [-X.ev]; rfl)
   refine (hcall).mono ?_
   rintro x H2 ⟨rfl,X2⟩
   replace d0:=X2.ld d0
   replace d3:=X2.ld d3
   replace d3s:=X2.ld d3s
   obtain ⟨b1,o1,c1,vy1,hv1,hld1,hcall1⟩:=arg H2 1 x1 X2 rfl
   rw [hv1] at d3s
   have hld1':H2.ldn ⟨b1,o1 + 4,none⟩ 4 = some [.int .i64 x1.op,.int .i64 x1.n,.int .i64 x1.cp,vy1]:=by simpa using hld1
   simp (maxSteps:=4000000) -implicitDefEqProofs +contextual [-X.ev,d3s,hld1']
   apply Vx_callM
   ·(simp -implicitDefEqProofs [-X.ev]; rfl)
   refine (hcall1).mono ?_
   rintro x H3 ⟨rfl,X3⟩
   replace d0:=X3.ld d0
   replace d3:=X3.ld d3
   replace d3s:=X3.ld d3s
   by_cases q:valE w V S x0 = 0
   ·obtain ⟨b2,o2,c2,vy2,hv2,hld2,hcall2⟩:=arg H3 2 x2 (X2.trans X3) rfl
    rw [hv1] at hv2
    cases hv2
    have hld2':H3.ldn ⟨b1,o1 + 8,none⟩ 4 = some [.int .i64 x2.op,.int .i64 x2.n,.int .i64 x2.cp,vy2]:=by simpa using hld2
    simp (maxSteps:=4000000) -implicitDefEqProofs +contextual [-X.ev,d0,q,d3s,hld2']
    apply Vx_callM
    ·(simp -implicitDefEqProofs [-X.ev]; rfl)
    refine (hcall2).mono ?_
    rintro x H4 ⟨rfl,X4⟩
    simp (maxSteps:=4000000) -implicitDefEqProofs +contextual [-X.ev,X1.trans (X2.trans (X3.trans X4))]
    rw [valE,if_neg (by omega),if_neg (by omega),if_neg (by omega),if_pos rfl,if_pos (show vAt (valL w V S [x0,x1,x2]) 0 = 0 from q)]; rfl
   ·simp (maxSteps:=4000000) -implicitDefEqProofs +contextual [-X.ev,d0,q,X1.trans (X2.trans X3)]
    rw [valE,if_neg (by omega),if_neg (by omega),if_neg (by omega),if_pos rfl,if_neg (show ¬ vAt (valL w V S [x0,x1,x2]) 0 = 0 from q)]; rfl
  ·have n0:¬ op = 0:=by omega
   have n1:¬ op = 1:=by omega
   have n12:¬ op = 12:=by omega
   have n15:¬ op = 15:=by omega
   obtain ⟨b0,o0,c0,vy,hv0,hld0,hcall⟩:=arg H1 0 x0 (Ext.refl _) rfl
   have d3s:=d3
   rw [hv0] at d3
   have hld0':H1.ldn ⟨b0,o0,none⟩ 4 = some [.int .i64 x0.op,.int .i64 x0.n,.int .i64 x0.cp,vy]:=by simpa using hld0
   simp (maxSteps:=4000000) -implicitDefEqProofs +contextual [-X.ev,a70,hH1,d0,d1,d2,d3,hld0',n0,n1,n12,n15]
   apply Vx_callM
   ·(simp -implicitDefEqProofs [-X.ev]; rfl)
   refine (hcall).mono ?_
   rintro x H2 ⟨rfl,X2⟩
   replace d0:=X2.ld d0
   replace d3:=X2.ld d3
   replace d3s:=X2.ld d3s
   obtain ⟨b1,o1,c1,vy1,hv1,hld1,hcall1⟩:=arg H2 1 x1 X2 rfl
   rw [hv1] at d3s
   have hld1':H2.ldn ⟨b1,o1 + 4,none⟩ 4 = some [.int .i64 x1.op,.int .i64 x1.n,.int .i64 x1.cp,vy1]:=by simpa using hld1
   simp (maxSteps:=4000000) -implicitDefEqProofs +contextual [-X.ev,d3s,hld1']
   apply Vx_callM
   ·(simp -implicitDefEqProofs [-X.ev]; rfl)
   refine (hcall1).mono ?_
   rintro x H3 ⟨rfl,X3⟩
   replace d0:=X3.ld d0
   have X03:=X1.trans (X2.trans X3)
   simp (maxSteps:=4000000) -implicitDefEqProofs +contextual [-X.ev,d0,n15]
   apply Vx_callM
   ·(simp -implicitDefEqProofs [-X.ev]; rfl)
   refine (RDo_ca (X03.wf hw) hw8 (wd x0 (by simp)) (wd x1 (by simp))).mono ?_
   rintro x H4 ⟨rfl,X4⟩
   simp (maxSteps:=4000000) -implicitDefEqProofs +contextual [-X.ev,X03.trans X4]
   rw [valE,if_neg n0,if_neg n1,if_neg n12,if_neg n15]; rfl
end Go.Proofs.YtoijnpfpjpefgaaGreat.A
/- A text without what this claim does not need: S31. -/
set_option linter.unusedVariables false
set_option linter.unusedSimpArgs false
set_option maxRecDepth 10000
namespace Go.Proofs.YtoijnpfpjpefgaaGreat.A
open Go
def Ev.row (e:Ev):List Value:=[.int .i64 e.kind,.int .i64 e.at_,.int .i64 e.val]
def evRows (l:List Ev):List (List Value):=l.map Ev.row
theorem evRows_append (l m:List Ev):evRows (l ++ m) = evRows l ++ evRows m:=by simp [evRows]
theorem evRows_length (l:List Ev):(evRows l).length = l.length:=by simp [evRows]
theorem evL_bound {w:Int} {V:List Vr} {S:List (List Int)} {l:List Exp} (h:∀ e ∈ l,((evE w V S e).length:Int) ≤ nodesE e):((evL w V S l).length:Int) ≤ nodesL l:=by
 induction l with
 | nil=>simp [evL,nodesL]
 | cons x l ih =>
  rw [evL,nodesL,List.length_append]
  have h1:=h x (by simp)
  have h2:=ih fun e he=>h e (by simp [he])
  omega
theorem evE_bound {w:Int} {V:List Vr} {S:List (List Int)}:∀ e,((evE w V S e).length:Int) ≤ nodesE e:=exp_rec fun op n cp args ih=>by
 have h1:=evL_bound (w:=w) (V:=V) (S:=S) ih
 rw [evE,nodesE,List.length_append]
 split
 ·simp; omega
 ·simp; omega
theorem evL_take {w:Int} {V:List Vr} {S:List (List Int)} {l:List Exp} {i:Nat} {y:Exp} (h:l[i]? = some y):evL w V S (l.take (i + 1)) = evL w V S (l.take i) ++ evE w V S y:=by
 induction l generalizing i with
 | nil=>simp at h
 | cons x l ih =>
  cases i with
  | zero=>simp at h; subst h; simp [evL]
  | succ i=>simp only [List.take_succ_cons,evL]; rw [ih (by simpa using h),List.append_assoc]
theorem evL_take_le {w:Int} {V:List Vr} {S:List (List Int)} (l:List Exp) (i:Nat):((evL w V S (l.take i)).length:Int) ≤ nodesL l:=by
 have:=evL_bound (w:=w) (V:=V) (S:=S) (l:=l.take i) fun e _=>evE_bound e
 have:=nodesL_take_le l i
 omega
theorem stores1 {H H1:AH} {u:Value} {s:List Int} {a:Option Addr} {c:Nat} (hw:H.n0 ≤ H.nx) (hu:Ints H u s) (h1:H.alloc (.cells 1 [u]) = H1):StoresC H1 (.slice (some ⟨H.nx,0,none⟩) 1 1) [s]:=by
 subst h1
 refine ⟨[[u]],⟨_,_,rfl,fun i r hi=>⟨H.nx,0,rfl,?_⟩⟩,.cons ⟨u,rfl,Ints.ext (Ext.alloc _ _) hu⟩ .nil⟩
 cases i with
 | zero =>
  simp at hi; subst hi
  have:=ld_box hw (z:=1) (c:=[u]) 1 rfl
  simpa using this
 | succ i=>simp at hi
theorem build3 (a b c:Int):buildV [.int .i64 0,.int .i64 0,.int .i64 0] [(0,1,.int .i64 a),(1,1,.int .i64 b),(2,1,.int .i64 c)] = some (.agg #[.int .i64 a,.int .i64 b,.int .i64 c]):=rfl
theorem Events_ca {w:Int} {vv vs:Value} {V:List Vr} {s:List Int} (hV:isHeading w V = true) (hS:isStore w V s = true):∀ (N:Nat) (e:Exp) (c:List Value) (H:AH),SizeOf.sizeOf e < N → H.n0 ≤ H.nx → Vars H vv V → Ints H vs s → ExC H c e → formE w V 1 e = true → nodesE e ≤ 2 ^ 30 →
  Ca E O 72 [.int .i64 w,vv,vs,.agg c.toArray] H (fun x H'=>Own H' 3 x (evRows (evE w V [s] e)) ∧ Ext H H' ∧ ∀ b,blk x b → H.nx ≤ b):=by
 have hw8:1 ≤ w ∧ w ≤ 8:=⟨(isHeading_w hV).1,(isHeading_w hV).2.1⟩
 have hp:=pow_w hw8
 have hSO:SOk w V [s]:=fun t ht=>by simp at ht; subst ht; exact hS
 intro N
 induction N with
 | zero=>intro e c H h; omega
 | succ N ih =>
  intro e c H hN hw hv hs he hf hnd
  cases he with | @mk op n cp va rows args i1 i2 i3 hlen hr hl =>
  refine Ca.bodyV (F:=a72) rfl rfl rfl ?_
  have X1:=Ext.alloc H (.cells 4 [.int .i64 op,.int .i64 n,.int .i64 cp,va])
  have d0:(H.alloc (.cells 4 [.int .i64 op,.int .i64 n,.int .i64 cp,va])).ld ⟨H.nx,0,none⟩ = some (.int .i64 op):=ld_new hw rfl
  have d1:(H.alloc (.cells 4 [.int .i64 op,.int .i64 n,.int .i64 cp,va])).ld ⟨H.nx,1,none⟩ = some (.int .i64 n):=ld_new hw rfl
  have d2:(H.alloc (.cells 4 [.int .i64 op,.int .i64 n,.int .i64 cp,va])).ld ⟨H.nx,2,none⟩ = some (.int .i64 cp):=ld_new hw rfl
  have d3:(H.alloc (.cells 4 [.int .i64 op,.int .i64 n,.int .i64 cp,va])).ld ⟨H.nx,3,none⟩ = some va:=ld_new hw rfl
  have d:(H.alloc (.cells 4 [.int .i64 op,.int .i64 n,.int .i64 cp,va])).ldn ⟨H.nx,0,none⟩ 4 = some [.int .i64 op,.int .i64 n,.int .i64 cp,va]:=ld_box hw 4 rfl
  generalize hH1:H.alloc (.cells 4 [.int .i64 op,.int .i64 n,.int .i64 cp,va]) = H1 at X1 d0 d1 d2 d3 d
  have hwH1:=X1.wf hw
  obtain ⟨hall,hc⟩:=form_cases hw8 hf
  rw [nodesE] at hnd
  obtain ⟨p0,c0,hva⟩:=hr.len
  rw [hl.length] at hva
  simp (maxSteps:=4000000) -implicitDefEqProofs +contextual [-X.ev,a72,hH1]
  refine Vk_loop (fun k fr H'=>Ext H1 H' ∧ ∃ (i:Nat) (z:Value),i + k = args.length ∧ fr.get 0 = .int .i64 w ∧ fr.get 1 = vv ∧ fr.get 2 = vs ∧ fr.get 7 = .pointer (some ⟨H.nx,0,none⟩) ∧ fr.get 9 = z ∧ fr.get 10 = .int .i64 i ∧ Own H' 3 z (evRows (evL w V [s] (args.take i))) ∧ (∀ b,blk z b → H1.nx ≤ b)) ?_ args.length ⟨Ext.refl _,0,.slice none 0 0,by simp,by simp,by simp,by simp,by simp,by simp,by simp,by simpa [evL,evRows] using Own.nil _ 3,fun b hb=>absurd hb (blk_nil _ _ _)⟩
  rintro k fr H2 ⟨X2,i,z,hi,f0,f1,f2,f7,f9,f10,ow,hfr⟩
  have X02:=X1.trans X2
  have hw2:=X02.wf hw
  have D3:=X2.ld d3
  have tl:=evL_take_le (w:=w) (V:=V) (S:=[s]) args i
  by_cases h:i < args.length
  ·obtain ⟨y,hy⟩:∃ y,args[i]? = some y:=⟨_,List.getElem?_eq_getElem h⟩
   obtain ⟨b,o,c',vy,r,hv',hldn,rfl,hey⟩:=ExL.row (hr.ext X02) (hl.ext X02) hy
   rw [hv'] at D3
   have hsz:=size_arg (op:=op) (n:=n) (cp:=cp) hy
   have t1:=nodesL_take hy
   have t2:=nodesL_take_le args (i + 1)
   have t3:=nodesL_take_le args i
   have bd:=evE_bound (w:=w) (V:=V) (S:=[s]) y
   simp (maxSteps:=4000000) -implicitDefEqProofs +contextual [-X.ev,f0,f1,f2,f7,f9,f10,h,hldn,D3]
   apply Vx_callM
   ·(simp -implicitDefEqProofs [-X.ev]; rfl)
   refine (ih y _ H2 (by omega) hw2 (hv.ext X02) (Ints.ext X02 hs) hey (hall y (List.mem_of_getElem? hy)) (by omega)).mono ?_
   rintro x H3 ⟨o3,X3,k3⟩
   have hw3:=X3.wf hw2
   obtain ⟨z',H4,ha4,o4,M4,k4⟩:=app_own (bytes:=24) hw3 (ow.ext X3) o3.rows (by rw [evRows_length,evRows_length]; omega) (by rw [evRows_length,evRows_length]; omega)
   simp (maxSteps:=4000000) -implicitDefEqProofs +contextual [-X.ev,f0,f1,f2,f7,f9,f10,ha4]
   rw [wrap_in (n:=(i:Int) + 1) ⟨by omega,by omega⟩]
   refine ⟨k - 1,by omega,(X2.trans X3).mod M4 hfr,i + 1,by omega,by simp,?_,fun q hq=>?_⟩
   ·rw [evL_take hy,evRows_append]; exact o4
   ·rcases k4 q hq with h | h
    ·exact hfr q h
    ·exact Nat.le_trans (Nat.le_trans X2.nx X3.nx) h
  ·have ht:args.take i = args:=List.take_of_length_le (by omega)
   rw [ht] at ow
   have D3':=D3
   rw [hva] at D3
   have D0:=X2.ld d0
   have D1:=X2.ld d1
   obtain ⟨R,hR⟩:∃ R,evE w V [s] (.mk op n cp args) = R:=⟨_,rfl⟩
   rw [hR]
   rw [evE] at hR
   have hfr':∀ q,blk z q → H.nx ≤ q:=fun q hq=>Nat.le_trans X1.nx (hfr q hq)
   by_cases o1:op = 1 ∧ args ≠ []
   ·obtain ⟨rfl,hne⟩:=o1
    rcases hc with ⟨h0,_⟩ | ⟨_,h1,h2,h3,h4,hargs⟩ | ⟨h0,_⟩ | ⟨h0,_⟩ | ⟨h0,_⟩
    ·omega
    rotate_left
    ·omega
    ·omega
    ·omega
    rcases hargs with ⟨rfl,_⟩ | ⟨⟨y,rfl⟩,hcn⟩
    ·exact absurd rfl hne
    obtain ⟨yv,hyv⟩:∃ yv,V[n.toNat]? = some yv:=⟨_,List.getElem?_eq_getElem (by omega)⟩
    have hcy:cellsAt V n = yv.cells:=by simp [cellsAt,hyv]
    have hwy:=val_word hV hSO y (hall y (by simp))
    have e0:vAt (valL w V [s] [y]) 0 = valE w V [s] y:=rfl
    have hi1:¬ (i:Int) < 1:=by simp at h; omega
    rw [e0,if_pos ⟨rfl,hne⟩,hcy] at hR
    have hs2:=Ints.ext X02 hs
    obtain ⟨as_,cs_,hvs⟩:=hs2.len
    have hbs:=bsl1 (sz:=1) (z:=[.slice none 0 0]) (H:=H2) (v:=vs) (by rw [hvs]; rfl) (by rw [hvs]; rfl) rfl
    have hvc:vcells vs = [vs]:=by rw [hvs]; rfl
    rw [hvc] at hbs
    have X3:=Ext.alloc H2 (.cells 1 [vs])
    have hst:=stores1 (a:=none) (c:=0) hw2 hs2 rfl
    have hw3:=X3.wf hw2
    generalize hH3:H2.alloc (.cells 1 [vs]) = H3 at hbs X3 hst hw3
    have X03:=X02.trans X3
    obtain ⟨b,o,c',vy,r,hv',hldn,rfl,hey⟩:=ExL.row (hr.ext X03) (hl.ext X03) (i:=0) (y:=y) rfl
    have hldn0:H3.ldn ⟨b,o,none⟩ 4 = some [.int .i64 y.op,.int .i64 y.n,.int .i64 y.cp,vy]:=by simpa using hldn
    have d33:=X3.ld D3'
    rw [hv'] at d33
    simp (maxSteps:=4000000) -implicitDefEqProofs +contextual [-X.ev,f0,f1,f2,f7,f9,f10,hi1,D3,D0,hbs,d33,hldn0]
    apply Vx_callM
    ·(simp -implicitDefEqProofs [-X.ev]; rfl)
    refine (Value_ca hV hSO _ y _ H3 (Nat.lt_succ_self _) hw3 (hv.ext X03) hst hey (hall y (by simp))).mono ?_
    rintro x H4 ⟨rfl,X4⟩
    have X04:=X03.trans X4
    have hw4:=X4.wf hw3
    have D14:=(X3.trans X4).ld D1
    obtain ⟨bb,oo,cc,hvv,_,_,_,hld⟩:=(hv.ext X04).at hyv
    have hcb:=isHeading_cells hV hyv
    have rn:=rem_nn (a:=valE w V [s] y) (b:=yv.cells) hwy.1
    rw [if_neg (by omega)] at rn
    have hb4:=bsl1 (sz:=3) (z:=[.int .i64 0,.int .i64 0,.int .i64 0]) (H:=H4) (v:=.agg #[.int .i64 1,.int .i64 n,.int .i64 (valE w V [s] y % yv.cells)]) rfl rfl rfl
    simp only [vcells_agg] at hb4
    obtain ⟨H5,hH5⟩:∃ H5,H4.alloc (.cells 3 [.int .i64 1,.int .i64 n,.int .i64 (valE w V [s] y % yv.cells)]) = H5:=⟨_,rfl⟩
    obtain ⟨z',H6,ha6,o6,M6,k6,c1,c2,c3,c4,c5,c6⟩:=app1_own (bytes:=24) hw4 (ow.ext (X3.trans X4)) (r:=[.int .i64 1,.int .i64 n,.int .i64 (valE w V [s] y % yv.cells)]) rfl hH5 (by rw [evRows_length]; rw [ht] at tl; omega) (by rw [evRows_length]; rw [ht] at tl; omega)
    rw [hH5] at hb4
    rw [hvv] at f1
    simp (maxSteps:=4000000) -implicitDefEqProofs +contextual [-X.ev,f0,f1,f2,f7,f9,f10,D14,h1,h2,hld,rn,build3,hb4,ha6,okD_of,chain_2,chain_1,c1,c4,c5,c6]
    refine ⟨by rw [← hR,evRows_append]; exact o6,X04.mod M6 hfr',fun q hq=>Nat.le_trans X04.nx (k6 q hq)⟩
   ·rw [if_neg o1,List.append_nil] at hR
    rw [hR] at ow
    by_cases q1:op = 1
    ·have q2:args = []:=by
      rcases Classical.em (args = []) with e | e
      ·exact e
      ·exact absurd ⟨q1,e⟩ o1
     subst q2
     have hi0:¬ (i:Int) < 0:=by omega
     simp (maxSteps:=4000000) -implicitDefEqProofs +contextual [-X.ev,f0,f1,f2,f7,f9,f10,D3,D0,q1,hi0,ow,X02]
     exact hfr'
    ·simp (maxSteps:=4000000) -implicitDefEqProofs +contextual [-X.ev,f0,f1,f2,f7,f9,f10,h,D3,D0,q1,ow,X02]
     exact hfr'
end Go.Proofs.YtoijnpfpjpefgaaGreat.A
/- A text without what this claim does not need: S32. -/
set_option linter.unusedVariables false
set_option linter.unusedSimpArgs false
set_option maxRecDepth 10000
namespace Go.Proofs.YtoijnpfpjpefgaaGreat.A
open Go
abbrev Itm:=Int × Stm
def itemsM:List Stm → Int → List Itm
 | [],_=>[]
 | .mk op n args thn els :: ss,k=>(k,.mk op n args thn els) :: itemsM ss (k + 1 + countS thn + countS els)
theorem StC.sub:∀ {G H:AH} (X:Sub G H) {c:List Value} {e:Stm},StC G c e → StC H c e:=by
 intro G H X
 have hE:∀ (N:Nat) (e:Exp) (c:List Value),SizeOf.sizeOf e < N → ExC G c e → ExC H c e:=by
  intro N
  induction N with
  | zero=>intro e c h; omega
  | succ N ih =>
   intro e c hN h
   cases h with | @mk op n cp v rows args i1 i2 i3 hl hr hrows =>
   refine .mk i1 i2 i3 hl (hr.sub X) ?_
   have:∀ (rows:List (List Value)) (l:List Exp),(∀ y ∈ l,SizeOf.sizeOf y < N) → ExL G rows l → ExL H rows l:=by
    intro rows l
    induction l generalizing rows with
    | nil=>intro _ h; cases h; exact .nil
    | cons x l ihl=>intro hs h; cases h with | cons a b=>exact .cons (ih x _ (hs x (by simp)) a) (ihl _ (fun y hy=>hs y (by simp [hy])) b)
   exact this rows args (fun y hy=>by have:=List.sizeOf_lt_of_mem hy; simp at hN; omega) hrows
 have hEL:∀ (rows:List (List Value)) (l:List Exp),ExL G rows l → ExL H rows l:=by
  intro rows l
  induction l generalizing rows with
  | nil=>intro h; cases h; exact .nil
  | cons x l ihl=>intro h; cases h with | cons a b=>exact .cons (hE _ x _ (Nat.lt_succ_self _) a) (ihl _ b)
 have hS:∀ (N:Nat) (e:Stm) (c:List Value),SizeOf.sizeOf e < N → StC G c e → StC H c e:=by
  intro N
  induction N with
  | zero=>intro e c h; omega
  | succ N ih =>
   intro e c hN h
   cases h with | @mk op n va vt ve ra rt re args thn els i1 i2 i3 i4 i5 h1 h2 h3 h4 h5 h6 =>
   have key:∀ (rows:List (List Value)) (l:List Stm),(∀ y ∈ l,SizeOf.sizeOf y < N) → StL G rows l → StL H rows l:=by
    intro rows l
    induction l generalizing rows with
    | nil=>intro _ h; cases h; exact .nil
    | cons x l ihl=>intro hs h; cases h with | cons a b=>exact .cons (ih x _ (hs x (by simp)) a) (ihl _ (fun y hy=>hs y (by simp [hy])) b)
   refine .mk i1 i2 i3 i4 i5 (h1.sub X) (hEL _ _ h2) (h3.sub X) (key _ _ (fun y hy=>?_) h4) (h5.sub X) (key _ _ (fun y hy=>?_) h6)
   ·have:=List.sizeOf_lt_of_mem hy; simp at hN; omega
   ·have:=List.sizeOf_lt_of_mem hy; simp at hN; omega
 exact fun {c e} h=>hS _ e c (Nat.lt_succ_self _) h
theorem StL.sub {G H:AH} (X:Sub G H):∀ {rows:List (List Value)} {l:List Stm},StL G rows l → StL H rows l
 | _,_,.nil=>.nil
 | _,_,.cons a b=>.cons (a.sub X) (StL.sub X b)
end Go.Proofs.YtoijnpfpjpefgaaGreat.A
/- A text without what this claim does not need: S33. -/
set_option linter.unusedVariables false
set_option linter.unusedSimpArgs false
set_option maxRecDepth 10000
namespace Go.Proofs.YtoijnpfpjpefgaaGreat.A
open Go
noncomputable def part (H:AH) (n:Nat) (S:Nat → Prop):AH:=H.hide ((List.range H.nx).filter fun b=>@decide (b < n ∨ S b) (Classical.propDecidable _))
theorem part_get {H:AH} {n:Nat} {S:Nat → Prop} {b:Nat} {x:Blk}:(part H n S).get b = some x ↔ H.get b = some x ∧ n ≤ b ∧ ¬ S b:=by
 unfold part
 rw [hide_get]
 have hm:b ∈ ((List.range H.nx).filter fun b=>@decide (b < n ∨ S b) (Classical.propDecidable _)) ↔ b < H.nx ∧ (b < n ∨ S b):=by rw [List.mem_filter,List.mem_range,@decide_eq_true_eq _ (Classical.propDecidable _)]
 constructor
 ·intro h
  split at h
  ·cases h
  ·rename_i q
   rw [hm] at q
   have hb:=AH.get_lt h
   exact ⟨h,Nat.le_of_not_lt fun k=>q ⟨hb,.inl k⟩,fun k=>q ⟨hb,.inr k⟩⟩
 ·rintro ⟨h,k1,k2⟩
  rw [if_neg]
  ·exact h
  ·rw [hm]
   rintro ⟨_,q | q⟩
   ·omega
   ·exact k2 q
theorem part_n0 (H:AH) (n:Nat) (S:Nat → Prop):(part H n S).n0 = H.n0:=hide_n0 _ _
theorem part_nx (H:AH) (n:Nat) (S:Nat → Prop):(part H n S).nx = H.nx:=hide_nx _ _
theorem part_of (H:AH) (n:Nat) (S:Nat → Prop):Sub (part H n S) H:=sub_hide _ _
theorem part_sub {H H':AH} {n m:Nat} {S S':Nat → Prop} (h0:H'.n0 = H.n0) (hx:H.nx ≤ H'.nx) (h:∀ b x,H.get b = some x → n ≤ b → ¬ S b → H'.get b = some x ∧ m ≤ b ∧ ¬ S' b):Sub (part H n S) (part H' m S') :=
 ⟨by rw [part_n0,part_n0,h0],by rw [part_nx,part_nx]; exact hx,fun b x k=>part_get.2 (let ⟨a,b',c⟩:=part_get.1 k; h b x a b' c)⟩
theorem Own.part {H:AH} {sz n:Nat} {v:Value} {rows:List (List Value)} {S:Nat → Prop} (h:Own H sz v rows) (hs:∀ b,blk v b → n ≤ b ∧ ¬ S b):Own (part H n S) sz v rows:=by
 refine ⟨?_,h.len⟩
 rcases h.is with ⟨rfl,rfl⟩ | ⟨b,rfl,h0,hg⟩
 ·exact .inl ⟨rfl,rfl⟩
 ·have:=hs b ((blk_slice _ _ _ _ _).2 rfl)
  exact .inr ⟨b,rfl,by rw [part_n0]; exact h0,part_get.2 ⟨hg,this.1,this.2⟩⟩
theorem Own.sub {G H:AH} (X:Sub G H) {sz:Nat} {v:Value} {rows:List (List Value)} (h:Own G sz v rows):Own H sz v rows:=by
 refine ⟨?_,h.len⟩
 rcases h.is with ⟨rfl,rfl⟩ | ⟨b,rfl,h0,hg⟩
 ·exact .inl ⟨rfl,rfl⟩
 ·exact .inr ⟨b,rfl,by rw [X.n0]; exact h0,X.get _ _ hg⟩
abbrev noB:Nat → Prop:=fun _=>False
theorem ExC.sub {G H:AH} (X:Sub G H):∀ {c:List Value} {e:Exp},ExC G c e → ExC H c e:=by
 have hE:∀ (N:Nat) (e:Exp) (c:List Value),SizeOf.sizeOf e < N → ExC G c e → ExC H c e:=by
  intro N
  induction N with
  | zero=>intro e c h; omega
  | succ N ih =>
   intro e c hN h
   cases h with | @mk op n cp v rows args i1 i2 i3 hl hr hrows =>
   refine .mk i1 i2 i3 hl (hr.sub X) ?_
   have:∀ (rows:List (List Value)) (l:List Exp),(∀ y ∈ l,SizeOf.sizeOf y < N) → ExL G rows l → ExL H rows l:=by
    intro rows l
    induction l generalizing rows with
    | nil=>intro _ h; cases h; exact .nil
    | cons x l ihl=>intro hs h; cases h with | cons a b=>exact .cons (ih x _ (hs x (by simp)) a) (ihl _ (fun y hy=>hs y (by simp [hy])) b)
   exact this rows args (fun y hy=>by have:=List.sizeOf_lt_of_mem hy; simp at hN; omega) hrows
 exact fun {c e} h=>hE _ e c (Nat.lt_succ_self _) h
theorem ExL.sub {G H:AH} (X:Sub G H):∀ {rows:List (List Value)} {l:List Exp},ExL G rows l → ExL H rows l
 | _,_,.nil=>.nil
 | _,_,.cons a b=>.cons (a.sub X) (ExL.sub X b)
theorem ExL.snoc {H:AH}:∀ {rows:List (List Value)} {l:List Exp} {r:List Value} {y:Exp},ExL H rows l → ExC H r y → ExL H (rows ++ [r]) (l ++ [y])
 | _,_,_,_,.nil,h=>.cons h .nil
 | _,_,_,_,.cons a b,h=>.cons a (ExL.snoc b h)
theorem take_snoc {α:Type} {l:List α} {i:Nat} {y:α} (h:l[i]? = some y):l.take (i + 1) = l.take i ++ [y]:=by rw [List.take_add_one,h]; rfl
theorem nodesL_len:∀ l:List Exp,(l.length:Int) ≤ nodesL l
 | []=>by simp [nodesL]
 | x :: l=>by have:=nodesE_pos x; have:=nodesL_len l; simp [nodesL]; omega
theorem copiedExprs_ca:∀ (N:Nat) (l:List Exp) (vl:Value) (rows:List (List Value)) (H:AH),SizeOf.sizeOf l < N → H.n0 ≤ H.nx → Rows H 4 vl rows → ExL H rows l → l.length ≤ 2 ^ 40 → nodesL l ≤ 2 ^ 40 →
  Ca E O 82 [vl] H (fun x H'=>∃ rs,Own H' 4 x rs ∧ ExL (part H' H.nx (blk x)) rs l ∧ Ext H H' ∧ ∀ b,blk x b → H.nx ≤ b):=by
 intro N
 induction N with
 | zero=>intro l vl rows H h; omega
 | succ N ih =>
  intro l vl rows H hN hw hr hl hlen hnd
  refine Ca.bodyV (F:=a82) rfl rfl rfl ?_
  obtain ⟨p0,c0,hvl⟩:=hr.len
  rw [hl.length] at hvl
  simp (maxSteps:=4000000) -implicitDefEqProofs +contextual [-X.ev,a82,hvl]
  refine Vk_loop (fun k fr H'=>Ext H H' ∧ ∃ (i:Nat) (z:Value) (rs:List (List Value)),i + k = l.length ∧ fr.get 6 = vl ∧ fr.get 3 = z ∧ fr.get 7 = .int .i64 l.length ∧ fr.get 8 = .int .i64 i ∧ Own H' 4 z rs ∧ rs.length = i ∧ ExL (part H' H.nx (blk z)) rs (l.take i) ∧ (∀ b,blk z b → H.nx ≤ b)) ?_ l.length ⟨Ext.refl _,0,.slice none 0 0,[],by simp,by simp [hvl],by simp,by simp [hvl],by simp,Own.nil _ _,rfl,by simpa using ExL.nil,fun b hb=>absurd hb (blk_nil _ _ _)⟩
  rintro k fr H1 ⟨X1,i,z,rs,hi,f6,f3,f7,f8,ow,hrs,hall,hfr⟩
  have hw1:=X1.wf hw
  by_cases h:i < l.length
  ·obtain ⟨y,hy⟩:∃ y,l[i]? = some y:=⟨_,List.getElem?_eq_getElem h⟩
   obtain ⟨op,n,cp,args⟩:=y
   obtain ⟨b,o,c',va,r,hv',hldn,rfl,hey⟩:=ExL.row (hr.ext X1) (hl.ext X1) hy
   simp only [Exp.op,Exp.n,Exp.cp] at hldn hey
   have f6':=f6
   rw [hv'] at f6'
   have hmem:=List.sizeOf_lt_of_mem (List.mem_of_getElem? hy)
   have ht1:=nodesL_take hy
   have ht2:=nodesL_take_le l (i + 1)
   have ht3:=nodesL_take_le l i
   rw [nodesE] at ht1
   have hla:=nodesL_len args
   cases hey with | @mk _ _ _ _ ra _ i1 i2 i3 hlen2 hra hla2 =>
   obtain ⟨H2,sH2,X2,nxH2,n0H2,q,lH2⟩:=st_new (H:=H1) hw1 (z:=4) (c:=[.int .i64 0,.int .i64 0,.int .i64 0,.slice none 0 0]) (vs:=[.int .i64 op,.int .i64 n,.int .i64 cp,va]) rfl
   have q0:H2.ld ⟨H1.nx,0,none⟩ = some (.int .i64 op):=lH2 0 _ rfl
   have q1:H2.ld ⟨H1.nx,1,none⟩ = some (.int .i64 n):=lH2 1 _ rfl
   have q2:H2.ld ⟨H1.nx,2,none⟩ = some (.int .i64 cp):=lH2 2 _ rfl
   have q3:H2.ld ⟨H1.nx,3,none⟩ = some va:=lH2 3 _ rfl
   clear lH2
   replace q:H2.ldn ⟨H1.nx,0,none⟩ 4 = some [.int .i64 op,.int .i64 n,.int .i64 cp,va]:=q
   have hwH2:=X2.wf hw1
   have g2:H2.get H1.nx = some (.cells 4 [.int .i64 op,.int .i64 n,.int .i64 cp,va]):=by
    obtain ⟨H2',s2,_,_,_,g⟩:=var_new hw1 (z:=4) (c:=[.int .i64 0,.int .i64 0,.int .i64 0,.slice none 0 0]) (vs:=[.int .i64 op,.int .i64 n,.int .i64 cp,va]) rfl
    rw [sH2] at s2
    cases s2
    exact g
   have lt2:=AH.get_lt g2
   simp (maxSteps:=4000000) -implicitDefEqProofs +contextual [-X.ev,f6',f3,f7,f8,h,hldn,sH2,q3]
   apply Vx_callM
   ·(simp -implicitDefEqProofs [-X.ev]; rfl)
   refine (ih args va ra H2 (by simp at hmem; omega) hwH2 (hra.ext X2) (hla2.ext X2) (by omega) (by omega)).mono ?_
   rintro x0 H3 ⟨rs3,o3,e3,X3,k3⟩
   obtain ⟨xa,xc,hx⟩:=o3.shape
   subst hx
   have hw3:=X3.wf hwH2
   have g3:=X3.get g2
   obtain ⟨H4,s4,M4,nx4,n04,g4⟩:=st_get g3 (by rw [X3.n0,X2.n0]; exact hw1) (k:=3) (vs:=[.slice xa rs3.length xc]) (by simp)
   have hsp:splice [.int .i64 op,.int .i64 n,.int .i64 cp,va] 3 [.slice xa rs3.length xc] = [.int .i64 op,.int .i64 n,.int .i64 cp,.slice xa rs3.length xc]:=rfl
   rw [hsp] at g4
   have hw4:=M4.wf hw3
   have h04:H4.n0 ≤ H1.nx:=by rw [n04,X3.n0,X2.n0]; exact hw1
   have l4:H4.ldn ⟨H1.nx,0,none⟩ 4 = some [.int .i64 op,.int .i64 n,.int .i64 cp,.slice xa rs3.length xc]:=by rw [ldn_get g4 h04 (by simp)]; rfl
   have zlt:∀ b,blk z b → b < H1.nx:=fun b hb=>ow.lt hb
   have ow4:Own H4 4 z rs:=(ow.ext (X2.trans X3)).mod M4 (fun b hb q=>by have:=zlt b hb; omega)
   have hb5:=bsl1 (sz:=4) (z:=[.int .i64 0,.int .i64 0,.int .i64 0,.slice none 0 0]) (H:=H4) (v:=.agg #[.int .i64 op,.int .i64 n,.int .i64 cp,.slice xa rs3.length xc]) rfl rfl rfl
   simp only [vcells_agg] at hb5
   obtain ⟨H5,hH5⟩:∃ H5,H4.alloc (.cells 4 [.int .i64 op,.int .i64 n,.int .i64 cp,.slice xa rs3.length xc]) = H5:=⟨_,rfl⟩
   obtain ⟨z',H6,ha6,o6,M6,k6,c1,c2,c3,c4,c5,c6⟩:=app1_own (bytes:=48) hw4 ow4 (r:=[.int .i64 op,.int .i64 n,.int .i64 cp,.slice xa rs3.length xc]) rfl hH5 (by omega) (by omega)
   rw [hH5] at hb5
   have hX:Ext H H6:=((X1.trans (X2.trans X3)).mod M4 (fun b hb=>by have:=X1.nx; omega)).mod M6 hfr
   have n12:=X2.nx
   have n23:=X3.nx
   have n01:=X1.nx
   simp (maxSteps:=4000000) -implicitDefEqProofs +contextual [-X.ev,f6',f3,f7,f8,s4,l4,hb5,ha6]
   rw [wrap_in (n:=(i:Int) + 1) ⟨by omega,by omega⟩]
   refine ⟨k - 1,by omega,hX,i + 1,by omega,hv'.symm,by omega,_,o6,by simp [hrs],?_,fun q hq=>by have:=k6 q hq; omega⟩
   rw [take_snoc hy]
   refine ExL.snoc (hall.sub (part_sub (c1.trans (n04.trans (X3.n0.trans X2.n0))) (by omega) fun b y hb hn hz=>?_)) (.mk i1 i2 i3 hlen2 (rows:=rs3) (Rows.sub (part_sub (n:=H2.nx) (S:=noB) (c1.trans n04) (by omega) fun b y hb hn hz=>?_) (o3.part (fun b hb=>⟨k3 b hb,fun q=>q⟩)).rows) (e3.sub (part_sub (c1.trans n04) (by omega) fun b y hb hn hz=>?_)))
   ·have hb1:=AH.get_lt hb
    refine ⟨M6.get (fun q=>hz q) (M4.get (fun q=>by omega) (X3.get (X2.get hb))),hn,fun q=>by have:=k6 b q; omega⟩
   ·have hb1:=AH.get_lt hb
    refine ⟨M6.get (fun q=>by have:=zlt b q; omega) (M4.get (fun q=>by omega) hb),by omega,fun q=>by have:=k6 b q; omega⟩
   ·have hb1:=AH.get_lt hb
    refine ⟨M6.get (fun q=>by have:=zlt b q; omega) (M4.get (fun q=>by omega) hb),by omega,fun q=>by have:=k6 b q; omega⟩
  ·rw [List.take_of_length_le (by omega)] at hall
   simp (maxSteps:=4000000) -implicitDefEqProofs +contextual [-X.ev,f6,f3,f7,f8,h,X1]
   exact ⟨rs,ow,hall,hfr⟩
end Go.Proofs.YtoijnpfpjpefgaaGreat.A
/- A text without what this claim does not need: S34. -/
set_option linter.unusedVariables false
set_option linter.unusedSimpArgs false
set_option maxRecDepth 10000
namespace Go.Proofs.YtoijnpfpjpefgaaGreat.A
open Go
def Fit (H:AH) (v:Value):Prop:=∃ a n c,v = .slice a n c ∧ n ≤ c ∧ (0 < n → ∃ b o,a = some ⟨b,o,none⟩ ∧ H.zok b 5 = true)
theorem zok_get {H:AH} {b z k:Nat} {c:List Value} (h:H.get b = some (.cells z c)) (hk:k ≤ z):H.zok b k = true:=by simp [AH.zok,h,hk]
theorem Own.fit {H:AH} {v:Value} {rows:List (List Value)} (h:Own H 5 v rows):Fit H v:=by
 rcases h.is with ⟨rfl,_⟩ | ⟨b,rfl,_,hg⟩
 ·exact ⟨_,_,_,rfl,Nat.le_refl _,fun h=>absurd h (by omega)⟩
 ·exact ⟨_,_,_,rfl,Nat.le_refl _,fun _=>⟨_,_,rfl,zok_get hg (Nat.le_refl _)⟩⟩
theorem Fit.sub {G H:AH} (X:Sub G H) {v:Value} (h:Fit G v):Fit H v:=by
 obtain ⟨a,n,c,e,h1,h2⟩:=h
 refine ⟨a,n,c,e,h1,fun h=>?_⟩
 obtain ⟨b,o,e2,hz⟩:=h2 h
 refine ⟨b,o,e2,?_⟩
 unfold AH.zok at hz ⊢
 split at hz
 ·rename_i hg; rw [X.get _ _ hg]; exact hz
 ·cases hz
mutual
inductive StK (H:AH):List Value → Stm → Prop where
 | mk {op n:Int} {va vt ve:Value} {ra rt re:List (List Value)} {args:List Exp} {thn els:List Stm}:I64 op → I64 n → args.length < 2 ^ 60 → thn.length < 2 ^ 60 → els.length < 2 ^ 60 →
   Rows H 4 va ra → ExL H ra args → Rows H 5 vt rt → StKL H rt thn → Fit H vt → Rows H 5 ve re → StKL H re els → Fit H ve → StK H [.int .i64 op,.int .i64 n,va,vt,ve] (.mk op n args thn els)
inductive StKL (H:AH):List (List Value) → List Stm → Prop where
 | nil:StKL H [] []
 | cons {r:List Value} {e:Stm} {rs:List (List Value)} {es:List Stm}:StK H r e → StKL H rs es → StKL H (r :: rs) (e :: es)
end
mutual
theorem StK.toC {H:AH} {c:List Value} {e:Stm}:StK H c e → StC H c e
 | .mk a b c d e ra la rt lt _ re le _=>.mk a b c d e ra la rt (StKL.toL lt) re (StKL.toL le)
theorem StKL.toL {H:AH} {c:List (List Value)} {e:List Stm}:StKL H c e → StL H c e
 | .nil=>.nil
 | .cons a b=>.cons (StK.toC a) (StKL.toL b)
end
mutual
theorem StK.sub {G H:AH} (X:Sub G H) {c:List Value} {e:Stm}:StK G c e → StK H c e
 | .mk a b c d e ra la rt lt ft re le fe=>.mk a b c d e (ra.sub X) (ExL.sub X la) (rt.sub X) (StKL.sub X lt) (ft.sub X) (re.sub X) (StKL.sub X le) (fe.sub X)
theorem StKL.sub {G H:AH} (X:Sub G H) {c:List (List Value)} {e:List Stm}:StKL G c e → StKL H c e
 | .nil=>.nil
 | .cons a b=>.cons (StK.sub X a) (StKL.sub X b)
end
theorem StKL.length {H:AH}:∀ {c:List (List Value)} {e:List Stm},StKL H c e → c.length = e.length:=fun h=>h.toL.length
theorem StKL.snoc {H:AH}:∀ {rows:List (List Value)} {l:List Stm} {r:List Value} {y:Stm},StKL H rows l → StK H r y → StKL H (rows ++ [r]) (l ++ [y])
 | _,_,_,_,.nil,h=>.cons h .nil
 | _,_,_,_,.cons a b,h=>.cons a (StKL.snoc b h)
theorem StK.len {H:AH} {c:List Value} {s:Stm} (h:StK H c s):c.length = 5:=by cases h; rfl
abbrev zS:List Value:=[.int .i64 0,.int .i64 0,.slice none 0 0,.slice none 0 0,.slice none 0 0]
theorem nodesS_len:∀ l:List Stm,(l.length:Int) ≤ nodesS l
 | []=>by simp [nodesS]
 | x :: l=>by have:=nodesSt_pos x; have:=nodesS_len l; simp [nodesS]; omega
theorem push_stm {H1 H3:AH} {n m:Nat} {z:Value} {rs:List (List Value)} {l1:List Stm} {cs:List Value} {s:Stm} (hw1:H1.n0 ≤ H1.nx) (X:Ext H1 H3) (hm:H1.nx ≤ m) (hn:n ≤ H1.nx) (ow:Own H1 5 z rs) (hall:StKL (part H1 n (blk z)) rs l1) (hk:StK (part H3 m noB) cs s) (hb:rs.length ≤ 2 ^ 40) :
  ∃ z' H4 H5,bslV 1 5 zS H3 [(0,5,.agg cs.toArray)] = some (.slice (some ⟨H3.nx,0,none⟩) 1 1,H4) ∧ aappend 5 88 H4 z (.slice (some ⟨H3.nx,0,none⟩) 1 1) = some (z',H5) ∧ Own H5 5 z' (rs ++ [cs]) ∧ StKL (part H5 n (blk z')) (rs ++ [cs]) (l1 ++ [s]) ∧ Mod (blk z) H3 H5 ∧ ∀ b,blk z' b → H3.nx ≤ b:=by
 have hw3:=X.wf hw1
 have hb5:=bsl1 (sz:=5) (z:=zS) (H:=H3) (v:=.agg cs.toArray) (by simpa using hk.len) rfl rfl
 simp only [vcells_agg] at hb5
 obtain ⟨H4,hH4⟩:∃ H4,H3.alloc (.cells 5 cs) = H4:=⟨_,rfl⟩
 obtain ⟨z',H6,ha6,o6,M6,k6,c1,c2,c3,c4,c5,c6⟩:=app1_own (bytes:=88) hw3 (ow.ext X) hk.len hH4 (by omega) (by omega)
 rw [hH4] at hb5
 have zlt:∀ b,blk z b → b < H1.nx:=fun b hb=>ow.lt hb
 have nx:=X.nx
 refine ⟨z',H4,H6,hb5,ha6,o6,StKL.snoc (hall.sub (part_sub (c1.trans X.n0) (by omega) fun b y hb hn hz=>?_)) (hk.sub (part_sub c1 (by omega) fun b y hb hn hz=>?_)),M6,k6⟩
 ·have hb1:=AH.get_lt hb
  exact ⟨M6.get (fun q=>hz q) (X.get hb),hn,fun q=>by have:=k6 b q; omega⟩
 ·have hb1:=AH.get_lt hb
  exact ⟨M6.get (fun q=>by have:=zlt b q; omega) hb,by omega,fun q=>by have:=k6 b q; omega⟩
theorem Copied_ca:∀ (N:Nat) (s:Stm) (c:List Value) (H:AH),SizeOf.sizeOf s < N → H.n0 ≤ H.nx → StC H c s → nodesSt s ≤ 2 ^ 40 →
  Ca E O 49 [.agg c.toArray] H (fun x H'=>∃ cs,x = .agg cs.toArray ∧ StK (part H' H.nx noB) cs s ∧ Ext H H'):=by
 intro N
 induction N with
 | zero=>intro s c H h; omega
 | succ N ih =>
  intro s c H hN hw hs hnd
  cases hs with | @mk op n va vt ve ra rt re args thn els i1 i2 i3 i4 i5 h1 h2 h3 h4 h5 h6 =>
  refine Ca.bodyV (F:=a49) rfl rfl rfl ?_
  rw [nodesSt] at hnd
  have na:=nodesL_pos args
  have nt:=nodesS_pos thn
  have ne:=nodesS_pos els
  have la:=nodesL_len args
  have lt:=nodesS_len thn
  have le:=nodesS_len els
  obtain ⟨p1,q1,hvt⟩:=h3.len
  rw [h4.length] at hvt
  obtain ⟨p2,q2,hve⟩:=h5.len
  rw [h6.length] at hve
  have gB:=get_new H (.cells 5 [.int .i64 op,.int .i64 n,va,vt,ve])
  have X1:=Ext.alloc H (.cells 5 [.int .i64 op,.int .i64 n,va,vt,ve])
  have d0:(H.alloc (.cells 5 [.int .i64 op,.int .i64 n,va,vt,ve])).ld ⟨H.nx,0,none⟩ = some (.int .i64 op):=ld_new hw rfl
  have d1:(H.alloc (.cells 5 [.int .i64 op,.int .i64 n,va,vt,ve])).ld ⟨H.nx,1,none⟩ = some (.int .i64 n):=ld_new hw rfl
  have d2:(H.alloc (.cells 5 [.int .i64 op,.int .i64 n,va,vt,ve])).ld ⟨H.nx,2,none⟩ = some va:=ld_new hw rfl
  have d3:(H.alloc (.cells 5 [.int .i64 op,.int .i64 n,va,vt,ve])).ld ⟨H.nx,3,none⟩ = some vt:=ld_new hw rfl
  have d4:(H.alloc (.cells 5 [.int .i64 op,.int .i64 n,va,vt,ve])).ld ⟨H.nx,4,none⟩ = some ve:=ld_new hw rfl
  have d:(H.alloc (.cells 5 [.int .i64 op,.int .i64 n,va,vt,ve])).ldn ⟨H.nx,0,none⟩ 5 = some [.int .i64 op,.int .i64 n,va,vt,ve]:=ld_box hw 5 rfl
  generalize hH1:H.alloc (.cells 5 [.int .i64 op,.int .i64 n,va,vt,ve]) = H1 at X1 d0 d1 d2 d3 d4 d
  have hwH1:=X1.wf hw
  rw [hH1] at gB
  have X2:=Ext.alloc H1 (.cells 5 zS)
  have gR:=get_new H1 (.cells 5 zS)
  obtain ⟨H2,hH2⟩:∃ H2,H1.alloc (.cells 5 zS) = H2:=⟨_,rfl⟩
  rw [hH2] at X2 gR
  have hw2:=X2.wf hwH1
  have X02:=X1.trans X2
  have ltB:=AH.get_lt gB
  have ltR:=AH.get_lt gR
  have d22:=X2.ld d2
  have n1:=X1.nx
  have n2:=X2.nx
  simp at hN
  simp (maxSteps:=4000000) -implicitDefEqProofs +contextual [-X.ev,a49,hH1,hH2,d22]
  apply Vx_callM
  ·(simp -implicitDefEqProofs [-X.ev]; rfl)
  refine (copiedExprs_ca _ args va ra H2 (Nat.lt_succ_self _) hw2 (h1.ext X02) (h2.ext X02) (by omega) (by omega)).mono ?_
  rintro x H3 ⟨ra',oa,ea,X3,ka⟩
  obtain ⟨xa,xc,hx⟩:=oa.shape
  subst hx
  have hw3:=X3.wf hw2
  have n3:=X3.nx
  obtain ⟨H4,s4,M4,nx4,n04,gB4⟩:=st_get (X3.get (X2.get gB)) (by rw [X3.n0,X2.n0,X1.n0]; exact hw) (k:=2) (vs:=[.slice xa ra'.length xc]) (by simp)
  have hsp:splice [.int .i64 op,.int .i64 n,va,vt,ve] 2 [.slice xa ra'.length xc] = [.int .i64 op,.int .i64 n,.slice xa ra'.length xc,vt,ve]:=rfl
  rw [hsp] at gB4
  have hw4:=M4.wf hw3
  have X04:Ext H H4:=(X02.trans X3).mod M4 (fun b hb=>by omega)
  have gR4:=M4.get (fun q=>by omega) (X3.get gR)
  have B0:H4.n0 ≤ H.nx:=by rw [X04.n0]; exact hw
  have e3:=ld_get gB4 B0 (k:=3) (v:=vt) rfl
  have e3':=e3
  rw [hvt] at e3'
  simp (maxSteps:=4000000) -implicitDefEqProofs +contextual [-X.ev,s4,e3']
  refine Vk_loop (fun k fr H'=>Ext H4 H' ∧ ∃ (i:Nat) (z:Value) (rs:List (List Value)),i + k = thn.length ∧ fr.get 1 = .pointer (some ⟨H.nx,0,none⟩) ∧ fr.get 2 = .pointer (some ⟨H1.nx,0,none⟩) ∧ fr.get 3 = z ∧ fr.get 4 = .slice none 0 0 ∧ fr.get 14 = vt ∧ fr.get 15 = .int .i64 thn.length ∧ fr.get 16 = .int .i64 i ∧ Own H' 5 z rs ∧ rs.length = i ∧ StKL (part H' H4.nx (blk z)) rs (thn.take i) ∧ (∀ b,blk z b → H4.nx ≤ b)) ?_ thn.length ⟨Ext.refl _,0,.slice none 0 0,[],by simp,by simp,by simp,by simp,by simp,by simp [hvt],by simp,by simp,Own.nil _ _,rfl,by simpa using StKL.nil,fun b hb=>absurd hb (blk_nil _ _ _)⟩
  rintro k fr H5 ⟨X5,i,z,rs,hi,f1,f2,f3,f4,f14,f15,f16,ow,hrs,hall,hfr⟩
  have hw5:=X5.wf hw4
  have X05:=X04.trans X5
  by_cases h:i < thn.length
  ·obtain ⟨y,hy⟩:∃ y,thn[i]? = some y:=⟨_,List.getElem?_eq_getElem h⟩
   obtain ⟨yop,yn,yargs,ythn,yels⟩:=y
   obtain ⟨b,o,c',yva,yvt,yve,yra,yrt,yre,hv',hldn,_,_,_,_,_,j1,j2,j3,j4,j5,g1,g2,g3,g4,g5,g6⟩:=StL.row (h3.ext X05) (StL.ext X05 h4) hy
   have hyc:StC H5 [.int .i64 yop,.int .i64 yn,yva,yvt,yve] (.mk yop yn yargs ythn yels):=.mk j1 j2 j3 j4 j5 g1 g2 g3 g4 g5 g6
   have hmem:=List.sizeOf_lt_of_mem (List.mem_of_getElem? hy)
   have t1:=nodesS_take hy
   have t2:=nodesS_take_le thn (i + 1)
   have t3:=nodesS_take_le thn i
   have f14':=f14
   rw [hv'] at f14'
   obtain ⟨H6,sH6,X6,nxH6,n0H6,q,lH6⟩:=st_new (H:=H5) hw5 (z:=5) (c:=[.int .i64 0,.int .i64 0,.slice none 0 0,.slice none 0 0,.slice none 0 0]) (vs:=[.int .i64 yop,.int .i64 yn,yva,yvt,yve]) rfl
   have q0:H6.ld ⟨H5.nx,0,none⟩ = some (.int .i64 yop):=lH6 0 _ rfl
   have q1:H6.ld ⟨H5.nx,1,none⟩ = some (.int .i64 yn):=lH6 1 _ rfl
   have q2:H6.ld ⟨H5.nx,2,none⟩ = some yva:=lH6 2 _ rfl
   have q3:H6.ld ⟨H5.nx,3,none⟩ = some yvt:=lH6 3 _ rfl
   have q4:H6.ld ⟨H5.nx,4,none⟩ = some yve:=lH6 4 _ rfl
   clear lH6
   replace q:H6.ldn ⟨H5.nx,0,none⟩ 5 = some [.int .i64 yop,.int .i64 yn,yva,yvt,yve]:=q
   have hwH6:=X6.wf hw5
   simp (maxSteps:=4000000) -implicitDefEqProofs +contextual [-X.ev,f14',f3,f15,f16,h,hldn,sH6,q]
   apply Vx_callM
   ·(simp -implicitDefEqProofs [-X.ev]; rfl)
   refine (ih _ _ H6 (by omega) hwH6 (StC.ext X6 hyc) (by omega)).mono ?_
   rintro x H7 ⟨cs,rfl,hk,X7⟩
   obtain ⟨z',H8,H9,b8,a9,o9,s9,M9,k9⟩:=push_stm hw5 (X6.trans X7) X6.nx X5.nx ow hall hk (by omega)
   have n6:=X6.nx
   have n7:=X7.nx
   have n5:=X5.nx
   simp (maxSteps:=4000000) -implicitDefEqProofs +contextual [-X.ev,f14',f3,f15,f16,b8,a9]
   rw [wrap_in (n:=(i:Int) + 1) ⟨by omega,by omega⟩]
   exact ⟨k - 1,by omega,((X5.trans X6).trans X7).mod M9 hfr,i + 1,by omega,f1,f2,f4,hv'.symm,by omega,_,o9,by simp [hrs],by rw [take_snoc hy]; exact s9,fun q hq=>by have:=k9 q hq; omega⟩
  rw [List.take_of_length_le (by omega)] at hall
  have gB5:=X5.get gB4
  have B5:H5.n0 ≤ H.nx:=by rw [X5.n0]; exact B0
  have e4:=ld_get gB5 B5 (k:=4) (v:=ve) rfl
  rw [hve] at e4
  obtain ⟨za,zc,hz⟩:=ow.shape
  have n5:=X5.nx
  have f14':=f14
  rw [hvt] at f14'
  simp (maxSteps:=4000000) -implicitDefEqProofs +contextual [-X.ev,f1,f2,f3,f4,f14',f15,f16,h,e4]
  refine Vk_loop (fun k fr H'=>Ext H5 H' ∧ ∃ (j:Nat) (z2:Value) (rs2:List (List Value)),j + k = els.length ∧ fr.get 1 = .pointer (some ⟨H.nx,0,none⟩) ∧ fr.get 2 = .pointer (some ⟨H1.nx,0,none⟩) ∧ fr.get 3 = z ∧ fr.get 4 = z2 ∧ fr.get 27 = ve ∧ fr.get 28 = .int .i64 els.length ∧ fr.get 29 = .int .i64 j ∧ Own H' 5 z2 rs2 ∧ rs2.length = j ∧ StKL (part H' H5.nx (blk z2)) rs2 (els.take j) ∧ (∀ b,blk z2 b → H5.nx ≤ b)) ?_ els.length ⟨Ext.refl _,0,.slice none 0 0,[],by simp,by simp [f1],by simp [f2],by simp [f3],by simp [f4],by simp [hve],by simp,by simp,Own.nil _ _,rfl,by simpa using StKL.nil,fun b hb=>absurd hb (blk_nil _ _ _)⟩
  clear f1 f2 f3 f4 f14 f14' f15 f16 fr
  rintro k fr H6 ⟨X6,j,z2,rs2,hj,f1,f2,f3,f4,f27,f28,f29,ow2,hrs2,hall2,hfr2⟩
  have hw6:=X6.wf hw5
  have X06:=X05.trans X6
  by_cases h':j < els.length
  ·obtain ⟨y,hy⟩:∃ y,els[j]? = some y:=⟨_,List.getElem?_eq_getElem h'⟩
   obtain ⟨yop,yn,yargs,ythn,yels⟩:=y
   obtain ⟨b,o,c',yva,yvt,yve,yra,yrt,yre,hv',hldn,_,_,_,_,_,j1,j2,j3,j4,j5,g1,g2,g3,g4,g5,g6⟩:=StL.row (h5.ext X06) (StL.ext X06 h6) hy
   have hyc:StC H6 [.int .i64 yop,.int .i64 yn,yva,yvt,yve] (.mk yop yn yargs ythn yels):=.mk j1 j2 j3 j4 j5 g1 g2 g3 g4 g5 g6
   have hmem:=List.sizeOf_lt_of_mem (List.mem_of_getElem? hy)
   have t1:=nodesS_take hy
   have t2:=nodesS_take_le els (j + 1)
   have t3:=nodesS_take_le els j
   have f27':=f27
   rw [hv'] at f27'
   obtain ⟨H7,sH7,X7,nxH7,n0H7,q,lH7⟩:=st_new (H:=H6) hw6 (z:=5) (c:=[.int .i64 0,.int .i64 0,.slice none 0 0,.slice none 0 0,.slice none 0 0]) (vs:=[.int .i64 yop,.int .i64 yn,yva,yvt,yve]) rfl
   have q0:H7.ld ⟨H6.nx,0,none⟩ = some (.int .i64 yop):=lH7 0 _ rfl
   have q1:H7.ld ⟨H6.nx,1,none⟩ = some (.int .i64 yn):=lH7 1 _ rfl
   have q2:H7.ld ⟨H6.nx,2,none⟩ = some yva:=lH7 2 _ rfl
   have q3:H7.ld ⟨H6.nx,3,none⟩ = some yvt:=lH7 3 _ rfl
   have q4:H7.ld ⟨H6.nx,4,none⟩ = some yve:=lH7 4 _ rfl
   clear lH7
   replace q:H7.ldn ⟨H6.nx,0,none⟩ 5 = some [.int .i64 yop,.int .i64 yn,yva,yvt,yve]:=q
   have hwH7:=X7.wf hw6
   simp (maxSteps:=4000000) -implicitDefEqProofs +contextual [-X.ev,f27',f4,f28,f29,h',hldn,sH7,q]
   apply Vx_callM
   ·(simp -implicitDefEqProofs [-X.ev]; rfl)
   refine (ih _ _ H7 (by omega) hwH7 (StC.ext X7 hyc) (by omega)).mono ?_
   rintro x H8 ⟨cs,rfl,hk,X8⟩
   obtain ⟨z',Ha,Hb,b8,a9,o9,s9,M9,k9⟩:=push_stm hw6 (X7.trans X8) X7.nx X6.nx ow2 hall2 hk (by omega)
   have n6:=X6.nx
   have n7:=X7.nx
   have n8:=X8.nx
   simp (maxSteps:=4000000) -implicitDefEqProofs +contextual [-X.ev,f27',f4,f28,f29,b8,a9]
   rw [wrap_in (n:=(j:Int) + 1) ⟨by omega,by omega⟩]
   exact ⟨k - 1,by omega,((X6.trans X7).trans X8).mod M9 hfr2,j + 1,by omega,f1,f2,f3,hv'.symm,by omega,_,o9,by simp [hrs2],by rw [take_snoc hy]; exact s9,fun q hq=>by have:=k9 q hq; omega⟩
  rw [List.take_of_length_le (by omega)] at hall2
  obtain ⟨ya,yc,hz2⟩:=ow2.shape
  have n6:=X6.nx
  have gB6:=X6.get gB5
  have gR6:=X6.get (X5.get gR4)
  have B6:H6.n0 ≤ H.nx:=by rw [X6.n0]; exact B5
  subst hz hz2
  obtain ⟨H7,s7,M7,nx7,n07,gB7⟩:=st_get gB6 B6 (k:=3) (vs:=[.slice za rs.length zc]) (by simp)
  have hsp7:splice [.int .i64 op,.int .i64 n,.slice xa ra'.length xc,vt,ve] 3 [.slice za rs.length zc] = [.int .i64 op,.int .i64 n,.slice xa ra'.length xc,.slice za rs.length zc,ve]:=rfl
  rw [hsp7] at gB7
  obtain ⟨H8,s8,M8,nx8,n08,gB8⟩:=st_get gB7 (by rw [n07]; exact B6) (k:=4) (vs:=[.slice ya rs2.length yc]) (by simp)
  have hsp8:splice [.int .i64 op,.int .i64 n,.slice xa ra'.length xc,.slice za rs.length zc,ve] 4 [.slice ya rs2.length yc] = [.int .i64 op,.int .i64 n,.slice xa ra'.length xc,.slice za rs.length zc,.slice ya rs2.length yc]:=rfl
  rw [hsp8] at gB8
  have l8:H8.ldn ⟨H.nx,0,none⟩ 5 = some [.int .i64 op,.int .i64 n,.slice xa ra'.length xc,.slice za rs.length zc,.slice ya rs2.length yc]:=by rw [ldn_get gB8 (by rw [n08,n07]; exact B6) (by simp)]; rfl
  have gR8:=M8.get (fun q=>by omega) (M7.get (fun q=>by omega) gR6)
  obtain ⟨H9,s9,M9,nx9,n09,gR9⟩:=st_get gR8 (by rw [n08,n07]; omega) (k:=0) (vs:=[.int .i64 op,.int .i64 n,.slice xa ra'.length xc,.slice za rs.length zc,.slice ya rs2.length yc]) (by simp)
  have hsp9:splice zS 0 [.int .i64 op,.int .i64 n,.slice xa ra'.length xc,.slice za rs.length zc,.slice ya rs2.length yc] = [.int .i64 op,.int .i64 n,.slice xa ra'.length xc,.slice za rs.length zc,.slice ya rs2.length yc]:=rfl
  rw [hsp9] at gR9
  have l9:H9.ldn ⟨H1.nx,0,none⟩ 5 = some [.int .i64 op,.int .i64 n,.slice xa ra'.length xc,.slice za rs.length zc,.slice ya rs2.length yc]:=by rw [ldn_get gR9 (by rw [n09,n08,n07]; omega) (by simp)]; rfl
  have f27':=f27
  rw [hve] at f27'
  simp (maxSteps:=4000000) -implicitDefEqProofs +contextual [-X.ev,f1,f2,f3,f4,f27',f28,f29,h',s7,s8,l8,s9,l9]
  have key:∀ b x,H.nx ≤ b → b ≠ H.nx → b ≠ H1.nx → H6.get b = some x → H9.get b = some x ∧ H.nx ≤ b ∧ ¬ noB b:=fun b x hb h1 h2 hg=>⟨M9.get h2 (M8.get h1 (M7.get h1 hg)),hb,fun q=>q⟩
  have e09:H9.n0 = H6.n0:=n09.trans (n08.trans n07)
  have xa9:Sub (part H3 H2.nx noB) (part H9 H.nx noB):=part_sub (by rw [e09,X6.n0,X5.n0,n04]) (by omega) fun b x hb hn _=>key b x (by omega) (by omega) (by omega) (X6.get (X5.get (M4.get (fun q=>by omega) hb)))
  have x59:Sub (part H5 H4.nx noB) (part H9 H.nx noB):=part_sub (by rw [e09,X6.n0]) (by omega) fun b x hb hn _=>key b x (by omega) (by omega) (by omega) (X6.get hb)
  have x69:Sub (part H6 H5.nx noB) (part H9 H.nx noB):=part_sub e09 (by omega) fun b x hb hn _=>key b x (by omega) (by omega) (by omega) hb
  have un:∀ (G:AH) (k:Nat) (S:Nat → Prop),Sub (part G k S) (part G k noB):=fun G k S=>part_sub rfl (Nat.le_refl _) fun b x hb hn _=>⟨hb,hn,fun q=>q⟩
  refine ⟨.mk i1 i2 i3 i4 i5 (Own.part (n:=H2.nx) (S:=noB) oa (fun b hb=>⟨ka b hb,fun q=>q⟩) |>.sub xa9).rows (ea.sub ((un _ _ _).trans xa9)) (Own.part (n:=H4.nx) (S:=noB) ow (fun b hb=>⟨hfr b hb,fun q=>q⟩) |>.sub x59).rows (hall.sub ((un _ _ _).trans x59)) (Own.part (n:=H4.nx) (S:=noB) ow (fun b hb=>⟨hfr b hb,fun q=>q⟩) |>.sub x59).fit (Own.part (n:=H5.nx) (S:=noB) ow2 (fun b hb=>⟨hfr2 b hb,fun q=>q⟩) |>.sub x69).rows (hall2.sub ((un _ _ _).trans x69)) (Own.part (n:=H5.nx) (S:=noB) ow2 (fun b hb=>⟨hfr2 b hb,fun q=>q⟩) |>.sub x69).fit,?_⟩
  exact (((X06.mod M7 (fun b hb=>by omega)).mod M8 (fun b hb=>by omega)).mod M9 (fun b hb=>by omega))
end Go.Proofs.YtoijnpfpjpefgaaGreat.A
/- A text without what this claim does not need: S35. -/
set_option linter.unusedVariables false
set_option linter.unusedSimpArgs false
set_option maxRecDepth 10000
namespace Go.Proofs.YtoijnpfpjpefgaaGreat.A
open Go
structure Ownr (H:AH) (sz:Nat) (v:Value) (rows:List (List Value)):Prop where
 is:(v = .slice none 0 0 ∧ rows = []) ∨ ∃ b c junk,v = .slice (some ⟨b,0,none⟩) rows.length c ∧ H.n0 ≤ b ∧ H.get b = some (.cells sz (rows.flatten ++ junk)) ∧ rows.length * sz + junk.length = c * sz ∧ rows.length ≤ c
 len:∀ r ∈ rows,r.length = sz
theorem Own.ownr {H:AH} {sz:Nat} {v:Value} {rows:List (List Value)} (h:Own H sz v rows):Ownr H sz v rows:=by
 refine ⟨?_,h.len⟩
 rcases h.is with ⟨rfl,rfl⟩ | ⟨b,rfl,h0,hg⟩
 ·exact .inl ⟨rfl,rfl⟩
 ·exact .inr ⟨b,_,[],rfl,h0,by simpa using hg,by simp,Nat.le_refl _⟩
theorem Ownr.lt {H:AH} {sz b:Nat} {v:Value} {rows:List (List Value)} (h:Ownr H sz v rows) (hb:blk v b):b < H.nx:=by
 rcases h.is with ⟨rfl,_⟩ | ⟨b',c,j,rfl,_,hg,_⟩
 ·exact absurd hb (blk_nil _ _ _)
 ·rw [(blk_slice _ _ _ _ _).1 hb]; exact AH.get_lt hg
theorem Ownr.shape {H:AH} {sz:Nat} {v:Value} {rows:List (List Value)} (h:Ownr H sz v rows):∃ a c,v = .slice a rows.length c:=by
 rcases h.is with ⟨rfl,rfl⟩ | ⟨b,c,j,rfl,_⟩
 ·exact ⟨_,_,rfl⟩
 ·exact ⟨_,_,rfl⟩
theorem Ownr.mod {S:Nat → Prop} {H H':AH} {sz:Nat} {v:Value} {rows:List (List Value)} (h:Ownr H sz v rows) (M:Mod S H H') (hs:∀ b,blk v b → ¬ S b):Ownr H' sz v rows:=by
 refine ⟨?_,h.len⟩
 rcases h.is with ⟨rfl,rfl⟩ | ⟨b,c,j,rfl,h0,hg,h1,h2⟩
 ·exact .inl ⟨rfl,rfl⟩
 ·exact .inr ⟨b,c,j,rfl,by rw [M.n0]; exact h0,M.get (hs b ((blk_slice _ _ _ _ _).2 rfl)) hg,h1,h2⟩
theorem Ownr.ext {H H':AH} {sz:Nat} {v:Value} {rows:List (List Value)} (h:Ownr H sz v rows) (X:Ext H H'):Ownr H' sz v rows:=h.mod (Mod.of_ext (S:=fun _=>False) X) (by simp)
theorem Ownr.rows {H:AH} {sz:Nat} {v:Value} {rows:List (List Value)} (h:Ownr H sz v rows):Rows H sz v rows:=by
 rcases h.is with ⟨rfl,rfl⟩ | ⟨b,c,j,rfl,h0,hg,h1,h2⟩
 ·exact ⟨_,_,rfl,by simp⟩
 ·refine ⟨_,_,rfl,fun i r hi=>⟨b,0,rfl,?_⟩⟩
  obtain ⟨e1,e2⟩:=drop_flatten h.len hi
  rw [ldn_get hg h0 (by simp only [List.length_append]; omega)]
  rw [Nat.zero_add,List.drop_append_of_le_length (by omega),List.take_append_of_le_length (by rw [List.length_drop]; omega)]
  rw [e1]
theorem splice_at (a b c d:List Value) (h:b.length = c.length):splice (a ++ (b ++ d)) a.length c = a ++ (c ++ d):=by
 induction a with
 | nil =>
  have:splice (b ++ d) 0 c = c ++ (b ++ d).drop c.length:=by cases (b ++ d) <;> rfl
  rw [List.nil_append,List.length_nil,this,← h,List.drop_left]; rfl
 | cons x a ih=>simp only [List.cons_append,List.length_cons,splice,ih]
theorem Ownr.push {H H1:AH} {sz bytes:Nat} {s:Value} {rows:List (List Value)} {r:List Value} (hw:H.n0 ≤ H.nx) (hs:Ownr H sz s rows) (hz:0 < sz) (hr:r.length = sz) (h1:H.alloc (.cells sz r) = H1) (hb:(rows.length + 1) * bytes ≤ 2 ^ 47) (h62:rows.length + 1 < 2 ^ 62) :
  ∃ s' H',aappend sz bytes H1 s (.slice (some ⟨H.nx,0,none⟩) 1 1) = some (s',H') ∧ Ownr H' sz s' (rows ++ [r]) ∧ Mod (blk s) H H' ∧ (∀ b,blk s' b → blk s b ∨ H.nx ≤ b) ∧ H'.n0 = H.n0 ∧ H.nx ≤ H'.nx ∧ H1.nx ≤ H'.nx:=by
 rcases hs.is with ⟨rfl,rfl⟩ | ⟨b,c,junk,rfl,h0,hg,hlen,hc⟩
 ·obtain ⟨s',H',a,o,M,k,n0,nx,wf,q1,q2,q3⟩:=app1_own (bytes:=bytes) hw (Own.nil H sz) hr h1 hb h62
  exact ⟨s',H',a,o.ownr,M,fun b hb=>.inr (k b hb),n0,nx,q3⟩
 subst h1
 have X:=Ext.alloc H (.cells sz r)
 have hg1:=X.get hg
 have hl2:∀ q ∈ rows ++ [r],q.length = sz:=by
  intro q hq
  rcases List.mem_append.1 hq with h | h
  ·exact hs.len q h
  ·simp at h; subst h; exact hr
 have hsrc:srcA (H.alloc (.cells sz r)) sz (.slice (some ⟨H.nx,0,none⟩) 1 1) = some r:=by
  have:=ldn_new hw sz r
  rw [hr] at this
  simp [srcA,nb,this,hr]
 have hzok:(H.alloc (.cells sz r)).zok b sz = true:=zok_get hg1 (Nat.le_refl _)
 have hfl:=flatten_length hs.len
 by_cases room:rows.length + 1 ≤ c
 ·have hj:sz ≤ junk.length:=by
   have:(rows.length + 1) * sz ≤ c * sz:=Nat.mul_le_mul_right _ room
   rw [Nat.succ_mul] at this
   omega
  obtain ⟨H',st,M,nx,n0,g⟩:=st_get hg1 (by exact h0) (k:=rows.length * sz) (vs:=r) (by simp only [List.length_append]; omega)
  refine ⟨.slice (some ⟨b,0,none⟩) (rows.length + 1) c,H',?_,⟨.inr ⟨b,c,junk.drop sz,by simp,by rw [n0]; exact h0,?_,?_,by simpa using room⟩,hl2⟩,(Mod.of_ext X).trans (M.mono fun x _ hx=>(blk_slice _ _ _ _ _).2 hx),fun q hq=>.inl ?_,n0.trans X.n0,by rw [nx]; exact X.nx,by rw [nx]; exact Nat.le_refl _⟩
  ·simp [aappend,lenA,hsrc,hb,h62,room,hzok,st]
  ·rw [g]
   have e:=splice_at rows.flatten (junk.take sz) r (junk.drop sz) (by rw [List.length_take,hr]; omega)
   rw [List.take_append_drop,hfl] at e
   rw [e]; simp
  ·simp only [List.length_append,List.length_drop,List.length_singleton,Nat.succ_mul]; omega
  ·rw [blk_slice] at hq ⊢; exact hq
 ·have hce:c = rows.length:=by omega
  subst hce
  have hj:junk = []:=List.eq_nil_of_length_eq_zero (by omega)
  subst hj
  rw [List.append_nil] at hg hg1
  have ow:Own H sz (.slice (some ⟨b,0,none⟩) rows.length rows.length) rows:=⟨.inr ⟨b,rfl,h0,hg⟩,hs.len⟩
  obtain ⟨s',H',a,o,M,k,n0,nx,wf,q1,q2,q3⟩:=app1_own (bytes:=bytes) hw ow hr rfl hb h62
  exact ⟨s',H',a,o.ownr,M,fun b hb=>.inr (k b hb),n0,nx,q3⟩
theorem Ownr.last {H:AH} {sz:Nat} {v:Value} {rows:List (List Value)} {r:List Value} (h:Ownr H sz v (rows ++ [r])):∃ b c,v = .slice (some ⟨b,0,none⟩) (rows.length + 1) c ∧ rows.length + 1 ≤ c ∧ H.n0 ≤ b ∧ b < H.nx ∧ H.zok b sz = true ∧ H.ldn ⟨b,rows.length * sz,none⟩ sz = some r ∧
  (∀ (j:Nat) (x:Value),j < sz → ∃ H',H.st ⟨b,rows.length * sz + j,none⟩ [x] = some H' ∧ Ownr H' sz v (rows ++ [r.set j x]) ∧ Mod (fun q=>q = b) H H' ∧ H'.nx = H.nx ∧ H'.n0 = H.n0) ∧ Ownr H sz (.slice (some ⟨b,0,none⟩) rows.length c) rows:=by
 rcases h.is with ⟨_,e⟩ | ⟨b,c,junk,rfl,h0,hg,hlen,hc⟩
 ·simp at e
 have hl1:∀ q ∈ rows,q.length = sz:=fun q hq=>h.len q (by simp [hq])
 have hr:=h.len r (by simp)
 have hfl:=flatten_length hl1
 simp only [List.length_append,List.length_singleton] at hlen hc
 refine ⟨b,c,by simp,hc,h0,AH.get_lt hg,zok_get hg (Nat.le_refl _),?_,fun j x hj=>?_,⟨.inr ⟨b,c,r ++ junk,rfl,h0,by simpa using hg,by rw [Nat.succ_mul] at hlen; simp only [List.length_append]; omega,by omega⟩,hl1⟩⟩
 ·obtain ⟨b',o,c',e,hl⟩:=h.rows.at (i:=rows.length) (r:=r) (by simp)
  cases e
  simpa using hl
 ·obtain ⟨H',st,M,nx,n0,g⟩:=st_get hg h0 (k:=rows.length * sz + j) (vs:=[x]) (by rw [List.length_append,flatten_length h.len]; simp only [List.length_append,List.length_singleton,Nat.succ_mul]; omega)
  refine ⟨H',st,⟨.inr ⟨b,c,junk,by simp,by rw [n0]; exact h0,?_,by simpa using hlen,by simpa using hc⟩,?_⟩,M,nx,n0⟩
  ·rw [g]
   have e:r = r.take j ++ ([r[j]'(by omega)] ++ r.drop (j + 1)):=by
    rw [← List.append_assoc]; simp
   have e2:r.set j x = r.take j ++ ([x] ++ r.drop (j + 1)):=by rw [List.set_eq_take_append_cons_drop,if_pos (by omega)]; rfl
   have:=splice_at (rows.flatten ++ r.take j) [r[j]'(by omega)] [x] (r.drop (j + 1) ++ junk) rfl
   rw [List.length_append,List.length_take,hfl,Nat.min_eq_left (by omega)] at this
   have e3:(rows ++ [r]).flatten ++ junk = rows.flatten ++ r.take j ++ ([r[j]'(by omega)] ++ (r.drop (j + 1) ++ junk)):=by
    simp only [List.flatten_append,List.flatten_cons,List.flatten_nil,List.append_nil,List.append_assoc]
    congr 1
    conv=>lhs; rw [e]
    simp only [List.append_assoc]
   rw [e3,this]
   simp only [List.flatten_append,List.flatten_cons,List.flatten_nil,List.append_nil,List.append_assoc,e2]
  ·intro q hq
   rcases List.mem_append.1 hq with hq | hq
   ·exact hl1 q hq
   ·simp at hq; subst hq; simpa using hr
theorem size_ca:∀ (N:Nat) (s:Stm) (c:List Value) (H:AH),SizeOf.sizeOf s < N → H.n0 ≤ H.nx → StC H c s → nodesSt s < 2 ^ 60 →
  Ca E O 112 [.agg c.toArray] H (fun x H'=>x = .int .i64 (countSt s) ∧ Ext H H'):=by
 intro N
 induction N with
 | zero=>intro s c H h; omega
 | succ N ih =>
  intro s c H hN hw hs hnd
  cases hs with | @mk op n va vt ve ra rt re args thn els i1 i2 i3 i4 i5 h1 h2 h3 h4 h5 h6 =>
  refine Ca.bodyV (F:=a112) rfl rfl rfl ?_
  rw [nodesSt] at hnd
  have na:=nodesL_pos args
  have nt:=nodesS_pos thn
  have ne:=nodesS_pos els
  obtain ⟨p1,q1,hvt⟩:=h3.len
  rw [h4.length] at hvt
  obtain ⟨p2,q2,hve⟩:=h5.len
  rw [h6.length] at hve
  have X1:=Ext.alloc H (.cells 5 [.int .i64 op,.int .i64 n,va,vt,ve])
  have d0:(H.alloc (.cells 5 [.int .i64 op,.int .i64 n,va,vt,ve])).ld ⟨H.nx,0,none⟩ = some (.int .i64 op):=ld_new hw rfl
  have d1:(H.alloc (.cells 5 [.int .i64 op,.int .i64 n,va,vt,ve])).ld ⟨H.nx,1,none⟩ = some (.int .i64 n):=ld_new hw rfl
  have d2:(H.alloc (.cells 5 [.int .i64 op,.int .i64 n,va,vt,ve])).ld ⟨H.nx,2,none⟩ = some va:=ld_new hw rfl
  have d3:(H.alloc (.cells 5 [.int .i64 op,.int .i64 n,va,vt,ve])).ld ⟨H.nx,3,none⟩ = some vt:=ld_new hw rfl
  have d4:(H.alloc (.cells 5 [.int .i64 op,.int .i64 n,va,vt,ve])).ld ⟨H.nx,4,none⟩ = some ve:=ld_new hw rfl
  have d:(H.alloc (.cells 5 [.int .i64 op,.int .i64 n,va,vt,ve])).ldn ⟨H.nx,0,none⟩ 5 = some [.int .i64 op,.int .i64 n,va,vt,ve]:=ld_box hw 5 rfl
  generalize hH1:H.alloc (.cells 5 [.int .i64 op,.int .i64 n,va,vt,ve]) = H1 at X1 d0 d1 d2 d3 d4 d
  have hwH1:=X1.wf hw
  have d3':=d3
  rw [hvt] at d3'
  simp at hN
  simp (maxSteps:=4000000) -implicitDefEqProofs +contextual [-X.ev,a112,hH1,d3']
  refine Vk_loop (fun k fr H'=>Ext H1 H' ∧ ∃ i:Nat,i + k = thn.length ∧ fr.get 1 = .pointer (some ⟨H.nx,0,none⟩) ∧ fr.get 9 = vt ∧ fr.get 10 = .int .i64 thn.length ∧ fr.get 11 = .int .i64 i ∧ fr.get 3 = .int .i64 (1 + countS (thn.take i))) ?_ thn.length ⟨Ext.refl _,0,by simp,by simp,by simp [hvt],by simp,by simp,by simp [countS]⟩
  rintro k fr H2 ⟨X2,i,hi,f1,f9,f10,f11,f3⟩
  have hw2:=X2.wf hwH1
  have X02:=X1.trans X2
  have bt:=countS_bound thn
  have be:=countS_bound els
  by_cases h:i < thn.length
  ·obtain ⟨y,hy⟩:∃ y,thn[i]? = some y:=⟨_,List.getElem?_eq_getElem h⟩
   have hmem:=List.sizeOf_lt_of_mem (List.mem_of_getElem? hy)
   have t1:=nodesS_take hy
   have t2:=nodesS_take_le thn (i + 1)
   have t3:=nodesS_take_le thn i
   have u1:=countS_take hy
   have u2:=countS_take_le thn i
   have u3:=countS_take_le thn (i + 1)
   obtain ⟨yop,yn,yargs,ythn,yels⟩:=y
   obtain ⟨b,o,c',yva,yvt,yve,yra,yrt,yre,hv',hldn,_,_,_,_,_,j1,j2,j3,j4,j5,g1,g2,g3,g4,g5,g6⟩:=StL.row (h3.ext X02) (StL.ext X02 h4) hy
   have hyc:StC H2 [.int .i64 yop,.int .i64 yn,yva,yvt,yve] (.mk yop yn yargs ythn yels):=.mk j1 j2 j3 j4 j5 g1 g2 g3 g4 g5 g6
   have f9':=f9
   rw [hv'] at f9'
   obtain ⟨H3,sH3,X3,nxH3,n0H3,q,lH3⟩:=st_new (H:=H2) hw2 (z:=5) (c:=[.int .i64 0,.int .i64 0,.slice none 0 0,.slice none 0 0,.slice none 0 0]) (vs:=[.int .i64 yop,.int .i64 yn,yva,yvt,yve]) rfl
   have q0:H3.ld ⟨H2.nx,0,none⟩ = some (.int .i64 yop):=lH3 0 _ rfl
   have q1:H3.ld ⟨H2.nx,1,none⟩ = some (.int .i64 yn):=lH3 1 _ rfl
   have q2:H3.ld ⟨H2.nx,2,none⟩ = some yva:=lH3 2 _ rfl
   have q3:H3.ld ⟨H2.nx,3,none⟩ = some yvt:=lH3 3 _ rfl
   have q4:H3.ld ⟨H2.nx,4,none⟩ = some yve:=lH3 4 _ rfl
   clear lH3
   replace q:H3.ldn ⟨H2.nx,0,none⟩ 5 = some [.int .i64 yop,.int .i64 yn,yva,yvt,yve]:=q
   have hwH3:=X3.wf hw2
   have w1:IntKind.i64.wrap (1 + countS (thn.take i) + countSt (.mk yop yn yargs ythn yels)) = 1 + countS (thn.take (i + 1)):=by rw [wrap_in ⟨by omega,by omega⟩]; omega
   simp (maxSteps:=4000000) -implicitDefEqProofs +contextual [-X.ev,f9',f3,f10,f11,h,hldn,sH3,q]
   apply Vx_callM
   ·(simp -implicitDefEqProofs [-X.ev]; rfl)
   refine (ih _ _ H3 (by omega) hwH3 (StC.ext X3 hyc) (by omega)).mono ?_
   rintro x H4 ⟨rfl,X4⟩
   simp (maxSteps:=4000000) -implicitDefEqProofs +contextual [-X.ev,f9',f3,f10,f11,w1]
   rw [wrap_in (n:=(i:Int) + 1) ⟨by omega,by omega⟩]
   exact ⟨k - 1,by omega,(X2.trans X3).trans X4,i + 1,by omega,f1,hv'.symm,by simp,rfl⟩
  rw [List.take_of_length_le (by omega)] at f3
  have e4:=X2.ld d4
  rw [hve] at e4
  rw [hvt] at f9
  simp (maxSteps:=4000000) -implicitDefEqProofs +contextual [-X.ev,f1,f9,f3,f10,f11,h,e4]
  refine Vk_loop (fun k fr H'=>Ext H2 H' ∧ ∃ j:Nat,j + k = els.length ∧ fr.get 21 = ve ∧ fr.get 22 = .int .i64 els.length ∧ fr.get 23 = .int .i64 j ∧ fr.get 3 = .int .i64 (1 + countS thn + countS (els.take j))) ?_ els.length ⟨Ext.refl _,0,by simp,by simp [hve],by simp,by simp,by simp [countS,f3]⟩
  clear f1 f9 f10 f11 f3 fr
  rintro k fr H3 ⟨X3,j,hj,f21,f22,f23,f3⟩
  have hw3:=X3.wf hw2
  have X03:=X02.trans X3
  by_cases h':j < els.length
  ·obtain ⟨y,hy⟩:∃ y,els[j]? = some y:=⟨_,List.getElem?_eq_getElem h'⟩
   have hmem:=List.sizeOf_lt_of_mem (List.mem_of_getElem? hy)
   have t1:=nodesS_take hy
   have t2:=nodesS_take_le els (j + 1)
   have t3:=nodesS_take_le els j
   have u1:=countS_take hy
   have u2:=countS_take_le els j
   have u3:=countS_take_le els (j + 1)
   obtain ⟨yop,yn,yargs,ythn,yels⟩:=y
   obtain ⟨b,o,c',yva,yvt,yve,yra,yrt,yre,hv',hldn,_,_,_,_,_,j1,j2,j3,j4,j5,g1,g2,g3,g4,g5,g6⟩:=StL.row (h5.ext X03) (StL.ext X03 h6) hy
   have hyc:StC H3 [.int .i64 yop,.int .i64 yn,yva,yvt,yve] (.mk yop yn yargs ythn yels):=.mk j1 j2 j3 j4 j5 g1 g2 g3 g4 g5 g6
   have f21':=f21
   rw [hv'] at f21'
   obtain ⟨H4,sH4,X4,nxH4,n0H4,q,lH4⟩:=st_new (H:=H3) hw3 (z:=5) (c:=[.int .i64 0,.int .i64 0,.slice none 0 0,.slice none 0 0,.slice none 0 0]) (vs:=[.int .i64 yop,.int .i64 yn,yva,yvt,yve]) rfl
   have q0:H4.ld ⟨H3.nx,0,none⟩ = some (.int .i64 yop):=lH4 0 _ rfl
   have q1:H4.ld ⟨H3.nx,1,none⟩ = some (.int .i64 yn):=lH4 1 _ rfl
   have q2:H4.ld ⟨H3.nx,2,none⟩ = some yva:=lH4 2 _ rfl
   have q3:H4.ld ⟨H3.nx,3,none⟩ = some yvt:=lH4 3 _ rfl
   have q4:H4.ld ⟨H3.nx,4,none⟩ = some yve:=lH4 4 _ rfl
   clear lH4
   replace q:H4.ldn ⟨H3.nx,0,none⟩ 5 = some [.int .i64 yop,.int .i64 yn,yva,yvt,yve]:=q
   have hwH4:=X4.wf hw3
   have w1:IntKind.i64.wrap (1 + countS thn + countS (els.take j) + countSt (.mk yop yn yargs ythn yels)) = 1 + countS thn + countS (els.take (j + 1)):=by rw [wrap_in ⟨by omega,by omega⟩]; omega
   simp (maxSteps:=4000000) -implicitDefEqProofs +contextual [-X.ev,f21',f3,f22,f23,h',hldn,sH4,q]
   apply Vx_callM
   ·(simp -implicitDefEqProofs [-X.ev]; rfl)
   refine (ih _ _ H4 (by omega) hwH4 (StC.ext X4 hyc) (by omega)).mono ?_
   rintro x H5 ⟨rfl,X5⟩
   simp (maxSteps:=4000000) -implicitDefEqProofs +contextual [-X.ev,f21',f3,f22,f23,w1]
   rw [wrap_in (n:=(j:Int) + 1) ⟨by omega,by omega⟩]
   exact ⟨k - 1,by omega,(X3.trans X4).trans X5,j + 1,by omega,hv'.symm,by simp,rfl⟩
  rw [List.take_of_length_le (by omega)] at f3
  rw [hve] at f21
  simp (maxSteps:=4000000) -implicitDefEqProofs +contextual [-X.ev,f21,f3,f22,f23,h',countSt]
  exact X03
end Go.Proofs.YtoijnpfpjpefgaaGreat.A
