/- Texts that stand one behind the other: AbsR, S24, S25, S26, S27, S28, S29, S30, S31, S32, S33, S34, S35, S36, S37, S38, S39. -/
import Derived.Test.YtppcmpmnglaleaaGreatDoorG16
import Derived.SizedLaws
import Derived.OpenShut
import Derived.ProofKit
import Derived.ChangeOld
import Derived.ShutString
set_option linter.unusedVariables false
set_option linter.unusedSimpArgs false
namespace Go.Proofs.YtppcmpmnglaleaaGreatDoor.A
section
open Go Go.RowKit Go.WideShapes Go.ChangeShapes
section
variable{T:Type} {enc:TypeId×Value→T} {P:Program} {W:World}
theorem N1 {α:Type} {l:List α} (h:l.length=2):∃a b,l=[a,b]:=by
 match l,h with
 |[a,b],_=>exact ⟨a,b,rfl⟩
theorem GM {α:Type} {l:List α} (h:l.length=3):∃a b c,l=[a,b,c]:=by
 match l,h with
 |[a,b,c],_=>exact ⟨a,b,c,rfl⟩
def Rd (enc:TypeId×Value→T) (P:Program) (W:World) (n:Nat) (t:TypeId) (cs:List Value) (d:DataW T):Prop:=∃ps,DataW.trod enc P W 0 (fun _=>true) true n t cs=some (d,ps)
def vi (P:Program) (t:TypeId) (d:DataW T):Prop:=∀n∈d.weights P t,n≤reachBytes
theorem gu {n:Nat} {t:TypeId} {k:IntKind} {cs:List Value} {d:DataW T} (a:P.underlying t=some (.int k)) (h:Rd enc P W n t cs d):∃m,cs=[.int k m]∧(Lit.int k m).wf=true:=by
 obtain ⟨ps,h⟩:=h;obtain ⟨m,b,_,h2⟩:=DataW.trod_int a h;exact ⟨m,b,h2⟩
theorem wf_i64 {m:Int} (h:(Lit.int .i64 m).wf=true):jG m:=by
 have:=bounds_i64 h;unfold jG;omega
theorem Qy {n:Nat} {t:TypeId} {cs:List Value} {d:DataW T} (b:P.underlying t=some .string) (h:Rd enc P W n t cs d) (a:vi P t d):∃s:ByteArray,cs=[.string s]∧s.size≤reachBytes:=by
 obtain ⟨ps,h⟩:=h;obtain ⟨s,c,h2,_⟩:=DataW.trod_string b h;cases h2;have:=a s.data.toList.length (by simp [DataW.weights]);exact ⟨s,c,by simpa using this⟩
theorem Bz {b o:Nat} {v:Value} (h:W.cell? ⟨b,o,none⟩=some v):∃arr ty d,W.heap[b]?=some (.cells arr ty d)∧arr[o]?=some v:=by
 unfold World.cell? at h;dsimp only at h;split at h
 ·rename_i c e f a
  simp at h;exact ⟨c,e,f,a,h⟩
 ·cases h
theorem Lh {b o n:Nat} {cs l:List Value} (m:0<n) (s:cs.length=n) (h:∀j,j<n→W.cell? ⟨b,o+j,none⟩=cs[j]?) (q:aK W.heap.size cs=some l):b<W.heap.size∧(H0 W).ldn ⟨b,o,none⟩ n=some l:=by
 obtain ⟨arr,ty,u,f,t⟩:=Bz (b:=b) (o:=o) (v:=cs[0]'(by omega)) (by have:=h 0 m;rw [Nat.add_zero]at this;rw [this];exact aqU (by omega));have d:=(aq8.1 f).1;refine ⟨d,?_⟩
 have c:∀j,j<n→arr[o+j]?=cs[j]?:=by
  intro j c;have:=h j c;obtain ⟨i,_,_,g,r⟩:=Bz (v:=cs[j]'(by omega)) (by rw [this];exact aqU (by omega));rw [f]at g;cases g;rw [r,aqU (by omega)]
 have a:o+n≤arr.toList.length:=by
  have:=c (n- 1) (by omega);rw [aqU (by omega)]at this;have:=(aq8.1 this).1;rw [Array.length_toList];omega
 have k:(arr.toList.drop o).take n=cs:=by
  apply List.ext_getElem?;intro j;by_cases e:j<n
  ·rw [arw,if_pos e,arB,Array.getElem?_toList,c j e]
  ·rw [arw,if_neg e,arC (by omega)]
 have p:(H0 W).get b=some (.cells 1048576 arr.toList):=by
  rw [AH.eA d,zz];unfold tR;rw [f]
 unfold AH.ldn;dsimp only;rw [p];simp only [a,decide_true,cond_true,k];rw [show decide (b<(H0 W).n0)=true from decide_eq_true d,cond_true];exact q
inductive fj {α β:Type} (C:α→β→Prop):List α→List β→Prop where
 |nil:fj C [] []
 |cons {a:α} {b:β} {l:List α} {m:List β}:C a b→fj C l m→fj C (a::l) (b::m)
theorem fj.length {α β:Type} {C:α→β→Prop}:∀{l:List α} {m:List β},fj C l m→l.length=m.length
 |_,_,.nil=>rfl
 |_,_,.cons _ h=>by simp [fj.length h]
theorem Li {α β:Type} {C:α→β→Prop} {l:List α}:(∀(i:Nat) (a:α),l[i]?=some a→∃b,C a b)→∃m,fj C l m:=by
 induction l with
 |nil=>exact fun _=>⟨[],.nil⟩
 |cons a l ih=>
  intro h;obtain ⟨b,e⟩:=h 0 a rfl;obtain ⟨m,d⟩:=ih fun i x c=>h (i+1) x (by simpa using c)
  exact ⟨b::m,.cons e d⟩
theorem BA {α:Type} {p:Nat→α→Prop}:∀n,(∀i,i<n→∃x,p i x)→∃l:List α,l.length=n∧∀i x,l[i]?=some x→p i x
 |0,_=>⟨[],rfl,by simp⟩
 |n+1,h=>by
  obtain ⟨l,b,d⟩:=BA n fun i hi=>h i (by omega)
  obtain ⟨x,c⟩:=h n (by omega);refine ⟨l++[x],by simp [b],fun i y a=>?_⟩;by_cases hi:i<n
  ·rw [aq7 (by omega)]at a;exact d i y a
  ·rw [arb (by omega)]at a
   have:i=n:=by
    have:=(aq0.1 a).1;simp at this;omega
   subst this;simp [b]at a;subst a;exact c
theorem Lj {α:Type} {C:List Value→α→Prop} {t e:TypeId} {fuel:Nat} {cs:List Value} {d:DataW T} (F:P.underlying t=some (.slice e)) (K:0<P.cellsOf e) (V:0<P.bytesOf e)
 (h:Rd enc P W fuel t cs d) (O:vi P t d) (rd:∀m dk g,m<fuel→Rd enc P W m e dk g→vi P e g→∃l y,aK W.heap.size dk=some l∧C l y):
 ∃v rows ys,aK W.heap.size cs=some [v]∧Rows (H0 W) (P.cellsOf e) v rows∧fj C rows ys∧rows.length*P.bytesOf e≤reachBytes:=by
 obtain ⟨ps,h⟩:=h;rcases DataW.trod_slice F h with⟨rfl,_⟩|⟨a,len,cap,elems,rest,n,hf,rfl,q,_,Yy,_,s,A,_,_⟩
 ·exact ⟨_,[],[],rfl,⟨_,_,rfl,by simp⟩,.nil,by simp⟩
 cases q
 have E:∀m∈((elems.map (·.1)).length+(rest.map (·.1)).length)*P.bytesOf e::(DataW.weightsAll P e (elems.map (·.1))++DataW.weightsAll P e (rest.map (·.1))),m≤reachBytes:=by
  intro m f;refine O m ?_;simp only [DataW.weights,F];exact f
 have U:len*P.bytesOf e≤reachBytes:=by
  have:=E _ (List.mem_cons_self ..);rw [List.length_map,s]at this;exact arh (Nat.mul_le_mul_right _ (by omega)) this
 have Y:∀(l:List (DataW T)) (x:DataW T),x∈l→∀m∈x.weights P e,m∈DataW.weightsAll P e l:=by
  intro l
  induction l with
  |nil=>intro x q;cases q
  |cons y l ih=>
   intro x q m f;simp only [DataW.weightsAll,are];rcases arc.1 q with rfl|q
   ·exact .inl f
   ·exact .inr (ih x q m f)
 by_cases Z:len=0
 ·subst Z
  cases G:(decide (a.block<W.heap.size)&&a.spot.isNone)with
  |true=>exact ⟨.slice (some a) 0 cap,[],[],by simp only [aK,aU,G,cond_true],⟨_,_,rfl,by simp⟩,.nil,by simp⟩
  |false=>exact ⟨.slice (some ⟨0,0,some 1⟩) 0 0,[],[],by simp [aK,aU,G],⟨_,_,rfl,by simp⟩,.nil,by simp⟩
 obtain ⟨b,o,spot⟩:=a
 have key:∀i,i<len→∃dk g,(∃m,m<fuel∧Rd enc P W m e dk g)∧vi P e g∧W.cells? 0 ((⟨b,o,spot⟩:Addr).add (i*P.cellsOf e)) (P.cellsOf e)=some dk:=by
  intro i hi;have:=A i hi;rw [aqU (by omega)]at this;obtain ⟨dk,D,h2⟩:=aq5.1 this;refine ⟨dk,(elems[i]'(by omega)).1,⟨n,by omega,⟨_,h2⟩⟩,fun m f=>?_,D⟩;refine E m (List.mem_cons_of_mem _ (List.mem_append_left _ (Y _ _ ?_ m f)));exact List.mem_map_of_mem (List.getElem_mem _)
 have Q:spot=none∧b<W.heap.size:=by
  obtain ⟨dk,g,_,_,B⟩:=key 0 (by omega);obtain ⟨_,J,z⟩:=World.cells?_some B;have:=z 0 K;rw [aqU (by omega)]at this;simp only [Nat.zero_mul,Addr.add,if_true]at this;unfold World.cell? at this;dsimp only at this;split at this
  ·rename_i c ty fz S
   cases spot with
   |none=>exact ⟨rfl,(aq8.1 S).1⟩
   |some x=>simp at this
  ·cases this
 obtain ⟨rfl,X⟩:=Q
 have L:∀o k,(⟨b,o,none⟩:Addr).add k=⟨b,o+k,none⟩:=by
  intro o k;unfold Addr.add;split
  ·rename_i R;subst R;rfl
  ·rfl
 obtain ⟨rows,I,H⟩:=BA (p:=fun i (r:List Value)=>(∃y,C r y)∧(H0 W).ldn ⟨b,o+i*P.cellsOf e,none⟩ (P.cellsOf e)=some r) len (fun i hi=>by
  obtain ⟨dk,g,⟨m,f,u⟩,N,B⟩:=key i hi;obtain ⟨l,y,D,h2⟩:=rd m dk g f u N;obtain ⟨_,J,z⟩:=World.cells?_some B;refine ⟨l,⟨y,h2⟩,(Lh K J (fun j w=>?_) D).2⟩;have:=z j w;rw [L,L]at this
  exact this)
 obtain ⟨ys,M⟩:=Li (l:=rows) (C:=C) fun i r u=>(H i r u).1
 refine ⟨.slice (some ⟨b,o,none⟩) len cap,rows,ys,?_,⟨_,_,by rw [I],fun i r hi=>⟨b,o,rfl,(H i r hi).2⟩⟩,M,by rw [I];exact U⟩;simp [aK,aU,X]
theorem mc {t:TypeId} {fs:Array Field} {fuel:Nat} {cs:List Value} {d:DataW T} (a:P.underlying t=some (.struct fs)) (h:Rd enc P W fuel t cs d) (c:vi P t d):
 cs.length=P.cellsOf t∧∃m,m<fuel∧∀(i:Nat) (f:Field),fs[i]?=some f→∃di,Rd enc P W m f.type ((cs.drop f.offset).take (P.cellsOf f.type)) di∧vi P f.type di:=by
 obtain ⟨ps,h⟩:=h;obtain ⟨xs,n,p,b,g,l,k⟩:=DataW.trod_struct a h;cases b;refine ⟨g,n,by omega,fun i f hi=>?_⟩;have o:=(aq8.1 hi).1;have:=k i f hi;rw [aqU (by omega)]at this;refine ⟨_,⟨_,this⟩,fun m e=>c m ?_⟩;simp only [DataW.weights,a];exact DataW.weights_mem_each (j:=i) (t:=f.type) (d:=(xs[i]'(by omega)).1) (by simp [hi]) (by simp [aqU (show i<xs.length by omega)]) m e
theorem eG {a:Nat} {k:IntKind} {m:Int} {cs l:List Value} (h:aK a cs=some l):aK a (.int k m::cs)=some (.int k m::l):=by simp [aK,aU,flat,h]
theorem zX {a:Nat} {s:ByteArray} {cs l:List Value} (h:aK a cs=some l):aK a (.string s::cs)=some (.string s::l):=by simp [aK,aU,flat,h]
theorem ly {b:Nat} {c v:Value} {cs l:List Value} (a:aK b [c]=some [v]) (h:aK b cs=some l):aK b (c::cs)=some (v::l):=by
 simp only [aK]at a⊢;split at a
 ·rename_i x m h2 d
  simp only [aqV]at d;subst d;simp only [aqV,List.cons.injEq,and_true]at a;subst a;simp [h2,h]
 ·cases a
theorem Lk {c:Array Value} {l:List Value} (h:aK W.heap.size c.toList=some l):V (rU W) (.agg l.toArray) (.agg c):=by
 obtain ⟨a,h2⟩:=rz (ab1 W) (l:=c.toList) (m:=l) h;exact .agg (by simpa using a) (by simpa using h2)
end
end
section
open Go
section
variable{T:Type} {enc:TypeId×Value→T} {W:World}
theorem DD {n k:Nat} (h:n*k≤reachBytes) (a:0<k):n<2^60:=by
 have b:n*1≤n*k:=Nat.mul_le_mul_left _ a;have:reachBytes<2^47:=reachBytes_lt;omega
theorem cE:Tryz.prog.cellsOf 117=4:=by kernel_rfl
theorem cS:Tryz.prog.cellsOf 114=5:=by kernel_rfl
theorem cV:Tryz.prog.cellsOf 108=3:=by kernel_rfl
theorem cP:Tryz.prog.cellsOf 25=3:=by kernel_rfl
theorem cI:Tryz.prog.cellsOf 3=1:=by kernel_rfl
theorem cZ:Tryz.prog.cellsOf 9=1:=by kernel_rfl
theorem cEs:Tryz.prog.cellsOf 112=1:=by kernel_rfl
theorem cSs:Tryz.prog.cellsOf 23=1:=by kernel_rfl
theorem cVs:Tryz.prog.cellsOf 22=1:=by kernel_rfl
theorem VW {α:Type} {l:List α} (h:l.length=4):∃a b c d,l=[a,b,c,d]:=by
 match l,h with
 |[a,b,c,d],_=>exact ⟨a,b,c,d,rfl⟩
theorem VX {α:Type} {l:List α} (h:l.length=5):∃a b c d e,l=[a,b,c,d,e]:=by
 match l,h with
 |[a,b,c,d,e],_=>exact ⟨a,b,c,d,e,rfl⟩
theorem QA (n:Nat) (cs:List Value) (d:DataW T) (h:Rd enc Tryz.prog W n 108 cs d) (r:vi Tryz.prog 108 d):∃l y,aK W.heap.size cs=some l∧(l=Vr.row y∧y.name.size<2^60):=by
 obtain ⟨i,m,t,c⟩:=mc Tryz.underlying108 h r;rw [cV]at i;obtain ⟨A,z,x,rfl⟩:=GM i;obtain ⟨w,f,g⟩:=c 0 _ rfl;obtain ⟨v,e,q⟩:=c 1 _ rfl;obtain ⟨u,h2,p⟩:=c 2 _ rfl;simp only [List.getElem_toArray,List.getElem_cons_zero,List.getElem_cons_succ]at f e h2 g q p;rw [cZ]at f;rw [cI]at e h2;obtain ⟨s,o,D⟩:=Qy Tryz.underlying9 f g;obtain ⟨a,k,C⟩:=gu Tryz.underlying3 e;obtain ⟨b,j,B⟩:=gu Tryz.underlying3 h2;simp at o k j;subst o;subst k;subst j;have:reachBytes<2^47:=reachBytes_lt;exact ⟨_,⟨s,a,b⟩,zX (eG (eG rfl)),rfl,by show s.size<2^60;omega⟩
end
end
section
open Go
theorem zY {a b:Int} (c:0≤a):bX .rem (.int .i64 a) (.int .i64 b)=if b=0 then none else some (.int .i64 (a%b)):=by
 by_cases h:b=0
 ·simp [bX,c7,jh,h]
 ·simp [bX,c7,jh,h]
  rw [Int.tmod_eq_emod_of_nonneg c]
theorem QB {a b:Int} (c:0≤a) (hi:a≤2^62) (e:0<b):bX .quo (.int .i64 a) (.int .i64 b)=some (.int .i64 (a/b)):=by
 have d:¬ b=0:=by omega
 have f:0≤a/b:=Int.ediv_nonneg c (by omega);have h2:a/b≤a:=Int.ediv_le_self _ c;simp only [bX,c7,jh,d,if_true,if_false];rw [Int.tdiv_eq_ediv_of_nonneg c,ai ⟨by omega,by omega⟩]
theorem kn (a:Nat) (h:a<2^62):(BitVec.ofInt 64 (a:Int)).toNat=a:=by
 rw [BitVec.toNat_ofInt];have:((a:Int)%((2^64:Nat):Int))=a:=Int.emod_eq_of_lt (by omega) (by omega);rw [this];rfl
theorem Ll {a b:Nat} (d:a<2^62) (c:b<2^62):bX .and (.int .i64 a) (.int .i64 b)=some (.int .i64 ((a&&&b:Nat):Int)):=by
 have:(BitVec.ofInt IntKind.i64.bits (a:Int)&&&BitVec.ofInt IntKind.i64.bits (b:Int)).toNat=a&&&b:=by
  show(BitVec.ofInt 64 (a:Int)&&&BitVec.ofInt 64 (b:Int)).toNat=a&&&b;rw [BitVec.toNat_and,kn a d,kn b c]
 have h2:a&&&b≤a:=Nat.and_le_left;simp only [bX,c7,jh,if_true,this];rw [ai ⟨by omega,by omega⟩]
theorem QC {a b:Nat} (d:a<2^62) (c:b<2^62):bX .or (.int .i64 a) (.int .i64 b)=some (.int .i64 ((a|||b:Nat):Int)):=by
 have:(BitVec.ofInt IntKind.i64.bits (a:Int)|||BitVec.ofInt IntKind.i64.bits (b:Int)).toNat=a|||b:=by
  show(BitVec.ofInt 64 (a:Int)|||BitVec.ofInt 64 (b:Int)).toNat=a|||b;rw [BitVec.toNat_or,kn a d,kn b c]
 have h2:a|||b<2^62:=Nat.or_lt_two_pow d c;simp only [bX,c7,jh,if_true,this];rw [ai ⟨by omega,by omega⟩]
theorem Lm {a b:Nat} (d:a<2^62) (c:b<2^62):bX .xor (.int .i64 a) (.int .i64 b)=some (.int .i64 ((a^^^b:Nat):Int)):=by
 have:(BitVec.ofInt IntKind.i64.bits (a:Int)^^^BitVec.ofInt IntKind.i64.bits (b:Int)).toNat=a^^^b:=by
  show(BitVec.ofInt 64 (a:Int)^^^BitVec.ofInt 64 (b:Int)).toNat=a^^^b;rw [BitVec.toNat_xor,kn a d,kn b c]
 have h2:a^^^b<2^62:=Nat.xor_lt_two_pow d c;simp only [bX,c7,jh,if_true,this];rw [ai ⟨by omega,by omega⟩]
theorem BB {x:Int} {w:Nat} (d:w≤62):bX .and (.int .i64 x) (.int .i64 (2^w- 1))=some (.int .i64 (x%2^w)):=by
 have a:0<2^w:=Nat.two_pow_pos w;have b:2^w≤2^62:=Nat.pow_le_pow_right (by omega) d
 have g:((2:Int)^w- 1)=((2^w- 1:Nat):Int):=by
  rw [Int.natCast_sub a];simp
 have f:(BitVec.ofInt IntKind.i64.bits x&&&BitVec.ofInt IntKind.i64.bits ((2^w- 1:Nat):Int)).toNat=(BitVec.ofInt 64 x).toNat%2^w:=by
  show(BitVec.ofInt 64 x&&&BitVec.ofInt 64 ((2^w- 1:Nat):Int)).toNat=(BitVec.ofInt 64 x).toNat%2^w;rw [BitVec.toNat_and,kn _ (by omega),Nat.and_two_pow_sub_one_eq_mod]
 have e:(((BitVec.ofInt 64 x).toNat%2^w:Nat):Int)=x%2^w:=by
  rw [BitVec.toNat_ofInt,Int.natCast_emod,Int.toNat_of_nonneg (Int.emod_nonneg _ (by omega))];have c:((2^w:Nat):Int)∣((2^64:Nat):Int):=Int.natCast_dvd_natCast.2 (Nat.pow_dvd_pow 2 (by omega));rw [Int.emod_emod_of_dvd _ c];simp
 rw [g];simp only [bX,c7,jh,if_true,f,e]
 have i:0≤x%2^w:=Int.emod_nonneg _ (by have:(0:Int)<2^w:=by exact_mod_cast a
                                       omega)
 have h2:x%(2:Int)^w<2^w:=Int.emod_lt_of_pos _ (by exact_mod_cast a);have h:(2:Int)^w≤2^62:=by exact_mod_cast b
 rw [ai ⟨by omega,by omega⟩]
theorem zZ {a w:Nat} (b:w≤62) (f:a<2^w):bX .andNot (.int .i64 (2^w- 1)) (.int .i64 a)=some (.int .i64 (2^w- 1- a)):=by
 have c:0<2^w:=Nat.two_pow_pos w;have d:2^w≤2^62:=Nat.pow_le_pow_right (by omega) b
 have j:((2:Int)^w- 1)=((2^w- 1:Nat):Int):=by
  rw [Int.natCast_sub c];simp
 rw [j]
 have g:(BitVec.ofInt IntKind.i64.bits ((2^w- 1:Nat):Int)&&&~~~BitVec.ofInt IntKind.i64.bits (a:Int)).toNat=2^w- 1- a:=by
  show(BitVec.ofInt 64 ((2^w- 1:Nat):Int)&&&~~~BitVec.ofInt 64 (a:Int)).toNat=2^w- 1- a;rw [BitVec.toNat_and,BitVec.toNat_not,kn _ (by omega),kn a (by omega)];have e:2^64- 1- a=2^64- (a+1):=by omega
  rw [e];apply Nat.eq_of_testBit_eq;intro i;rw [Nat.testBit_and,Nat.testBit_two_pow_sub_one,Nat.testBit_two_pow_sub_succ (by omega),show 2^w- 1- a=2^w- (a+1) by omega,Nat.testBit_two_pow_sub_succ f];by_cases h:i<w
  ·simp [h,show i<64 by omega]
  ·simp [h]
 simp only [bX,c7,jh,if_true,g];rw [ai ⟨by omega,by omega⟩,Int.natCast_sub (by omega)]
def lz (op w a b:Int):Int:=
 if op=2 then(a+b)%2^w.toNat else if op=3 then(a+2^w.toNat- b)%2^w.toNat else if op=4 then a*b%2^w.toNat
 else if op=5 then(if b=0 then 2^w.toNat- 1 else a/b)else if op=6 then(if b=0 then a else a%b)
 else if op=7 then((a.toNat&&&b.toNat:Nat):Int)else if op=8 then((a.toNat|||b.toNat:Nat):Int)else if op=9 then((a.toNat^^^b.toNat:Nat):Int)
 else if op=10 then(if w≤b then 0 else a*2^b.toNat%2^w.toNat)else if op=11 then(if w≤b then 0 else a/2^b.toNat)
 else if op=13 then(if a=b then 1 else 0)else(if a<b then 1 else 0)
theorem jo {w:Int} (a:1≤w∧w≤8):2≤(2:Int)^w.toNat∧(2:Int)^w.toNat≤256:=by
 obtain ⟨n,rfl⟩:∃n:Nat,w=n:=⟨w.toNat,by omega⟩
 have:n=1∨n=2∨n=3∨n=4∨n=5∨n=6∨n=7∨n=8:=by omega
 rcases this with rfl|rfl|rfl|rfl|rfl|rfl|rfl|rfl<;>exact ⟨by decide,by decide⟩
theorem GN {a b M:Int} (d:0≤a∧a<M) (c:0≤b∧b<M):0≤a*b∧a*b≤M*M:=by
 refine ⟨Int.mul_nonneg d.1 c.1,Int.mul_le_mul (by omega) (by omega) c.1 (by omega)⟩
theorem xF {op w a b:Int} (z:1≤w∧w≤8) (k:0≤a∧a<2^w.toNat) (v:0≤b∧b<2^w.toNat):0≤lz op w a b∧lz op w a b<2^w.toNat:=by
 have A:=jo z
 have r:∀x:Int,0≤x%2^w.toNat∧x%2^w.toNat<2^w.toNat:=fun x=>⟨Int.emod_nonneg _ (by omega),Int.emod_lt_of_pos _ (by omega)⟩
 have o:(2:Int)^w.toNat=((2^w.toNat:Nat):Int):=by simp
 have t:a.toNat<2^w.toNat:=by have:=k.2;rw [o]at this;omega
 have y:b.toNat<2^w.toNat:=by have:=v.2;rw [o]at this;omega
 have B:b=0∨¬ b=0:=by omega
 have p:∀c:Prop,∀_:Decidable c,0≤(if c then(1:Int)else 0)∧(if c then(1:Int)else 0)<2^w.toNat:=fun c _=>by
  by_cases h:c
  ·rw [if_pos h];omega
  ·rw [if_neg h];omega
 by_cases d:op=2
 ·rw [lz,if_pos d];exact r _
 by_cases e:op=3
 ·rw [lz,if_neg d,if_pos e];exact r _
 by_cases g:op=4
 ·rw [lz,if_neg d,if_neg e,if_pos g];exact r _
 by_cases i:op=5
 ·rw [lz,if_neg d,if_neg e,if_neg g,if_pos i]
  by_cases f:b=0
  ·rw [if_pos f];omega
  ·rw [if_neg f];exact ⟨Int.ediv_nonneg k.1 v.1,Int.lt_of_le_of_lt (Int.ediv_le_self _ k.1) k.2⟩
 by_cases j:op=6
 ·rw [lz,if_neg d,if_neg e,if_neg g,if_neg i,if_pos j]
  by_cases f:b=0
  ·rw [if_pos f];exact k
  ·rw [if_neg f];exact ⟨Int.emod_nonneg _ (by omega),Int.lt_of_lt_of_le (Int.emod_lt_of_pos _ (by omega)) (by omega)⟩
 by_cases l:op=7
 ·rw [lz,if_neg d,if_neg e,if_neg g,if_neg i,if_neg j,if_pos l,o];exact ⟨by omega,Int.ofNat_lt.2 (Nat.lt_of_le_of_lt Nat.and_le_left t)⟩
 by_cases m:op=8
 ·rw [lz,if_neg d,if_neg e,if_neg g,if_neg i,if_neg j,if_neg l,if_pos m,o];exact ⟨by omega,Int.ofNat_lt.2 (Nat.or_lt_two_pow t y)⟩
 by_cases n:op=9
 ·rw [lz,if_neg d,if_neg e,if_neg g,if_neg i,if_neg j,if_neg l,if_neg m,if_pos n,o];exact ⟨by omega,Int.ofNat_lt.2 (Nat.xor_lt_two_pow t y)⟩
 by_cases q:op=10
 ·rw [lz,if_neg d,if_neg e,if_neg g,if_neg i,if_neg j,if_neg l,if_neg m,if_neg n,if_pos q]
  by_cases f:w≤b
  ·rw [if_pos f];omega
  ·rw [if_neg f];exact r _
 by_cases s:op=11
 ·rw [lz,if_neg d,if_neg e,if_neg g,if_neg i,if_neg j,if_neg l,if_neg m,if_neg n,if_neg q,if_pos s]
  by_cases f:w≤b
  ·rw [if_pos f];omega
  ·rw [if_neg f]
   have:(0:Int)≤2^b.toNat:=by have:=two_pow_pos b.toNat;omega
   exact ⟨Int.ediv_nonneg k.1 this,Int.lt_of_le_of_lt (Int.ediv_le_self _ k.1) k.2⟩
 by_cases u:op=13
 ·rw [lz,if_neg d,if_neg e,if_neg g,if_neg i,if_neg j,if_neg l,if_neg m,if_neg n,if_neg q,if_neg s,if_pos u];exact p _ _
 ·rw [lz,if_neg d,if_neg e,if_neg g,if_neg i,if_neg j,if_neg l,if_neg m,if_neg n,if_neg q,if_neg s,if_neg u];exact p _ _
set_option maxRecDepth 10000
open Go
end
section
open Go
theorem Aa {a w:Int} (b:0≤a∧a<2^w.toNat):a.toNat<2^w.toNat:=by
 have h:((2^w.toNat:Nat):Int)=2^w.toNat:=by simp
 have:=b.2;omega
theorem GO {v u:Value} {l m:List Int} {H:AH} (I:fT H v l) (C:fT H u m) (P:l.length≤2^60):Ca E O 29 [v,u] H (fun x H'=>x= .bool (decide (l=m))∧H'=H):=by
 refine Ca.aV (F:=UT) rfl rfl rfl ?_;obtain ⟨M,R,f⟩:=I.len;obtain ⟨L,Q,s⟩:=C.len
 obtain ⟨F,g⟩:∃F,decide (l=m)=F:=⟨_,rfl⟩
 rw [g];by_cases q:(l.length:Int)=m.length
 case neg=>
  have t:F=false:=by rw [←g,decide_eq_false_iff_not];rintro rfl;exact q rfl
  have c:¬ l.length=m.length:=by omega
  simp (maxSteps:=9^7)-implicitDefEqProofs+contextual [-X.ev,UT,f,s,q,c,t]
 have c:l.length=m.length:=by omega
 simp (maxSteps:=9^7)-implicitDefEqProofs+contextual [-X.ev,UT,f,s,q,c];refine ch (fun k j H'=>H'=H∧∃i:Nat,i+k=l.length∧j.get 0=v∧j.get 1=u∧j.get 5= .int .i64 i∧l.take i=m.take i) ?_ l.length ⟨rfl,0,by simp,by simp [f,c],by simp [s],by simp,by simp⟩;rintro k j H' ⟨rfl,i,hi,a,p,w,B⟩;by_cases h:i<l.length
 ·obtain ⟨x,r⟩:∃n,l[i]?=some n:=⟨_,aqU h⟩
  obtain ⟨y,d⟩:∃n,m[i]?=some n:=⟨_,aqU (by omega)⟩
  obtain ⟨b,o,S,z,G⟩:=I.at r;obtain ⟨T,N,K,A,D⟩:=C.at d;rw [z]at a;rw [A]at p;have h2:i<m.length:=by omega
  by_cases e:x=y
  ·subst e
   simp (maxSteps:=9^7)-implicitDefEqProofs+contextual [-X.ev,a,p,w,h,h2,G,D,bh,aL,aM];rw [ai (n:=(i:Int)+1) ⟨by omega,by omega⟩];refine ⟨k- 1,by omega,i+1,by omega,z.symm,A.symm,by simp,?_⟩;rw [arf,arf,r,d,B]
  ·have t:F=false:=by
    rw [←g,decide_eq_false_iff_not];rintro rfl;rw [r]at d;cases d;exact e rfl
   simp (maxSteps:=9^7)-implicitDefEqProofs+contextual [-X.ev,a,p,w,h,h2,G,D,bh,aL,aM,e,t]
 ·have J:F=true:=by
   rw [←g,decide_eq_true_iff];rwa [aq1 (by omega),aq1 (by omega)]at B
  rw [f]at a;simp (maxSteps:=9^7)-implicitDefEqProofs+contextual [-X.ev,a,p,w,h,J]
open Go
theorem aeV {n:Int} (h:0≤n∧n<2^62):IntKind.u64.wrap n=n:=IntWalk.u64_in n ⟨by omega,by omega⟩
theorem vj {w:Int} (a:1≤w∧w≤8) (H:AH):Ca E O 182 [.int .i64 w] H (fun x H'=>x= .int .i64 (2^w.toNat- 1)∧H'=H):=by
 refine Ca.aV (F:=a182) rfl rfl rfl ?_;have b:=jo a;simp (maxSteps:=9^7)-implicitDefEqProofs+contextual [-X.ev,a182,xz a,ai (n:=2^w.toNat- 1) ⟨by omega,by omega⟩]
theorem N4 {w:Int} {v:Value} {l:List Int} {H:AH} (B:fT H v l) (I:l.length<2^60):Ca E O 181 [.int .i64 w,v] H (fun x H'=>x= .bool (bl w&&l.all (isWord w))∧H'=H):=by
 refine Ca.aV (F:=Dl) rfl rfl rfl ?_;obtain ⟨G,K,y⟩:=B.len
 obtain ⟨F,f⟩:∃F,(bl w&&l.all (isWord w))=F:=⟨_,rfl⟩
 rw [f];by_cases s:w<1
 ·have d:F=false:=by rw [←f];simp [bl];omega
  simp (maxSteps:=9^7)-implicitDefEqProofs+contextual [-X.ev,Dl,s,d]
 by_cases h2:8<w
 ·have d:F=false:=by rw [←f];simp [bl];omega
  simp (maxSteps:=9^7)-implicitDefEqProofs+contextual [-X.ev,Dl,s,h2,d]
 have e:1≤w∧w≤8:=by omega
 have C:bl w=true:=by simp [bl,e]
 simp (maxSteps:=9^7)-implicitDefEqProofs+contextual [-X.ev,Dl,s,h2,y];refine ch (fun k g H'=>H'=H∧∃i:Nat,i+k=l.length∧g.get 0= .int .i64 w∧g.get 13=v∧g.get 14= .int .i64 l.length∧g.get 15= .int .i64 i∧∀a∈l.take i,isWord w a=true) ?_ l.length ⟨rfl,0,by simp,by simp,by simp [y],by simp,by simp,by simp⟩;rintro k g H' ⟨rfl,i,hi,j,f13,f14,f15,r⟩;by_cases h:i<l.length
 ·obtain ⟨n,q⟩:∃n,l[i]?=some n:=⟨_,aqU h⟩
  obtain ⟨b,o,L,u,A⟩:=B.at q;rw [u]at f13
  have d:isWord w n=false→F=false:=fun z=>by
   rw [←f,Bool.and_eq_false_iff];right;rw [List.all_eq_false];exact ⟨n,aqZ q,by rw [z];simp⟩
  rw [jV e]at d;have J:=jo e;by_cases p:n<0
  ·simp (maxSteps:=9^7)-implicitDefEqProofs+contextual [-X.ev,j,f13,f14,f15,h,A,p,d]
  simp (maxSteps:=9^7)-implicitDefEqProofs+contextual [-X.ev,j,f13,f14,f15,h,A,p];apply ah
  ·(simp-implicitDefEqProofs [-X.ev];rfl)
  refine (vj e H').mono ?_;rintro x H' ⟨rfl,rfl⟩;by_cases t:2^w.toNat- 1<n
  ·have m:2^w.toNat≤n:=by omega
   simp (maxSteps:=9^7)-implicitDefEqProofs+contextual [-X.ev,j,f13,f14,f15,t,m,d]
  have m:¬ 2^w.toNat≤n:=by omega
  simp (maxSteps:=9^7)-implicitDefEqProofs+contextual [-X.ev,j,f13,f14,f15,h,t];rw [ai (n:=(i:Int)+1) ⟨by omega,by omega⟩];refine ⟨k- 1,by omega,i+1,by omega,u.symm,by simp,fun z c=>?_⟩;rw [arf,q]at c;rcases are.1 c with c|c
  ·exact r z c
  ·simp at c;subst c;rw [jV e];simp [p,m]
 ·have D:F=true:=by
   rw [aq1 (by omega)]at r;rw [←f,C,Bool.true_and,ara];exact r
  simp (maxSteps:=9^7)-implicitDefEqProofs+contextual [-X.ev,j,f13,f14,f15,h,D]
theorem me {w a:Int} (b:1≤w∧w≤8) (c:0≤a∧a<2^w.toNat):isWord w a=true:=by
 simp [isWord,bl,b,c]
theorem VY {H:AH} (b:H.n0≤H.nx) (a:Int):fT (H.alloc (.cells 1 [.int .i64 a])) (.slice (some ⟨H.nx,0,none⟩) 1 1) [a]:=⟨_,_,rfl,fun i r hi=>⟨H.nx,0,rfl,by
 have:=a7 b (z:=1) (c:=[.int .i64 a]) 1 rfl
 cases i with
 |zero=>simp at hi;subst hi;simpa using this
 |succ i=>simp at hi⟩⟩
theorem VZ {H:AH} (c:H.n0≤H.nx) (a b:Int):fT (H.alloc (.cells 1 [.int .i64 a,.int .i64 b])) (.slice (some ⟨H.nx,0,none⟩) 2 2) [a,b]:=⟨_,_,rfl,fun i r hi=>⟨H.nx,0,rfl,by
 have d:=cg H (.cells 1 [.int .i64 a,.int .i64 b])
 match i,hi with
 |0,hi=>simp at hi;subst hi;exact bB d c (k:=0) (n:=1) (by simp)
 |1,hi=>simp at hi;subst hi;exact bB d c (k:=1) (n:=1) (by simp)
 |i+2,hi=>simp at hi⟩⟩
theorem Ln {w a:Int} {H:AH} (i:H.n0≤H.nx) (b:1≤w∧w≤8) (g:0≤a∧a<2^w.toNat):Ca E O 177 [.int .i64 w,.int .i64 a] H (fun x H'=>x= .tuple #[.int .i64 (2^w.toNat- 1- a),.int .i64 0]∧Ext H H'):=by
 refine Ca.aV (F:=Kt) rfl rfl rfl ?_;have c:=xD (sz:=1) (z:=[.int .i64 0]) (H:=H) (v:=.int .i64 a) rfl rfl rfl;have h:=Ext.alloc H (.cells 1 [.int .i64 a]);have f:=VY i a;simp only [zM]at c;generalize H.alloc (.cells 1 [.int .i64 a])=d at c h f;simp (maxSteps:=9^7)-implicitDefEqProofs+contextual [-X.ev,Kt,c];apply ah
 ·(simp-implicitDefEqProofs [-X.ev];rfl)
 refine (N4 f (by simp)).mono ?_;rintro x d ⟨rfl,rfl⟩;have e:(bl w&&[a].all (isWord w))=true:=by simp [bl,b,me b g]
 rw [e];simp (maxSteps:=9^7)-implicitDefEqProofs+contextual [-X.ev];apply ah
 ·(simp-implicitDefEqProofs [-X.ev];rfl)
 refine (vj b d).mono ?_;rintro x d ⟨rfl,rfl⟩
 have j:bX .andNot (.int .i64 (2^w.toNat- 1)) (.int .i64 a)=some (.int .i64 (2^w.toNat- 1- a)):=by
  have:=zZ (a:=a.toNat) (w:=w.toNat) (by omega) (Aa g);rwa [show((a.toNat:Nat):Int)=a by omega]at this
 simp (maxSteps:=9^7)-implicitDefEqProofs+contextual [-X.ev,j,h]
theorem xG (b:Bool) (H:AH):Ca E O 196 [.bool b] H (fun x H'=>x= .int .i64 (if b=true then 1 else 0)∧H'=H):=by
 refine Ca.aV (F:=a196) rfl rfl rfl ?_;cases b<;>simp (maxSteps:=9^7)-implicitDefEqProofs+contextual [-X.ev,a196]
theorem V0 {a b:Int} (c:0≤a∧a<256) (j:0≤b∧b<8):bX .shl (.int .i64 a) (.int .u64 b)=some (.int .i64 (a*2^b.toNat)):=by
 have h:=two_pow_pos b.toNat
 have i:(2:Int)^b.toNat≤256:=by
  have:(2:Nat)^b.toNat≤2^8:=Nat.pow_le_pow_right (by omega) (by omega);have h2:((2^b.toNat:Nat):Int)≤((2^8:Nat):Int):=Int.ofNat_le.2 this
  simpa using h2
 obtain ⟨g,f⟩:=GN (M:=257) ⟨c.1,by omega⟩ (b:=2^b.toNat) ⟨by omega,by omega⟩;have e:¬ b<0:=by omega
 have d:min b.toNat IntKind.i64.bits=b.toNat:=Nat.min_eq_left (by show b.toNat≤64;omega);simp only [bX,c7,e,if_false,d];rw [ai ⟨by omega,by omega⟩]
theorem V1 {a b:Int} (g:0≤a∧a<256) (f:0≤b∧b<8):bX .shr (.int .i64 a) (.int .u64 b)=some (.int .i64 (a/2^b.toNat)):=by
 have e:=two_pow_pos b.toNat;have d:¬ b<0:=by omega
 have c:min b.toNat IntKind.i64.bits=b.toNat:=Nat.min_eq_left (by show b.toNat≤64;omega);simp only [bX,c7,d,if_false,c];rw [Int.fdiv_eq_ediv_of_nonneg _ (by omega)]
theorem su {w a b:Int} {up:Bool} (f:1≤w∧w≤8) (e:0≤a∧a<256) (c:0≤b) (H:AH):Ca E O 193 [.int .i64 w,.int .i64 a,.int .i64 b,.bool up] H (fun x H'=>x= .int .i64 (if w≤b then 0 else if up=true then a*2^b.toNat else a/2^b.toNat)∧H'=H):=by
 refine Ca.aV (F:=a193) rfl rfl rfl ?_;by_cases h:w≤b
 ·simp (maxSteps:=9^7)-implicitDefEqProofs+contextual [-X.ev,a193,h]
 have d:IntKind.u64.wrap b=b:=aeV ⟨c,by omega⟩;cases up
 ·simp (maxSteps:=9^7)-implicitDefEqProofs+contextual [-X.ev,a193,h,d,V1 e ⟨c,by omega⟩]
 ·simp (maxSteps:=9^7)-implicitDefEqProofs+contextual [-X.ev,a193,h,d,V0 e ⟨c,by omega⟩]
def BC (op:Int):Value:=
 if op=2 then .func (.func 184) #[] #[]else if op=3 then .func (.func 185) #[] #[]else if op=4 then .func (.func 186) #[] #[]else if op=5 then .func (.func 187) #[] #[]else if op=6 then .func (.func 188) #[] #[]else if op=7 then .func (.func 189) #[] #[]else if op=8 then .func (.func 190) #[] #[]else if op=9 then .func (.func 191) #[] #[]else if op=10 then .func (.func 192) #[] #[]else if op=11 then .func (.func 194) #[] #[]else if op=13 then .func (.func 195) #[] #[]else if op=14 then .func (.func 197) #[] #[]else .nilFunc
theorem Lo {op:Int} {H:AH} (hw:H.n0≤H.nx):Ca E O 183 [.int .i64 op] H (fun x H'=>x=BC op∧Ext H H'):=by
 refine Ca.aV (F:=a183) rfl rfl rfl ?_;have t:=Ext.alloc H (.map []);have J:=cg H (.map []);generalize Bk:H.alloc (.map [])=H0 at t J;have I:H0.n0≤H.nx:=by rw [t.n0];exact hw
 obtain ⟨H1,s1,W,GP,DE,g1⟩:=gj (kk:=0) (k:=.int .i64 2) (v:=.func (.func 184) #[] #[]) J I rfl rfl rfl;have G:H1.n0≤H.nx:=by rw [W.n0];exact I
 obtain ⟨H2,s2,S,wA,ph,g2⟩:=gj (kk:=0) (k:=.int .i64 3) (v:=.func (.func 185) #[] #[]) g1 G rfl rfl rfl;have D:H2.n0≤H.nx:=by rw [S.n0];exact G
 obtain ⟨H3,s3,R,qZ,l7,g3⟩:=gj (kk:=0) (k:=.int .i64 4) (v:=.func (.func 186) #[] #[]) g2 D rfl rfl rfl;have C:H3.n0≤H.nx:=by rw [R.n0];exact D
 obtain ⟨H4,s4,Q,yW,nm,g4⟩:=gj (kk:=0) (k:=.int .i64 5) (v:=.func (.func 187) #[] #[]) g3 C rfl rfl rfl;have B:H4.n0≤H.nx:=by rw [Q.n0];exact C
 obtain ⟨H5,s5,P,NY,xB,g5⟩:=gj (kk:=0) (k:=.int .i64 6) (v:=.func (.func 188) #[] #[]) g4 B rfl rfl rfl;have A:H5.n0≤H.nx:=by rw [P.n0];exact B
 obtain ⟨H6,s6,N,nx6,Lp,g6⟩:=gj (kk:=0) (k:=.int .i64 7) (v:=.func (.func 189) #[] #[]) g5 A rfl rfl rfl;have z:H6.n0≤H.nx:=by rw [N.n0];exact A
 obtain ⟨H7,s7,M,Z1,DF,g7⟩:=gj (kk:=0) (k:=.int .i64 8) (v:=.func (.func 190) #[] #[]) g6 z rfl rfl rfl;have y:H7.n0≤H.nx:=by rw [M.n0];exact z
 obtain ⟨H8,Z,L,Tv,BD,g8⟩:=gj (kk:=0) (k:=.int .i64 9) (v:=.func (.func 191) #[] #[]) g7 y rfl rfl rfl;have w:H8.n0≤H.nx:=by rw [L.n0];exact y
 obtain ⟨H9,Y,K,V2,N5,g9⟩:=gj (kk:=0) (k:=.int .i64 10) (v:=.func (.func 192) #[] #[]) g8 w rfl rfl rfl;have u:H9.n0≤H.nx:=by rw [K.n0];exact w
 obtain ⟨yX,f,V,amK,amL,g10⟩:=gj (kk:=0) (k:=.int .i64 11) (v:=.func (.func 194) #[] #[]) g9 u rfl rfl rfl;have d:yX.n0≤H.nx:=by rw [V.n0];exact u
 obtain ⟨ZV,e,U,VQ,VR,g11⟩:=gj (kk:=0) (k:=.int .i64 13) (v:=.func (.func 195) #[] #[]) g10 d rfl rfl rfl;have c:ZV.n0≤H.nx:=by rw [U.n0];exact d
 obtain ⟨DG,Z2,T,Lq,GQ,g12⟩:=gj (kk:=0) (k:=.int .i64 14) (v:=.func (.func 197) #[] #[]) g11 c rfl rfl rfl;have z12:DG.n0≤H.nx:=by rw [T.n0];exact c
 have XX:Ext H DG:=t.mod (W.trans (S.trans (R.trans (Q.trans (P.trans (N.trans (M.trans (L.trans (K.trans (V.trans (U.trans (T)))))))))))) (by rintro x rfl;exact aqY _)
 have lk:ic 0 .nilFunc DG (.map (some H.nx)) (.int .i64 op) false=some (BC op):=by
  unfold BC;by_cases p:op=2
  ·subst p;exact eQ g12 z12 rfl rfl
  rw [if_neg p];by_cases o:op=3
  ·subst o;exact eQ g12 z12 rfl rfl
  rw [if_neg o];by_cases n:op=4
  ·subst n;exact eQ g12 z12 rfl rfl
  rw [if_neg n];by_cases m:op=5
  ·subst m;exact eQ g12 z12 rfl rfl
  rw [if_neg m];by_cases l:op=6
  ·subst l;exact eQ g12 z12 rfl rfl
  rw [if_neg l];by_cases j:op=7
  ·subst j;exact eQ g12 z12 rfl rfl
  rw [if_neg j];by_cases i:op=8
  ·subst i;exact eQ g12 z12 rfl rfl
  rw [if_neg i];by_cases g:op=9
  ·subst g;exact eQ g12 z12 rfl rfl
  rw [if_neg g];by_cases s:op=10
  ·subst s;exact eQ g12 z12 rfl rfl
  rw [if_neg s];by_cases r:op=11
  ·subst r;exact eQ g12 z12 rfl rfl
  rw [if_neg r];by_cases q:op=13
  ·subst q;exact eQ g12 z12 rfl rfl
  rw [if_neg q];by_cases b:op=14
  ·subst b;exact eQ g12 z12 rfl rfl
  rw [if_neg b];refine Bt g12 z12 rfl ?_;have a:∀k:Int,¬ op=k→(op==k)=false:=fun k h=>by simpa using h
  simp [fG,gX,kW,a _ p,a _ o,a _ n,a _ m,a _ l,a _ j,a _ i,a _ g,a _ s,a _ r,a _ q,a _ b]
 simp (maxSteps:=9^7)-implicitDefEqProofs+contextual [-X.ev,a183,Bk,s1,s2,s3,s4,s5,s6,s7,Z,Y,f,e,Z2,lk,XX]
theorem GR {op w a b:Int} (t:(2≤op∧op≤11)∨op=13∨op=14) (h:1≤w∧w≤8) (j:0≤a∧a<2^w.toNat) (i:0≤b∧b<2^w.toNat):
 ∃f,BC op= .func (.func f) #[] #[]∧∀H:AH,Ca E O f [.int .i64 w,.int .i64 a,.int .i64 b] H (fun x H'=>∃y,x= .int .i64 y∧y%2^w.toNat=lz op w a b∧H'=H):=by
 have k:=jo h;obtain ⟨s,r⟩:=GN j i;have q:(2:Int)^w.toNat*2^w.toNat≤256*256:=Int.mul_le_mul k.2 k.2 (by omega) (by omega);have l:=xF (op:=op) h j i;have d:lz op w a b%2^w.toNat=lz op w a b:=Int.emod_eq_of_lt l.1 l.2;have m:0≤a∧a<256:=by omega
 have p:op=2∨op=3∨op=4∨op=5∨op=6∨op=7∨op=8∨op=9∨op=10∨op=11∨op=13∨op=14:=by omega
 have g:((a.toNat:Nat):Int)=a∧((b.toNat:Nat):Int)=b:=by omega
 have v:=Aa j;have u:=Aa i;have o:(2:Nat)^w.toNat≤2^62:=Nat.pow_le_pow_right (by omega) (by omega);rcases p with rfl|rfl|rfl|rfl|rfl|rfl|rfl|rfl|rfl|rfl|rfl|rfl
 ·refine ⟨184,rfl,fun H=>?_⟩
  refine Ca.aV (F:=Kv) rfl rfl rfl ?_;simp (maxSteps:=9^7)-implicitDefEqProofs+contextual [-X.ev,Kv,ai (n:=a+b) ⟨by omega,by omega⟩];simp [lz]
 ·refine ⟨185,rfl,fun H=>?_⟩
  refine Ca.aV (F:=Kw) rfl rfl rfl ?_;simp (maxSteps:=9^7)-implicitDefEqProofs+contextual [-X.ev,Kw,ai (n:=a- b) ⟨by omega,by omega⟩];simp only [lz];rw [if_neg (show¬ (3:Int)=2 by omega),if_pos trivial,show a+2^w.toNat- b=(a- b)+2^w.toNat by omega,Int.add_emod_right]
 ·refine ⟨186,rfl,fun H=>?_⟩
  refine Ca.aV (F:=Kx) rfl rfl rfl ?_;simp (maxSteps:=9^7)-implicitDefEqProofs+contextual [-X.ev,Kx,ai (n:=a*b) ⟨by omega,by omega⟩];simp [lz]
 ·refine ⟨187,rfl,fun H=>?_⟩
  refine Ca.aV (F:=F6) rfl rfl rfl ?_;by_cases c:b=0
  ·subst c
   simp (maxSteps:=9^7)-implicitDefEqProofs+contextual [-X.ev,F6];apply ah
   ·(simp-implicitDefEqProofs [-X.ev];rfl)
   refine (vj h H).mono ?_;rintro x H ⟨rfl,rfl⟩;simp (maxSteps:=9^7)-implicitDefEqProofs+contextual [-X.ev];rw [←d];simp [lz]
  ·simp (maxSteps:=9^7)-implicitDefEqProofs+contextual [-X.ev,F6,c,QB j.1 (by omega) (show 0<b by omega)]
   rw [←d];simp [lz,c]
 ·refine ⟨188,rfl,fun H=>?_⟩
  refine Ca.aV (F:=F7) rfl rfl rfl ?_;by_cases c:b=0
  ·subst c
   simp (maxSteps:=9^7)-implicitDefEqProofs+contextual [-X.ev,F7];rw [←d];simp [lz]
  ·simp (maxSteps:=9^7)-implicitDefEqProofs+contextual [-X.ev,F7,c,zY j.1]
   rw [←d];simp [lz,c]
 ·refine ⟨189,rfl,fun H=>?_⟩
  refine Ca.aV (F:=Ky) rfl rfl rfl ?_;have e:=Ll (a:=a.toNat) (b:=b.toNat) (by omega) (by omega);rw [g.1,g.2]at e;simp (maxSteps:=9^7)-implicitDefEqProofs+contextual [-X.ev,Ky,e];rw [←d];simp [lz]
 ·refine ⟨190,rfl,fun H=>?_⟩
  refine Ca.aV (F:=Kz) rfl rfl rfl ?_;have e:=QC (a:=a.toNat) (b:=b.toNat) (by omega) (by omega);rw [g.1,g.2]at e;simp (maxSteps:=9^7)-implicitDefEqProofs+contextual [-X.ev,Kz,e];rw [←d];simp [lz]
 ·refine ⟨191,rfl,fun H=>?_⟩
  refine Ca.aV (F:=KA) rfl rfl rfl ?_;have e:=Lm (a:=a.toNat) (b:=b.toNat) (by omega) (by omega);rw [g.1,g.2]at e;simp (maxSteps:=9^7)-implicitDefEqProofs+contextual [-X.ev,KA,e];rw [←d];simp [lz]
 ·refine ⟨192,rfl,fun H=>?_⟩
  refine Ca.aV (F:=KB) rfl rfl rfl ?_;simp (maxSteps:=9^7)-implicitDefEqProofs+contextual [-X.ev,KB];apply ah
  ·(simp-implicitDefEqProofs [-X.ev];rfl)
  refine (su (up:=true) h m i.1 H).mono ?_;rintro x H ⟨rfl,rfl⟩;simp (maxSteps:=9^7)-implicitDefEqProofs+contextual [-X.ev];by_cases c:w≤b
  ·simp [lz,c]
  ·simp [lz,c]
 ·refine ⟨194,rfl,fun H=>?_⟩
  refine Ca.aV (F:=a194) rfl rfl rfl ?_;simp (maxSteps:=9^7)-implicitDefEqProofs+contextual [-X.ev,a194];apply ah
  ·(simp-implicitDefEqProofs [-X.ev];rfl)
  refine (su (up:=false) h m i.1 H).mono ?_;rintro x H ⟨rfl,rfl⟩;simp (maxSteps:=9^7)-implicitDefEqProofs+contextual [-X.ev];rw [←d];by_cases c:w≤b
  ·simp [lz,c]
  ·simp [lz,c]
 ·refine ⟨195,rfl,fun H=>?_⟩
  refine Ca.aV (F:=KC) rfl rfl rfl ?_;simp (maxSteps:=9^7)-implicitDefEqProofs+contextual [-X.ev,KC];apply ah
  ·(simp-implicitDefEqProofs [-X.ev];rfl)
  refine (xG (decide (a=b)) H).mono ?_;rintro x H ⟨rfl,rfl⟩;simp (maxSteps:=9^7)-implicitDefEqProofs+contextual [-X.ev];rw [←d];simp [lz]
 ·refine ⟨197,rfl,fun H=>?_⟩
  refine Ca.aV (F:=KD) rfl rfl rfl ?_;simp (maxSteps:=9^7)-implicitDefEqProofs+contextual [-X.ev,KD];apply ah
  ·(simp-implicitDefEqProofs [-X.ev];rfl)
  refine (xG (decide (a<b)) H).mono ?_;rintro x H ⟨rfl,rfl⟩;simp (maxSteps:=9^7)-implicitDefEqProofs+contextual [-X.ev];rw [←d];simp [lz]
theorem QD {op w a b:Int} {H:AH} (h:H.n0≤H.nx) (o:(2≤op∧op≤11)∨op=13∨op=14) (c:1≤w∧w≤8) (m:0≤a∧a<2^w.toNat) (l:0≤b∧b<2^w.toNat):Ca E O 178 [.int .i64 op,.int .i64 w,.int .i64 a,.int .i64 b] H (fun x H'=>x= .tuple #[.int .i64 (lz op w a b),.int .i64 0]∧Ext H H'):=by
 refine Ca.aV (F:=Ku) rfl rfl rfl ?_;have k:mB 2 1 [.int .i64 0,.int .i64 0] H [(0,1,.int .i64 a),(1,1,.int .i64 b)]=some (.slice (some ⟨H.nx,0,none⟩) 2 2,H.alloc (.cells 1 [.int .i64 a,.int .i64 b])):=rfl;have g:=Ext.alloc H (.cells 1 [.int .i64 a,.int .i64 b]);have j:=VZ h a b;generalize H.alloc (.cells 1 [.int .i64 a,.int .i64 b])=s at k g j;simp (maxSteps:=9^7)-implicitDefEqProofs+contextual [-X.ev,Ku,k];apply ah
 ·(simp-implicitDefEqProofs [-X.ev];rfl)
 refine (N4 j (by simp)).mono ?_;rintro x s ⟨rfl,rfl⟩;have e:(bl w&&[a,b].all (isWord w))=true:=by simp [bl,c,me c m,me c l]
 rw [e];simp (maxSteps:=9^7)-implicitDefEqProofs+contextual [-X.ev];apply ah
 ·(simp-implicitDefEqProofs [-X.ev];rfl)
 refine (Lo (op:=op) (g.wf h)).mono ?_;rintro x d ⟨rfl,r⟩;obtain ⟨f,p,q⟩:=GR o c m l;rw [p];simp (maxSteps:=9^7)-implicitDefEqProofs+contextual [-X.ev];apply jR
 ·(simp-implicitDefEqProofs [-X.ev,-Value.func.injEq];rfl)
 ·(simp-implicitDefEqProofs [-X.ev];rfl)
 refine (q d).mono ?_;rintro x d ⟨y,rfl,n,rfl⟩;simp (maxSteps:=9^7)-implicitDefEqProofs+contextual [-X.ev];apply ah
 ·(simp-implicitDefEqProofs [-X.ev];rfl)
 refine (vj c d).mono ?_;rintro x d ⟨rfl,rfl⟩;have i:=BB (x:=y) (w:=w.toNat) (by omega);rw [n]at i;simp (maxSteps:=9^7)-implicitDefEqProofs+contextual [-X.ev,i,g.trans r]
end
section
open Go
def QE (l:List Int) (i:Int):Int:=(l[i.toNat]?).getD 0
def bT (V:List Vr) (n:Int):Int:=df ((V.take n.toNat).map (·.cells))
def fE (l:List Int) (k:Nat):Int:=(l[k]?).getD 0
def storeAt (S:List (List Int)) (cp:Int):List Int:=(S[cp.toNat]?).getD []
mutual
def bz (w:Int) (V:List Vr) (S:List (List Int)):bV→Int
 | .mk op n cp args=>if op=0 then n else if op=1 then QE (storeAt S cp) (bT V n+fE (cL w V S args) 0%al V n)
   else if op=12 then 2^w.toNat- 1- fE (cL w V S args) 0 else if op=15 then(if fE (cL w V S args) 0=0 then fE (cL w V S args) 2 else fE (cL w V S args) 1)
   else lz op w (fE (cL w V S args) 0) (fE (cL w V S args) 1)
def cL (w:Int) (V:List Vr) (S:List (List Int)):List bV→List Int
 |[]=>[]
 |e::es=>bz w V S e::cL w V S es
end
theorem sv {w:Int} {V:List Vr} {S:List (List Int)}:∀(l:List bV) (i:Nat),(cL w V S l)[i]?=(l[i]?).map (bz w V S)
 |[],i=>by simp [cL]
 |e::es,0=>by simp [cL]
 |e::es,i+1=>by simp [cL,sv es i]
structure Ev where
 kind:Int
 at_:Int
 val:Int
mutual
def nq (w:Int) (V:List Vr) (S:List (List Int)):bV→List Ev
 | .mk op n cp args=>eR w V S args++if op=1∧args≠[]then [⟨1,n,fE (cL w V S args) 0%al V n⟩]else []
def eR (w:Int) (V:List Vr) (S:List (List Int)):List bV→List Ev
 |[]=>[]
 |e::es=>nq w V S e++eR w V S es
end
theorem pG {V:List Vr} (h:∀v∈V,1≤v.cells∧v.cells≤8) (g:V.length≤18):∀i,i≤V.length→(i:Int)≤df ((V.take i).map (·.cells))∧df ((V.take i).map (·.cells))≤8*i∧∀j,j≤i→df ((V.take j).map (·.cells))≤df ((V.take i).map (·.cells)):=by
 intro i
 induction i with
 |zero=>intro _;exact ⟨by simp [df],by simp [df],fun j c=>by rw [show j=0 by omega];exact Int.le_refl _⟩
 |succ i ih=>
  intro hi;obtain ⟨f,h2,d⟩:=ih (by omega)
  obtain ⟨y,b⟩:∃y,V[i]?=some y:=⟨_,aqU (by omega)⟩
  have k:=h y (aqZ b)
  have e:df ((V.take (i+1)).map (·.cells))=df ((V.take i).map (·.cells))+y.cells:=by
   rw [arf];simp only [b,Option.toList_some,List.map_append,List.map_cons,List.map_nil,df,List.foldl_append,List.foldl_cons,List.foldl_nil];exact ai ⟨by unfold df at f;omega,by unfold df at h2;omega⟩
  refine ⟨by omega,by omega,fun j c=>?_⟩;by_cases a:j=i+1
  ·subst a;exact Int.le_refl _
  ·have:=d j (by omega);omega
theorem ko {w:Int} {V:List Vr} (h:aA w V=true):(∀v∈V,1≤v.cells∧v.cells≤8)∧V.length≤18∧df (V.map (·.cells))≤48:=by
 refine ⟨fun v a=>?_,(aF h).2.2.2,?_⟩
 ·obtain ⟨i,hi,e⟩:=List.mem_iff_getElem.1 a
  exact kJ h (i:=i) (by rw [aqU hi,e])
 ·rw [fN]at h;simp only [aqX,aq6]at h;exact h.2.2.2.2
theorem vk {w:Int} {V:List Vr} (h:aA w V=true) {n:Int} (p:0≤n∧n<V.length) (i:Int):
 0≤bT V n∧bT V n≤48∧1≤al V n∧al V n≤8∧0≤i%al V n∧i%al V n<al V n∧bT V n+i%al V n<df (V.map (·.cells)):=by
 obtain ⟨a,h2,q⟩:=ko h
 obtain ⟨y,b⟩:∃y,V[n.toNat]?=some y:=⟨_,aqU (by omega)⟩
 have d:al V n=y.cells:=by simp [al,b]
 have o:=a y (aqZ b);obtain ⟨k,j,_⟩:=pG a h2 n.toNat (by omega);obtain ⟨t,s,r⟩:=pG a h2 (n.toNat+1) (by omega);obtain ⟨_,_,c⟩:=pG a h2 V.length (aqY _)
 have e:df ((V.take (n.toNat+1)).map (·.cells))=df ((V.take n.toNat).map (·.cells))+y.cells:=by
  rw [arf];simp only [b,Option.toList_some,List.map_append,List.map_cons,List.map_nil,df,List.foldl_append,List.foldl_cons,List.foldl_nil];exact ai ⟨by unfold df at k;omega,by unfold df at j;omega⟩
 have g:=c (n.toNat+1) (by omega);have f:=c n.toNat (by omega);rw [List.take_length]at g f;have m:=Int.emod_nonneg i (show y.cells≠0 by omega);have l:=Int.emod_lt_of_pos i (show 0<y.cells by omega);rw [d];unfold bT;omega
def GS (w:Int) (V:List Vr) (S:List (List Int)):Prop:=∀s∈S,bK w V s=true
theorem lA {w:Int} {V:List Vr} {s:List Int} (c:1≤w∧w≤8) (h:bK w V s=true) {i:Int} (hi:0≤i∧i<df (V.map (·.cells))):∃a,s[i.toNat]?=some a∧0≤a∧a<2^w.toNat∧QE s i=a:=by
 simp only [bK,aqX,aq6,ara]at h
 obtain ⟨a,b⟩:∃y,s[i.toNat]?=some y:=⟨_,aqU (by omega)⟩
 have:=h.2 a (aqZ b);rw [jV c]at this;simp at this;exact ⟨a,b,this.1,this.2,by simp [QE,b]⟩
theorem nu {w k op n cp:Int} {V:List Vr} {args:List bV} (p:1≤w∧w≤8) (h:cY w V k (.mk op n cp args)=true):
 (∀e∈args,cY w V k e=true)∧((op=0∧args=[]∧0≤n∧n<2^w.toNat)∨(op=1∧0≤n∧n<V.length∧0≤cp∧cp<k∧((args=[]∧¬ 1<al V n)∨(∃a,args=[a])∧1<al V n))∨(op=12∧∃a,args=[a])∨(op=15∧∃a b c,args=[a,b,c])∨
  (((2≤op∧op≤11)∨op=13∨op=14)∧∃a b,args=[a,b])):=by
 rw [cY,aqX]at h;refine ⟨iE.1 h.2,?_⟩;have d:=h.1;rw [u7 p,aqX,aq6]at d;obtain ⟨d,h2⟩:=d;unfold lr at d;unfold tZ at h2;by_cases o:op=0
 ·rw [if_pos o]at d h2
  simp at h2;exact .inl ⟨o,arv (by omega),h2.1,h2.2.1⟩
 rw [if_neg o]at d h2;by_cases f:op=1
 ·rw [if_pos f]at h2
  simp at h2;by_cases g:0≤n∧n<V.length
  ·rw [if_pos ⟨f,g⟩]at d
   refine .inr (.inl ⟨f,g.1,g.2,h2.1,h2.2,?_⟩);by_cases i:1<al V n
   ·rw [if_pos i]at d
    exact .inr ⟨arD.1 (by omega),i⟩
   ·rw [if_neg i]at d
    exact .inl ⟨arv (by omega),i⟩
  ·rw [if_neg (fun q=>g q.2),if_neg (by omega),if_neg (by omega),if_neg (by omega)]at d
   omega
 rw [if_neg (fun q=>f q.1)]at d;by_cases m:(2≤op∧op≤11)∨op=13∨op=14
 ·rw [if_pos m]at d
  exact .inr (.inr (.inr (.inr ⟨m,N1 (by omega)⟩)))
 rw [if_neg m]at d;by_cases l:op=12
 ·rw [if_pos l]at d
  exact .inr (.inr (.inl ⟨l,arD.1 (by omega)⟩))
 rw [if_neg l]at d;by_cases j:op=15
 ·rw [if_pos j]at d
  exact .inr (.inr (.inr (.inl ⟨j,GM (by omega)⟩)))
 rw [if_neg j]at d;omega
theorem iQ {w:Int} {V:List Vr} {S:List (List Int)} (j:aA w V=true) (y:GS w V S):∀e,cY w V S.length e=true→0≤bz w V S e∧bz w V S e<2^w.toNat:=lX fun op n m args ih u=>by
 have f:1≤w∧w≤8:=⟨(aF j).1,(aF j).2.1⟩
 have z:=jo f;obtain ⟨d,g⟩:=nu f u;rcases g with⟨rfl,rfl,k,h2⟩|⟨rfl,k,h2,C,B,_⟩|⟨rfl,a,rfl⟩|⟨rfl,a,b,c,rfl⟩|⟨A,a,b,rfl⟩
 ·rw [bz,if_pos rfl];exact ⟨k,h2⟩
 ·rw [bz,if_neg (by omega),if_pos rfl]
  obtain ⟨s,l⟩:∃s,S[m.toNat]?=some s:=⟨_,aqU (by omega)⟩
  have t:=y s (aqZ l);have g:=vk j ⟨k,h2⟩ (fE (cL w V S args) 0);obtain ⟨x,_,r,p,o⟩:=lA f t (i:=bT V n+fE (cL w V S args) 0%al V n) (by omega);have:storeAt S m=s:=by simp [storeAt,l]
  rw [this,o];exact ⟨r,p⟩
 ·rw [bz,if_neg (by omega),if_neg (by omega),if_pos rfl]
  have:=ih a (by simp) (d a (by simp));simp only [cL,fE,aqT,Option.getD_some];omega
 ·rw [bz,if_neg (by omega),if_neg (by omega),if_neg (by omega),if_pos rfl]
  have h:=ih b (by simp) (d b (by simp));have g:=ih c (by simp) (d c (by simp));by_cases q:fE (cL w V S [a,b,c]) 0=0
  ·rw [if_pos q];exact g
  ·rw [if_neg q];exact h
 ·rw [bz,if_neg (by omega),if_neg (by omega),if_neg (by omega),if_neg (by omega)]
  have v:=ih a (by simp) (d a (by simp));have h:=ih b (by simp) (d b (by simp));simp only [cL,fE,aqT,List.getElem?_cons_succ,Option.getD_some];exact xF f v h
def gF (H:AH) (v:Value) (S:List (List Int)):Prop:=∃rows,Rows H 1 v rows∧fj (fun r s=>∃u,r=[u]∧fT H u s) rows S
theorem fj.get {α β:Type} {C:α→β→Prop}:∀{l:List α} {m:List β} {i:Nat} {y:β},fj C l m→m[i]?=some y→∃x,l[i]?=some x∧C x y
 |_,_,i,y,.nil,h=>by simp at h
 |_,_,0,y,.cons a b,h=>by simp at h;subst h;exact ⟨_,rfl,a⟩
 |_,_,i+1,y,.cons a b,h=>by obtain ⟨x,c,h2⟩:=fj.get b (by simpa using h);exact ⟨x,by simpa using c,h2⟩
theorem fj.imp {α β:Type} {C D:α→β→Prop} (h:∀a b,C a b→D a b):∀{l:List α} {m:List β},fj C l m→fj D l m
 |_,_,.nil=>.nil
 |_,_,.cons a b=>.cons (h _ _ a) (fj.imp h b)
theorem gF.sub {H H':AH} (X:Sub H H') {v:Value} {S:List (List Int)} (h:gF H v S):gF H' v S:=by
 obtain ⟨rows,a,h2⟩:=h;exact ⟨rows,a.sub X,h2.imp fun _ _ ⟨u,e,k⟩=>⟨u,e,k.sub X⟩⟩
theorem gF.at {H:AH} {v:Value} {S:List (List Int)} (h:gF H v S) {i:Nat} {s:List Int} (hi:S[i]?=some s):∃b o c a d,v= .slice (some ⟨b,o,none⟩) S.length c∧H.ld ⟨b,o+i,none⟩=some (.slice a s.length d)∧fT H (.slice a s.length d) s:=by
 obtain ⟨rows,l,h2⟩:=h;obtain ⟨r,g,u,rfl,f⟩:=h2.get hi;obtain ⟨b,o,c,e,k⟩:=l.at g;obtain ⟨a,d,m⟩:=f.len;rw [h2.length]at e;have:=aJ k (j:=0) rfl;rw [m]at this f;exact ⟨b,o,c,a,d,e,by simpa using this,f⟩
theorem gF.len {H:AH} {v:Value} {S:List (List Int)} (h:gF H v S):∃a c,v= .slice a S.length c:=by
 obtain ⟨rows,b,h2⟩:=h;obtain ⟨a,c,e⟩:=b.len;rw [h2.length]at e;exact ⟨a,c,e⟩
open Go
end
section
open Go
def Ev.row (e:Ev):List Value:=[.int .i64 e.kind,.int .i64 e.at_,.int .i64 e.val]
def du (l:List Ev):List (List Value):=l.map Ev.row
theorem tE (l m:List Ev):du (l++m)=du l++du m:=by simp [du]
theorem jC (l:List Ev):(du l).length=l.length:=by simp [du]
theorem jW {w:Int} {V:List Vr} {S:List (List Int)} {l:List bV} (h:∀e∈l,((nq w V S e).length:Int)≤av e):((eR w V S l).length:Int)≤aq l:=by
 induction l with
 |nil=>simp [eR,aq]
 |cons x l ih=>
  rw [eR,aq,aq3];have b:=h x (by simp);have h2:=ih fun e a=>h e (by simp [a])
  omega
theorem eS {w:Int} {V:List Vr} {S:List (List Int)}:∀e,((nq w V S e).length:Int)≤av e:=lX fun op n b args ih=>by
 have a:=jW (w:=w) (V:=V) (S:=S) ih;rw [nq,av,aq3];split
 ·simp;omega
 ·simp;omega
theorem GU {w:Int} {V:List Vr} {S:List (List Int)} {l:List bV} {i:Nat} {y:bV} (h:l[i]?=some y):eR w V S (l.take (i+1))=eR w V S (l.take i)++nq w V S y:=by
 induction l generalizing i with
 |nil=>simp at h
 |cons x l ih=>
  cases i with
  |zero=>simp at h;subst h;simp [eR]
  |succ i=>simp only [List.take_succ_cons,eR];rw [ih (by simpa using h),ark]
theorem xH {w:Int} {V:List Vr} {S:List (List Int)} (l:List bV) (i:Nat):((eR w V S (l.take i)).length:Int)≤aq l:=by
 have:=jW (w:=w) (V:=V) (S:=S) (l:=l.take i) fun e _=>eS e
 have:=bY l i;omega
open Go
abbrev vn:=Int×bE
def ek:List bE→Int→List vn
 |[],_=>[]
 | .mk op n args aB aE::ss,k=>(k,.mk op n args aB aE)::ek ss (k+1+aC aB+aC aE)
theorem nk.sub:∀{G H:AH} (X:Sub G H) {c:List Value} {e:bE},nk G c e→nk H c e:=by
 intro G H X
 have w:∀(N:Nat) (e:bV) (c:List Value),SizeOf.sizeOf e<N→oh G c e→oh H c e:=by
  intro N
  induction N with
  |zero=>intro e c h;omega
  |succ N ih=>
   intro e c i h
   cases h with| @mk op n O v rows args m k j t s r=>
   refine .mk m k j t (s.sub X) ?_
   have:∀(rows:List (List Value)) (l:List bV),(∀y∈l,SizeOf.sizeOf y<N)→fU G rows l→fU H rows l:=by
    intro rows l
    induction l generalizing rows with
    |nil=>intro _ h;cases h;exact .nil
    |cons x l f=>intro g h;cases h with|cons a b=>exact .cons (ih x _ (g x (by simp)) a) (f _ (fun y d=>g y (by simp [d])) b)
   exact this rows args (fun y d=>by have:=ars d;simp at i;omega) r
 have o:∀(rows:List (List Value)) (l:List bV),fU G rows l→fU H rows l:=by
  intro rows l
  induction l generalizing rows with
  |nil=>intro h;cases h;exact .nil
  |cons x l f=>intro h;cases h with|cons a b=>exact .cons (w _ x _ (aq9 _) a) (f _ b)
 have u:∀(N:Nat) (e:bE) (c:List Value),SizeOf.sizeOf e<N→nk G c e→nk H c e:=by
  intro N
  induction N with
  |zero=>intro e c h;omega
  |succ N ih=>
   intro e c i h
   cases h with| @mk op n I E F L rt K args J M m k j q p D h2 C B A z=>
   have key:∀(rows:List (List Value)) (l:List bE),(∀y∈l,SizeOf.sizeOf y<N)→gE G rows l→gE H rows l:=by
    intro rows l
    induction l generalizing rows with
    |nil=>intro _ h;cases h;exact .nil
    |cons x l f=>intro g h;cases h with|cons a b=>exact .cons (ih x _ (g x (by simp)) a) (f _ (fun y d=>g y (by simp [d])) b)
   refine .mk m k j q p (D.sub X) (o _ _ h2) (C.sub X) (key _ _ (fun y d=>?_) B) (A.sub X) (key _ _ (fun y d=>?_) z)
   ·have:=ars d;simp at i;omega
   ·have:=ars d;simp at i;omega
 exact fun{c e} h=>u _ e c (aq9 _) h
theorem gE.sub {G H:AH} (X:Sub G H):∀{rows:List (List Value)} {l:List bE},gE G rows l→gE H rows l
 |_,_,.nil=>.nil
 |_,_,.cons a b=>.cons (a.sub X) (gE.sub X b)
end
section
open Go
noncomputable def part (H:AH) (n:Nat) (S:Nat→Prop):AH:=H.tC ((List.range H.nx).filter fun b=>@decide (b<n∨S b) (Classical.propDecidable _))
theorem iR {H:AH} {n:Nat} {S:Nat→Prop} {b:Nat} {x:po}:(part H n S).get b=some x↔H.get b=some x∧n≤b∧¬ S b:=by
 unfold part;rw [sn];have a:b∈((List.range H.nx).filter fun b=>@decide (b<n∨S b) (Classical.propDecidable _))↔b<H.nx∧(b<n∨S b):=by rw [List.mem_filter,List.mem_range,@aq6 _ (Classical.propDecidable _)]
 constructor
 ·intro h
  split at h
  ·cases h
  ·rename_i q
   rw [a]at q;have c:=AH.aQ h;exact ⟨h,Nat.le_of_not_lt fun k=>q ⟨c,.inl k⟩,fun k=>q ⟨c,.inr k⟩⟩
 ·rintro ⟨h,e,d⟩
  rw [if_neg]
  ·exact h
  ·rw [a]
   rintro ⟨_,q|q⟩
   ·omega
   ·exact d q
theorem oC (H:AH) (n:Nat) (S:Nat→Prop):(part H n S).n0=H.n0:=vg _ _
theorem vq (H:AH) (n:Nat) (S:Nat→Prop):(part H n S).nx=H.nx:=vh _ _
theorem BE (H:AH) (n:Nat) (S:Nat→Prop):Sub (part H n S) H:=GJ _ _
theorem ec {H H':AH} {n m:Nat} {S S':Nat→Prop} (e:H'.n0=H.n0) (d:H.nx≤H'.nx) (h:∀b x,H.get b=some x→n≤b→¬ S b→H'.get b=some x∧m≤b∧¬ S' b):Sub (part H n S) (part H' m S'):=
 ⟨by rw [oC,oC,e],by rw [vq,vq];exact d,fun b x k=>iR.2 (let⟨a,f,c⟩:=iR.1 k;h b x a f c)⟩
theorem dE.part {H:AH} {sz n:Nat} {v:Value} {rows:List (List Value)} {S:Nat→Prop} (h:dE H sz v rows) (a:∀b,aS v b→n≤b∧¬ S b):dE (part H n S) sz v rows:=by
 refine ⟨?_,h.len⟩;rcases h.is with⟨rfl,rfl⟩|⟨b,rfl,d,c⟩
 ·exact .inl ⟨rfl,rfl⟩
 ·have:=a b ((ba _ _ _ _ _).2 rfl)
  exact .inr ⟨b,rfl,by rw [oC];exact d,iR.2 ⟨c,this.1,this.2⟩⟩
theorem dE.sub {G H:AH} (X:Sub G H) {sz:Nat} {v:Value} {rows:List (List Value)} (h:dE G sz v rows):dE H sz v rows:=by
 refine ⟨?_,h.len⟩;rcases h.is with⟨rfl,rfl⟩|⟨b,rfl,c,a⟩
 ·exact .inl ⟨rfl,rfl⟩
 ·exact .inr ⟨b,rfl,by rw [X.n0];exact c,X.get _ _ a⟩
abbrev yY:Nat→Prop:=fun _=>False
theorem oh.sub {G H:AH} (X:Sub G H):∀{c:List Value} {e:bV},oh G c e→oh H c e:=by
 have r:∀(N:Nat) (e:bV) (c:List Value),SizeOf.sizeOf e<N→oh G c e→oh H c e:=by
  intro N
  induction N with
  |zero=>intro e c h;omega
  |succ N ih=>
   intro e c q h
   cases h with| @mk op n s v rows args k j i p o m=>
   refine .mk k j i p (o.sub X) ?_
   have:∀(rows:List (List Value)) (l:List bV),(∀y∈l,SizeOf.sizeOf y<N)→fU G rows l→fU H rows l:=by
    intro rows l
    induction l generalizing rows with
    |nil=>intro _ h;cases h;exact .nil
    |cons x l g=>intro f h;cases h with|cons a b=>exact .cons (ih x _ (f x (by simp)) a) (g _ (fun y d=>f y (by simp [d])) b)
   exact this rows args (fun y d=>by have:=ars d;simp at q;omega) m
 exact fun{c e} h=>r _ e c (aq9 _) h
theorem fU.sub {G H:AH} (X:Sub G H):∀{rows:List (List Value)} {l:List bV},fU G rows l→fU H rows l
 |_,_,.nil=>.nil
 |_,_,.cons a b=>.cons (a.sub X) (fU.sub X b)
theorem fU.snoc {H:AH}:∀{rows:List (List Value)} {l:List bV} {r:List Value} {y:bV},fU H rows l→oh H r y→fU H (rows++[r]) (l++[y])
 |_,_,_,_,.nil,h=>.cons h .nil
 |_,_,_,_,.cons a b,h=>.cons a (fU.snoc b h)
theorem mf {α:Type} {l:List α} {i:Nat} {y:α} (h:l[i]?=some y):l.take (i+1)=l.take i++[y]:=by rw [arf,h];rfl
theorem nv:∀l:List bV,(l.length:Int)≤aq l
 |[]=>by simp [aq]
 |x::l=>by have:=dR x;have:=nv l;simp [aq];omega
theorem sw:∀(N:Nat) (l:List bV) (A:Value) (rows:List (List Value)) (H:AH),SizeOf.sizeOf l<N→H.n0≤H.nx→Rows H 4 A rows→fU H rows l→l.length≤2^40→aq l≤2^40→
 Ca E O 140 [A] H (fun x H'=>∃rs,dE H' 4 x rs∧fU (part H' H.nx (aS x)) rs l∧Ext H H'∧∀b,aS x b→H.nx≤b):=by
 intro N
 induction N with
 |zero=>intro l A rows H h;omega
 |succ N ih=>
  intro l A rows H hN hw hr hl hlen vr;refine Ca.aV (F:=Km) rfl rfl rfl ?_;obtain ⟨p0,c0,L⟩:=hr.len;rw [hl.length]at L;simp (maxSteps:=9^7)-implicitDefEqProofs+contextual [-X.ev,Km,L];refine ch (fun k D H'=>Ext H H'∧∃(i:Nat) (z:Value) (rs:List (List Value)),i+k=l.length∧D.get 6=A∧D.get 3=z∧D.get 7= .int .i64 l.length∧D.get 8= .int .i64 i∧dE H' 4 z rs∧rs.length=i∧fU (part H' H.nx (aS z)) rs (l.take i)∧(∀b,aS z b→H.nx≤b)) ?_ l.length ⟨Ext.refl _,0,.slice none 0 0,[],by simp,by simp [L],by simp,by simp [L],by simp,dE.nil _ _,rfl,by simpa using fU.nil,fun b a=>absurd a (dG _ _ _)⟩;rintro k D f ⟨u,i,z,rs,hi,f6,f3,f7,f8,R,zy,Z,jN⟩;have C:=u.wf hw;by_cases h:i<l.length
  ·obtain ⟨y,K⟩:∃y,l[i]?=some y:=⟨_,aqU h⟩
   obtain ⟨op,n,d,args⟩:=y;obtain ⟨b,o,c',va,r,cD,bC,rfl,lW⟩:=fU.row (hr.ext u) (hl.ext u) K;simp only [bV.op,bV.n,bV.cp]at bC lW;have QF:=f6;rw [cD]at QF;have oA:=ars (aqZ K);have U:=gK K;have ht2:=bY l (i+1);have ht3:=bY l i;rw [av]at U;have hla:=nv args
   cases lW with| @mk _ _ _ _ ra _ i1 i2 i3 Bw FL W=>
   obtain ⟨p,ZP,e,aeu,VC,q,B⟩:=dQ (H:=f) C (z:=4) (c:=[.int .i64 0,.int .i64 0,.int .i64 0,.slice none 0 0]) (vs:=[.int .i64 op,.int .i64 n,.int .i64 d,va]) rfl;have q0:p.ld ⟨f.nx,0,none⟩=some (.int .i64 op):=B 0 _ rfl;have q1:p.ld ⟨f.nx,1,none⟩=some (.int .i64 n):=B 1 _ rfl;have q2:p.ld ⟨f.nx,2,none⟩=some (.int .i64 d):=B 2 _ rfl;have q3:p.ld ⟨f.nx,3,none⟩=some va:=B 3 _ rfl;clear B;replace q:p.ldn ⟨f.nx,0,none⟩ 4=some [.int .i64 op,.int .i64 n,.int .i64 d,va]:=q;have iP:=e.wf C
   have g2:p.get f.nx=some (.cells 4 [.int .i64 op,.int .i64 n,.int .i64 d,va]):=by
    obtain ⟨H2',s2,_,_,_,g⟩:=iq C (z:=4) (c:=[.int .i64 0,.int .i64 0,.int .i64 0,.slice none 0 0]) (vs:=[.int .i64 op,.int .i64 n,.int .i64 d,va]) rfl;rw [ZP]at s2;cases s2;exact g
   have lt2:=AH.aQ g2;simp (maxSteps:=9^7)-implicitDefEqProofs+contextual [-X.ev,QF,f3,f7,f8,h,bC,ZP,q3];apply ah
   ·(simp-implicitDefEqProofs [-X.ev];rfl)
   refine (ih args va ra p (by simp at oA;omega) iP (FL.ext e) (W.ext e) (by omega) (by omega)).mono ?_;rintro x0 H3 ⟨m,o3,e3,j,k3⟩;obtain ⟨t,s,hx⟩:=o3.shape;subst hx;have pj:=j.wf iP;have g3:=j.get g2;obtain ⟨G,s4,w,yW,I,g4⟩:=bH g3 (by rw [j.n0,e.n0];exact C) (k:=3) (vs:=[.slice t m.length s]) (by simp);have gU:aI [.int .i64 op,.int .i64 n,.int .i64 d,va] 3 [.slice t m.length s]=[.int .i64 op,.int .i64 n,.int .i64 d,.slice t m.length s]:=rfl;rw [gU]at g4;have qq:=w.wf pj;have h04:G.n0≤f.nx:=by rw [I,j.n0,e.n0];exact C
   have l4:G.ldn ⟨f.nx,0,none⟩ 4=some [.int .i64 op,.int .i64 n,.int .i64 d,.slice t m.length s]:=by rw [bB g4 h04 (by simp)];rfl
   have P:∀b,aS z b→b<f.nx:=fun b a=>R.lt a
   have Q:dE G 4 z rs:=(R.ext (e.trans j)).mod w (fun b a q=>by have:=P b a;omega);have Y:=xD (sz:=4) (z:=[.int .i64 0,.int .i64 0,.int .i64 0,.slice none 0 0]) (H:=G) (v:=.agg #[.int .i64 op,.int .i64 n,.int .i64 d,.slice t m.length s]) rfl rfl rfl;simp only [gh]at Y
   obtain ⟨H5,Z3⟩:∃H5,G.alloc (.cells 4 [.int .i64 op,.int .i64 n,.int .i64 d,.slice t m.length s])=H5:=⟨_,rfl⟩
   obtain ⟨z',H6,V3,o6,M,J,c1,c2,c3,c4,c5,c6⟩:=jT (bytes:=48) qq Q (r:=[.int .i64 op,.int .i64 n,.int .i64 d,.slice t m.length s]) rfl Z3 (by omega) (by omega);rw [Z3]at Y;have hX:Ext H H6:=((u.trans (e.trans j)).mod w (fun b a=>by have:=u.nx;omega)).mod M jN;have n12:=e.nx;have n23:=j.nx;have DE:=u.nx;simp (maxSteps:=9^7)-implicitDefEqProofs+contextual [-X.ev,QF,f3,f7,f8,s4,l4,Y,V3];rw [ai (n:=(i:Int)+1) ⟨by omega,by omega⟩];refine ⟨k- 1,by omega,hX,i+1,by omega,cD.symm,by omega,_,o6,by simp [zy],?_,fun q hq=>by have:=J q hq;omega⟩;rw [mf K];refine fU.snoc (Z.sub (ec (c1.trans (I.trans (j.n0.trans e.n0))) (by omega) fun b y a V T=>?_)) (.mk i1 i2 i3 Bw (rows:=m) (Rows.sub (ec (n:=p.nx) (S:=yY) (c1.trans I) (by omega) fun b y a V T=>?_) (o3.part (fun b a=>⟨k3 b a,fun q=>q⟩)).rows) (e3.sub (ec (c1.trans I) (by omega) fun b y a V T=>?_)))
   ·have kb:=AH.aQ a
    refine ⟨M.get (fun q=>T q) (w.get (fun q=>by omega) (j.get (e.get a))),V,fun q=>by have:=J b q;omega⟩
   ·have kb:=AH.aQ a
    refine ⟨M.get (fun q=>by have:=P b q;omega) (w.get (fun q=>by omega) a),by omega,fun q=>by have:=J b q;omega⟩
   ·have kb:=AH.aQ a
    refine ⟨M.get (fun q=>by have:=P b q;omega) (w.get (fun q=>by omega) a),by omega,fun q=>by have:=J b q;omega⟩
  ·rw [aq1 (by omega)]at Z
   simp (maxSteps:=9^7)-implicitDefEqProofs+contextual [-X.ev,f6,f3,f7,f8,h,u];exact ⟨rs,R,Z,jN⟩
open Go
def Fit (H:AH) (v:Value):Prop:=∃a n c,v= .slice a n c∧n≤c∧(0<n→∃b o,a=some ⟨b,o,none⟩∧H.j9 b 5=true)
theorem vu {H:AH} {b z k:Nat} {c:List Value} (h:H.get b=some (.cells z c)) (a:k≤z):H.j9 b k=true:=by simp [AH.j9,h,a]
theorem dE.fit {H:AH} {v:Value} {rows:List (List Value)} (h:dE H 5 v rows):Fit H v:=by
 rcases h.is with⟨rfl,_⟩|⟨b,rfl,_,a⟩
 ·exact ⟨_,_,_,rfl,aqY _,fun h=>absurd h (by omega)⟩
 ·exact ⟨_,_,_,rfl,aqY _,fun _=>⟨_,_,rfl,vu a (aqY _)⟩⟩
theorem Fit.sub {G H:AH} (X:Sub G H) {v:Value} (h:Fit G v):Fit H v:=by
 obtain ⟨a,n,c,e,g,h2⟩:=h;refine ⟨a,n,c,e,g,fun h=>?_⟩;obtain ⟨b,o,i,d⟩:=h2 h;refine ⟨b,o,i,?_⟩;unfold AH.j9 at d⊢;split at d
 ·rename_i f;rw [X.get _ _ f];exact d
 ·cases d
mutual
inductive yZ (H:AH):List Value→bE→Prop where
 |mk {op n:Int} {va vt ve:Value} {ra rt re:List (List Value)} {args:List bV} {aB aE:List bE}:jG op→jG n→args.length<2^60→aB.length<2^60→aE.length<2^60→
  Rows H 4 va ra→fU H ra args→Rows H 5 vt rt→eo H rt aB→Fit H vt→Rows H 5 ve re→eo H re aE→Fit H ve→yZ H [.int .i64 op,.int .i64 n,va,vt,ve] (.mk op n args aB aE)
inductive eo (H:AH):List (List Value)→List bE→Prop where
 |nil:eo H [] []
 |cons {r:List Value} {e:bE} {rs:List (List Value)} {es:List bE}:yZ H r e→eo H rs es→eo H (r::rs) (e::es)
end
mutual
theorem yZ.toC {H:AH} {c:List Value} {e:bE}:yZ H c e→nk H c e
 | .mk a b c d e g h rt lt _ f le _=>.mk a b c d e g h rt (eo.V4 lt) f (eo.V4 le)
theorem eo.V4 {H:AH} {c:List (List Value)} {e:List bE}:eo H c e→gE H c e
 | .nil=>.nil
 | .cons a b=>.cons (yZ.toC a) (eo.V4 b)
end
mutual
theorem yZ.sub {G H:AH} (X:Sub G H) {c:List Value} {e:bE}:yZ G c e→yZ H c e
 | .mk a b c d e g h rt lt i f le j=>.mk a b c d e (g.sub X) (fU.sub X h) (rt.sub X) (eo.sub X lt) (i.sub X) (f.sub X) (eo.sub X le) (j.sub X)
theorem eo.sub {G H:AH} (X:Sub G H) {c:List (List Value)} {e:List bE}:eo G c e→eo H c e
 | .nil=>.nil
 | .cons a b=>.cons (yZ.sub X a) (eo.sub X b)
end
theorem eo.length {H:AH}:∀{c:List (List Value)} {e:List bE},eo H c e→c.length=e.length:=fun h=>h.V4.length
theorem eo.snoc {H:AH}:∀{rows:List (List Value)} {l:List bE} {r:List Value} {y:bE},eo H rows l→yZ H r y→eo H (rows++[r]) (l++[y])
 |_,_,_,_,.nil,h=>.cons h .nil
 |_,_,_,_,.cons a b,h=>.cons a (eo.snoc b h)
theorem yZ.len {H:AH} {c:List Value} {s:bE} (h:yZ H c s):c.length=5:=by cases h;rfl
abbrev zS:List Value:=[.int .i64 0,.int .i64 0,.slice none 0 0,.slice none 0 0,.slice none 0 0]
theorem eI:∀l:List bE,(l.length:Int)≤au l
 |[]=>by simp [au]
 |x::l=>by have:=lu x;have:=eI l;simp [au];omega
theorem xI {H1 a:AH} {n m:Nat} {z:Value} {rs:List (List Value)} {l:List bE} {cs:List Value} {s:bE} (x:H1.n0≤H1.nx) (X:Ext H1 a) (F:H1.nx≤m) (g:n≤H1.nx) (k:dE H1 5 z rs) (B:eo (part H1 n (aS z)) rs l) (h:yZ (part a m yY) cs s) (c:rs.length≤2^40):
 ∃d H4 e,mB 1 5 zS a [(0,5,.agg cs.toArray)]=some (.slice (some ⟨a.nx,0,none⟩) 1 1,H4)∧bc 5 88 H4 z (.slice (some ⟨a.nx,0,none⟩) 1 1)=some (d,e)∧dE e 5 d (rs++[cs])∧eo (part e n (aS d)) (rs++[cs]) (l++[s])∧Mod (aS z) a e∧∀b,aS d b→a.nx≤b:=by
 have w:=X.wf x;have i:=xD (sz:=5) (z:=zS) (H:=a) (v:=.agg cs.toArray) (by simpa using h.len) rfl rfl;simp only [gh]at i
 obtain ⟨H4,p⟩:∃H4,a.alloc (.cells 5 cs)=H4:=⟨_,rfl⟩
 obtain ⟨d,D,C,u,j,f,r,L,K,J,I,G⟩:=jT (bytes:=88) w (k.ext X) h.len p (by omega) (by omega);rw [p]at i;have t:∀b,aS z b→b<H1.nx:=fun b c=>k.lt c
 have E:=X.nx;refine ⟨d,H4,D,i,C,u,eo.snoc (B.sub (ec (r.trans X.n0) (by omega) fun b y c g o=>?_)) (h.sub (ec r (by omega) fun b y c g o=>?_)),j,f⟩
 ·have A:=AH.aQ c
  exact ⟨j.get (fun q=>o q) (X.get c),g,fun q=>by have:=f b q;omega⟩
 ·have A:=AH.aQ c
  exact ⟨j.get (fun q=>by have:=t b q;omega) c,by omega,fun q=>by have:=f b q;omega⟩
theorem DI:∀(N:Nat) (s:bE) (c:List Value) (H:AH),SizeOf.sizeOf s<N→H.n0≤H.nx→nk H c s→bg s≤2^40→
 Ca E O 104 [.agg c.toArray] H (fun x H'=>∃cs,x= .agg cs.toArray∧yZ (part H' H.nx yY) cs s∧Ext H H'):=by
 intro N
 induction N with
 |zero=>intro s c H h;omega
 |succ N ih=>
  intro s c H hN L hs vr
  cases hs with| @mk op n va vt ve ra rt re args D I i1 i2 i3 i4 i5 h1 h2 h3 h4 h5 h6=>
  refine Ca.aV (F:=Kf) rfl rfl rfl ?_;rw [bg]at vr;have na:=a6 args;have nt:=cT D;have ne:=cT I;have la:=nv args;have lt:=eI D;have le:=eI I;obtain ⟨p1,q1,wB⟩:=h3.len;rw [h4.length]at wB;obtain ⟨p2,q2,tz⟩:=h5.len;rw [h6.length]at tz;have gB:=cg H (.cells 5 [.int .i64 op,.int .i64 n,va,vt,ve]);have X1:=Ext.alloc H (.cells 5 [.int .i64 op,.int .i64 n,va,vt,ve]);have d0:(H.alloc (.cells 5 [.int .i64 op,.int .i64 n,va,vt,ve])).ld ⟨H.nx,0,none⟩=some (.int .i64 op):=aj L rfl;have d1:(H.alloc (.cells 5 [.int .i64 op,.int .i64 n,va,vt,ve])).ld ⟨H.nx,1,none⟩=some (.int .i64 n):=aj L rfl;have d2:(H.alloc (.cells 5 [.int .i64 op,.int .i64 n,va,vt,ve])).ld ⟨H.nx,2,none⟩=some va:=aj L rfl;have d3:(H.alloc (.cells 5 [.int .i64 op,.int .i64 n,va,vt,ve])).ld ⟨H.nx,3,none⟩=some vt:=aj L rfl;have d4:(H.alloc (.cells 5 [.int .i64 op,.int .i64 n,va,vt,ve])).ld ⟨H.nx,4,none⟩=some ve:=aj L rfl;have d:(H.alloc (.cells 5 [.int .i64 op,.int .i64 n,va,vt,ve])).ldn ⟨H.nx,0,none⟩ 5=some [.int .i64 op,.int .i64 n,va,vt,ve]:=a7 L 5 rfl;generalize cz:H.alloc (.cells 5 [.int .i64 op,.int .i64 n,va,vt,ve])=H1 at X1 d0 d1 d2 d3 d4 d;have bo:=X1.wf L;rw [cz]at gB;have X2:=Ext.alloc H1 (.cells 5 zS);have gR:=cg H1 (.cells 5 zS)
  obtain ⟨H2,kl⟩:∃H2,H1.alloc (.cells 5 zS)=H2:=⟨_,rfl⟩
  rw [kl]at X2 gR;have jB:=X2.wf bo;have j8:=X1.trans X2;have ltB:=AH.aQ gB;have ltR:=AH.aQ gR;have d22:=X2.ld d2;have n1:=X1.nx;have n2:=X2.nx;simp at hN;simp (maxSteps:=9^7)-implicitDefEqProofs+contextual [-X.ev,Kf,cz,kl,d22];apply ah
  ·(simp-implicitDefEqProofs [-X.ev];rfl)
  refine (sw _ args va ra H2 (aq9 _) jB (h1.ext j8) (h2.ext j8) (by omega) (by omega)).mono ?_;rintro x H3 ⟨t,oa,ea,X3,ka⟩;obtain ⟨p,m,hx⟩:=oa.shape;subst hx;have pj:=X3.wf jB;have n3:=X3.nx;obtain ⟨H4,s4,M4,yW,nm,Tx⟩:=bH (X3.get (X2.get gB)) (by rw [X3.n0,X2.n0,X1.n0];exact L) (k:=2) (vs:=[.slice p t.length m]) (by simp);have gU:aI [.int .i64 op,.int .i64 n,va,vt,ve] 2 [.slice p t.length m]=[.int .i64 op,.int .i64 n,.slice p t.length m,vt,ve]:=rfl;rw [gU]at Tx;have qq:=M4.wf pj;have qY:Ext H H4:=(j8.trans X3).mod M4 (fun b a=>by omega);have gR4:=M4.get (fun q=>by omega) (X3.get gR);have B0:H4.n0≤H.nx:=by rw [qY.n0];exact L
  have e3:=aG Tx B0 (k:=3) (v:=vt) rfl;have SU:=e3;rw [wB]at SU;simp (maxSteps:=9^7)-implicitDefEqProofs+contextual [-X.ev,s4,SU];refine ch (fun k g H'=>Ext H4 H'∧∃(i:Nat) (z:Value) (rs:List (List Value)),i+k=D.length∧g.get 1= .pointer (some ⟨H.nx,0,none⟩)∧g.get 2= .pointer (some ⟨H1.nx,0,none⟩)∧g.get 3=z∧g.get 4= .slice none 0 0∧g.get 14=vt∧g.get 15= .int .i64 D.length∧g.get 16= .int .i64 i∧dE H' 5 z rs∧rs.length=i∧eo (part H' H4.nx (aS z)) rs (D.take i)∧(∀b,aS z b→H4.nx≤b)) ?_ D.length ⟨Ext.refl _,0,.slice none 0 0,[],by simp,by simp,by simp,by simp,by simp,by simp [wB],by simp,by simp,dE.nil _ _,rfl,by simpa using eo.nil,fun b a=>absurd a (dG _ _ _)⟩;rintro k g l ⟨A,i,z,rs,hi,Z,W,T,R,f14,f15,f16,ow,zy,aH,jN⟩;have qt:=A.wf qq;have GK:=qY.trans A;by_cases h:i<D.length
  ·obtain ⟨y,K⟩:∃y,D[i]?=some y:=⟨_,aqU h⟩
   obtain ⟨u,w,jq,oD,oE⟩:=y;obtain ⟨b,o,c',oF,oG,oH,V5,V6,V7,cD,bC,_,_,_,_,_,j1,j2,j3,j4,j5,g1,g2,g3,g4,g5,g6⟩:=gE.row (h3.ext GK) (gE.ext GK h4) K;have EK:nk l [.int .i64 u,.int .i64 w,oF,oG,oH] (.mk u w jq oD oE):=.mk j1 j2 j3 j4 j5 g1 g2 g3 g4 g5 g6;have oA:=ars (aqZ K);have t1:=eE K;have t2:=bq D (i+1);have t3:=bq D i;have Y:=f14;rw [cD]at Y;obtain ⟨f,Lf,e,Qt,Qu,q,tB⟩:=dQ (H:=l) qt (z:=5) (c:=[.int .i64 0,.int .i64 0,.slice none 0 0,.slice none 0 0,.slice none 0 0]) (vs:=[.int .i64 u,.int .i64 w,oF,oG,oH]) rfl;have q0:f.ld ⟨l.nx,0,none⟩=some (.int .i64 u):=tB 0 _ rfl;have q1:f.ld ⟨l.nx,1,none⟩=some (.int .i64 w):=tB 1 _ rfl;have q2:f.ld ⟨l.nx,2,none⟩=some oF:=tB 2 _ rfl;have q3:f.ld ⟨l.nx,3,none⟩=some oG:=tB 3 _ rfl;have q4:f.ld ⟨l.nx,4,none⟩=some oH:=tB 4 _ rfl;clear tB;replace q:f.ldn ⟨l.nx,0,none⟩ 5=some [.int .i64 u,.int .i64 w,oF,oG,oH]:=q;have Gx:=e.wf qt;simp (maxSteps:=9^7)-implicitDefEqProofs+contextual [-X.ev,Y,T,f15,f16,h,bC,Lf,q];apply ah
   ·(simp-implicitDefEqProofs [-X.ev];rfl)
   refine (ih _ _ f (by omega) Gx (nk.ext e EK) (by omega)).mono ?_;rintro x M ⟨cs,rfl,hk,J⟩;obtain ⟨z',H8,H9,b8,a9,o9,s9,M9,k9⟩:=xI qt (e.trans J) e.nx A.nx ow aH hk (by omega);have n6:=e.nx;have n7:=J.nx;have n5:=A.nx;simp (maxSteps:=9^7)-implicitDefEqProofs+contextual [-X.ev,Y,T,f15,f16,b8,a9];rw [ai (n:=(i:Int)+1) ⟨by omega,by omega⟩];exact ⟨k- 1,by omega,((A.trans e).trans J).mod M9 jN,i+1,by omega,Z,W,R,cD.symm,by omega,_,o9,by simp [zy],by rw [mf K];exact s9,fun q hq=>by have:=k9 q hq;omega⟩
  rw [aq1 (by omega)]at aH;have gB5:=A.get Tx;have B5:l.n0≤H.nx:=by rw [A.n0];exact B0
  have e4:=aG gB5 B5 (k:=4) (v:=ve) rfl;rw [tz]at e4;obtain ⟨C,B,hz⟩:=ow.shape;have n5:=A.nx;have Y:=f14;rw [wB]at Y;simp (maxSteps:=9^7)-implicitDefEqProofs+contextual [-X.ev,Z,W,T,R,Y,f15,f16,h,e4];refine ch (fun k g H'=>Ext l H'∧∃(j:Nat) (z2:Value) (r:List (List Value)),j+k=I.length∧g.get 1= .pointer (some ⟨H.nx,0,none⟩)∧g.get 2= .pointer (some ⟨H1.nx,0,none⟩)∧g.get 3=z∧g.get 4=z2∧g.get 27=ve∧g.get 28= .int .i64 I.length∧g.get 29= .int .i64 j∧dE H' 5 z2 r∧r.length=j∧eo (part H' l.nx (aS z2)) r (I.take j)∧(∀b,aS z2 b→l.nx≤b)) ?_ I.length ⟨Ext.refl _,0,.slice none 0 0,[],by simp,by simp [Z],by simp [W],by simp [T],by simp [R],by simp [tz],by simp,by simp,dE.nil _ _,rfl,by simpa using eo.nil,fun b a=>absurd a (dG _ _ _)⟩;clear Z W T R f14 Y f15 f16 g;rintro k g f ⟨e,j,z2,r,hj,Z,W,T,R,f27,f28,f29,Z5,aeY,r6,QH⟩;have Dz:=e.wf qt;have X06:=GK.trans e;by_cases h':j<I.length
  ·obtain ⟨y,K⟩:∃y,I[j]?=some y:=⟨_,aqU h'⟩
   obtain ⟨u,w,jq,oD,oE⟩:=y;obtain ⟨b,o,c',oF,oG,oH,V5,V6,V7,cD,bC,_,_,_,_,_,j1,j2,j3,j4,j5,g1,g2,g3,g4,g5,g6⟩:=gE.row (h5.ext X06) (gE.ext X06 h6) K;have EK:nk f [.int .i64 u,.int .i64 w,oF,oG,oH] (.mk u w jq oD oE):=.mk j1 j2 j3 j4 j5 g1 g2 g3 g4 g5 g6;have oA:=ars (aqZ K);have t1:=eE K;have t2:=bq I (j+1);have t3:=bq I j;have DJ:=f27;rw [cD]at DJ;obtain ⟨M,sH7,J,amT,amU,q,Ty⟩:=dQ (H:=f) Dz (z:=5) (c:=[.int .i64 0,.int .i64 0,.slice none 0 0,.slice none 0 0,.slice none 0 0]) (vs:=[.int .i64 u,.int .i64 w,oF,oG,oH]) rfl;have q0:M.ld ⟨f.nx,0,none⟩=some (.int .i64 u):=Ty 0 _ rfl;have q1:M.ld ⟨f.nx,1,none⟩=some (.int .i64 w):=Ty 1 _ rfl;have q2:M.ld ⟨f.nx,2,none⟩=some oF:=Ty 2 _ rfl;have q3:M.ld ⟨f.nx,3,none⟩=some oG:=Ty 3 _ rfl;have q4:M.ld ⟨f.nx,4,none⟩=some oH:=Ty 4 _ rfl;clear Ty;replace q:M.ldn ⟨f.nx,0,none⟩ 5=some [.int .i64 u,.int .i64 w,oF,oG,oH]:=q;have ae0:=J.wf Dz;simp (maxSteps:=9^7)-implicitDefEqProofs+contextual [-X.ev,DJ,R,f28,f29,h',bC,sH7,q];apply ah
   ·(simp-implicitDefEqProofs [-X.ev];rfl)
   refine (ih _ _ M (by omega) ae0 (nk.ext J EK) (by omega)).mono ?_;rintro x H8 ⟨cs,rfl,hk,X8⟩;obtain ⟨z',Ha,Hb,b8,a9,o9,s9,M9,k9⟩:=xI Dz (J.trans X8) J.nx e.nx Z5 r6 hk (by omega);have n6:=e.nx;have n7:=J.nx;have n8:=X8.nx;simp (maxSteps:=9^7)-implicitDefEqProofs+contextual [-X.ev,DJ,R,f28,f29,b8,a9];rw [ai (n:=(j:Int)+1) ⟨by omega,by omega⟩];exact ⟨k- 1,by omega,((e.trans J).trans X8).mod M9 QH,j+1,by omega,Z,W,T,cD.symm,by omega,_,o9,by simp [aeY],by rw [mf K];exact s9,fun q hq=>by have:=k9 q hq;omega⟩
  rw [aq1 (by omega)]at r6;obtain ⟨Q,P,hz2⟩:=Z5.shape;have n6:=e.nx;have Z6:=e.get gB5;have gR6:=e.get (A.get gR4);have B6:f.n0≤H.nx:=by rw [e.n0];exact B5
  subst hz hz2;obtain ⟨M,s7,M7,Z1,DF,V8⟩:=bH Z6 B6 (k:=3) (vs:=[.slice C rs.length B]) (by simp);have ae1:aI [.int .i64 op,.int .i64 n,.slice p t.length m,vt,ve] 3 [.slice C rs.length B]=[.int .i64 op,.int .i64 n,.slice p t.length m,.slice C rs.length B,ve]:=rfl;rw [ae1]at V8;obtain ⟨H8,s8,M8,Tv,BD,V9⟩:=bH V8 (by rw [DF];exact B6) (k:=4) (vs:=[.slice Q r.length P]) (by simp);have QI:aI [.int .i64 op,.int .i64 n,.slice p t.length m,.slice C rs.length B,ve] 4 [.slice Q r.length P]=[.int .i64 op,.int .i64 n,.slice p t.length m,.slice C rs.length B,.slice Q r.length P]:=rfl;rw [QI]at V9;have l8:H8.ldn ⟨H.nx,0,none⟩ 5=some [.int .i64 op,.int .i64 n,.slice p t.length m,.slice C rs.length B,.slice Q r.length P]:=by rw [bB V9 (by rw [BD,DF];exact B6) (by simp)];rfl
  have gR8:=M8.get (fun q=>by omega) (M7.get (fun q=>by omega) gR6);obtain ⟨H9,s9,M9,V2,N5,Wa⟩:=bH gR8 (by rw [BD,DF];omega) (k:=0) (vs:=[.int .i64 op,.int .i64 n,.slice p t.length m,.slice C rs.length B,.slice Q r.length P]) (by simp);have QJ:aI zS 0 [.int .i64 op,.int .i64 n,.slice p t.length m,.slice C rs.length B,.slice Q r.length P]=[.int .i64 op,.int .i64 n,.slice p t.length m,.slice C rs.length B,.slice Q r.length P]:=rfl;rw [QJ]at Wa;have l9:H9.ldn ⟨H1.nx,0,none⟩ 5=some [.int .i64 op,.int .i64 n,.slice p t.length m,.slice C rs.length B,.slice Q r.length P]:=by rw [bB Wa (by rw [N5,BD,DF];omega) (by simp)];rfl
  have DJ:=f27;rw [tz]at DJ;simp (maxSteps:=9^7)-implicitDefEqProofs+contextual [-X.ev,Z,W,T,R,DJ,f28,f29,h',s7,s8,l8,s9,l9]
  have key:∀b x,H.nx≤b→b≠H.nx→b≠H1.nx→f.get b=some x→H9.get b=some x∧H.nx≤b∧¬ yY b:=fun b x a h1 h2 hg=>⟨M9.get h2 (M8.get h1 (M7.get h1 hg)),a,fun q=>q⟩
  have e09:H9.n0=f.n0:=N5.trans (BD.trans DF);have xa9:Sub (part H3 H2.nx yY) (part H9 H.nx yY):=ec (by rw [e09,e.n0,A.n0,nm]) (by omega) fun b x a hn _=>key b x (by omega) (by omega) (by omega) (e.get (A.get (M4.get (fun q=>by omega) a)))
  have V:Sub (part l H4.nx yY) (part H9 H.nx yY):=ec (by rw [e09,e.n0]) (by omega) fun b x a hn _=>key b x (by omega) (by omega) (by omega) (e.get a)
  have U:Sub (part f l.nx yY) (part H9 H.nx yY):=ec e09 (by omega) fun b x a hn _=>key b x (by omega) (by omega) (by omega) a
  have un:∀(G:AH) (k:Nat) (S:Nat→Prop),Sub (part G k S) (part G k yY):=fun G k S=>ec rfl (aqY _) fun b x a hn _=>⟨a,hn,fun q=>q⟩
  refine ⟨.mk i1 i2 i3 i4 i5 (dE.part (n:=H2.nx) (S:=yY) oa (fun b a=>⟨ka b a,fun q=>q⟩)|>.sub xa9).rows (ea.sub ((un _ _ _).trans xa9)) (dE.part (n:=H4.nx) (S:=yY) ow (fun b a=>⟨jN b a,fun q=>q⟩)|>.sub V).rows (aH.sub ((un _ _ _).trans V)) (dE.part (n:=H4.nx) (S:=yY) ow (fun b a=>⟨jN b a,fun q=>q⟩)|>.sub V).fit (dE.part (n:=l.nx) (S:=yY) Z5 (fun b a=>⟨QH b a,fun q=>q⟩)|>.sub U).rows (r6.sub ((un _ _ _).trans U)) (dE.part (n:=l.nx) (S:=yY) Z5 (fun b a=>⟨QH b a,fun q=>q⟩)|>.sub U).fit,?_⟩;exact (((X06.mod M7 (fun b a=>by omega)).mod M8 (fun b a=>by omega)).mod M9 (fun b a=>by omega))
end
section
open Go
structure fw (H:AH) (sz:Nat) (v:Value) (rows:List (List Value)):Prop where
 is:(v= .slice none 0 0∧rows=[])∨∃b c junk,v= .slice (some ⟨b,0,none⟩) rows.length c∧H.n0≤b∧H.get b=some (.cells sz (rows.flatten++junk))∧rows.length*sz+junk.length=c*sz∧rows.length≤c
 len:∀r∈rows,r.length=sz
theorem dE.QK {H:AH} {sz:Nat} {v:Value} {rows:List (List Value)} (h:dE H sz v rows):fw H sz v rows:=by
 refine ⟨?_,h.len⟩;rcases h.is with⟨rfl,rfl⟩|⟨b,rfl,c,a⟩
 ·exact .inl ⟨rfl,rfl⟩
 ·exact .inr ⟨b,_,[],rfl,c,by simpa using a,by simp,aqY _⟩
theorem fw.lt {H:AH} {sz b:Nat} {v:Value} {rows:List (List Value)} (h:fw H sz v rows) (a:aS v b):b<H.nx:=by
 rcases h.is with⟨rfl,_⟩|⟨e,c,j,rfl,_,d,_⟩
 ·exact absurd a (dG _ _ _)
 ·rw [(ba _ _ _ _ _).1 a];exact AH.aQ d
theorem fw.shape {H:AH} {sz:Nat} {v:Value} {rows:List (List Value)} (h:fw H sz v rows):∃a c,v= .slice a rows.length c:=by
 rcases h.is with⟨rfl,rfl⟩|⟨b,c,j,rfl,_⟩
 ·exact ⟨_,_,rfl⟩
 ·exact ⟨_,_,rfl⟩
theorem fw.mod {S:Nat→Prop} {H H':AH} {sz:Nat} {v:Value} {rows:List (List Value)} (h:fw H sz v rows) (M:Mod S H H') (a:∀b,aS v b→¬ S b):fw H' sz v rows:=by
 refine ⟨?_,h.len⟩;rcases h.is with⟨rfl,rfl⟩|⟨b,c,j,rfl,f,d,e,h2⟩
 ·exact .inl ⟨rfl,rfl⟩
 ·exact .inr ⟨b,c,j,rfl,by rw [M.n0];exact f,M.get (a b ((ba _ _ _ _ _).2 rfl)) d,e,h2⟩
theorem fw.ext {H H':AH} {sz:Nat} {v:Value} {rows:List (List Value)} (h:fw H sz v rows) (X:Ext H H'):fw H' sz v rows:=h.mod (Mod.bN (S:=fun _=>False) X) (by simp)
theorem fw.rows {H:AH} {sz:Nat} {v:Value} {rows:List (List Value)} (h:fw H sz v rows):Rows H sz v rows:=by
 rcases h.is with⟨rfl,rfl⟩|⟨b,c,j,rfl,d,a,f,h2⟩
 ·exact ⟨_,_,rfl,by simp⟩
 ·refine ⟨_,_,rfl,fun i r hi=>⟨b,0,rfl,?_⟩⟩
  obtain ⟨e,g⟩:=iu h.len hi;rw [bB a d (by simp only [aq3];omega)];rw [Nat.zero_add,List.drop_append_of_le_length (by omega),List.take_append_of_le_length (by rw [List.length_drop];omega)];rw [e]
theorem pH (a b c d:List Value) (h:b.length=c.length):aI (a++(b++d)) a.length c=a++(c++d):=by
 induction a with
 |nil=>
  have:aI (b++d) 0 c=c++(b++d).drop c.length:=by cases (b++d)<;>rfl
  rw [List.nil_append,List.length_nil,this,←h,List.drop_left];rfl
 |cons x a ih=>simp only [List.cons_append,List.length_cons,aI,ih]
theorem fw.push {H H1:AH} {sz bytes:Nat} {s:Value} {rows:List (List Value)} {r:List Value} (u:H.n0≤H.nx) (n:fw H sz s rows) (O:0<sz) (m:r.length=sz) (C:H.alloc (.cells sz r)=H1) (i:(rows.length+1)*bytes≤2^47) (y:rows.length+1<2^62):
 ∃f H',bc sz bytes H1 s (.slice (some ⟨H.nx,0,none⟩) 1 1)=some (f,H')∧fw H' sz f (rows++[r])∧Mod (aS s) H H'∧(∀b,aS f b→aS s b∨H.nx≤b)∧H'.n0=H.n0∧H.nx≤H'.nx∧H1.nx≤H'.nx:=by
 rcases n.is with⟨rfl,rfl⟩|⟨b,c,d,rfl,z,w,A,P⟩
 ·obtain ⟨f,H',a,o,M,k,l,j,wf,E,D,t⟩:=jT (bytes:=bytes) u (dE.nil H sz) m C i y
  exact ⟨f,H',a,o.QK,M,fun b i=>.inr (k b i),l,j,t⟩
 subst C;have X:=Ext.alloc H (.cells sz r);have v:=X.get w
 have K:∀q∈rows++[r],q.length=sz:=by
  intro q p;rcases are.1 p with h|h
  ·exact n.len q h
  ·simp at h;subst h;exact m
 have J:pq (H.alloc (.cells sz r)) sz (.slice (some ⟨H.nx,0,none⟩) 1 1)=some r:=by
  have:=qX u sz r;rw [m]at this;simp [pq,nb,this,m]
 have G:(H.alloc (.cells sz r)).j9 b sz=true:=vu v (aqY _);have L:=bZ n.len;by_cases room:rows.length+1≤c
 ·have B:sz≤d.length:=by
   have:(rows.length+1)*sz≤c*sz:=Nat.mul_le_mul_right _ room;rw [Nat.succ_mul]at this;omega
  obtain ⟨H',st,M,j,l,g⟩:=bH v (by exact z) (k:=rows.length*sz) (vs:=r) (by simp only [aq3];omega);refine ⟨.slice (some ⟨b,0,none⟩) (rows.length+1) c,H',?_,⟨.inr ⟨b,c,d.drop sz,by simp,by rw [l];exact z,?_,?_,by simpa using room⟩,K⟩,(Mod.bN X).trans (M.mono fun x _ I=>(ba _ _ _ _ _).2 I),fun q p=>.inl ?_,l.trans X.n0,by rw [j];exact X.nx,by rw [j];exact aqY _⟩
  ·simp [bc,mA,J,i,y,room,G,st]
  ·rw [g]
   have e:=pH rows.flatten (d.take sz) r (d.drop sz) (by rw [List.length_take,m];omega);rw [List.take_append_drop,L]at e;rw [e];simp
  ·simp only [aq3,List.length_drop,List.length_singleton,Nat.succ_mul];omega
  ·rw [ba]at p⊢;exact p
 ·have N:c=rows.length:=by omega
  subst N;have B:d=[]:=arv (by omega);subst B;rw [List.append_nil]at w v
  have F:dE H sz (.slice (some ⟨b,0,none⟩) rows.length rows.length) rows:=⟨.inr ⟨b,rfl,z,w⟩,n.len⟩
  obtain ⟨f,H',a,o,M,k,l,j,wf,E,D,t⟩:=jT (bytes:=bytes) u F m rfl i y;exact ⟨f,H',a,o.QK,M,fun b i=>.inr (k b i),l,j,t⟩
theorem fw.last {H:AH} {sz:Nat} {v:Value} {rows:List (List Value)} {r:List Value} (h:fw H sz v (rows++[r])):∃b c,v= .slice (some ⟨b,0,none⟩) (rows.length+1) c∧rows.length+1≤c∧H.n0≤b∧b<H.nx∧H.j9 b sz=true∧H.ldn ⟨b,rows.length*sz,none⟩ sz=some r∧
 (∀(j:Nat) (x:Value),j<sz→∃H',H.st ⟨b,rows.length*sz+j,none⟩ [x]=some H'∧fw H' sz v (rows++[r.set j x])∧Mod (fun q=>q=b) H H'∧H'.nx=H.nx∧H'.n0=H.n0)∧fw H sz (.slice (some ⟨b,0,none⟩) rows.length c) rows:=by
 rcases h.is with⟨_,e⟩|⟨b,c,a,rfl,m,l,d,p⟩
 ·simp at e
 have n:∀q∈rows,q.length=sz:=fun q f=>h.len q (by simp [f])
 have u:=h.len r (by simp);have y:=bZ n;simp only [aq3,List.length_singleton]at d p;refine ⟨b,c,by simp,p,m,AH.aQ l,vu l (aqY _),?_,fun j x B=>?_,⟨.inr ⟨b,c,r++a,rfl,m,by simpa using l,by rw [Nat.succ_mul]at d;simp only [aq3];omega,by omega⟩,n⟩⟩
 ·obtain ⟨D,o,C,e,w⟩:=h.rows.at (i:=rows.length) (r:=r) (by simp)
  cases e
  simpa using w
 ·obtain ⟨H',st,M,t,s,g⟩:=bH l m (k:=rows.length*sz+j) (vs:=[x]) (by rw [aq3,bZ h.len];simp only [aq3,List.length_singleton,Nat.succ_mul];omega)
  refine ⟨H',st,⟨.inr ⟨b,c,a,by simp,by rw [s];exact m,?_,by simpa using d,by simpa using p⟩,?_⟩,M,t,s⟩
  ·rw [g]
   have e:r=r.take j++([r[j]'(by omega)]++r.drop (j+1)):=by
    rw [←ark];simp
   have A:r.set j x=r.take j++([x]++r.drop (j+1)):=by rw [List.set_eq_take_append_cons_drop,if_pos (by omega)];rfl
   have:=pH (rows.flatten++r.take j) [r[j]'(by omega)] [x] (r.drop (j+1)++a) rfl;rw [aq3,List.length_take,y,Nat.min_eq_left (by omega)]at this
   have z:(rows++[r]).flatten++a=rows.flatten++r.take j++([r[j]'(by omega)]++(r.drop (j+1)++a)):=by
    simp only [List.flatten_append,List.flatten_cons,List.flatten_nil,List.append_nil,ark];congr 1
    conv=>lhs;rw [e]
    simp only [ark]
   rw [z,this];simp only [List.flatten_append,List.flatten_cons,List.flatten_nil,List.append_nil,ark,A]
  ·intro q f
   rcases are.1 f with f|f
   ·exact n q f
   ·simp at f;subst f;simpa using u
theorem BF:∀(N:Nat) (s:bE) (c:List Value) (H:AH),SizeOf.sizeOf s<N→H.n0≤H.nx→nk H c s→bg s<2^60→
 Ca E O 159 [.agg c.toArray] H (fun x H'=>x= .int .i64 (aY s)∧Ext H H'):=by
 intro N
 induction N with
 |zero=>intro s c H h;omega
 |succ N ih=>
  intro s c H hN v hs vr
  cases hs with| @mk op n va vt ve ra rt re args a f i1 i2 i3 i4 i5 h1 h2 h3 h4 h5 h6=>
  refine Ca.aV (F:=a159) rfl rfl rfl ?_;rw [bg]at vr;have na:=a6 args;have nt:=cT a;have ne:=cT f;obtain ⟨p1,q1,M⟩:=h3.len;rw [h4.length]at M;obtain ⟨p2,q2,P⟩:=h5.len;rw [h6.length]at P;have X1:=Ext.alloc H (.cells 5 [.int .i64 op,.int .i64 n,va,vt,ve]);have d0:(H.alloc (.cells 5 [.int .i64 op,.int .i64 n,va,vt,ve])).ld ⟨H.nx,0,none⟩=some (.int .i64 op):=aj v rfl;have d1:(H.alloc (.cells 5 [.int .i64 op,.int .i64 n,va,vt,ve])).ld ⟨H.nx,1,none⟩=some (.int .i64 n):=aj v rfl;have d2:(H.alloc (.cells 5 [.int .i64 op,.int .i64 n,va,vt,ve])).ld ⟨H.nx,2,none⟩=some va:=aj v rfl;have d3:(H.alloc (.cells 5 [.int .i64 op,.int .i64 n,va,vt,ve])).ld ⟨H.nx,3,none⟩=some vt:=aj v rfl;have d4:(H.alloc (.cells 5 [.int .i64 op,.int .i64 n,va,vt,ve])).ld ⟨H.nx,4,none⟩=some ve:=aj v rfl;have d:(H.alloc (.cells 5 [.int .i64 op,.int .i64 n,va,vt,ve])).ldn ⟨H.nx,0,none⟩ 5=some [.int .i64 op,.int .i64 n,va,vt,ve]:=a7 v 5 rfl;generalize cz:H.alloc (.cells 5 [.int .i64 op,.int .i64 n,va,vt,ve])=H1 at X1 d0 d1 d2 d3 d4 d;have bo:=X1.wf v;have K:=d3;rw [M]at K;simp at hN;simp (maxSteps:=9^7)-implicitDefEqProofs+contextual [-X.ev,a159,cz,K];refine ch (fun k m H'=>Ext H1 H'∧∃i:Nat,i+k=a.length∧m.get 1= .pointer (some ⟨H.nx,0,none⟩)∧m.get 9=vt∧m.get 10= .int .i64 a.length∧m.get 11= .int .i64 i∧m.get 3= .int .i64 (1+aC (a.take i))) ?_ a.length ⟨Ext.refl _,0,by simp,by simp,by simp [M],by simp,by simp,by simp [aC]⟩;rintro k m t ⟨R,i,hi,f1,Q,f10,f11,p⟩;have jB:=R.wf bo;have j8:=X1.trans R;have bt:=aP a;have be:=aP f;by_cases h:i<a.length
  ·obtain ⟨y,r⟩:∃y,a[i]?=some y:=⟨_,aqU h⟩
   have oA:=ars (aqZ r);have t1:=eE r;have t2:=bq a (i+1);have t3:=bq a i;have u1:=jn r;have u2:=dj a i;have u3:=dj a (i+1);obtain ⟨g,l,I,D,G⟩:=y;obtain ⟨b,o,c',oF,oG,oH,V5,V6,V7,J,bC,_,_,_,_,_,Z,Y,W,V,U,g1,g2,g3,g4,g5,g6⟩:=gE.row (h3.ext j8) (gE.ext j8 h4) r;have EK:nk t [.int .i64 g,.int .i64 l,oF,oG,oH] (.mk g l I D G):=.mk Z Y W V U g1 g2 g3 g4 g5 g6;have w:=Q;rw [J]at w;obtain ⟨e,EI,A,Gu,Gv,q,C⟩:=dQ (H:=t) jB (z:=5) (c:=[.int .i64 0,.int .i64 0,.slice none 0 0,.slice none 0 0,.slice none 0 0]) (vs:=[.int .i64 g,.int .i64 l,oF,oG,oH]) rfl;have q0:e.ld ⟨t.nx,0,none⟩=some (.int .i64 g):=C 0 _ rfl;have q1:e.ld ⟨t.nx,1,none⟩=some (.int .i64 l):=C 1 _ rfl;have q2:e.ld ⟨t.nx,2,none⟩=some oF:=C 2 _ rfl;have q3:e.ld ⟨t.nx,3,none⟩=some oG:=C 3 _ rfl;have q4:e.ld ⟨t.nx,4,none⟩=some oH:=C 4 _ rfl;clear C;replace q:e.ldn ⟨t.nx,0,none⟩ 5=some [.int .i64 g,.int .i64 l,oF,oG,oH]:=q;have xy:=A.wf jB;have S:IntKind.i64.wrap (1+aC (a.take i)+aY (.mk g l I D G))=1+aC (a.take (i+1)):=by rw [ai ⟨by omega,by omega⟩];omega
   simp (maxSteps:=9^7)-implicitDefEqProofs+contextual [-X.ev,w,p,f10,f11,h,bC,EI,q];apply ah
   ·(simp-implicitDefEqProofs [-X.ev];rfl)
   refine (ih _ _ e (by omega) xy (nk.ext A EK) (by omega)).mono ?_;rintro x u ⟨rfl,L⟩;simp (maxSteps:=9^7)-implicitDefEqProofs+contextual [-X.ev,w,p,f10,f11,S];rw [ai (n:=(i:Int)+1) ⟨by omega,by omega⟩];exact ⟨k- 1,by omega,(R.trans A).trans L,i+1,by omega,f1,J.symm,by simp,rfl⟩
  rw [aq1 (by omega)]at p;have e4:=R.ld d4;rw [P]at e4;rw [M]at Q;simp (maxSteps:=9^7)-implicitDefEqProofs+contextual [-X.ev,f1,Q,p,f10,f11,h,e4];refine ch (fun k m H'=>Ext t H'∧∃j:Nat,j+k=f.length∧m.get 21=ve∧m.get 22= .int .i64 f.length∧m.get 23= .int .i64 j∧m.get 3= .int .i64 (1+aC a+aC (f.take j))) ?_ f.length ⟨Ext.refl _,0,by simp,by simp [P],by simp,by simp,by simp [aC,p]⟩;clear f1 Q f10 f11 p m;rintro k m e ⟨A,j,hj,f21,f22,f23,p⟩;have pj:=A.wf jB;have jg:=j8.trans A;by_cases h':j<f.length
  ·obtain ⟨y,r⟩:∃y,f[j]?=some y:=⟨_,aqU h'⟩
   have oA:=ars (aqZ r);have t1:=eE r;have t2:=bq f (j+1);have t3:=bq f j;have u1:=jn r;have u2:=dj f j;have u3:=dj f (j+1);obtain ⟨g,l,I,D,G⟩:=y;obtain ⟨b,o,c',oF,oG,oH,V5,V6,V7,J,bC,_,_,_,_,_,Z,Y,W,V,U,g1,g2,g3,g4,g5,g6⟩:=gE.row (h5.ext jg) (gE.ext jg h6) r;have EK:nk e [.int .i64 g,.int .i64 l,oF,oG,oH] (.mk g l I D G):=.mk Z Y W V U g1 g2 g3 g4 g5 g6;have QL:=f21;rw [J]at QL;obtain ⟨u,T,L,aeR,aeS,q,B⟩:=dQ (H:=e) pj (z:=5) (c:=[.int .i64 0,.int .i64 0,.slice none 0 0,.slice none 0 0,.slice none 0 0]) (vs:=[.int .i64 g,.int .i64 l,oF,oG,oH]) rfl;have q0:u.ld ⟨e.nx,0,none⟩=some (.int .i64 g):=B 0 _ rfl;have q1:u.ld ⟨e.nx,1,none⟩=some (.int .i64 l):=B 1 _ rfl;have q2:u.ld ⟨e.nx,2,none⟩=some oF:=B 2 _ rfl;have q3:u.ld ⟨e.nx,3,none⟩=some oG:=B 3 _ rfl;have q4:u.ld ⟨e.nx,4,none⟩=some oH:=B 4 _ rfl;clear B;replace q:u.ldn ⟨e.nx,0,none⟩ 5=some [.int .i64 g,.int .i64 l,oF,oG,oH]:=q;have VT:=L.wf pj;have S:IntKind.i64.wrap (1+aC a+aC (f.take j)+aY (.mk g l I D G))=1+aC a+aC (f.take (j+1)):=by rw [ai ⟨by omega,by omega⟩];omega
   simp (maxSteps:=9^7)-implicitDefEqProofs+contextual [-X.ev,QL,p,f22,f23,h',bC,T,q];apply ah
   ·(simp-implicitDefEqProofs [-X.ev];rfl)
   refine (ih _ _ u (by omega) VT (nk.ext L EK) (by omega)).mono ?_;rintro x H5 ⟨rfl,X5⟩;simp (maxSteps:=9^7)-implicitDefEqProofs+contextual [-X.ev,QL,p,f22,f23,S];rw [ai (n:=(j:Int)+1) ⟨by omega,by omega⟩];exact ⟨k- 1,by omega,(A.trans L).trans X5,j+1,by omega,J.symm,by simp,rfl⟩
  rw [aq1 (by omega)]at p;rw [P]at f21;simp (maxSteps:=9^7)-implicitDefEqProofs+contextual [-X.ev,f21,p,f22,f23,h',aY];exact jg
open Go
theorem DK {l:List bE} {s:Value} {rows:List (List Value)} {H:AH} (Y:H.n0≤H.nx) (K:Rows H 5 s rows) (M:gE H rows l) (L:l.length<2^40) (vr:au l<2^60):
 Ca E O 146 [s] H (fun x H'=>x= .int .i64 (aC l)∧Ext H H'):=by
 refine Ca.aV (F:=a146) rfl rfl rfl ?_;obtain ⟨p0,c0,p⟩:=K.len;rw [M.length]at p;simp (maxSteps:=9^7)-implicitDefEqProofs+contextual [-X.ev,a146,p];refine ch (fun k j H'=>Ext H H'∧∃i:Nat,i+k=l.length∧j.get 6=s∧j.get 7= .int .i64 l.length∧j.get 8= .int .i64 i∧j.get 3= .int .i64 (aC (l.take i))) ?_ l.length ⟨Ext.refl _,0,by simp,by simp [p],by simp,by simp,by simp [aC]⟩;rintro k j a ⟨m,i,hi,A,v,u,r⟩;have I:=m.wf Y;have bt:=aP l;by_cases h:i<l.length
 ·obtain ⟨y,t⟩:∃y,l[i]?=some y:=⟨_,aqU h⟩
  have t1:=eE t;have t2:=bq l (i+1);have t3:=bq l i;have u1:=jn t;have u2:=dj l i;have u3:=dj l (i+1);obtain ⟨e,f,G,C,D⟩:=y;obtain ⟨b,o,c',oF,oG,oH,V5,V6,V7,J,Z,_,_,_,_,_,U,T,S,R,Q,g1,g2,g3,g4,g5,g6⟩:=gE.row (K.ext m) (gE.ext m M) t;have V:nk a [.int .i64 e,.int .i64 f,oF,oG,oH] (.mk e f G C D):=.mk U T S R Q g1 g2 g3 g4 g5 g6;have w:=A;rw [J]at w;obtain ⟨d,P,B,Gu,Gv,q,g⟩:=dQ (H:=a) I (z:=5) (c:=[.int .i64 0,.int .i64 0,.slice none 0 0,.slice none 0 0,.slice none 0 0]) (vs:=[.int .i64 e,.int .i64 f,oF,oG,oH]) rfl;have q0:d.ld ⟨a.nx,0,none⟩=some (.int .i64 e):=g 0 _ rfl;have q1:d.ld ⟨a.nx,1,none⟩=some (.int .i64 f):=g 1 _ rfl;have q2:d.ld ⟨a.nx,2,none⟩=some oF:=g 2 _ rfl;have q3:d.ld ⟨a.nx,3,none⟩=some oG:=g 3 _ rfl;have q4:d.ld ⟨a.nx,4,none⟩=some oH:=g 4 _ rfl;clear g;replace q:d.ldn ⟨a.nx,0,none⟩ 5=some [.int .i64 e,.int .i64 f,oF,oG,oH]:=q;have W:=B.wf I;have N:IntKind.i64.wrap (aC (l.take i)+aY (.mk e f G C D))=aC (l.take (i+1)):=by rw [ai ⟨by omega,by omega⟩];omega
  simp (maxSteps:=9^7)-implicitDefEqProofs+contextual [-X.ev,w,r,v,u,h,Z,P,q];apply ah
  ·(simp-implicitDefEqProofs [-X.ev];rfl)
  refine (BF _ _ _ d (aq9 _) W (nk.ext B V) (by omega)).mono ?_;rintro x H4 ⟨rfl,X4⟩;simp (maxSteps:=9^7)-implicitDefEqProofs+contextual [-X.ev,w,r,v,u,N];rw [ai (n:=(i:Int)+1) ⟨by omega,by omega⟩];exact ⟨k- 1,by omega,(m.trans B).trans X4,i+1,by omega,J.symm,by simp,rfl⟩
 rw [aq1 (by omega)]at r;rw [p]at A;simp (maxSteps:=9^7)-implicitDefEqProofs+contextual [-X.ev,A,r,v,u,h];exact m
theorem Ls {H:AH} {m:Nat} {d:Value} {rest:List Value} {rows:List (List Value)} {a:Option Addr} {n c:Nat} {k:Int} (M:H.n0≤H.nx) (g:H.get m=some (.cells 14 (d::rest))) (B:H.n0≤m) (o:fw H 2 d rows) (u:¬ aS d m) (f:rows.length≤2^40):
 Ca E O 105 [.pointer (some ⟨m,0,none⟩),.slice a n c,.int .i64 k] H (fun x H'=>∃e,H'.get m=some (.cells 14 (e::rest))∧fw H' 2 e (if n=0 then rows else rows++[[.slice a n c,.int .i64 k]])∧Mod (fun b=>b=m∨aS d b) H H'∧∀b,aS e b→aS d b∨H.nx≤b):=by
 refine Ca.aV (F:=a105) rfl rfl rfl ?_;by_cases w:n=0
 ·subst w
  simp (maxSteps:=9^7)-implicitDefEqProofs+contextual [-X.ev,a105];exact ⟨d,g,o,Mod.refl _ _,fun b f=>.inl f⟩
 ·have P:0<n:=by omega
  have s:=aG g B (k:=0) (v:=d) rfl;have j:=xD (sz:=2) (z:=[.slice none 0 0,.int .i64 0]) (H:=H) (v:=.agg #[.slice a n c,.int .i64 k]) rfl rfl rfl;simp only [gh]at j;have X:=Ext.alloc H (.cells 2 [.slice a n c,.int .i64 k])
  obtain ⟨H2,A⟩:∃H2,H.alloc (.cells 2 [.slice a n c,.int .i64 k])=H2:=⟨_,rfl⟩
  obtain ⟨e,Z,l,p,G,t,K,V,J⟩:=o.push (bytes:=32) M (by omega) (r:=[.slice a n c,.int .i64 k]) rfl A (by omega) (by omega);rw [A]at j X;have S:=G.get u g;obtain ⟨Y,I,D,U,W,C⟩:=bH S (by rw [K];exact B) (k:=0) (vs:=[e]) (by simp);have N:aI (d::rest) 0 [e]=e::rest:=by simp [aI]
  rw [N]at C;obtain ⟨fa,T,y⟩:=p.shape;rw [aq3,List.length_singleton]at y;subst y;have L:=X.ld s;have R:eD [.slice none 0 0,.int .i64 0] [(0,1,.slice a n c),(1,1,.int .i64 k)]=some (.agg #[.slice a n c,.int .i64 k]):=rfl;simp (maxSteps:=9^7)-implicitDefEqProofs+contextual [-X.ev,a105,P,s,R,j,l,I]
  have Q:∀b,aS (.slice fa (rows.length+1) T) b→¬ b=m:=by
   intro b f q;subst q;rcases t b f with h|h
   ·exact u h
   ·have:=AH.aQ g;omega
  refine ⟨_,C,by rw [if_neg w];exact p.mod D Q,(G.mono fun x _ i=>.inr i).trans (D.mono fun x _ i=>.inl i),t⟩
theorem Lt {G H:AH} {m:Nat} {s f:Value} {rest:List Value} {rows rs:List (List Value)} {cs:List Value} {k:Int} (o:H.n0≤H.nx) (gm:H.get m=some (.cells 14 (s::rest))) (h0:H.n0≤m) (L:fw H 2 s (rows++[[f,.int .i64 k]])) (hb:rows.length≤2^40) (X:Sub G H) (T:Rows G 5 f (cs::rs)):
 Ca E O 106 [.pointer (some ⟨m,0,none⟩)] H (fun x H'=>x= .tuple #[.agg cs.toArray,.int .i64 k,.bool true]∧Ext H H'):=by
 refine Ca.aV (F:=Dh) rfl rfl rfl ?_;obtain ⟨b,c,rfl,hc,xA,lq,hz,Y,_,_⟩:=L.last;have R:=aG gm h0 (k:=0) (v:=.slice (some ⟨b,0,none⟩) (rows.length+1) c) rfl;have a:=Ext.alloc H (.cells 5 zS);have B:=cg H (.cells 5 zS)
 obtain ⟨H1,p⟩:∃H1,H.alloc (.cells 5 zS)=H1:=⟨_,rfl⟩
 rw [p]at a B;have g:=a.wf o;have n:=a.ld R;have A:=a.ldn Y;obtain ⟨H2,t,e,P,d,D⟩:=iq g (z:=2) (c:=[.slice none 0 0,.int .i64 0]) (vs:=[f,.int .i64 k]) rfl;have jB:=e.wf g;have u:=aG D (by rw [d];exact g) (k:=0) (v:=f) rfl;have K:=aG D (by rw [d];exact g) (k:=1) (v:=.int .i64 k) rfl;obtain ⟨b5,M,c5,j,y⟩:=((T.sub X).ext (a.trans e)).at (i:=0) (r:=cs) rfl;rw [List.length_cons]at j;have q:=e.get B;have l:cs.length=5:=(cW y).2;obtain ⟨H3,J,M3,N,w,C⟩:=bH q (by rw [d,a.n0];exact o) (k:=0) (vs:=cs) (by simp [l]);have S:aI zS 0 cs=cs:=gq _ _ (by rw [l];rfl);rw [S]at C;have Q:H3.ldn ⟨H.nx,0,none⟩ 5=some cs:=by rw [bB C (by rw [w,d,a.n0];exact o) (by omega)];simp [aq1 (Nat.le_of_eq l)]
 rw [j]at u;rw [j]at t;have I:IntKind.i64.wrap (rows.length:Int)=(rows.length:Int):=ai ⟨by omega,by omega⟩;have n1:=a.nx;have n2:=e.nx;have W:H2.ldn ⟨b5,M,none⟩ 5=some cs:=by simpa using y
 have U:¬ ((rows.length:Int)+1=0):=by omega
 have e1:H1.nx=H.nx+1:=by rw [←p];rfl
 have Z:Nat.beq H1.nx H.nx=false:=arA.2 fun h=>by have:=Nat.eq_of_beq_eq_true h;omega
 have V:(rows.length:Int)<(rows.length:Int)+1:=by omega
 simp only [j]at A;simp (maxSteps:=9^7)-implicitDefEqProofs+contextual [-X.ev,Dh,p,n,U,V,I,A,t,u,K,W,J,Q,bh,aL,aM,a.n0,d,w,P,N,l,AH.nP,AH.dH,Bq,cC,Z];exact (a.trans e).mod M3 (fun b hb=>by omega)
theorem GW {H:AH} {m:Nat} {b:Value} {rest:List Value} (e:H.n0≤H.nx) (p:H.get m=some (.cells 14 (b::rest))) (o:H.n0≤m) (h:fw H 2 b []):
 Ca E O 106 [.pointer (some ⟨m,0,none⟩)] H (fun x H'=>x= .tuple #[.agg zS.toArray,.int .i64 0,.bool false]∧Ext H H'):=by
 refine Ca.aV (F:=Dh) rfl rfl rfl ?_;obtain ⟨fa,r,rfl⟩:=h.shape;have l:=aG p o (k:=0) (v:=.slice fa 0 r) rfl;obtain ⟨t,d,s,u,i,q⟩:=iq e (z:=5) (c:=zS) (vs:=zS) rfl;have g:=Ext.alloc H (.cells 5 zS)
 obtain ⟨H1,f⟩:∃H1,H.alloc (.cells 5 zS)=H1:=⟨_,rfl⟩
 rw [f]at g d;have a:=g.ld l;have j:t.ldn ⟨H.nx,0,none⟩ 5=some zS:=by rw [bB q (by rw [i];exact e) (by simp)];rfl
 have n:eD zS []=some (.agg zS.toArray):=rfl;simp (maxSteps:=9^7)-implicitDefEqProofs+contextual [-X.ev,Dh,f,a,n,d,j,s]
theorem ae9 {G H:AH} (X:Sub G H) {f:Value} {cs:List Value} {rs:List (List Value)} (q:Rows G 5 f (cs::rs)) (u:Fit G f):∃a c,bL 5 H f (some (.int .i64 1)) none none=some (.slice a rs.length c)∧Rows G 5 (.slice a rs.length c) rs∧Fit G (.slice a rs.length c):=by
 obtain ⟨a,n,c,rfl,l,m⟩:=u;obtain ⟨B,z,e,k⟩:=q.is;cases e;obtain ⟨b,o,v,d⟩:=m (by simp);subst v
 have g:H.j9 b 5=true:=by
  unfold AH.j9 at d⊢;split at d
  ·rename_i t;rw [X.get _ _ t];exact d
  ·cases d
 simp only [List.length_cons]at l;by_cases j:c=1
 ·subst j
  have p:rs=[]:=arv (by omega);subst p;exact ⟨some ⟨b,o,some 1⟩,0,rfl,⟨_,_,rfl,by simp⟩,⟨_,_,_,rfl,aqY _,fun h=>absurd h (by simp)⟩⟩
 ·refine ⟨some ⟨b,o+5,none⟩,c- 1,?_,⟨_,_,rfl,fun i r hi=>?_⟩,⟨_,_,_,rfl,by omega,fun _=>⟨b,o+5,rfl,d⟩⟩⟩
  ·have x:¬ c=1:=j
   have w:(1:Int)≤(rs.length:Int)+1:=by omega
   have h2:1≤c:=by omega
   simp [bL,bm,gW,x,w,l,g];rfl
  ·obtain ⟨A,y,e,s⟩:=k (i+1) r (by simpa using hi)
   cases e;refine ⟨b,o+5,rfl,?_⟩;rw [show o+5+i*5=o+(i+1)*5 by omega];exact s
theorem lC:∀s:bE,1≤aY s
 | .mk op n args a b=>by have:=aP a;have:=aP b;rw [aY];omega
def xJ (rows rs:List (List Value)) (r:List Value):List (List Value):=if rs.length=0 then rows else rows++[r]
theorem Lv {G H:AH} {m:Nat} {h vl:Value} {rest:List Value} {rows rs:List (List Value)} {cs:List Value} {s:bE} {k:Int} (hw:H.n0≤H.nx) (gm:H.get m=some (.cells 14 (h::rest))) (V:H.n0≤m) (ow:fw H 2 h (rows++[[vl,.int .i64 k]])) (Z7:¬ aS h m) (hb:rows.length≤2^40) (X:Sub G H) (hS:∀b,(b=m∨aS h b)→G.get b=none) (hr:Rows G 5 vl (cs::rs)) (hf:Fit G vl) (hs:nk G cs s) (vr:bg s<2^60) (zy:rs.length<2^60)
 (hk:0≤k∧k≤2^40) (Oa:aY s≤2^40):
 Ca E O 143 [.pointer (some ⟨m,0,none⟩)] H (fun x H'=>∃D,H'.get m=some (.cells 14 (D::rest))∧(∃C,Rows G 5 C rs∧Fit G C∧fw H' 2 D (xJ rows rs [C,.int .i64 (k+aY s)]))∧Mod (fun b=>b=m∨aS h b) H H'∧∀b,aS D b→aS h b):=by
 refine Ca.aV (F:=a143) rfl rfl rfl ?_;obtain ⟨b,c,rfl,hc,xA,lq,hz,hl,fy,_⟩:=ow.last;have g:b≠m:=fun q=>Z7 ((ba _ _ _ _ _).2 q.symm)
 have l0:=aG gm V (k:=0) (v:=.slice (some ⟨b,0,none⟩) (rows.length+1) c) rfl;obtain ⟨b5,o5,c5,N,To⟩:=(hr.sub X).at (i:=0) (r:=cs) rfl;rw [List.length_cons]at N;have QM:H.ldn ⟨b5,o5,none⟩ 5=some cs:=by simpa using To
 have w1:IntKind.i64.wrap (rows.length:Int)=(rows.length:Int):=ai ⟨by omega,by omega⟩;have db:(rows.length:Int)<(rows.length:Int)+1:=by omega
 have I:H.ld ⟨b,rows.length*2,none⟩=some vl:=by simpa using aJ hl (j:=0) rfl
 have q1:H.ld ⟨b,rows.length*2+1,none⟩=some (.int .i64 k):=aJ hl (j:=1) rfl;rw [N]at I;have R:nk H cs s:=nk.sub X hs;have yV:G.get m=none:=hS m (.inl rfl);simp (maxSteps:=9^7)-implicitDefEqProofs+contextual [-X.ev,a143,l0,w1,db,I,q1,QM,bh,aL,aM];apply ah
 ·(simp-implicitDefEqProofs [-X.ev];rfl)
 refine (BF _ s cs H (aq9 _) hw R vr).mono ?_;rintro x H1 ⟨rfl,a⟩;have lj:=a.wf hw;have ct:=lC s;have Y:=a.get gm;have w2:IntKind.i64.wrap (k+aY s)=k+aY s:=ai ⟨by omega,by omega⟩;obtain ⟨w,c',e,_,kb,am0,hz1,JA,Q,_⟩:=(ow.ext a).last;cases e;obtain ⟨H2,s2,L,Z,wA,M⟩:=Q 1 (.int .i64 (k+aY s)) (by omega);replace L:fw H2 2 (.slice (some ⟨b,0,none⟩) (rows.length+1) c) (rows++[[vl,.int .i64 (k+aY s)]]):=L;have VD:=Z.get (fun q=>g q.symm) Y;have j8:Sub G H2:=(X.Qx a).mod Z (fun q d=>hS q (.inr ((ba _ _ _ _ _).2 d)));obtain ⟨B,A,U,EB,Z8⟩:=ae9 j8 hr hf;obtain ⟨w,c',e,_,gT,am1,hz2,ED,P,_⟩:=L.last;cases e;have J:H2.ld ⟨b,rows.length*2,none⟩=some vl:=by simpa using aJ ED (j:=0) rfl
 obtain ⟨H3,s3,z,M3,qZ,l7⟩:=P 0 (.slice B rs.length A) (by omega);replace z:fw H3 2 (.slice (some ⟨b,0,none⟩) (rows.length+1) c) (rows++[[.slice B rs.length A,.int .i64 (k+aY s)]]):=z;have W:=M3.get (fun q=>g q.symm) VD;obtain ⟨w,c',e,hc3,tm,am2,hz3,T,am3,K⟩:=z.last;cases e;have p3:H3.ld ⟨b,rows.length*2,none⟩=some (.slice B rs.length A):=by simpa using aJ T (j:=0) rfl
 have o:H2.st ⟨b,rows.length*2,none⟩ [.slice B rs.length A]=some H3:=s3;rw [N]at J U;have p:=a.ld I;have u:H3.n0=H.n0:=l7.trans (M.trans a.n0);have y:Mod (fun w=>w=m∨aS (.slice (some ⟨b,0,none⟩) (rows.length+1) c) w) H H3:=(Mod.bN a).trans ((Z.mono fun x _ t=>.inr ((ba _ _ _ _ _).2 t)).trans (M3.mono fun x _ t=>.inr ((ba _ _ _ _ _).2 t)));have f:=bf.1 q1;have We:=a.ldn f;have l:=a.nx;have n:=a.n0;by_cases Lu:(rs.length:Int)=0
 ·obtain ⟨H4,s4,M4,yW,nm,g4⟩:=bH W (by rw [u];exact V) (k:=0) (vs:=[.slice (some ⟨b,0,none⟩) rows.length c]) (by simp)
  have gU:aI (.slice (some ⟨b,0,none⟩) (rows.length+1) c::rest) 0 [.slice (some ⟨b,0,none⟩) rows.length c]= .slice (some ⟨b,0,none⟩) rows.length c::rest:=by simp [aI]
  rw [gU]at g4;have l3:=aG W (by rw [u];exact V) (k:=0) (v:=.slice (some ⟨b,0,none⟩) (rows.length+1) c) rfl
  have vw:bL 2 H3 (.slice (some ⟨b,0,none⟩) (rows.length+1) c) none (some (.int .i64 rows.length)) none=some (.slice (some ⟨b,0,none⟩) rows.length c):=by
   have h1:¬ c=0:=by omega
   have h2:rows.length≤c:=by omega
   have h3:(rows.length:Int)≤(c:Int):=by omega
   simp [bL,bm,gW,h1,h2,h3];rfl
  simp (maxSteps:=9^7)-implicitDefEqProofs+contextual [-X.ev,p,w2,s2,J,U,o,p3,l3,w1,vw,s4,Lu,f,We,l,n,M,wA,bh,aL,aM];refine ⟨⟨nm.symm,by omega⟩,_,g4,⟨_,EB,Z8,?_⟩,y.trans (M4.mono fun x _ t=>.inl t),fun q d=>?_⟩
  ·rw [xJ,if_pos (by omega)]
   exact K.mod M4 (fun q d e=>g (by rw [ba]at d;omega))
  ·rw [ba]at d⊢;exact d
 ·have S:¬ rs=[]:=fun q=>Lu (by rw [q];rfl)
  simp (maxSteps:=9^7)-implicitDefEqProofs+contextual [-X.ev,p,w2,s2,J,U,o,p3,S,f,We,l,n,M,wA,bh,aL,aM];refine ⟨_,W,⟨_,EB,Z8,?_⟩,y,fun q d=>d⟩;rw [xJ,if_neg (by omega)];exact z
end
section
open Go
def GY (v:Value):Prop:=∃a n c,v= .slice a n c∧n≤c
theorem dE.cap {H:AH} {sz:Nat} {v:Value} {rows:List (List Value)} (h:dE H sz v rows):GY v:=by
 rcases h.is with⟨rfl,_⟩|⟨b,rfl,_⟩
 ·exact ⟨_,_,_,rfl,aqY _⟩
 ·exact ⟨_,_,_,rfl,aqY _⟩
theorem Mod.then {R d:Nat→Prop} {H H1 H2:AH} (h:Mod R H H1) (k:Mod d H1 H2) (e:∀b,b<H.nx→d b→R b):Mod R H H2:=
 ⟨k.n0.trans h.n0,arh h.nx k.nx,fun b a c=>(k.old b (ari a h.nx) fun q=>c (e b a q)).trans (h.old b a c)⟩
theorem de.sub {G H:AH} (X:Sub G H) {v:Value} {l:List Vr} (h:de G v l):de H v l:=Rows.sub X h
theorem sx {V:List Vr} {i:Nat} {y:Vr} (a:V[i]?=some y):bT V ((i+1:Nat):Int)=IntKind.i64.wrap (bT V (i:Int)+y.cells):=by
 simp only [bT,Int.toNat_natCast];rw [arf];simp [df,a,List.foldl_append]
theorem QN {H:AH} {d:Value} {V:List Vr} {n:Int} (g:de H d V) (j:GY d) (i:0≤n∧n<V.length):∃a c f,d= .slice a V.length c∧bL 3 H d none (some (.int .i64 n)) none=some (.slice a n.toNat f):=by
 obtain ⟨a,m,c,rfl,p⟩:=j;obtain ⟨q,f,e⟩:=g.len;cases e;refine ⟨a,c,c,rfl,?_⟩;have l:¬ c=0:=by omega
 have h2:n≤(c:Int):=by omega
 have k:n.toNat≤c:=by omega
 obtain ⟨y,h⟩:∃y,V[0]?=some y:=⟨_,aqU (by omega)⟩
 obtain ⟨b,o,f,e,_⟩:=g.at h;cases e;simp [bL,bm,gW,l,h2,k,i.1];rfl
theorem ub {w k n:Int} {vv:Value} {V:List Vr} {H:AH} (f:H.n0≤H.nx) (t:de H vv V) (L:GY vv) (hl:V.length≤2^40) (J:0≤n∧n<V.length):
 Ca E O 176 [.agg #[.int .i64 w,vv,.int .i64 k],.int .i64 n] H (fun x H'=>x= .int .i64 (bT V n)∧Ext H H'):=by
 obtain ⟨e,rfl⟩:∃m:Nat,n=m:=⟨n.toNat,by omega⟩
 refine Ca.aV (F:=Ks) rfl rfl rfl ?_;obtain ⟨a,c,Z,s,xK⟩:=QN t L J;have p:=Ext.alloc H (.cells 3 [.int .i64 w,vv,.int .i64 k]);have Y:(H.alloc (.cells 3 [.int .i64 w,vv,.int .i64 k])).ld ⟨H.nx,0,none⟩=some (.int .i64 w):=aj f rfl;have v:(H.alloc (.cells 3 [.int .i64 w,vv,.int .i64 k])).ld ⟨H.nx,1,none⟩=some vv:=aj f rfl;have W:(H.alloc (.cells 3 [.int .i64 w,vv,.int .i64 k])).ld ⟨H.nx,2,none⟩=some (.int .i64 k):=aj f rfl;have d:(H.alloc (.cells 3 [.int .i64 w,vv,.int .i64 k])).ldn ⟨H.nx,0,none⟩ 3=some [.int .i64 w,vv,.int .i64 k]:=a7 f 3 rfl;generalize U:H.alloc (.cells 3 [.int .i64 w,vv,.int .i64 k])=H1 at p Y v W d;have S:=p.wf f;obtain ⟨a1,c1,A,G,u⟩:=QN (t.ext p) L J;rw [s]at G;cases G;rw [s]at v u;rw [Int.toNat_natCast]at u;simp (maxSteps:=9^7)-implicitDefEqProofs+contextual [-X.ev,Ks,U,v,u];refine ch (fun k g H'=>Ext H1 H'∧∃i:Nat,i+k=e∧g.get 11= .slice a e A∧g.get 12= .int .i64 e∧g.get 13= .int .i64 i∧g.get 5= .int .i64 (bT V (i:Int))) ?_ e ⟨Ext.refl _,0,by simp,by simp,by simp,by simp,by simp [bT,df]⟩;rintro k g j ⟨B,i,hi,f11,f12,f13,M⟩;have D:=B.wf S;have P:=p.trans B;by_cases h:i<e
 ·obtain ⟨y,C⟩:∃y,V[i]?=some y:=⟨_,aqU (by omega)⟩
  obtain ⟨b,o,Z,I,K,_,_,_⟩:=(t.ext P).at C;rw [s]at I;cases I;simp only [Vr.row]at K;obtain ⟨r,Q,N,Gu,Gv,q,l⟩:=dQ (H:=j) D (z:=3) (c:=[.string ⟨#[]⟩,.int .i64 0,.int .i64 0]) (vs:=[.string y.name,.int .i64 y.level,.int .i64 y.cells]) rfl;have q0:r.ld ⟨j.nx,0,none⟩=some (.string y.name):=l 0 _ rfl;have q1:r.ld ⟨j.nx,1,none⟩=some (.int .i64 y.level):=l 1 _ rfl;have R:r.ld ⟨j.nx,2,none⟩=some (.int .i64 y.cells):=l 2 _ rfl;clear l;replace q:r.ldn ⟨j.nx,0,none⟩ 3=some [.string y.name,.int .i64 y.level,.int .i64 y.cells]:=q;have xy:=N.wf D;have T:(i:Int)<(e:Int):=by omega
  have hk:k- 1<k:=by omega
  simp (maxSteps:=9^7)-implicitDefEqProofs+contextual [-X.ev,f11,f12,f13,M,h,K,Q,R];rw [ai (n:=(i:Int)+1) ⟨by omega,by omega⟩];exact ⟨k- 1,by omega,B.trans N,i+1,by omega,by simp,by rw [sx C]⟩
 ·simp (maxSteps:=9^7)-implicitDefEqProofs+contextual [-X.ev,f11,f12,f13,M,h]
  refine ⟨?_,P⟩;rw [show(i:Int)=e by omega]
structure Wg (G:AH) (f:Nat) (first cap:Array Value) (I:List Ev→(Nat→Prop)→AH→Prop):Prop where
 call:∀{nw:List Ev} {R:Nat→Prop} {H:AH} {n i:Int},H.n0≤H.nx→I nw R H→Sub G H→(∀b,R b→G.get b=none)→nw.length<2^40→
  Ca E O f (first.toList++ .int .i64 n:: .int .i64 i::cap.toList) H (fun x H'=>∃R',I (nw++[⟨1,n,i⟩]) R' H'∧Mod R H H'∧∀b,R' b→R b∨H.nx≤b)
 mod:∀{nw:List Ev} {R T:Nat→Prop} {H H':AH},I nw R H→Mod T H H'→(∀b,T b→¬ R b)→I nw R H'
 lt:∀{nw:List Ev} {R:Nat→Prop} {H:AH},I nw R H→∀b,R b→b<H.nx
theorem Wg.ext {G:AH} {f:Nat} {first cap:Array Value} {I:List Ev→(Nat→Prop)→AH→Prop} (h:Wg G f first cap I) {a:List Ev} {R:Nat→Prop} {H H':AH} (i:I a R H) (X:Ext H H'):I a R H':=h.mod i (Mod.bN (S:=fun _=>False) X) (by simp)
def G0 (l:List Int):List Value:=[.int .i64 (fE l 0),.int .i64 (fE l 1),.int .i64 (fE l 2)]
theorem G3 {w:Int} {V:List Vr} {S:List (List Int)} {l:List bV} {i:Nat} {y:bV} (e:l.length≤3) (d:l[i]?=some y):aI (G0 (cL w V S (l.take i))) i [.int .i64 (bz w V S y)]=G0 (cL w V S (l.take (i+1))):=by
 match l,i,e,d with
 |[a],0,_,d=>simp at d;subst d;rfl
 |[a,b],0,_,d=>simp at d;subst d;rfl
 |[a,b],1,_,d=>simp at d;subst d;rfl
 |[a,b,c],0,_,d=>simp at d;subst d;rfl
 |[a,b,c],1,_,d=>simp at d;subst d;rfl
 |[a,b,c],2,_,d=>simp at d;subst d;rfl
theorem G4 {G:AH} {w:Int} {vv vS:Value} {V:List Vr} {S:List (List Int)} {f:Nat} {first cap:Array Value} {I:List Ev→(Nat→Prop)→AH→Prop} (hV:aA w V=true) (hS:GS w V S) (hv:de G vv V) (gI:GY vv) (fy:gF G vS S) (sy:Wg G f first cap I):
 ∀(N:Nat) (e:bV) (c:List Value) (H:AH) (L:List Ev) (R:Nat→Prop),SizeOf.sizeOf e<N→H.n0≤H.nx→Sub G H→I L R H→(∀b,R b→G.get b=none)→oh G c e→cY w V S.length e=true→(L.length:Int)+av e≤2^40→
 Ca E O 168 [.agg #[.int .i64 w,vv,.int .i64 S.length],vS,.agg c.toArray,.func (.func f) first cap] H (fun x H'=>x= .int .i64 (bz w V S e)∧∃W,I (L++nq w V S e) W H'∧Mod R H H'∧∀b,W b→R b∨H.nx≤b):=by
 have fD:1≤w∧w≤8:=⟨(aF hV).1,(aF hV).2.1⟩
 have hp:=jo fD;have Z9:=(aF hV).2.2.2;intro N
 induction N with
 |zero=>intro e c H L R h;omega
 |succ N ih=>
  intro e c H L R hN U X hI Ob he hf vr
  cases he with| @mk op n cp va rows args i1 i2 i3 hlen hr hl=>
  refine Ca.aV (F:=a168) rfl rfl rfl ?_;obtain ⟨aH,hc⟩:=nu fD hf
  have ha3:args.length≤3:=by
   rcases hc with⟨_,rfl,_⟩|⟨_,_,_,_,_,⟨rfl,_⟩|⟨⟨a,rfl⟩,_⟩⟩|⟨_,a,rfl⟩|⟨_,a,b,c,rfl⟩|⟨_,a,b,rfl⟩<;>simp
  have wd:∀y∈args,0≤bz w V S y∧bz w V S y<2^w.toNat:=fun y B=>iQ hV hS y (aH y B)
  rw [av]at vr;obtain ⟨p0,c0,fW⟩:=hr.len;rw [hl.length]at fW;have g1:=cg H (.cells 3 [.int .i64 w,vv,.int .i64 S.length]);have X1:=Ext.alloc H (.cells 3 [.int .i64 w,vv,.int .i64 S.length]);have d0:(H.alloc (.cells 3 [.int .i64 w,vv,.int .i64 S.length])).ld ⟨H.nx,0,none⟩=some (.int .i64 w):=aj U rfl;have d1:(H.alloc (.cells 3 [.int .i64 w,vv,.int .i64 S.length])).ld ⟨H.nx,1,none⟩=some vv:=aj U rfl;have d2:(H.alloc (.cells 3 [.int .i64 w,vv,.int .i64 S.length])).ld ⟨H.nx,2,none⟩=some (.int .i64 S.length):=aj U rfl;have d:(H.alloc (.cells 3 [.int .i64 w,vv,.int .i64 S.length])).ldn ⟨H.nx,0,none⟩ 3=some [.int .i64 w,vv,.int .i64 S.length]:=a7 U 3 rfl;generalize cz:H.alloc (.cells 3 [.int .i64 w,vv,.int .i64 S.length])=t at X1 d0 d1 d2 d;have bo:=X1.wf U;rw [cz]at g1;have g2:=cg t (.cells 4 [.int .i64 op,.int .i64 n,.int .i64 cp,va]);have nE1:t.nx=H.nx+1:=by rw [←cz];rfl
  have X2:=Ext.alloc t (.cells 4 [.int .i64 op,.int .i64 n,.int .i64 cp,va]);have A:(t.alloc (.cells 4 [.int .i64 op,.int .i64 n,.int .i64 cp,va])).ld ⟨t.nx,0,none⟩=some (.int .i64 op):=aj bo rfl;have e1:(t.alloc (.cells 4 [.int .i64 op,.int .i64 n,.int .i64 cp,va])).ld ⟨t.nx,1,none⟩=some (.int .i64 n):=aj bo rfl;have e2:(t.alloc (.cells 4 [.int .i64 op,.int .i64 n,.int .i64 cp,va])).ld ⟨t.nx,2,none⟩=some (.int .i64 cp):=aj bo rfl;have e3:(t.alloc (.cells 4 [.int .i64 op,.int .i64 n,.int .i64 cp,va])).ld ⟨t.nx,3,none⟩=some va:=aj bo rfl;have e:(t.alloc (.cells 4 [.int .i64 op,.int .i64 n,.int .i64 cp,va])).ldn ⟨t.nx,0,none⟩ 4=some [.int .i64 op,.int .i64 n,.int .i64 cp,va]:=a7 bo 4 rfl;generalize kl:t.alloc (.cells 4 [.int .i64 op,.int .i64 n,.int .i64 cp,va])=H2 at X2 A e1 e2 e3 e;have iP:=X2.wf bo;rw [kl]at g2;have nE2:H2.nx=H.nx+2:=by rw [←kl];show t.nx+1=_;omega
  have X3:=Ext.alloc H2 (.cells 3 [.int .i64 0,.int .i64 0,.int .i64 0]);have g3:=cg H2 (.cells 3 [.int .i64 0,.int .i64 0,.int .i64 0])
  obtain ⟨H3,Lw⟩:∃H3,H2.alloc (.cells 3 [.int .i64 0,.int .i64 0,.int .i64 0])=H3:=⟨_,rfl⟩
  rw [Lw]at X3 g3;have nE3:H3.nx=H.nx+3:=by rw [←Lw];show H2.nx+1=_;omega
  have D3:=X3.ld e3;rw [fW]at D3;have jg:=X1.trans (X2.trans X3);have g1':=X3.get (X2.get g1);have TB:=X3.get g2;rw [nE1]at TB D3;rw [nE2]at g3;have Wh:=sy.lt hI;simp (maxSteps:=9^7)-implicitDefEqProofs+contextual [-X.ev,a168,cz,kl,Lw,nE1,nE2,D3]
  refine ch (fun k J H'=>Mod R H H'∧H3.nx≤H'.nx∧H'.get H.nx=some (.cells 3 [.int .i64 w,vv,.int .i64 S.length])∧H'.get (H.nx+1)=some (.cells 4 [.int .i64 op,.int .i64 n,.int .i64 cp,va])∧∃(i:Nat) (W:Nat→Prop),i+k=args.length∧H'.get (H.nx+2)=some (.cells 3 (G0 (cL w V S (args.take i))))∧I (L++eR w V S (args.take i)) W H'∧(∀b,W b→R b∨H3.nx≤b)∧
   J.get 1=vS∧J.get 3= .func (.func f) first cap∧J.get 4= .pointer (some ⟨H.nx,0,none⟩)∧J.get 6= .pointer (some ⟨H.nx+1,0,none⟩)∧J.get 9= .pointer (some ⟨H.nx+2,0,none⟩)∧J.get 18=va∧J.get 19= .int .i64 args.length∧J.get 20= .int .i64 i) ?_ args.length ⟨Mod.bN jg,aqY _,g1',TB,0,R,by simp,by simpa [cL,G0,fE]using g3,by simpa [eR]using sy.ext hI jg,fun b p=>.inl p,by simp,by simp,by simp,by simp,by simp,by simp [fW],by simp,by simp⟩
  rintro k J H4 ⟨M4,yW,k1,k2,i,R4,hi,k3,D,QO,f1,f3,f4,K,f9,f18,f19,f20⟩;have Z:=M4.wf U;have nm:=M4.n0;have M:Sub G H4:=X.mod M4 Ob;have Gnx:=X.nx
  have QP:∀b,R4 b→G.get b=none:=fun b p=>by
   rcases QO b p with h|h
   ·exact Ob b h
   ·exact AH.rp (by omega)
  have QQ:∀b,R4 b→b<H.nx∨H.nx+3≤b:=fun b p=>by
   rcases QO b p with h|h
   ·exact .inl (Wh b h)
   ·omega
  have tl:=xH (w:=w) (V:=V) (S:=S) args i;by_cases h:i<args.length
  ·obtain ⟨y,B⟩:∃y,args[i]?=some y:=⟨_,aqU h⟩
   have t1:=gK B;have t2:=bY args (i+1);have jF:=jP (op:=op) (n:=n) (cp:=cp) B;obtain ⟨b,o,c',vy,r,cD,bC,rfl,lW⟩:=fU.row (hr.sub M) (fU.sub M hl) B;obtain ⟨b',o',Jo,vy',r',Wi,Wj,rfl,afi⟩:=fU.row hr hl B;rw [cD]at Wi;cases Wi
   have hvy:vy'=vy:=by
    have:=M.ldn Wj;rw [bC]at this;cases this;rfl
   subst hvy;have QR:=f18;rw [cD]at QR;obtain ⟨H5,sH5,g,am7,am8,q,Wl⟩:=dQ (H:=H4) Z (z:=4) (c:=[.int .i64 0,.int .i64 0,.int .i64 0,.slice none 0 0]) (vs:=[.int .i64 y.op,.int .i64 y.n,.int .i64 y.cp,vy']) rfl;have q0:H5.ld ⟨H4.nx,0,none⟩=some (.int .i64 y.op):=Wl 0 _ rfl;have q1:H5.ld ⟨H4.nx,1,none⟩=some (.int .i64 y.n):=Wl 1 _ rfl;have q2:H5.ld ⟨H4.nx,2,none⟩=some (.int .i64 y.cp):=Wl 2 _ rfl;have q3:H5.ld ⟨H4.nx,3,none⟩=some vy':=Wl 3 _ rfl;clear Wl;replace q:H5.ldn ⟨H4.nx,0,none⟩ 4=some [.int .i64 y.op,.int .i64 y.n,.int .i64 y.cp,vy']:=q;have Wm:=g.wf Z;have kk1:=g.get k1;have l1:H5.ldn ⟨H.nx,0,none⟩ 3=some [.int .i64 w,vv,.int .i64 S.length]:=by rw [bB kk1 (by rw [g.n0,nm];exact U) (by simp)];rfl
   have n5:=g.nx
   have evl:((L++eR w V S (args.take i)).length:Int)+av y≤2^40:=by
    have u:=bY args i;have u2:=jW (w:=w) (V:=V) (S:=S) (l:=args.take i) (fun e _=>eS e);rw [aq3];omega
   simp (maxSteps:=9^7)-implicitDefEqProofs+contextual [-X.ev,f1,f3,f4,QR,f19,f20,h,bC,sH5,q,l1];apply ah
   ·(simp-implicitDefEqProofs [-X.ev];rfl)
   refine (ih y _ H5 _ R4 (by omega) Wm (M.Qx g) (sy.ext D g) QP afi (aH y (aqZ B)) evl).mono ?_;rintro x H6 ⟨rfl,R6,hI6,M6,hR6⟩;have Dz:=M6.wf Wm;have n6:=M6.nx;have T:∀j,j<3→¬ R4 (H.nx+j):=fun j hj q=>by have:=QQ _ q;omega
   have j1:=M6.get (T 0 (by omega)) kk1;have j2:=M6.get (T 1 (by omega)) (g.get k2);have j3:=M6.get (T 2 (by omega)) (g.get k3);have Lp:H6.n0=H.n0:=M6.n0.trans (g.n0.trans nm);obtain ⟨H7,s7,M7,Z1,DF,g7⟩:=bH j3 (by rw [Lp];omega) (k:=i) (vs:=[.int .i64 (bz w V S y)]) (by simp [G0];omega);rw [G3 ha3 B]at g7;have hi3:(i:Int)<3:=by omega
   simp (maxSteps:=9^7)-implicitDefEqProofs+contextual [-X.ev,f1,f3,f4,f9,QR,f19,f20,s7,hi3];rw [ai (n:=(i:Int)+1) ⟨by omega,by omega⟩];refine ⟨k- 1,by omega,((M4.trans (Mod.bN g)).then M6 (fun b p q=>?_)).then M7 (fun b p q=>by omega),by omega,M7.get (by omega) j1,M7.get (by omega) j2,i+1,by omega,g7,R6,?_,fun b p=>?_,K,cD.symm,by simp⟩
   ·rcases QO b q with h|h
    ·exact h
    ·omega
   ·rw [GU B,←ark]
    exact sy.mod hI6 M7 (fun b p q=>by
     rcases hR6 b q with h|h
     ·have:=QQ b h;omega
     ·omega)
   ·rcases hR6 b p with h|h
    ·exact QO b h
    ·right;omega
  have hti:args.take i=args:=aq1 (by omega);rw [hti]at k3 D;have B0:H4.n0≤H.nx:=by rw [nm];exact U
  have u0:=aG k1 B0 (k:=0) (v:=.int .i64 w) rfl;have u1:=aG k1 B0 (k:=1) (v:=vv) rfl;have un:H4.ldn ⟨H.nx,0,none⟩ 3=some [.int .i64 w,vv,.int .i64 S.length]:=by rw [bB k1 B0 (by simp)];rfl
  have Q:=aG k2 (by omega) (k:=0) (v:=.int .i64 op) rfl;have v1:=aG k2 (by omega) (k:=1) (v:=.int .i64 n) rfl;have v2:=aG k2 (by omega) (k:=2) (v:=.int .i64 cp) rfl;have v3:=aG k2 (by omega) (k:=3) (v:=va) rfl;have P:=aG k3 (by omega) (k:=0) (v:=.int .i64 (fE (cL w V S args) 0)) rfl;have x1:=aG k3 (by omega) (k:=1) (v:=.int .i64 (fE (cL w V S args) 1)) rfl;have x2:=aG k3 (by omega) (k:=2) (v:=.int .i64 (fE (cL w V S args) 2)) rfl;rw [fW]at f18 v3
  have fin:∀{H':AH},(¬ (op=1∧args≠[]))→Ext H4 H'→∃W,I (L++nq w V S (.mk op n cp args)) W H'∧Mod R H H'∧∀b,W b→R b∨H.nx≤b:=fun rO XX=>by
   refine ⟨R4,?_,M4.trans (Mod.bN XX),fun b p=>(QO b p).imp id (fun q=>by omega)⟩;rw [nq,if_neg rO,List.append_nil];exact sy.ext D XX
  rcases hc with⟨rfl,rfl,h1,h2⟩|⟨rfl,h1,h2,h3,h4,hY⟩|⟨rfl,y0,rfl⟩|⟨rfl,y0,y1,y2,rfl⟩|⟨ho,y0,y1,rfl⟩
  ·have:=fin (H':=H4) (by omega) (Ext.refl _)
   have m:¬ (i:Int)<0:=by omega
   simp (maxSteps:=9^7)-implicitDefEqProofs+contextual [-X.ev,f18,f19,f20,m,K,Q,v1,bz];exact this
  ·obtain ⟨s,C⟩:∃s,S[cp.toNat]?=some s:=⟨_,aqU (by omega)⟩
   have afk:=hS s (aqZ C);have hsa:storeAt S cp=s:=by simp [storeAt,C]
   have uc:=vk hV ⟨h1,h2⟩ (fE (cL w V S args) 0);obtain ⟨x,hx,JI,Ew,N7⟩:=lA fD afk (i:=bT V n+fE (cL w V S args) 0%al V n) (by omega)
   have m:bT V n+fE (cL w V S args) 0%al V n<(s.length:Int):=by
    have:=(aq0.1 hx).1;omega
   have cpS:cp<S.length:=by omega
   rcases hY with⟨rfl,QS⟩|⟨⟨y,rfl⟩,QS⟩
   ·have Ey:¬ (i:Int)<0:=by omega
    obtain ⟨b,o,c',a',Jo,wy,fg,q6⟩:=(fy.sub M).at C;obtain ⟨b3,o3,c3,Np,G5⟩:=q6.at hx;cases Np;have A:fE (cL w V S []) 0=0:=rfl;rw [A]at uc m G5 N7;simp only [Int.zero_emod,Int.add_zero]at uc m G5 N7;have Wn:=bf.1 v2;have HN:=bf.1 fg;have ww:IntKind.i64.wrap (bT V n)=bT V n:=ai ⟨by omega,by omega⟩
    have tz:bz w V S (.mk 1 n cp [])=x:=by
     rw [bz,if_neg (by omega),if_pos rfl,hsa,A,Int.zero_emod,Int.add_zero,N7]
    rw [wy]at f1;simp (maxSteps:=9^7)-implicitDefEqProofs+contextual [-X.ev,f1,f18,f19,f20,Ey,f4,K,Q,v1,v2,v3,un,fg,h3,cpS];apply ah
    ·(simp-implicitDefEqProofs [-X.ev];rfl)
    refine (ub Z (de.sub M hv) gI (by omega) ⟨h1,h2⟩).mono ?_;rintro x' H5 ⟨rfl,g⟩;have g1:0≤bT V n:=by omega
    have afl:=fin (H':=H5) (by simp) g;have afm:=g.ld G5;have afn:=g.ldn Wn;have HN5:=g.ldn HN;have Oc:=g.nx;have JB:=g.n0;simp (maxSteps:=9^7)-implicitDefEqProofs+contextual [-X.ev,ww,bh,aL,aM,Wn,HN,afn,HN5,g1,m,afm,tz,Oc,JB];exact afl
   ·have Ey:¬ (i:Int)<1:=by simp at h;omega
    obtain ⟨yv,G6⟩:∃yv,V[n.toNat]?=some yv:=⟨_,aqU (by omega)⟩
    have Ly:al V n=yv.cells:=by simp [al,G6]
    obtain ⟨b,o,c',kU,_,_,_,Ac⟩:=(de.sub M hv).at G6;have TC:=wd y (by simp);have A:fE (cL w V S [y]) 0=bz w V S y:=rfl;rw [A]at uc m hx N7 P;rw [Ly]at uc m hx N7 QS;have rn:=zY (b:=yv.cells) TC.1;rw [if_neg (by omega)]at rn;have u1':=u1;rw [kU]at u1'
    have bd:((L++eR w V S [y]).length:Int)<2^40:=by
     have u2:=jW (w:=w) (V:=V) (S:=S) (l:=[y]) (fun e _=>eS e);rw [aq3];omega
    simp (maxSteps:=9^7)-implicitDefEqProofs+contextual [-X.ev,f18,f19,f20,Ey,f3,f4,K,f9,Q,v1,v3,P,u1',h1,h2,Ac,rn,bh,aL,aM];apply jR
    ·(simp-implicitDefEqProofs [-X.ev,-Value.func.injEq,f3];rfl)
    ·(simp-implicitDefEqProofs [-X.ev,f3];rfl)
    refine (sy.call (n:=n) (i:=bz w V S y%yv.cells) Z D M QP (by omega)).mono ?_;rintro x' H5 ⟨R5,hI5,Y,hR5⟩;have qt:=Y.wf Z;have SG5:Sub G H5:=M.mod Y QP;have T:∀j,j<3→¬ R4 (H.nx+j):=fun j hj q=>by have:=QQ _ q;omega
    have vv1:=Y.ld (T 1 (by omega)) v1;have vv2:=Y.ld (T 1 (by omega)) v2;have vv0:=Y.ld (T 1 (by omega)) Q;have unn:=Y.ldn (T 0 (by omega)) un;obtain ⟨b5,o5,c5,a',Jo,wy,fg,q6⟩:=(fy.sub SG5).at C;obtain ⟨b3,o3,c3,Np,G5⟩:=q6.at hx;cases Np;have Wn:=bf.1 vv2;have HN:=bf.1 fg;have ww:IntKind.i64.wrap (bT V n+bz w V S y%yv.cells)=bT V n+bz w V S y%yv.cells:=ai ⟨by omega,by omega⟩
    have tz:bz w V S (.mk 1 n cp [y])=x:=by
     rw [bz,if_neg (by omega),if_pos rfl,hsa,A,Ly,N7]
    have afo:nq w V S (.mk 1 n cp [y])=eR w V S [y]++[⟨1,n,bz w V S y%yv.cells⟩]:=by rw [nq,if_pos ⟨rfl,by simp⟩,A,Ly]
    rw [wy]at f1;simp (maxSteps:=9^7)-implicitDefEqProofs+contextual [-X.ev,f1,f4,K,vv0,vv1,vv2,unn,fg,h3,cpS];apply ah
    ·(simp-implicitDefEqProofs [-X.ev];rfl)
    refine (ub qt (de.sub SG5 hv) gI (by omega) ⟨h1,h2⟩).mono ?_;rintro x' H6 ⟨rfl,X6⟩;have g1:0≤bT V n+bz w V S y%yv.cells:=by omega
    have afp:=X6.ld G5;have afq:=X6.ldn Wn;have HN6:=X6.ldn HN;have x6x:=X6.nx;have Ws:=X6.n0;have NY:=Y.nx;simp (maxSteps:=9^7)-implicitDefEqProofs+contextual [-X.ev,ww,bh,aL,aM,Wn,HN,afq,HN6,g1,m,afp,tz,x6x,Ws];rw [afo,←ark];refine ⟨R5,sy.ext hI5 X6,(M4.then Y (fun b p q=>?_)).trans (Mod.bN X6),fun b p=>?_⟩
    ·rcases QO b q with h|h
     ·exact h
     ·omega
    ·rcases hR5 b p with h|h
     ·exact (QO b h).imp id (fun q=>by omega)
     ·right;omega
  ·have TC:=wd y0 (by simp)
   have A:fE (cL w V S [y0]) 0=bz w V S y0:=rfl;rw [A]at P;have m:¬ (i:Int)<1:=by simp at h;omega
   simp (maxSteps:=9^7)-implicitDefEqProofs+contextual [-X.ev,f18,f19,f20,m,K,f4,f9,Q,u0,P];apply ah
   ·(simp-implicitDefEqProofs [-X.ev];rfl)
   refine (Ln Z fD TC).mono ?_;rintro x H5 ⟨rfl,g⟩;have:=fin (H':=H5) (by omega) g;simp (maxSteps:=9^7)-implicitDefEqProofs+contextual [-X.ev];refine ⟨?_,this⟩;rw [bz,if_neg (by omega),if_neg (by omega),if_pos rfl];rfl
  ·have:=fin (H':=H4) (by omega) (Ext.refl _)
   have m:¬ (i:Int)<3:=by simp at h;omega
   by_cases q:fE (cL w V S [y0,y1,y2]) 0=0
   ·simp (maxSteps:=9^7)-implicitDefEqProofs+contextual [-X.ev,f18,f19,f20,m,K,f9,Q,P,x2,q]
    refine ⟨?_,this⟩;rw [bz,if_neg (by omega),if_neg (by omega),if_neg (by omega),if_pos rfl,if_pos q]
   ·simp (maxSteps:=9^7)-implicitDefEqProofs+contextual [-X.ev,f18,f19,f20,m,K,f9,Q,P,x1,q]
    refine ⟨?_,this⟩;rw [bz,if_neg (by omega),if_neg (by omega),if_neg (by omega),if_pos rfl,if_neg q]
  ·have m0:¬ op=0:=by omega
   have m1:¬ op=1:=by omega
   have m12:¬ op=12:=by omega
   have m15:¬ op=15:=by omega
   have A:fE (cL w V S [y0,y1]) 0=bz w V S y0:=rfl;have e1:fE (cL w V S [y0,y1]) 1=bz w V S y1:=rfl;rw [A]at P;rw [e1]at x1;have m:¬ (i:Int)<2:=by simp at h;omega
   simp (maxSteps:=9^7)-implicitDefEqProofs+contextual [-X.ev,f18,f19,f20,m,K,f4,f9,Q,u0,P,x1,m0,m1,m12,m15];apply ah
   ·(simp-implicitDefEqProofs [-X.ev];rfl)
   refine (QD Z ho fD (wd y0 (by simp)) (wd y1 (by simp))).mono ?_;rintro x H5 ⟨rfl,g⟩;have:=fin (H':=H5) (by omega) g;simp (maxSteps:=9^7)-implicitDefEqProofs+contextual [-X.ev];refine ⟨?_,this⟩;rw [bz,if_neg m0,if_neg m1,if_neg m12,if_neg m15,A,e1]
open Go
structure MV where
 vf:Value
 w:Int
 vv:Value
 vb:Value
 fuel:Int
 vp:Value
 en:Int
 vs:Value
 vo:Value
 vt:Value
 cost:Int
 used:Int
 wh:Int
 ended:Bool
abbrev MV.rest (v:MV):List Value:=[.int .i64 v.w,v.vv,v.vb,.int .i64 v.fuel,v.vp,.int .i64 v.en,v.vs,v.vo,v.vt,.int .i64 v.cost,.int .i64 v.used,.int .i64 v.wh,.bool v.ended]
abbrev MV.cells (v:MV):List Value:=v.vf::v.rest
def Ad (o:Int×Int):List Value:=[.int .i64 o.1,.int .i64 o.2]
def cQ (l:List (Int×Int)):List (List Value):=l.map Ad
theorem sA (l m:List (Int×Int)):cQ (l++m)=cQ l++cQ m:=by simp [cQ]
theorem iS (l:List (Int×Int)):(cQ l).length=l.length:=by simp [cQ]
def Mf (m:Nat) (v:MV) (b:Nat):Prop:=b=m∨aS v.vf b∨aS v.vs b∨aS v.vo b∨aS v.vt b
structure MH (G H:AH) (m:Nat) (v:MV) (rows:List (List Value)) (store:List Int) (outs:List (Int×Int)) (trace:List Ev):Prop where
 get:H.get m=some (.cells 14 v.cells)
 n0:H.n0≤m
 sub:Sub G H
 wf:H.n0≤H.nx
 fr:fw H 2 v.vf rows
 st:dE H 1 v.vs (bI store)
 ou:dE H 2 v.vo (cQ outs)
 tr:dE H 3 v.vt (du trace)
 d1:¬ aS v.vf m∧¬ aS v.vs m∧¬ aS v.vo m∧¬ aS v.vt m
 d2:∀b,aS v.vf b→¬ aS v.vs b∧¬ aS v.vo b∧¬ aS v.vt b
 d3:∀b,aS v.vs b→¬ aS v.vo b∧¬ aS v.vt b
 d4:∀b,aS v.vo b→¬ aS v.vt b
 out:∀b,Mf m v b→G.get b=none
theorem MH.lt {G H:AH} {m:Nat} {v:MV} {rows:List (List Value)} {store:List Int} {outs:List (Int×Int)} {trace:List Ev} (h:MH G H m v rows store outs trace) {b:Nat} (a:Mf m v b):b<H.nx:=by
 rcases a with rfl|a|a|a|a
 ·exact AH.aQ h.get
 ·exact h.fr.lt a
 ·exact h.st.lt a
 ·exact h.ou.lt a
 ·exact h.tr.lt a
theorem MH.mod {G H H':AH} {m:Nat} {v:MV} {rows:List (List Value)} {store:List Int} {outs:List (Int×Int)} {trace:List Ev} {T:Nat→Prop} (h:MH G H m v rows store outs trace) (M:Mod T H H') (c:∀b,T b→¬ Mf m v b) (d:∀b,T b→G.get b=none):MH G H' m v rows store outs trace where
 get:=M.get (fun q=>c m q (.inl rfl)) h.get
 n0:=by rw [M.n0];exact h.n0
 sub:=h.sub.mod M d
 wf:=M.wf h.wf
 fr:=h.fr.mod M fun b a q=>c b q (.inr (.inl a))
 st:=h.st.mod M fun b a q=>c b q (.inr (.inr (.inl a)))
 ou:=h.ou.mod M fun b a q=>c b q (.inr (.inr (.inr (.inl a))))
 tr:=h.tr.mod M fun b a q=>c b q (.inr (.inr (.inr (.inr a))))
 d1:=h.d1
 d2:=h.d2
 d3:=h.d3
 d4:=h.d4
 out:=h.out
theorem MH.ext {G H H':AH} {m:Nat} {v:MV} {rows:List (List Value)} {store:List Int} {outs:List (Int×Int)} {trace:List Ev} (h:MH G H m v rows store outs trace) (X:Ext H H'):MH G H' m v rows store outs trace:=h.mod (Mod.bN (S:=fun _=>False) X) (by simp) (by simp)
theorem MH.vx {G H H':AH} {m:Nat} {v:MV} {rows:List (List Value)} {store:List Int} {outs:List (Int×Int)} {trace d:List Ev} {vt:Value} {cost:Int} (h:MH G H m v rows store outs trace) (M:Mod (fun b=>b=m∨aS v.vt b) H H') (g:H'.get m=some (.cells 14 ({v with vt:=vt,cost:=cost}:MV).cells)) (o:dE H' 3 vt (du d)) (c:∀b,aS vt b→aS v.vt b∨H.nx≤b):MH G H' m {v with vt:=vt,cost:=cost} rows store outs d where
 get:=g
 n0:=by rw [M.n0];exact h.n0
 sub:=h.sub.mod M fun b a=>h.out b (by rcases a with q|q;exact .inl q;exact .inr (.inr (.inr (.inr q))))
 wf:=M.wf h.wf
 fr:=h.fr.mod M fun b a q=>by rcases q with rfl|q;exact h.d1.1 a;exact (h.d2 b a).2.2 q
 st:=h.st.mod M fun b a q=>by rcases q with rfl|q;exact h.d1.2.1 a;exact (h.d3 b a).2 q
 ou:=h.ou.mod M fun b a q=>by rcases q with rfl|q;exact h.d1.2.2.1 a;exact h.d4 b a q
 tr:=o
 d1:=⟨h.d1.1,h.d1.2.1,h.d1.2.2.1,fun q=>by rcases c m q with q|q;exact h.d1.2.2.2 q;have:=h.lt (.inl rfl);omega⟩
 d2:=fun b a=>⟨(h.d2 b a).1,(h.d2 b a).2.1,fun q=>by rcases c b q with q|q;exact (h.d2 b a).2.2 q;have:=h.lt (.inr (.inl a));omega⟩
 d3:=fun b a=>⟨(h.d3 b a).1,fun q=>by rcases c b q with q|q;exact (h.d3 b a).2 q;have:=h.lt (.inr (.inr (.inl a)));omega⟩
 d4:=fun b a q=>by rcases c b q with q|q;exact h.d4 b a q;have:=h.lt (.inr (.inr (.inr (.inl a))));omega
 out:=fun b a=>by
  rcases a with q|q|q|q|q
  ·exact h.out b (.inl q)
  ·exact h.out b (.inr (.inl q))
  ·exact h.out b (.inr (.inr (.inl q)))
  ·exact h.out b (.inr (.inr (.inr (.inl q))))
  ·rcases c b q with q|q
   ·exact h.out b (.inr (.inr (.inr (.inr q))))
   ·exact AH.rp (arh h.sub.nx q)
theorem tell {H:AH} {m:Nat} {v:MV} {trace:List Ev} (e:Ev) (F:H.n0≤H.nx) (g:H.get m=some (.cells 14 v.cells)) (J:H.n0≤m) (o:dE H 3 v.vt (du trace)) (G:¬ aS v.vt m) (s:trace.length≤2^41):
 ∃H1 a c H2 d,mB 1 3 [.int .i64 0,.int .i64 0,.int .i64 0] H [(0,3,.agg #[.int .i64 e.kind,.int .i64 e.at_,.int .i64 e.val])]=some (.slice (some ⟨H.nx,0,none⟩) 1 1,H1)∧bc 3 24 H1 v.vt (.slice (some ⟨H.nx,0,none⟩) 1 1)=some (.slice a (trace.length+1) c,H2)∧H2.st ⟨m,9,none⟩ [.slice a (trace.length+1) c]=some d∧
  d.get m=some (.cells 14 ({v with vt:=.slice a (trace.length+1) c}:MV).cells)∧dE d 3 (.slice a (trace.length+1) c) (du (trace++[e]))∧Mod (fun b=>b=m∨aS v.vt b) H d∧(∀b,aS (.slice a (trace.length+1) c) b→H.nx≤b)∧H1.n0=H.n0∧H.nx≤H1.nx∧Ext H H1∧H2.n0=H.n0∧H1.nx≤H2.nx∧d.n0=H.n0∧d.nx=H2.nx∧Mod (aS v.vt) H H2:=by
 have i:=xD (sz:=3) (z:=[.int .i64 0,.int .i64 0,.int .i64 0]) (H:=H) (v:=.agg #[.int .i64 e.kind,.int .i64 e.at_,.int .i64 e.val]) rfl rfl rfl;simp only [gh]at i;have X:=Ext.alloc H (.cells 3 [.int .i64 e.kind,.int .i64 e.at_,.int .i64 e.val])
 obtain ⟨H1,t⟩:∃H1,H.alloc (.cells 3 [.int .i64 e.kind,.int .i64 e.at_,.int .i64 e.val])=H1:=⟨_,rfl⟩
 obtain ⟨M,H2,I,l,j,n,f,N,w,E,C,B⟩:=jT (bytes:=24) F o (r:=[.int .i64 e.kind,.int .i64 e.at_,.int .i64 e.val]) rfl t (by rw [jC];omega) (by rw [jC];omega);rw [t]at i X;obtain ⟨a,c,p⟩:=l.shape;rw [aq3,List.length_singleton,jC]at p;subst p;have L:=j.get G g;obtain ⟨d,y,u,A,D,K⟩:=bH L (by rw [f];exact J) (k:=9) (vs:=[.slice a (trace.length+1) c]) (by simp);refine ⟨H1,a,c,H2,d,i,I,y,K,?_,(j.mono fun x _ h=>.inr h).trans (u.mono fun x _ h=>.inl h),n,E,C,X,f,B,D.trans f,A,j⟩;rw [tE];exact l.mod u fun b s q=>by have:=n b s;have:=AH.aQ g;omega
def Wu (m:Nat) (v:MV) (tr0:List Ev) (nw:List Ev) (R:Nat→Prop) (H:AH):Prop:=∃vt,R=(fun b=>b=m∨aS vt b)∧H.get m=some (.cells 14 ({v with vt:=vt}:MV).cells)∧H.n0≤m∧dE H 3 vt (du (tr0++nw))∧¬ aS vt m
theorem QT {G:AH} {m B:Nat} {v:MV} {f:List Ev} (C:G.ld ⟨B,0,none⟩=some (.pointer (some ⟨m,0,none⟩))) (y:f.length≤2^40):Wg G 158 #[] #[.pointer (some ⟨B,0,none⟩)] (Wu m v f)where
 call:=by
  rintro E R H n i P ⟨vt,rfl,g,e,o,j⟩ X S hl;refine Ca.aV (F:=Kr) rfl rfl rfl ?_;have w:=X.ld C;obtain ⟨Z,a,c,Y,H3,d,z,x,D,s,V,r,N,K,U,L,t,u,I,W⟩:=tell (v:={v with vt:=vt}) ⟨1,n,i⟩ P g e o j (by rw [aq3];omega);simp only [aq3]at z x D s r;have l:=(X.mod W (fun b d=>S b (.inr d))).ldn (bf.1 C);have J:Z.nx≤Y.nx:=t;have O:=aG g e (k:=9) (v:=vt) rfl;have Q:eD [.int .i64 0,.int .i64 0,.int .i64 0] [(0,1,.int .i64 1),(1,1,.int .i64 n),(2,1,.int .i64 i)]=some (.agg #[.int .i64 1,.int .i64 n,.int .i64 i]):=rfl;have h:=bf.1 w;have p:=U.ldn h;simp (maxSteps:=9^7)-implicitDefEqProofs+contextual [-X.ev,Kr,w,O,Q,d,z,x,h,p,l,N,K,L,t,u,I,bh,aL,aM];exact ⟨_,⟨_,rfl,D,by rw [u];exact e,by simpa [ark]using s,fun q=>by have:=r m q;have:=AH.aQ g;omega⟩,V,fun b d=>d.imp (fun q=>.inl q) (fun q=>r b q)⟩
 mod:=by
  rintro E R T H H' ⟨vt,rfl,g,e,o,j⟩ M A;exact ⟨vt,rfl,M.get (fun q=>A m q (.inl rfl)) g,by rw [M.n0];exact e,o.mod M (fun b d q=>A b q (.inr d)),j⟩
 lt:=by
  rintro E R H ⟨vt,rfl,g,e,o,j⟩ b d;rcases d with rfl|d
  ·exact AH.aQ g
  ·exact o.lt d
end
section
open Go
theorem G7 {G:AH} {w:Int} {h o:Value} {V:List Vr} {S:List (List Int)} {f:Nat} {first cap:Array Value} {I:List Ev→(Nat→Prop)→AH→Prop} (D:aA w V=true) (J:GS w V S) (A:de G h V) (u:GY h) (r:gF G o S) (k:Wg G f first cap I)
 {e:bV} {c:List Value} {H:AH} {i:List Ev} {R:Nat→Prop} (p:H.n0≤H.nx) (X:Sub G H) (v:I i R H) (K:∀b,R b→G.get b=none) (t:oh G c e) (B:cY w V S.length e=true) (l:(i.length:Int)+av e≤2^40):
 Ca E O 157 [.int .i64 w,h,o,.agg c.toArray,.func (.func f) first cap] H (fun x H'=>x= .int .i64 (bz w V S e)∧∃y,I (i++nq w V S e) y H'∧Mod R H H'∧∀b,y b→R b∨H.nx≤b):=by
 refine Ca.aV (F:=a157) rfl rfl rfl ?_;obtain ⟨a,Z,j⟩:=r.len;have U:c.length=4:=by cases t;rfl
 have W:=k.lt v;have g:=Ext.alloc H (.cells c.length c);have d:(H.alloc (.cells c.length c)).ldn ⟨H.nx,0,none⟩ 4=some c:=a7 p 4 (by assumption);generalize L:H.alloc (.cells c.length c)=P at g d;have z:=g.wf p
 have C:eD [.int .i64 0,.slice none 0 0,.int .i64 0] [(0,1,.int .i64 w),(1,1,h),(2,1,.int .i64 S.length)]=some (.agg #[.int .i64 w,h,.int .i64 S.length]):=by
  obtain ⟨a1,T,Y,rfl,_⟩:=u;rfl
 have s:=G4 D J A u r k _ e c P i R (aq9 _) z (X.Qx g) (k.ext v g) K t B l;rw [j]at s⊢;simp (maxSteps:=9^7)-implicitDefEqProofs+contextual [-X.ev,a157,L,C,d];apply ah
 ·(simp-implicitDefEqProofs [-X.ev];rfl)
 refine (s).mono ?_;rintro x H2 ⟨rfl,M,n,N,m⟩;have Q:=g.nx;simp (maxSteps:=9^7)-implicitDefEqProofs+contextual [-X.ev];exact ⟨M,n,(Mod.bN g).then N (fun b _ q=>q),fun b l=>(m b l).imp id (fun q=>by omega)⟩
theorem G8 {G H:AH} {R:Nat→Prop} (X:Sub G H) (a:∀b,R b→G.get b=none):Sub G (part H 0 R):=
 ⟨by rw [oC,X.n0],by rw [vq];exact X.nx,fun b x k=>iR.2 ⟨X.get b x k,aro _,fun q=>by rw [a b q]at k;cases k⟩⟩
theorem ud {H:AH} {n:Nat} {R:Nat→Prop} {b:Nat} (a:R b):(part H n R).get b=none:=by
 cases h:(part H n R).get b with
 |none=>rfl
 |some x=>exact absurd a (iR.1 h).2.2
theorem jX {G H:AH} {m:Nat} {v:MV} {rows:List (List Value)} {store:List Int} {outs:List (Int×Int)} {trace:List Ev} {V:List Vr} {e:bV} {c:List Value} (h:MH G H m v rows store outs trace) (hV:aA v.w V=true) (hS:bK v.w V store=true) (hv:de G v.vv V) (gI:GY v.vv) (S:oh G c e) (hf:cY v.w V 1 e=true) (a:(trace.length:Int)+av e≤2^40) (hc:0≤v.cost∧v.cost+av e≤2^60):
 Ca E O 142 [.pointer (some ⟨m,0,none⟩),.agg c.toArray] H (fun x H'=>x= .int .i64 (bz v.w V [store] e)∧∃s,MH G H' m {v with vt:=s,cost:=v.cost+av e} rows store outs (trace++nq v.w V [store] e)∧Mod (fun b=>b=m∨aS v.vt b) H H'∧∀b,aS s b→aS v.vt b∨H.nx≤b):=by
 refine Ca.aV (F:=Kn) rfl rfl rfl ?_;have hc4:c.length=4:=by cases S;rfl
 have u:=h.wf;have gB:=cg H (.cells 1 [.pointer (some ⟨m,0,none⟩)]);have J:=Ext.alloc H (.cells 1 [.pointer (some ⟨m,0,none⟩)]);have d0:(H.alloc (.cells 1 [.pointer (some ⟨m,0,none⟩)])).ld ⟨H.nx,0,none⟩=some (.pointer (some ⟨m,0,none⟩)):=aj u rfl;have d:(H.alloc (.cells 1 [.pointer (some ⟨m,0,none⟩)])).ldn ⟨H.nx,0,none⟩ 1=some [.pointer (some ⟨m,0,none⟩)]:=a7 u 1 rfl;generalize cz:H.alloc (.cells 1 [.pointer (some ⟨m,0,none⟩)])=B at J d0 d;have bo:=J.wf u;rw [cz]at gB;have p:=Ext.alloc B (.cells c.length c);have q:(B.alloc (.cells c.length c)).ldn ⟨B.nx,0,none⟩ 4=some c:=a7 bo 4 (by assumption);generalize kl:B.alloc (.cells c.length c)=H2 at p q;have iP:=p.wf bo;have Z:=J.trans p;have h2:=h.ext Z;have x1:=J.nx;have x2:=p.nx;have pn:=dR e;have ltm:=h.lt (.inl rfl);have Ts:=p.ld d0;have l10:=aG h2.get h2.n0 (k:=10) (v:=.int .i64 v.cost) rfl;have dn:=bf.1 Ts;have ln:=bf.1 l10;simp (maxSteps:=9^7)-implicitDefEqProofs+contextual [-X.ev,Kn,cz,kl,Ts,l10,q];apply ah
 ·(simp-implicitDefEqProofs [-X.ev];rfl)
 refine (tY _ _ c H2 (aq9 _) iP (S.sub h2.sub) (by omega)).mono ?_;rintro x H3 ⟨rfl,i⟩;have I:=h2.ext i;have x3:=i.nx;have r:=i.n0;have Y:=i.ldn dn;have M:=i.ldn ln;have ww:IntKind.i64.wrap (v.cost+av e)=v.cost+av e:=ai ⟨by omega,by omega⟩;obtain ⟨f,s4,A,yW,nm,g4⟩:=bH I.get I.n0 (k:=10) (vs:=[.int .i64 (v.cost+av e)]) (by simp);have g:MH G f m {v with vt:=v.vt,cost:=v.cost+av e} rows store outs trace:=I.vx (A.mono fun x _ Q=>.inl Q) g4 (I.tr.mod A fun b a q=>h.d1.2.2.2 (q▸a)) (fun b a=>.inl a);have qq:=g.wf;have Wv:f.n0=H.n0:=nm.trans (r.trans Z.n0);have Tx:=A.get (fun q=>by omega) (i.get (p.get gB));have P:f.ld ⟨H.nx,0,none⟩=some (.pointer (some ⟨m,0,none⟩)):=aG Tx (by rw [Wv];exact u) rfl;have q4:f.ldn ⟨B.nx,0,none⟩ 4=some c:=A.ldn (fun q=>by simp at q;omega) (i.ldn q);have r1:=aG g.get g.n0 (k:=1) (v:=.int .i64 v.w) rfl;have r2:=aG g.get g.n0 (k:=2) (v:=v.vv) rfl;have r7:=aG g.get g.n0 (k:=7) (v:=v.vs) rfl;obtain ⟨sa,sc,C⟩:=h.st.shape;have D:=xD (sz:=1) (z:=[.slice none 0 0]) (H:=f) (v:=v.vs) (by rw [C];rfl) (by rw [C];rfl) rfl;have R:aR v.vs=[v.vs]:=by rw [C];rfl
 rw [R]at D;have l:=Ext.alloc f (.cells 1 [v.vs]);have g5:=cg f (.cells 1 [v.vs])
 obtain ⟨H5,Z3⟩:∃H5,f.alloc (.cells 1 [v.vs])=H5:=⟨_,rfl⟩
 rw [Z3]at D l g5;have j:=g.ext l;have x5:=l.nx;have qt:=j.wf;have L:=l.n0
 obtain ⟨o,y⟩:∃o:Nat→Prop,o=(fun b=>b=m∨aS v.vt b):=⟨_,rfl⟩
 have Ob:∀b,o b→G.get b=none:=fun b a=>h.out b (by subst y;rcases a with q|q;exact .inl q;exact .inr (.inr (.inr (.inr q))))
 have Wx:∀b,o b→b<H.nx:=fun b a=>h.lt (by subst y;rcases a with q|q;exact .inl q;exact .inr (.inr (.inr (.inr q))))
 have SG:=G8 j.sub Ob;have N:(part H5 0 o).ld ⟨H.nx,0,none⟩=some (.pointer (some ⟨m,0,none⟩)):=aG (iR.2 ⟨l.get Tx,aro _,fun q=>by have:=Wx _ q;omega⟩) (by rw [oC,L,Wv];exact u) rfl
 have oS:dE H5 1 (.slice (some ⟨f.nx,0,none⟩) 1 1) [[v.vs]]:=⟨.inr ⟨f.nx,rfl,by rw [L];exact qq,g5⟩,by simp⟩
 have sC:gF (part H5 0 o) (.slice (some ⟨f.nx,0,none⟩) 1 1) [store]:=⟨[[v.vs]],(oS.part fun b a=>⟨aro _,fun q=>by rw [ba]at a;have:=Wx _ q;omega⟩).rows,.cons ⟨v.vs,rfl,(j.st.part fun b a=>⟨aro _,fun q=>by
  subst y;rcases q with rfl|q
  ·exact h.d1.2.1 a
  ·exact (h.d3 b a).2 q⟩).ints⟩ .nil⟩
 have hI:Wu m {v with vt:=v.vt,cost:=v.cost+av e} trace [] o H5:=⟨v.vt,y,j.get,j.n0,by simpa using j.tr,h.d1.2.2.2⟩
 have EN:GS v.w V [store]:=fun t ht=>by simp at ht;subst ht;exact hS
 have key:=G7 hV EN (de.sub SG hv) gI sC (QT N (by omega)) qt (BE _ _ _) hI (fun b a=>ud a) (S.sub SG) hf (by simp;omega);have w1:=ai (n:=v.cost+av e) ⟨by omega,by omega⟩;rw [C]at r7 D;simp (maxSteps:=9^7)-implicitDefEqProofs+contextual [-X.ev,ww,s4,x3,r,yW,nm,dn,Y,ln,M,bh,aL,aM,P,r1,r2,r7,D,l.ldn q4];rw [yW]at key;apply ah
 ·(simp-implicitDefEqProofs [-X.ev];rfl)
 refine (key).mono ?_;rintro x H6 ⟨rfl,R6,⟨s,U,g6,h06,o6,T⟩,K,W⟩;have x6:=K.nx;have Ws:=K.n0;simp (maxSteps:=9^7)-implicitDefEqProofs+contextual [-X.ev,bh,aL,aM,x5,L,x6,Ws];subst y
 have fresh:∀b,aS s b→aS v.vt b∨H5.nx≤b:=fun b a=>by
  rcases W b (by rw [U];exact .inr a)with(q|q)|q
  ·subst q;exact absurd a T
  ·exact .inl q
  ·exact .inr q
 refine ⟨s,j.vx K g6 (by simpa using o6) fresh,?_,fun b a=>(fresh b a).imp id (fun q=>by omega)⟩;exact (((Mod.bN (Z.trans i)).trans (A.mono fun x _ Q=>.inl Q)).trans (Mod.bN l)).trans K
end
end Go.Proofs.YtppcmpmnglaleaaGreatDoor.A
