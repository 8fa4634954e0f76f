/- Texts that stand one behind the other: AbsR, S24, S25, S26, S27, S28, S29, S30, S31, S32, S33, S34, S35. -/
import Derived.Test.YtppcmpmnglaleaaGreatDoorG16
import Derived.SizedLaws
import Derived.OpenShut
import Derived.ProofKit
import Derived.ChangeOld
import Derived.ShutString
set_option linter.unusedVariables false
set_option linter.unusedSimpArgs false
namespace Go.Proofs.YtppcmpmnglaleaaGreatDoor.A
section
open Go Go.RowKit Go.WideShapes Go.ChangeShapes
section
variable{T:Type} {enc:TypeId×Value→T} {P:Program} {W:World}
theorem Rr {α:Type} {l:List α} (h:l.length=2):∃a b,l=[a,b]:=by
 match l,h with
 |[a,b],_=>exact ⟨a,b,rfl⟩
theorem JB {α:Type} {l:List α} (h:l.length=3):∃a b c,l=[a,b,c]:=by
 match l,h with
 |[a,b,c],_=>exact ⟨a,b,c,rfl⟩
def Rd (enc:TypeId×Value→T) (P:Program) (W:World) (n:Nat) (t:TypeId) (cs:List Value) (d:DataW T):Prop:=∃ps,DataW.trod enc P W 0 (fun _=>true) true n t cs=some (d,ps)
def zN (P:Program) (t:TypeId) (d:DataW T):Prop:=∀n∈d.weights P t,n≤reachBytes
theorem kh {n:Nat} {t:TypeId} {k:IntKind} {cs:List Value} {d:DataW T} (a:P.underlying t=some (.int k)) (h:Rd enc P W n t cs d):∃m,cs=[.int k m]∧(Lit.int k m).wf=true:=by
 obtain ⟨ps,h⟩:=h;obtain ⟨m,b,_,h2⟩:=DataW.trod_int a h;exact ⟨m,b,h2⟩
theorem wf_i64 {m:Int} (h:(Lit.int .i64 m).wf=true):lC m:=by
 have:=bounds_i64 h;unfold lC;omega
theorem Ub {n:Nat} {t:TypeId} {cs:List Value} {d:DataW T} (b:P.underlying t=some .string) (h:Rd enc P W n t cs d) (a:zN P t d):∃s:ByteArray,cs=[.string s]∧s.size≤reachBytes:=by
 obtain ⟨ps,h⟩:=h;obtain ⟨s,c,h2,_⟩:=DataW.trod_string b h;cases h2;have:=a s.data.toList.length (by simp [DataW.weights]);exact ⟨s,c,by simpa using this⟩
theorem DM {b o:Nat} {v:Value} (h:W.cell? ⟨b,o,none⟩=some v):∃arr ty d,W.heap[b]?=some (.cells arr ty d)∧arr[o]?=some v:=by
 unfold World.cell? at h;dsimp only at h;split at h
 ·rename_i c e f a
  simp at h;exact ⟨c,e,f,a,h⟩
 ·cases h
theorem OC {b o n:Nat} {cs l:List Value} (m:0<n) (s:cs.length=n) (h:∀j,j<n→W.cell? ⟨b,o+j,none⟩=cs[j]?) (q:aS W.heap.size cs=some l):b<W.heap.size∧(H0 W).ldn ⟨b,o,none⟩ n=some l:=by
 obtain ⟨arr,ty,u,f,t⟩:=DM (b:=b) (o:=o) (v:=cs[0]'(by omega)) (by have:=h 0 m;rw [Nat.add_zero]at this;rw [this];exact avg (by omega));have d:=(avu.1 f).1;refine ⟨d,?_⟩
 have c:∀j,j<n→arr[o+j]?=cs[j]?:=by
  intro j c;have:=h j c;obtain ⟨i,_,_,g,r⟩:=DM (v:=cs[j]'(by omega)) (by rw [this];exact avg (by omega));rw [f]at g;cases g;rw [r,avg (by omega)]
 have a:o+n≤arr.toList.length:=by
  have:=c (n- 1) (by omega);rw [avg (by omega)]at this;have:=(avu.1 this).1;rw [Array.length_toList];omega
 have k:(arr.toList.drop o).take n=cs:=by
  apply List.ext_getElem?;intro j;by_cases e:j<n
  ·rw [avP,if_pos e,avU,Array.getElem?_toList,c j e]
  ·rw [avP,if_neg e,avV (by omega)]
 have p:(H0 W).get b=some (.cells 1048576 arr.toList):=by
  rw [AH.fN d,BF];unfold vZ;rw [f]
 unfold AH.ldn;dsimp only;rw [p];simp only [a,decide_true,cond_true,k];rw [show decide (b<(H0 W).n0)=true from decide_eq_true d,cond_true];exact q
inductive gC {α β:Type} (C:α→β→Prop):List α→List β→Prop where
 |nil:gC C [] []
 |cons {a:α} {b:β} {l:List α} {m:List β}:C a b→gC C l m→gC C (a::l) (b::m)
theorem gC.length {α β:Type} {C:α→β→Prop}:∀{l:List α} {m:List β},gC C l m→l.length=m.length
 |_,_,.nil=>rfl
 |_,_,.cons _ h=>by simp [gC.length h]
theorem OD {α β:Type} {C:α→β→Prop} {l:List α}:(∀(i:Nat) (a:α),l[i]?=some a→∃b,C a b)→∃m,gC C l m:=by
 induction l with
 |nil=>exact fun _=>⟨[],.nil⟩
 |cons a l ih=>
  intro h;obtain ⟨b,e⟩:=h 0 a rfl;obtain ⟨m,d⟩:=ih fun i x c=>h (i+1) x (by simpa using c)
  exact ⟨b::m,.cons e d⟩
theorem DN {α:Type} {p:Nat→α→Prop}:∀n,(∀i,i<n→∃x,p i x)→∃l:List α,l.length=n∧∀i x,l[i]?=some x→p i x
 |0,_=>⟨[],rfl,by simp⟩
 |n+1,h=>by
  obtain ⟨l,b,d⟩:=DN n fun i hi=>h i (by omega)
  obtain ⟨x,c⟩:=h n (by omega);refine ⟨l++[x],by simp [b],fun i y a=>?_⟩;by_cases hi:i<n
  ·rw [avt (by omega)]at a;exact d i y a
  ·rw [avx (by omega)]at a
   have:i=n:=by
    have:=(avm.1 a).1;simp at this;omega
   subst this;simp [b]at a;subst a;exact c
theorem OE {α:Type} {C:List Value→α→Prop} {t e:TypeId} {fuel:Nat} {cs:List Value} {d:DataW T} (F:P.underlying t=some (.slice e)) (K:0<P.cellsOf e) (X:0<P.bytesOf e)
 (h:Rd enc P W fuel t cs d) (O:zN P t d) (rd:∀m dL g,m<fuel→Rd enc P W m e dL g→zN P e g→∃l y,aS W.heap.size dL=some l∧C l y):
 ∃v rows ys,aS W.heap.size cs=some [v]∧Rows (H0 W) (P.cellsOf e) v rows∧gC C rows ys∧rows.length*P.bytesOf e≤reachBytes:=by
 obtain ⟨ps,h⟩:=h;rcases DataW.trod_slice F h with⟨rfl,_⟩|⟨a,len,cap,elems,rest,n,hf,rfl,q,_,R,_,s,A,_,_⟩
 ·exact ⟨_,[],[],rfl,⟨_,_,rfl,by simp⟩,.nil,by simp⟩
 cases q
 have E:∀m∈((elems.map (·.1)).length+(rest.map (·.1)).length)*P.bytesOf e::(DataW.weightsAll P e (elems.map (·.1))++DataW.weightsAll P e (rest.map (·.1))),m≤reachBytes:=by
  intro m f;refine O m ?_;simp only [DataW.weights,F];exact f
 have V:len*P.bytesOf e≤reachBytes:=by
  have:=E _ (List.mem_cons_self ..);rw [List.length_map,s]at this;exact avC (Nat.mul_le_mul_right _ (by omega)) this
 have Z:∀(l:List (DataW T)) (x:DataW T),x∈l→∀m∈x.weights P e,m∈DataW.weightsAll P e l:=by
  intro l
  induction l with
  |nil=>intro x q;cases q
  |cons y l ih=>
   intro x q m f;simp only [DataW.weightsAll,avA];rcases avy.1 q with rfl|q
   ·exact .inl f
   ·exact .inr (ih x q m f)
 by_cases h0:len=0
 ·subst h0
  cases G:(decide (a.block<W.heap.size)&&a.spot.isNone)with
  |true=>exact ⟨.slice (some a) 0 cap,[],[],by simp only [aS,bw,G,cond_true],⟨_,_,rfl,by simp⟩,.nil,by simp⟩
  |false=>exact ⟨.slice (some ⟨0,0,some 1⟩) 0 0,[],[],by simp [aS,bw,G],⟨_,_,rfl,by simp⟩,.nil,by simp⟩
 obtain ⟨b,o,spot⟩:=a
 have key:∀i,i<len→∃dL g,(∃m,m<fuel∧Rd enc P W m e dL g)∧zN P e g∧W.cells? 0 ((⟨b,o,spot⟩:Addr).add (i*P.cellsOf e)) (P.cellsOf e)=some dL:=by
  intro i hi;have:=A i hi;rw [avg (by omega)]at this;obtain ⟨dL,D,h2⟩:=avr.1 this;refine ⟨dL,(elems[i]'(by omega)).1,⟨n,by omega,⟨_,h2⟩⟩,fun m f=>?_,D⟩;refine E m (List.mem_cons_of_mem _ (List.mem_append_left _ (Z _ _ ?_ m f)));exact List.mem_map_of_mem (List.getElem_mem _)
 have Q:spot=none∧b<W.heap.size:=by
  obtain ⟨dL,g,_,_,B⟩:=key 0 (by omega);obtain ⟨_,J,z⟩:=World.cells?_some B;have:=z 0 K;rw [avg (by omega)]at this;simp only [Nat.zero_mul,Addr.add,if_true]at this;unfold World.cell? at this;dsimp only at this;split at this
  ·rename_i c ty fz U
   cases spot with
   |none=>exact ⟨rfl,(avu.1 U).1⟩
   |some x=>simp at this
  ·cases this
 obtain ⟨rfl,Y⟩:=Q
 have L:∀o k,(⟨b,o,none⟩:Addr).add k=⟨b,o+k,none⟩:=by
  intro o k;unfold Addr.add;split
  ·rename_i S;subst S;rfl
  ·rfl
 obtain ⟨rows,I,H⟩:=DN (p:=fun i (r:List Value)=>(∃y,C r y)∧(H0 W).ldn ⟨b,o+i*P.cellsOf e,none⟩ (P.cellsOf e)=some r) len (fun i hi=>by
  obtain ⟨dL,g,⟨m,f,u⟩,N,B⟩:=key i hi;obtain ⟨l,y,D,h2⟩:=rd m dL g f u N;obtain ⟨_,J,z⟩:=World.cells?_some B;refine ⟨l,⟨y,h2⟩,(OC K J (fun j w=>?_) D).2⟩;have:=z j w;rw [L,L]at this
  exact this)
 obtain ⟨ys,M⟩:=OD (l:=rows) (C:=C) fun i r u=>(H i r u).1
 refine ⟨.slice (some ⟨b,o,none⟩) len cap,rows,ys,?_,⟨_,_,by rw [I],fun i r hi=>⟨b,o,rfl,(H i r hi).2⟩⟩,M,by rw [I];exact V⟩;simp [aS,bw,Y]
theorem nX {t:TypeId} {fs:Array Field} {fuel:Nat} {cs:List Value} {d:DataW T} (a:P.underlying t=some (.struct fs)) (h:Rd enc P W fuel t cs d) (c:zN P t d):
 cs.length=P.cellsOf t∧∃m,m<fuel∧∀(i:Nat) (f:Field),fs[i]?=some f→∃di,Rd enc P W m f.type ((cs.drop f.offset).take (P.cellsOf f.type)) di∧zN P f.type di:=by
 obtain ⟨ps,h⟩:=h;obtain ⟨xs,n,p,b,g,l,k⟩:=DataW.trod_struct a h;cases b;refine ⟨g,n,by omega,fun i f hi=>?_⟩;have o:=(avu.1 hi).1;have:=k i f hi;rw [avg (by omega)]at this;refine ⟨_,⟨_,this⟩,fun m e=>c m ?_⟩;simp only [DataW.weights,a];exact DataW.weights_mem_each (j:=i) (t:=f.type) (d:=(xs[i]'(by omega)).1) (by simp [hi]) (by simp [avg (show i<xs.length by omega)]) m e
theorem fS {n0:Nat} {k:IntKind} {m:Int} {cs l:List Value} (h:aS n0 cs=some l):aS n0 (.int k m::cs)=some (.int k m::l):=by simp [aS,bw,flat,h]
theorem B7 {n0:Nat} {s:ByteArray} {cs l:List Value} (h:aS n0 cs=some l):aS n0 (.string s::cs)=some (.string s::l):=by simp [aS,bw,flat,h]
theorem ng {n0:Nat} {c v:Value} {cs l:List Value} (a:aS n0 [c]=some [v]) (h:aS n0 cs=some l):aS n0 (c::cs)=some (v::l):=by
 simp only [aS]at a⊢;split at a
 ·rename_i x m h2 b
  simp only [avh]at b;subst b;simp only [avh,List.cons.injEq,and_true]at a;subst a;simp [h2,h]
 ·cases a
theorem OF {c:Array Value} {l:List Value} (h:aS W.heap.size c.toList=some l):V (tY W) (.agg l.toArray) (.agg c):=by
 obtain ⟨a,h2⟩:=tE (afX W) (l:=c.toList) (m:=l) h;exact .agg (by simpa using a) (by simpa using h2)
end
end
section
open Go
section
variable{T:Type} {enc:TypeId×Value→T} {W:World}
theorem Ga {n k:Nat} (h:n*k≤reachBytes) (a:0<k):n<2^60:=by
 have b:n*1≤n*k:=Nat.mul_le_mul_left _ a;have:reachBytes<2^47:=reachBytes_lt;omega
theorem cE:Tryz.prog.cellsOf 117=4:=by kernel_rfl
theorem cS:Tryz.prog.cellsOf 114=5:=by kernel_rfl
theorem cV:Tryz.prog.cellsOf 108=3:=by kernel_rfl
theorem cP:Tryz.prog.cellsOf 25=3:=by kernel_rfl
theorem cI:Tryz.prog.cellsOf 3=1:=by kernel_rfl
theorem cZ:Tryz.prog.cellsOf 9=1:=by kernel_rfl
theorem cEs:Tryz.prog.cellsOf 112=1:=by kernel_rfl
theorem cSs:Tryz.prog.cellsOf 23=1:=by kernel_rfl
theorem cVs:Tryz.prog.cellsOf 22=1:=by kernel_rfl
theorem ZP {α:Type} {l:List α} (h:l.length=4):∃a b c d,l=[a,b,c,d]:=by
 match l,h with
 |[a,b,c,d],_=>exact ⟨a,b,c,d,rfl⟩
theorem ZQ {α:Type} {l:List α} (h:l.length=5):∃a b c d e,l=[a,b,c,d,e]:=by
 match l,h with
 |[a,b,c,d,e],_=>exact ⟨a,b,c,d,e,rfl⟩
theorem Ud (n:Nat) (cs:List Value) (d:DataW T) (h:Rd enc Tryz.prog W n 108 cs d) (r:zN Tryz.prog 108 d):∃l y,aS W.heap.size cs=some l∧(l=Vr.row y∧y.name.size<2^60):=by
 obtain ⟨i,m,t,c⟩:=nX Tryz.underlying108 h r;rw [cV]at i;obtain ⟨A,z,x,rfl⟩:=JB i;obtain ⟨w,f,g⟩:=c 0 _ rfl;obtain ⟨v,e,q⟩:=c 1 _ rfl;obtain ⟨u,h2,p⟩:=c 2 _ rfl;simp only [List.getElem_toArray,List.getElem_cons_zero,List.getElem_cons_succ]at f e h2 g q p;rw [cZ]at f;rw [cI]at e h2;obtain ⟨s,o,D⟩:=Ub Tryz.underlying9 f g;obtain ⟨a,k,C⟩:=kh Tryz.underlying3 e;obtain ⟨b,j,B⟩:=kh Tryz.underlying3 h2;simp at o k j;subst o;subst k;subst j;have:reachBytes<2^47:=reachBytes_lt;exact ⟨_,⟨s,a,b⟩,B7 (fS (fS rfl)),rfl,by show s.size<2^60;omega⟩
end
end
section
open Go
theorem iQ {a b:Int} (c:0≤a):cl .rem (.int .i64 a) (.int .i64 b)=if b=0 then none else some (.int .i64 (a%b)):=by
 by_cases h:b=0
 ·simp [cl,cR,iF,h]
 ·simp [cl,cR,iF,h]
  rw [Int.tmod_eq_emod_of_nonneg c]
theorem xH {a b:Int} (c:0≤a) (hi:a≤2^62) (e:0<b):cl .quo (.int .i64 a) (.int .i64 b)=some (.int .i64 (a/b)):=by
 have d:¬ b=0:=by omega
 have f:0≤a/b:=Int.ediv_nonneg c (by omega);have h2:a/b≤a:=Int.ediv_le_self _ c;simp only [cl,cR,iF,d,if_true,if_false];rw [Int.tdiv_eq_ediv_of_nonneg c,ai ⟨by omega,by omega⟩]
theorem ma (a:Nat) (h:a<2^62):(BitVec.ofInt 64 (a:Int)).toNat=a:=by
 rw [BitVec.toNat_ofInt];have:((a:Int)%((2^64:Nat):Int))=a:=Int.emod_eq_of_lt (by omega) (by omega);rw [this];rfl
theorem OG {a b:Nat} (d:a<2^62) (c:b<2^62):cl .and (.int .i64 a) (.int .i64 b)=some (.int .i64 ((a&&&b:Nat):Int)):=by
 have:(BitVec.ofInt IntKind.i64.bits (a:Int)&&&BitVec.ofInt IntKind.i64.bits (b:Int)).toNat=a&&&b:=by
  show(BitVec.ofInt 64 (a:Int)&&&BitVec.ofInt 64 (b:Int)).toNat=a&&&b;rw [BitVec.toNat_and,ma a d,ma b c]
 have h2:a&&&b≤a:=Nat.and_le_left;simp only [cl,cR,iF,if_true,this];rw [ai ⟨by omega,by omega⟩]
theorem Ue {a b:Nat} (d:a<2^62) (c:b<2^62):cl .or (.int .i64 a) (.int .i64 b)=some (.int .i64 ((a|||b:Nat):Int)):=by
 have:(BitVec.ofInt IntKind.i64.bits (a:Int)|||BitVec.ofInt IntKind.i64.bits (b:Int)).toNat=a|||b:=by
  show(BitVec.ofInt 64 (a:Int)|||BitVec.ofInt 64 (b:Int)).toNat=a|||b;rw [BitVec.toNat_or,ma a d,ma b c]
 have h2:a|||b<2^62:=Nat.or_lt_two_pow d c;simp only [cl,cR,iF,if_true,this];rw [ai ⟨by omega,by omega⟩]
theorem OJ {a b:Nat} (d:a<2^62) (c:b<2^62):cl .xor (.int .i64 a) (.int .i64 b)=some (.int .i64 ((a^^^b:Nat):Int)):=by
 have:(BitVec.ofInt IntKind.i64.bits (a:Int)^^^BitVec.ofInt IntKind.i64.bits (b:Int)).toNat=a^^^b:=by
  show(BitVec.ofInt 64 (a:Int)^^^BitVec.ofInt 64 (b:Int)).toNat=a^^^b;rw [BitVec.toNat_xor,ma a d,ma b c]
 have h2:a^^^b<2^62:=Nat.xor_lt_two_pow d c;simp only [cl,cR,iF,if_true,this];rw [ai ⟨by omega,by omega⟩]
theorem DO {x:Int} {w:Nat} (d:w≤62):cl .and (.int .i64 x) (.int .i64 (2^w- 1))=some (.int .i64 (x%2^w)):=by
 have a:0<2^w:=Nat.two_pow_pos w;have b:2^w≤2^62:=Nat.pow_le_pow_right (by omega) d
 have g:((2:Int)^w- 1)=((2^w- 1:Nat):Int):=by
  rw [Int.natCast_sub a];simp
 have f:(BitVec.ofInt IntKind.i64.bits x&&&BitVec.ofInt IntKind.i64.bits ((2^w- 1:Nat):Int)).toNat=(BitVec.ofInt 64 x).toNat%2^w:=by
  show(BitVec.ofInt 64 x&&&BitVec.ofInt 64 ((2^w- 1:Nat):Int)).toNat=(BitVec.ofInt 64 x).toNat%2^w;rw [BitVec.toNat_and,ma _ (by omega),Nat.and_two_pow_sub_one_eq_mod]
 have e:(((BitVec.ofInt 64 x).toNat%2^w:Nat):Int)=x%2^w:=by
  rw [BitVec.toNat_ofInt,Int.natCast_emod,Int.toNat_of_nonneg (Int.emod_nonneg _ (by omega))];have c:((2^w:Nat):Int)∣((2^64:Nat):Int):=Int.natCast_dvd_natCast.2 (Nat.pow_dvd_pow 2 (by omega));rw [Int.emod_emod_of_dvd _ c];simp
 rw [g];simp only [cl,cR,iF,if_true,f,e]
 have i:0≤x%2^w:=Int.emod_nonneg _ (by have:(0:Int)<2^w:=by exact_mod_cast a
                                       omega)
 have h2:x%(2:Int)^w<2^w:=Int.emod_lt_of_pos _ (by exact_mod_cast a);have h:(2:Int)^w≤2^62:=by exact_mod_cast b
 rw [ai ⟨by omega,by omega⟩]
theorem B8 {a w:Nat} (b:w≤62) (f:a<2^w):cl .andNot (.int .i64 (2^w- 1)) (.int .i64 a)=some (.int .i64 (2^w- 1- a)):=by
 have c:0<2^w:=Nat.two_pow_pos w;have d:2^w≤2^62:=Nat.pow_le_pow_right (by omega) b
 have j:((2:Int)^w- 1)=((2^w- 1:Nat):Int):=by
  rw [Int.natCast_sub c];simp
 rw [j]
 have g:(BitVec.ofInt IntKind.i64.bits ((2^w- 1:Nat):Int)&&&~~~BitVec.ofInt IntKind.i64.bits (a:Int)).toNat=2^w- 1- a:=by
  show(BitVec.ofInt 64 ((2^w- 1:Nat):Int)&&&~~~BitVec.ofInt 64 (a:Int)).toNat=2^w- 1- a;rw [BitVec.toNat_and,BitVec.toNat_not,ma _ (by omega),ma a (by omega)];have e:2^64- 1- a=2^64- (a+1):=by omega
  rw [e];apply Nat.eq_of_testBit_eq;intro i;rw [Nat.testBit_and,Nat.testBit_two_pow_sub_one,Nat.testBit_two_pow_sub_succ (by omega),show 2^w- 1- a=2^w- (a+1) by omega,Nat.testBit_two_pow_sub_succ f];by_cases h:i<w
  ·simp [h,show i<64 by omega]
  ·simp [h]
 simp only [cl,cR,iF,if_true,g];rw [ai ⟨by omega,by omega⟩,Int.natCast_sub (by omega)]
def jf (op w a b:Int):Int:=
 if op=2 then(a+b)%2^w.toNat else if op=3 then(a+2^w.toNat- b)%2^w.toNat else if op=4 then a*b%2^w.toNat
 else if op=5 then(if b=0 then 2^w.toNat- 1 else a/b)else if op=6 then(if b=0 then a else a%b)
 else if op=7 then((a.toNat&&&b.toNat:Nat):Int)else if op=8 then((a.toNat|||b.toNat:Nat):Int)else if op=9 then((a.toNat^^^b.toNat:Nat):Int)
 else if op=10 then(if w≤b then 0 else a*2^b.toNat%2^w.toNat)else if op=11 then(if w≤b then 0 else a/2^b.toNat)
 else if op=13 then(if a=b then 1 else 0)else(if a<b then 1 else 0)
def oZ (op x y:Int):Int:=if op=7 then x*y else if op=8 then x+y- x*y else(x+y)%2
def qu (op a b:Int):Nat→Int
 |0=>0
 |k+1=>qu op a b k+oZ op (a/2^k%2) (b/2^k%2)*2^k
theorem zO (a k:Nat):((a:Int)/2^k%2)=((a.testBit k).toNat:Int):=by
 rw [Nat.testBit_eq_decide_div_mod_eq];have e:((a:Int)/2^k%2)=((a/2^k%2:Nat):Int):=by simp
 rw [e];have:a/2^k%2<2:=Nat.mod_lt _ (by omega);by_cases h:a/2^k%2=1
 ·simp [h]
 ·have:a/2^k%2=0:=by omega
  simp [this]
theorem nY (op:Int) (f:Bool→Bool→Bool) (g:Nat→Nat→Nat) (c:∀a b i,(g a b).testBit i=f (a.testBit i) (b.testBit i)) (d:∀x y:Bool,oZ op (x.toNat:Int) (y.toNat:Int)=((f x y).toNat:Int)) (a b:Nat):
 ∀k,qu op a b k=((g a b%2^k:Nat):Int)
 |0=>by simp [qu,Nat.mod_one]
 |k+1=>by
  rw [qu,nY op f g c d a b k,zO,zO,d,←c,Nat.mod_pow_succ,Nat.toNat_testBit]
  push_cast
  rw [Int.mul_comm]
theorem JC {op w:Int} {a b:Nat} (f:1≤w∧w≤8) (c:a<2^w.toNat) (d:b<2^w.toNat) (e:op=7∨op=8∨op=9):qu op a b w.toNat=jf op w a b:=by
 rcases e with rfl|rfl|rfl
 ·rw [nY 7 (fun x y=>x&&y) (fun a b=>a&&&b) (fun a b i=>Nat.testBit_and a b i) (by intro x y;cases x<;>cases y<;>rfl)]
  rw [Nat.mod_eq_of_lt (Nat.lt_of_le_of_lt Nat.and_le_left c)];simp [jf]
 ·rw [nY 8 (fun x y=>x||y) (fun a b=>a|||b) (fun a b i=>Nat.testBit_or a b i) (by intro x y;cases x<;>cases y<;>rfl)]
  rw [Nat.mod_eq_of_lt (Nat.or_lt_two_pow c d)];simp [jf]
 ·rw [nY 9 (fun x y=>x^^y) (fun a b=>a^^^b) (fun a b i=>Nat.testBit_xor a b i) (by intro x y;cases x<;>cases y<;>rfl)]
  rw [Nat.mod_eq_of_lt (Nat.xor_lt_two_pow c d)];simp [jf]
theorem fT {w:Int} (a:1≤w∧w≤8):2≤(2:Int)^w.toNat∧(2:Int)^w.toNat≤256:=by
 obtain ⟨n,rfl⟩:∃n:Nat,w=n:=⟨w.toNat,by omega⟩
 have:n=1∨n=2∨n=3∨n=4∨n=5∨n=6∨n=7∨n=8:=by omega
 rcases this with rfl|rfl|rfl|rfl|rfl|rfl|rfl|rfl<;>exact ⟨by decide,by decide⟩
theorem uz {a b M:Int} (d:0≤a∧a<M) (c:0≤b∧b<M):0≤a*b∧a*b≤M*M:=by
 refine ⟨Int.mul_nonneg d.1 c.1,Int.mul_le_mul (by omega) (by omega) c.1 (by omega)⟩
theorem zP {op w a b:Int} (z:1≤w∧w≤8) (k:0≤a∧a<2^w.toNat) (v:0≤b∧b<2^w.toNat):0≤jf op w a b∧jf op w a b<2^w.toNat:=by
 have A:=fT z
 have r:∀x:Int,0≤x%2^w.toNat∧x%2^w.toNat<2^w.toNat:=fun x=>⟨Int.emod_nonneg _ (by omega),Int.emod_lt_of_pos _ (by omega)⟩
 have o:(2:Int)^w.toNat=((2^w.toNat:Nat):Int):=by simp
 have t:a.toNat<2^w.toNat:=by have:=k.2;rw [o]at this;omega
 have y:b.toNat<2^w.toNat:=by have:=v.2;rw [o]at this;omega
 have B:b=0∨¬ b=0:=by omega
 have p:∀c:Prop,∀_:Decidable c,0≤(if c then(1:Int)else 0)∧(if c then(1:Int)else 0)<2^w.toNat:=fun c _=>by
  by_cases h:c
  ·rw [if_pos h];omega
  ·rw [if_neg h];omega
 by_cases d:op=2
 ·rw [jf,if_pos d];exact r _
 by_cases e:op=3
 ·rw [jf,if_neg d,if_pos e];exact r _
 by_cases g:op=4
 ·rw [jf,if_neg d,if_neg e,if_pos g];exact r _
 by_cases i:op=5
 ·rw [jf,if_neg d,if_neg e,if_neg g,if_pos i]
  by_cases f:b=0
  ·rw [if_pos f];omega
  ·rw [if_neg f];exact ⟨Int.ediv_nonneg k.1 v.1,Int.lt_of_le_of_lt (Int.ediv_le_self _ k.1) k.2⟩
 by_cases j:op=6
 ·rw [jf,if_neg d,if_neg e,if_neg g,if_neg i,if_pos j]
  by_cases f:b=0
  ·rw [if_pos f];exact k
  ·rw [if_neg f];exact ⟨Int.emod_nonneg _ (by omega),Int.lt_of_lt_of_le (Int.emod_lt_of_pos _ (by omega)) (by omega)⟩
 by_cases l:op=7
 ·rw [jf,if_neg d,if_neg e,if_neg g,if_neg i,if_neg j,if_pos l,o];exact ⟨by omega,Int.ofNat_lt.2 (Nat.lt_of_le_of_lt Nat.and_le_left t)⟩
 by_cases m:op=8
 ·rw [jf,if_neg d,if_neg e,if_neg g,if_neg i,if_neg j,if_neg l,if_pos m,o];exact ⟨by omega,Int.ofNat_lt.2 (Nat.or_lt_two_pow t y)⟩
 by_cases n:op=9
 ·rw [jf,if_neg d,if_neg e,if_neg g,if_neg i,if_neg j,if_neg l,if_neg m,if_pos n,o];exact ⟨by omega,Int.ofNat_lt.2 (Nat.xor_lt_two_pow t y)⟩
 by_cases q:op=10
 ·rw [jf,if_neg d,if_neg e,if_neg g,if_neg i,if_neg j,if_neg l,if_neg m,if_neg n,if_pos q]
  by_cases f:w≤b
  ·rw [if_pos f];omega
  ·rw [if_neg f];exact r _
 by_cases s:op=11
 ·rw [jf,if_neg d,if_neg e,if_neg g,if_neg i,if_neg j,if_neg l,if_neg m,if_neg n,if_neg q,if_pos s]
  by_cases f:w≤b
  ·rw [if_pos f];omega
  ·rw [if_neg f]
   have:(0:Int)≤2^b.toNat:=by have:=two_pow_pos b.toNat;omega
   exact ⟨Int.ediv_nonneg k.1 this,Int.lt_of_le_of_lt (Int.ediv_le_self _ k.1) k.2⟩
 by_cases u:op=13
 ·rw [jf,if_neg d,if_neg e,if_neg g,if_neg i,if_neg j,if_neg l,if_neg m,if_neg n,if_neg q,if_neg s,if_pos u];exact p _ _
 ·rw [jf,if_neg d,if_neg e,if_neg g,if_neg i,if_neg j,if_neg l,if_neg m,if_neg n,if_neg q,if_neg s,if_neg u];exact p _ _
set_option maxRecDepth 10000
open Go
theorem jg {n:Int} (a:0≤n∧n≤60) (H:AH):Ca E O 81 [.int .i64 n] H (fun x H'=>x= .int .i64 (2^n.toNat)∧H'=H):=by
 have:=BJ n.toNat (by omega) H;rwa [show((n.toNat:Nat):Int)=n by omega]at this
theorem DQ {w:Int} (a:1≤w∧w≤8) (H:AH):Ca E O 75 [.int .i64 w] H (fun x H'=>x= .int .i64 (2^w.toNat- 1)∧H'=H):=by
 refine Ca.aR (F:=a75) rfl rfl rfl ?_;have b:=fT a;simp (maxSteps:=9^7)-implicitDefEqProofs+contextual [-X.ev,a75];apply ah
 ·(simp-implicitDefEqProofs [-X.ev];rfl)
 refine (jg (by omega) H).mono ?_;rintro x H' ⟨rfl,rfl⟩;simp (maxSteps:=9^7)-implicitDefEqProofs+contextual [-X.ev,ai (n:=2^w.toNat- 1) ⟨by omega,by omega⟩]
theorem Uf {a i:Int} (b:0≤a∧a≤2^40) (hi:0≤i∧i≤60) (H:AH):Ca E O 119 [.int .i64 a,.int .i64 i] H (fun x H'=>x= .int .i64 (a/2^i.toNat%2)∧H'=H):=by
 refine Ca.aR (F:=a119) rfl rfl rfl ?_;have d:=two_pow_pos i.toNat;have c:0≤a/2^i.toNat:=Int.ediv_nonneg b.1 (by omega);simp (maxSteps:=9^7)-implicitDefEqProofs+contextual [-X.ev,a119];apply ah
 ·(simp-implicitDefEqProofs [-X.ev];rfl)
 refine (jg hi H).mono ?_;rintro x H' ⟨rfl,rfl⟩;simp (maxSteps:=9^7)-implicitDefEqProofs+contextual [-X.ev,xH b.1 (by omega) (show(0:Int)<2^i.toNat by omega),iQ c]
theorem xI {a:Int} {i:Nat} (b:0≤a∧a≤2^40) (hi:i≤60) (H:AH):Ca E O 119 [.int .i64 a,.int .i64 i] H (fun x H'=>x= .int .i64 (a/2^i%2)∧H'=H):=by
 have:=Uf (i:=i) b (by omega) H;rwa [Int.toNat_natCast]at this
theorem OK {op x y:Int} (e:0≤x∧x≤1) (d:0≤y∧y≤1) (H:AH):Ca E O 164 [.int .i64 op,.int .i64 x,.int .i64 y] H (fun v H'=>v= .int .i64 (oZ op x y)∧H'=H):=by
 refine Ca.aR (F:=a164) rfl rfl rfl ?_;obtain ⟨g,f⟩:=uz (M:=2) ⟨e.1,by omega⟩ ⟨d.1,by omega⟩;have c:IntKind.i64.wrap (x*y)=x*y:=ai ⟨by omega,by omega⟩;have b:IntKind.i64.wrap (x+y)=x+y:=ai ⟨by omega,by omega⟩;have a:IntKind.i64.wrap (x+y- x*y)=x+y- x*y:=ai ⟨by omega,by omega⟩;simp (maxSteps:=9^7)-implicitDefEqProofs+contextual [-X.ev,a164,c,b,a,iQ (show 0≤x+y by omega),oZ]
theorem Gb {op x y:Int} (d:0≤x∧x≤1) (c:0≤y∧y≤1):0≤oZ op x y∧oZ op x y≤1:=by
 have b:x=0∨x=1:=by omega
 have a:y=0∨y=1:=by omega
 unfold oZ;rcases b with rfl|rfl<;>rcases a with rfl|rfl<;>(repeat' split)<;>simp
def B9 (l:List Int):Nat→Int
 |0=>0
 |k+1=>B9 l k+(l[k]?).getD 0*2^k
theorem Cb {l:List Int} (h:∀x∈l,0≤x∧x≤1):∀k,0≤B9 l k∧B9 l k<2^k
 |0=>by simp [B9]
 |k+1=>by
  have ih:=Cb h k;have b:=two_pow_pos k;rw [B9,Int.pow_succ]
  cases e:l[k]? with
  |none=>simp;omega
  |some x=>
   have:=h x (avl e);have a:x=0∨x=1:=by omega
   rcases a with rfl|rfl<;>simp<;>omega
theorem Ug {v:Value} {l:List Int} {H:AH} (s:fC H v l) (M:l.length≤8) (j:∀x∈l,0≤x∧x≤1):Ca E O 165 [v] H (fun x H'=>x= .int .i64 (B9 l l.length)∧H'=H):=by
 refine Ca.aR (F:=NM) rfl rfl rfl ?_;obtain ⟨a,c,z⟩:=s.len;simp (maxSteps:=9^7)-implicitDefEqProofs+contextual [-X.ev,NM];refine cn (fun k f H'=>H'=H∧∃i:Nat,i+k=l.length∧f.get 0=v∧f.get 3= .int .i64 (B9 l i)∧f.get 4= .int .i64 i) ?_ l.length ⟨rfl,0,by simp,by simp,by simp [B9],by simp⟩;rintro k f H' ⟨rfl,i,hi,d,p,m⟩;by_cases h:i<l.length
 ·obtain ⟨n,g⟩:∃n,l[i]?=some n:=⟨_,avg h⟩
  obtain ⟨b,o,N,q,r⟩:=s.at g;have B:=bh.1 r;rw [q]at d;have K:=j n (avl g);have J:=Cb j i;have I:=Cb j (i+1);have G:=two_pow_pos i;have D:=uc (n:=i+1) (by omega);have C:(2:Int)^(i+1)=2^i*2:=Int.pow_succ _ _;have e:B9 l (i+1)=B9 l i+n*2^i:=by rw [B9,g];rfl
  simp (maxSteps:=9^7)-implicitDefEqProofs+contextual [-X.ev,d,p,m,h,r];have A:=jg (n:=i) (by omega) H';apply ah
  ·(simp-implicitDefEqProofs [-X.ev];rfl)
  refine (A).mono ?_;rintro x H' ⟨rfl,rfl⟩
  have L:0≤n*2^i∧n*2^i≤2^i:=by
   have y:n=0∨n=1:=by omega
   rcases y with rfl|rfl<;>simp<;>omega
  have w:IntKind.i64.wrap (n*2^i)=n*2^i:=ai ⟨by omega,by omega⟩;have u:IntKind.i64.wrap (B9 l i+n*2^i)=B9 l i+n*2^i:=ai ⟨by omega,by omega⟩;have t:IntKind.i64.wrap ((i:Int)+1)=i+1:=ai ⟨by omega,by omega⟩;simp (maxSteps:=9^7)-implicitDefEqProofs+contextual [-X.ev,d,p,m,w,u,t,bu,aM,aN,B];exact ⟨k- 1,by omega,i+1,by omega,q.symm,e.symm,by simp⟩
 ·rw [z]at d
  simp (maxSteps:=9^7)-implicitDefEqProofs+contextual [-X.ev,d,p,m,h];rw [show i=l.length by omega]
theorem Rt (a:Int) (k:Nat):0≤a/2^k%2∧a/2^k%2≤1:=by
 have:=Int.emod_nonneg (a/2^k) (show(2:Int)≠0 by omega);have:=Int.emod_lt_of_pos (a/2^k) (show(0:Int)<2 by omega);omega
theorem xJ {op w a b:Int} {H:AH} (S:H.n0≤H.nx) (eJ:1≤w∧w≤8) (Y:0≤a∧a≤2^40) (V:0≤b∧b≤2^40):Ca E O 151 [.int .i64 op,.int .i64 w,.int .i64 a,.int .i64 b] H (fun x H'=>x= .int .i64 (qu op a b w.toNat)∧Ext H H'):=by
 refine Ca.aR (F:=NG) rfl rfl rfl ?_;simp (maxSteps:=9^7)-implicitDefEqProofs+contextual [-X.ev,NG]
 have A:∀(l:List Int) (k:Nat),(∀j,j<k→l[j]?=some (oZ op (a/2^j%2) (b/2^j%2)))→B9 l k=qu op a b k:=by
  intro l k
  induction k with
  |zero=>intro _;rfl
  |succ k ih=>intro h;rw [B9,qu,ih fun j C=>h j (by omega),h k (by omega)];rfl
 refine cn (fun k c H'=>Ext H H'∧∃(i:Nat) (s:Value) (l:List Int),i+k=w.toNat∧c.get 0= .int .i64 op∧c.get 1= .int .i64 w∧c.get 2= .int .i64 a∧c.get 3= .int .i64 b∧c.get 9=s∧c.get 10= .int .i64 i∧dU H' 1 s (a7 l)∧(∀z,aX s z→H.nx≤z)∧l.length=i∧(∀x∈l,0≤x∧x≤1)∧∀j,j<i→l[j]?=some (oZ op (a/2^j%2) (b/2^j%2))) ?_ w.toNat ⟨Ext.refl _,0,.slice none 0 0,[],by simp,by simp,by simp,by simp,by simp,by simp,by simp,dU.nil _ _,fun z y=>absurd y (dO _ _ _),rfl,by simp,by simp⟩;rintro k c H' ⟨u,i,s,l,hi,t,q,p,o,n,f10,G,U,B,f,C⟩;have R:=u.wf S;by_cases h:(i:Int)<w
 ·simp (maxSteps:=9^7)-implicitDefEqProofs+contextual [-X.ev,t,q,p,o,n,f10,h]
  apply ah
  ·(simp-implicitDefEqProofs [-X.ev];rfl)
  refine (xI (i:=i) Y (by omega) H').mono ?_;rintro x H' ⟨rfl,rfl⟩;simp (maxSteps:=9^7)-implicitDefEqProofs+contextual [-X.ev,t,q,p,o,n,f10,h];apply ah
  ·(simp-implicitDefEqProofs [-X.ev];rfl)
  refine (xI (i:=i) V (by omega) H').mono ?_;rintro x H' ⟨rfl,rfl⟩;have M:=Rt a i;have L:=Rt b i;simp (maxSteps:=9^7)-implicitDefEqProofs+contextual [-X.ev,t,q,p,o,n,f10,h];apply ah
  ·(simp-implicitDefEqProofs [-X.ev];rfl)
  refine (OK M L H').mono ?_;rintro x H' ⟨rfl,rfl⟩
  obtain ⟨g,I⟩:∃g,oZ op (a/2^i%2) (b/2^i%2)=g:=⟨_,rfl⟩
  have m:=Gb (op:=op) M L;rw [I]at m⊢;have J:=sP (sz:=1) (z:=[.int .i64 0]) (H:=H') (v:=.int .i64 g) rfl rfl rfl
  obtain ⟨H2,K⟩:∃H2,H'.alloc (.cells 1 [.int .i64 g])=H2:=⟨_,rfl⟩
  obtain ⟨s',H3,W,P,Z,Q,n3,x3,w3⟩:=iv (bytes:=8) R G (r:=[.int .i64 g]) rfl K (by simp [a7];omega) (by simp [a7];omega);have N:IntKind.i64.wrap ((i:Int)+1)=i+1:=ai ⟨by omega,by omega⟩;simp only [pH,K]at J;simp (maxSteps:=9^7)-implicitDefEqProofs+contextual [-X.ev,t,q,p,o,n,f10,h,J,W,N];refine ⟨k- 1,by omega,u.mod Z U,i+1,by omega,by simp,l++[g],by simpa [a7]using P,fun z y=>avC u.nx (Q z y),by simp [B],fun x d=>?_,fun j T=>?_⟩
  ·rcases avA.1 d with d|d
   ·exact f x d
   ·simp at d;subst d;exact m
  ·by_cases e:j=i
   ·subst e;rw [avx (by omega)];simp [B,I]
   ·rw [avt (by omega)];exact C j (by omega)
 ·have D:i=w.toNat:=by omega
  simp (maxSteps:=9^7)-implicitDefEqProofs+contextual [-X.ev,t,q,p,o,n,f10,h];apply ah
  ·(simp-implicitDefEqProofs [-X.ev];rfl)
  refine (Ug G.ints (by omega) f).mono ?_;rintro x H' ⟨rfl,rfl⟩;rw [B,A l i C,D];simp (maxSteps:=9^7)-implicitDefEqProofs+contextual [-X.ev,u]
theorem OM {w a:Int} (b:1≤w∧w≤8) (d:0≤a∧a<2^w.toNat) (H:AH):Ca E O 122 [.int .i64 w,.int .i64 a] H (fun x H'=>x= .int .i64 (2^w.toNat- 1- a)∧H'=H):=by
 refine Ca.aR (F:=Nx) rfl rfl rfl ?_;have c:=fT b;simp (maxSteps:=9^7)-implicitDefEqProofs+contextual [-X.ev,Nx];apply ah
 ·(simp-implicitDefEqProofs [-X.ev];rfl)
 refine (DQ b H).mono ?_;rintro x H' ⟨rfl,rfl⟩;simp (maxSteps:=9^7)-implicitDefEqProofs+contextual [-X.ev,ai (n:=2^w.toNat- 1- a) ⟨by omega,by omega⟩]
end
section
open Go
theorem uA {a w:Int} (b:0≤a∧a<2^w.toNat):a.toNat<2^w.toNat:=by
 have h:((2^w.toNat:Nat):Int)=2^w.toNat:=by simp
 have:=b.2;omega
theorem rA {op w a b:Int} (c:1≤w∧w≤8) (f:0≤a∧a<2^w.toNat) (e:0≤b∧b<2^w.toNat) (d:op=7∨op=8∨op=9):qu op a b w.toNat=jf op w a b:=by
 have:=JC (op:=op) c (uA f) (uA e) d;rwa [show((a.toNat:Nat):Int)=a by omega,show((b.toNat:Nat):Int)=b by omega]at this
theorem Ui {op w a b:Int} {H:AH} (y:H.n0≤H.nx) (e:1≤w∧w≤8) (f:0≤a∧a<2^w.toNat) (k:0≤b∧b<2^w.toNat):Ca E O 123 [.int .i64 op,.int .i64 w,.int .i64 a,.int .i64 b] H (fun x H'=>x= .int .i64 (jf op w a b)∧Ext H H'):=by
 refine Ca.aR (F:=lV) rfl rfl rfl ?_;have z:=fT e;obtain ⟨D,K⟩:=uz f k;have J:(2:Int)^w.toNat*2^w.toNat≤256*256:=Int.mul_le_mul z.2 z.2 (by omega) (by omega);have j:¬ (2:Int)^w.toNat=0:=by omega
 have d:=Ext.refl H;have h:0≤w∧w≤60:=by omega
 by_cases s:op=2
 ·subst s
  have g:IntKind.i64.wrap (a+b)=a+b:=ai ⟨by omega,by omega⟩;simp (maxSteps:=9^7)-implicitDefEqProofs+contextual [-X.ev,lV,g];apply ah
  ·(simp-implicitDefEqProofs [-X.ev];rfl)
  refine (jg h H).mono ?_;rintro x H ⟨rfl,rfl⟩;simp (maxSteps:=9^7)-implicitDefEqProofs+contextual [-X.ev,iQ (show 0≤a+b by omega),j,jf,d]
 by_cases r:op=3
 ·subst r
  have g:IntKind.i64.wrap (a+2^w.toNat)=a+2^w.toNat:=ai ⟨by omega,by omega⟩;have B:IntKind.i64.wrap (a+2^w.toNat- b)=a+2^w.toNat- b:=ai ⟨by omega,by omega⟩;simp (maxSteps:=9^7)-implicitDefEqProofs+contextual [-X.ev,lV];apply ah
  ·(simp-implicitDefEqProofs [-X.ev];rfl)
  refine (jg h H).mono ?_;rintro x H ⟨rfl,rfl⟩;simp (maxSteps:=9^7)-implicitDefEqProofs+contextual [-X.ev,g,B];apply ah
  ·(simp-implicitDefEqProofs [-X.ev];rfl)
  refine (jg h H).mono ?_;rintro x H ⟨rfl,rfl⟩;simp (maxSteps:=9^7)-implicitDefEqProofs+contextual [-X.ev,iQ (show 0≤a+2^w.toNat- b by omega),j,jf,d]
 by_cases q:op=4
 ·subst q
  have g:IntKind.i64.wrap (a*b)=a*b:=ai ⟨by omega,by omega⟩;simp (maxSteps:=9^7)-implicitDefEqProofs+contextual [-X.ev,lV,g];apply ah
  ·(simp-implicitDefEqProofs [-X.ev];rfl)
  refine (jg h H).mono ?_;rintro x H ⟨rfl,rfl⟩;simp (maxSteps:=9^7)-implicitDefEqProofs+contextual [-X.ev,iQ D,j,jf,d]
 by_cases p:op=5
 ·subst p
  by_cases c:b=0
  ·subst c
   simp (maxSteps:=9^7)-implicitDefEqProofs+contextual [-X.ev,lV];apply ah
   ·(simp-implicitDefEqProofs [-X.ev];rfl)
   refine (DQ e H).mono ?_;rintro x H ⟨rfl,rfl⟩;simp (maxSteps:=9^7)-implicitDefEqProofs+contextual [-X.ev,jf,d]
  ·simp (maxSteps:=9^7)-implicitDefEqProofs+contextual [-X.ev,lV,c,xH f.1 (by omega) (show 0<b by omega),jf,d]
 by_cases o:op=6
 ·subst o
  by_cases c:b=0
  ·subst c
   simp (maxSteps:=9^7)-implicitDefEqProofs+contextual [-X.ev,lV,jf,d]
  ·simp (maxSteps:=9^7)-implicitDefEqProofs+contextual [-X.ev,lV,c,iQ f.1,jf,d]
 by_cases n:op=7
 ·subst n
  simp (maxSteps:=9^7)-implicitDefEqProofs+contextual [-X.ev,lV];apply ah
  ·(simp-implicitDefEqProofs [-X.ev];rfl)
  refine (xJ y e (by omega) (by omega)).mono ?_;rintro x A ⟨rfl,i⟩;rw [rA e f k (by omega)];simp (maxSteps:=9^7)-implicitDefEqProofs+contextual [-X.ev,i]
 by_cases m:op=8
 ·subst m
  simp (maxSteps:=9^7)-implicitDefEqProofs+contextual [-X.ev,lV];apply ah
  ·(simp-implicitDefEqProofs [-X.ev];rfl)
  refine (xJ y e (by omega) (by omega)).mono ?_;rintro x A ⟨rfl,i⟩;rw [rA e f k (by omega)];simp (maxSteps:=9^7)-implicitDefEqProofs+contextual [-X.ev,i]
 by_cases l:op=9
 ·subst l
  simp (maxSteps:=9^7)-implicitDefEqProofs+contextual [-X.ev,lV];apply ah
  ·(simp-implicitDefEqProofs [-X.ev];rfl)
  refine (xJ y e (by omega) (by omega)).mono ?_;rintro x A ⟨rfl,i⟩;rw [rA e f k (by omega)];simp (maxSteps:=9^7)-implicitDefEqProofs+contextual [-X.ev,i]
 by_cases v:op=10
 ·subst v
  by_cases c:w≤b
  ·simp (maxSteps:=9^7)-implicitDefEqProofs+contextual [-X.ev,lV,c,jf,d]
  have L:=fT (w:=w) e
  have N:(2:Int)^b.toNat≤256:=by
   have:(2:Nat)^b.toNat≤2^8:=Nat.pow_le_pow_right (by omega) (by omega);have h2:((2^b.toNat:Nat):Int)≤((2^8:Nat):Int):=Int.ofNat_le.2 this
   simpa using h2
  have G:=two_pow_pos b.toNat;obtain ⟨C,I⟩:=uz (M:=257) ⟨f.1,by omega⟩ (b:=2^b.toNat) ⟨by omega,by omega⟩;have g:IntKind.i64.wrap (a*2^b.toNat)=a*2^b.toNat:=ai ⟨by omega,by omega⟩;simp (maxSteps:=9^7)-implicitDefEqProofs+contextual [-X.ev,lV,c];apply ah
  ·(simp-implicitDefEqProofs [-X.ev];rfl)
  refine (jg (by omega) H).mono ?_;rintro x H ⟨rfl,rfl⟩;simp (maxSteps:=9^7)-implicitDefEqProofs+contextual [-X.ev,g];apply ah
  ·(simp-implicitDefEqProofs [-X.ev];rfl)
  refine (jg h H).mono ?_;rintro x H ⟨rfl,rfl⟩;simp (maxSteps:=9^7)-implicitDefEqProofs+contextual [-X.ev,iQ C,j,jf,c,d]
 by_cases u:op=11
 ·subst u
  by_cases c:w≤b
  ·simp (maxSteps:=9^7)-implicitDefEqProofs+contextual [-X.ev,lV,c,jf,d]
  have G:=two_pow_pos b.toNat;simp (maxSteps:=9^7)-implicitDefEqProofs+contextual [-X.ev,lV,c];apply ah
  ·(simp-implicitDefEqProofs [-X.ev];rfl)
  refine (jg (by omega) H).mono ?_;rintro x H ⟨rfl,rfl⟩;simp (maxSteps:=9^7)-implicitDefEqProofs+contextual [-X.ev,xH f.1 (by omega) (show 0<(2:Int)^b.toNat by omega),jf,c,d]
 by_cases t:op=13
 ·subst t
  simp (maxSteps:=9^7)-implicitDefEqProofs+contextual [-X.ev,lV];apply ah
  ·(simp-implicitDefEqProofs [-X.ev];rfl)
  refine (xq (decide (a=b)) H).mono ?_;rintro x H ⟨rfl,rfl⟩;simp (maxSteps:=9^7)-implicitDefEqProofs+contextual [-X.ev,jf,d]
 simp (maxSteps:=9^7)-implicitDefEqProofs+contextual [-X.ev,lV,s,r,q,p,o,n,m,l,v,u,t];apply ah
 ·(simp-implicitDefEqProofs [-X.ev];rfl)
 refine (xq (decide (a<b)) H).mono ?_;rintro x H ⟨rfl,rfl⟩;simp (maxSteps:=9^7)-implicitDefEqProofs+contextual [-X.ev,jf,s,r,q,p,o,n,m,l,v,u,t,d]
theorem JE {v:Value} {l:List Int} {H:AH} (I:H.n0≤H.nx) (q:fC H v l) (S:l.length≤2^40):Ca E O 27 [v] H (fun x H'=>dU H' 1 x (a7 l)∧Ext H H'∧∀b,aX x b→H.nx≤b):=by
 refine Ca.aR (F:=a27) rfl rfl rfl ?_;obtain ⟨a,c,J⟩:=q.len;simp (maxSteps:=9^7)-implicitDefEqProofs+contextual [-X.ev,a27];refine cn (fun k e H'=>Ext H H'∧∃(i:Nat) (s:Value),i+k=l.length∧e.get 0=v∧e.get 3=s∧e.get 4= .int .i64 i∧dU H' 1 s (a7 (l.take i))∧(∀z,aX s z→H.nx≤z)) ?_ l.length ⟨Ext.refl _,0,.slice none 0 0,by simp,by simp,by simp,by simp,by simpa [a7]using dU.nil H 1,fun z j=>absurd j (dO _ _ _)⟩;rintro k e H' ⟨d,i,s,hi,f,A,y,g,t⟩;have G:=d.wf I;by_cases h:i<l.length
 ·obtain ⟨n,p⟩:∃n,l[i]?=some n:=⟨_,avg h⟩
  obtain ⟨b,o,T,m,K⟩:=(fC.ext d q).at p;rw [m]at f;have u:=sP (sz:=1) (z:=[.int .i64 0]) (H:=H') (v:=.int .i64 n) rfl rfl rfl
  obtain ⟨H2,w⟩:∃H2,H'.alloc (.cells 1 [.int .i64 n])=H2:=⟨_,rfl⟩
  obtain ⟨Q,U,L,C,M,D,R,N,P⟩:=iv (bytes:=8) G g (r:=[.int .i64 n]) rfl w (by simp [a7];omega) (by simp [a7];omega);have B:IntKind.i64.wrap ((i:Int)+1)=i+1:=ai ⟨by omega,by omega⟩;simp only [pH,w]at u;simp (maxSteps:=9^7)-implicitDefEqProofs+contextual [-X.ev,f,A,y,h,K,u,L,B];refine ⟨k- 1,by omega,d.mod M t,i+1,by omega,m.symm,by simp,?_,fun z j=>avC d.nx (D z j)⟩;rw [avB,p]
  simpa [a7]using C
 ·rw [J]at f
  rw [avn (by omega)]at g;simp (maxSteps:=9^7)-implicitDefEqProofs+contextual [-X.ev,f,A,y,h,g,d];exact t
theorem JF {v u:Value} {l m:List Int} {H:AH} (I:fC H v l) (C:fC H u m) (P:l.length≤2^60):Ca E O 29 [v,u] H (fun x H'=>x= .bool (decide (l=m))∧H'=H):=by
 refine Ca.aR (F:=YU) rfl rfl rfl ?_;obtain ⟨M,R,f⟩:=I.len;obtain ⟨L,Q,s⟩:=C.len
 obtain ⟨F,g⟩:∃F,decide (l=m)=F:=⟨_,rfl⟩
 rw [g];by_cases q:(l.length:Int)=m.length
 case neg=>
  have t:F=false:=by rw [←g,decide_eq_false_iff_not];rintro rfl;exact q rfl
  have c:¬ l.length=m.length:=by omega
  simp (maxSteps:=9^7)-implicitDefEqProofs+contextual [-X.ev,YU,f,s,q,c,t]
 have c:l.length=m.length:=by omega
 simp (maxSteps:=9^7)-implicitDefEqProofs+contextual [-X.ev,YU,f,s,q,c];refine cn (fun k j H'=>H'=H∧∃i:Nat,i+k=l.length∧j.get 0=v∧j.get 1=u∧j.get 5= .int .i64 i∧l.take i=m.take i) ?_ l.length ⟨rfl,0,by simp,by simp [f,c],by simp [s],by simp,by simp⟩;rintro k j H' ⟨rfl,i,hi,a,p,w,B⟩;by_cases h:i<l.length
 ·obtain ⟨x,r⟩:∃n,l[i]?=some n:=⟨_,avg h⟩
  obtain ⟨y,d⟩:∃n,m[i]?=some n:=⟨_,avg (by omega)⟩
  obtain ⟨b,o,S,z,G⟩:=I.at r;obtain ⟨T,N,K,A,D⟩:=C.at d;rw [z]at a;rw [A]at p;have h2:i<m.length:=by omega
  by_cases e:x=y
  ·subst e
   simp (maxSteps:=9^7)-implicitDefEqProofs+contextual [-X.ev,a,p,w,h,h2,G,D,bu,aM,aN];rw [ai (n:=(i:Int)+1) ⟨by omega,by omega⟩];refine ⟨k- 1,by omega,i+1,by omega,z.symm,A.symm,by simp,?_⟩;rw [avB,avB,r,d,B]
  ·have t:F=false:=by
    rw [←g,decide_eq_false_iff_not];rintro rfl;rw [r]at d;cases d;exact e rfl
   simp (maxSteps:=9^7)-implicitDefEqProofs+contextual [-X.ev,a,p,w,h,h2,G,D,bu,aM,aN,e,t]
 ·have J:F=true:=by
   rw [←g,decide_eq_true_iff];rwa [avn (by omega),avn (by omega)]at B
  rw [f]at a;simp (maxSteps:=9^7)-implicitDefEqProofs+contextual [-X.ev,a,p,w,h,J]
open Go
theorem aiZ {n:Int} (h:0≤n∧n<2^62):IntKind.u64.wrap n=n:=IntWalk.u64_in n ⟨by omega,by omega⟩
theorem xK {w:Int} (a:1≤w∧w≤8) (H:AH):Ca E O 182 [.int .i64 w] H (fun x H'=>x= .int .i64 (2^w.toNat- 1)∧H'=H):=by
 refine Ca.aR (F:=a182) rfl rfl rfl ?_;have b:=fT a;simp (maxSteps:=9^7)-implicitDefEqProofs+contextual [-X.ev,a182,zJ a,ai (n:=2^w.toNat- 1) ⟨by omega,by omega⟩]
theorem Ru {w:Int} {v:Value} {l:List Int} {H:AH} (B:fC H v l) (I:l.length<2^60):Ca E O 181 [.int .i64 w,v] H (fun x H'=>x= .bool (bE w&&l.all (isWord w))∧H'=H):=by
 refine Ca.aR (F:=FN) rfl rfl rfl ?_;obtain ⟨G,K,y⟩:=B.len
 obtain ⟨F,f⟩:∃F,(bE w&&l.all (isWord w))=F:=⟨_,rfl⟩
 rw [f];by_cases s:w<1
 ·have d:F=false:=by rw [←f];simp [bE];omega
  simp (maxSteps:=9^7)-implicitDefEqProofs+contextual [-X.ev,FN,s,d]
 by_cases h2:8<w
 ·have d:F=false:=by rw [←f];simp [bE];omega
  simp (maxSteps:=9^7)-implicitDefEqProofs+contextual [-X.ev,FN,s,h2,d]
 have e:1≤w∧w≤8:=by omega
 have C:bE w=true:=by simp [bE,e]
 simp (maxSteps:=9^7)-implicitDefEqProofs+contextual [-X.ev,FN,s,h2,y];refine cn (fun k g H'=>H'=H∧∃i:Nat,i+k=l.length∧g.get 0= .int .i64 w∧g.get 13=v∧g.get 14= .int .i64 l.length∧g.get 15= .int .i64 i∧∀a∈l.take i,isWord w a=true) ?_ l.length ⟨rfl,0,by simp,by simp,by simp [y],by simp,by simp,by simp⟩;rintro k g H' ⟨rfl,i,hi,j,f13,f14,f15,r⟩;by_cases h:i<l.length
 ·obtain ⟨n,q⟩:∃n,l[i]?=some n:=⟨_,avg h⟩
  obtain ⟨b,o,L,u,A⟩:=B.at q;rw [u]at f13
  have d:isWord w n=false→F=false:=fun z=>by
   rw [←f,Bool.and_eq_false_iff];right;rw [List.all_eq_false];exact ⟨n,avl q,by rw [z];simp⟩
  rw [lI e]at d;have J:=fT e;by_cases p:n<0
  ·simp (maxSteps:=9^7)-implicitDefEqProofs+contextual [-X.ev,j,f13,f14,f15,h,A,p,d]
  simp (maxSteps:=9^7)-implicitDefEqProofs+contextual [-X.ev,j,f13,f14,f15,h,A,p];apply ah
  ·(simp-implicitDefEqProofs [-X.ev];rfl)
  refine (xK e H').mono ?_;rintro x H' ⟨rfl,rfl⟩;by_cases t:2^w.toNat- 1<n
  ·have m:2^w.toNat≤n:=by omega
   simp (maxSteps:=9^7)-implicitDefEqProofs+contextual [-X.ev,j,f13,f14,f15,t,m,d]
  have m:¬ 2^w.toNat≤n:=by omega
  simp (maxSteps:=9^7)-implicitDefEqProofs+contextual [-X.ev,j,f13,f14,f15,h,t];rw [ai (n:=(i:Int)+1) ⟨by omega,by omega⟩];refine ⟨k- 1,by omega,i+1,by omega,u.symm,by simp,fun z c=>?_⟩;rw [avB,q]at c;rcases avA.1 c with c|c
  ·exact r z c
  ·simp at c;subst c;rw [lI e];simp [p,m]
 ·have D:F=true:=by
   rw [avn (by omega)]at r;rw [←f,C,Bool.true_and,avw];exact r
  simp (maxSteps:=9^7)-implicitDefEqProofs+contextual [-X.ev,j,f13,f14,f15,h,D]
theorem nZ {w a:Int} (b:1≤w∧w≤8) (c:0≤a∧a<2^w.toNat):isWord w a=true:=by
 simp [isWord,bE,b,c]
theorem ZU {H:AH} (b:H.n0≤H.nx) (a:Int):fC (H.alloc (.cells 1 [.int .i64 a])) (.slice (some ⟨H.nx,0,none⟩) 1 1) [a]:=⟨_,_,rfl,fun i r hi=>⟨H.nx,0,rfl,by
 have:=bo b (z:=1) (c:=[.int .i64 a]) 1 rfl
 cases i with
 |zero=>simp at hi;subst hi;simpa using this
 |succ i=>simp at hi⟩⟩
theorem ZV {H:AH} (c:H.n0≤H.nx) (a b:Int):fC (H.alloc (.cells 1 [.int .i64 a,.int .i64 b])) (.slice (some ⟨H.nx,0,none⟩) 2 2) [a,b]:=⟨_,_,rfl,fun i r hi=>⟨H.nx,0,rfl,by
 have d:=cQ H (.cells 1 [.int .i64 a,.int .i64 b])
 match i,hi with
 |0,hi=>simp at hi;subst hi;exact b9 d c (k:=0) (n:=1) (by simp)
 |1,hi=>simp at hi;subst hi;exact b9 d c (k:=1) (n:=1) (by simp)
 |i+2,hi=>simp at hi⟩⟩
theorem ON {w a:Int} {H:AH} (i:H.n0≤H.nx) (b:1≤w∧w≤8) (g:0≤a∧a<2^w.toNat):Ca E O 177 [.int .i64 w,.int .i64 a] H (fun x H'=>x= .tuple #[.int .i64 (2^w.toNat- 1- a),.int .i64 0]∧Ext H H'):=by
 refine Ca.aR (F:=NO) rfl rfl rfl ?_;have c:=sP (sz:=1) (z:=[.int .i64 0]) (H:=H) (v:=.int .i64 a) rfl rfl rfl;have h:=Ext.alloc H (.cells 1 [.int .i64 a]);have f:=ZU i a;simp only [pH]at c;generalize H.alloc (.cells 1 [.int .i64 a])=d at c h f;simp (maxSteps:=9^7)-implicitDefEqProofs+contextual [-X.ev,NO,c];apply ah
 ·(simp-implicitDefEqProofs [-X.ev];rfl)
 refine (Ru f (by simp)).mono ?_;rintro x d ⟨rfl,rfl⟩;have e:(bE w&&[a].all (isWord w))=true:=by simp [bE,b,nZ b g]
 rw [e];simp (maxSteps:=9^7)-implicitDefEqProofs+contextual [-X.ev];apply ah
 ·(simp-implicitDefEqProofs [-X.ev];rfl)
 refine (xK b d).mono ?_;rintro x d ⟨rfl,rfl⟩
 have j:cl .andNot (.int .i64 (2^w.toNat- 1)) (.int .i64 a)=some (.int .i64 (2^w.toNat- 1- a)):=by
  have:=B8 (a:=a.toNat) (w:=w.toNat) (by omega) (uA g);rwa [show((a.toNat:Nat):Int)=a by omega]at this
 simp (maxSteps:=9^7)-implicitDefEqProofs+contextual [-X.ev,j,h]
theorem zQ (b:Bool) (H:AH):Ca E O 196 [.bool b] H (fun x H'=>x= .int .i64 (if b=true then 1 else 0)∧H'=H):=by
 refine Ca.aR (F:=a196) rfl rfl rfl ?_;cases b<;>simp (maxSteps:=9^7)-implicitDefEqProofs+contextual [-X.ev,a196]
theorem ZW {a b:Int} (c:0≤a∧a<256) (j:0≤b∧b<8):cl .shl (.int .i64 a) (.int .u64 b)=some (.int .i64 (a*2^b.toNat)):=by
 have h:=two_pow_pos b.toNat
 have i:(2:Int)^b.toNat≤256:=by
  have:(2:Nat)^b.toNat≤2^8:=Nat.pow_le_pow_right (by omega) (by omega);have h2:((2^b.toNat:Nat):Int)≤((2^8:Nat):Int):=Int.ofNat_le.2 this
  simpa using h2
 obtain ⟨g,f⟩:=uz (M:=257) ⟨c.1,by omega⟩ (b:=2^b.toNat) ⟨by omega,by omega⟩;have e:¬ b<0:=by omega
 have d:min b.toNat IntKind.i64.bits=b.toNat:=Nat.min_eq_left (by show b.toNat≤64;omega);simp only [cl,cR,e,if_false,d];rw [ai ⟨by omega,by omega⟩]
theorem ZX {a b:Int} (g:0≤a∧a<256) (f:0≤b∧b<8):cl .shr (.int .i64 a) (.int .u64 b)=some (.int .i64 (a/2^b.toNat)):=by
 have e:=two_pow_pos b.toNat;have d:¬ b<0:=by omega
 have c:min b.toNat IntKind.i64.bits=b.toNat:=Nat.min_eq_left (by show b.toNat≤64;omega);simp only [cl,cR,d,if_false,c];rw [Int.fdiv_eq_ediv_of_nonneg _ (by omega)]
theorem uB {w a b:Int} {up:Bool} (f:1≤w∧w≤8) (e:0≤a∧a<256) (c:0≤b) (H:AH):Ca E O 193 [.int .i64 w,.int .i64 a,.int .i64 b,.bool up] H (fun x H'=>x= .int .i64 (if w≤b then 0 else if up=true then a*2^b.toNat else a/2^b.toNat)∧H'=H):=by
 refine Ca.aR (F:=a193) rfl rfl rfl ?_;by_cases h:w≤b
 ·simp (maxSteps:=9^7)-implicitDefEqProofs+contextual [-X.ev,a193,h]
 have d:IntKind.u64.wrap b=b:=aiZ ⟨c,by omega⟩;cases up
 ·simp (maxSteps:=9^7)-implicitDefEqProofs+contextual [-X.ev,a193,h,d,ZX e ⟨c,by omega⟩]
 ·simp (maxSteps:=9^7)-implicitDefEqProofs+contextual [-X.ev,a193,h,d,ZW e ⟨c,by omega⟩]
def DS (op:Int):Value:=
 if op=2 then .func (.func 184) #[] #[]else if op=3 then .func (.func 185) #[] #[]else if op=4 then .func (.func 186) #[] #[]else if op=5 then .func (.func 187) #[] #[]else if op=6 then .func (.func 188) #[] #[]else if op=7 then .func (.func 189) #[] #[]else if op=8 then .func (.func 190) #[] #[]else if op=9 then .func (.func 191) #[] #[]else if op=10 then .func (.func 192) #[] #[]else if op=11 then .func (.func 194) #[] #[]else if op=13 then .func (.func 195) #[] #[]else if op=14 then .func (.func 197) #[] #[]else .nilFunc
theorem OO {op:Int} {H:AH} (hw:H.n0≤H.nx):Ca E O 183 [.int .i64 op] H (fun x H'=>x=DS op∧Ext H H'):=by
 refine Ca.aR (F:=a183) rfl rfl rfl ?_;have w:=Ext.alloc H (.map []);have M:=cQ H (.map []);generalize Dx:H.alloc (.map [])=H0 at w M;have L:H0.n0≤H.nx:=by rw [w.n0];exact hw
 obtain ⟨H1,s1,Z,JG,DR,g1⟩:=iN (kk:=0) (k:=.int .i64 2) (v:=.func (.func 184) #[] #[]) M L rfl rfl rfl;have K:H1.n0≤H.nx:=by rw [Z.n0];exact L
 obtain ⟨H2,s2,V,yO,qW,g2⟩:=iN (kk:=0) (k:=.int .i64 3) (v:=.func (.func 185) #[] #[]) g1 K rfl rfl rfl;have J:H2.n0≤H.nx:=by rw [V.n0];exact K
 obtain ⟨H3,s3,U,tg,nU,g3⟩:=iN (kk:=0) (k:=.int .i64 4) (v:=.func (.func 186) #[] #[]) g2 J rfl rfl rfl;have I:H3.n0≤H.nx:=by rw [U.n0];exact J
 obtain ⟨H4,s4,T,Bb,pI,g4⟩:=iN (kk:=0) (k:=.int .i64 5) (v:=.func (.func 187) #[] #[]) g3 I rfl rfl rfl;have G:H4.n0≤H.nx:=by rw [T.n0];exact I
 obtain ⟨H5,s5,S,Ro,zK,g5⟩:=iN (kk:=0) (k:=.int .i64 6) (v:=.func (.func 188) #[] #[]) g4 G rfl rfl rfl;have D:H5.n0≤H.nx:=by rw [S.n0];exact G
 obtain ⟨H6,s6,R,nx6,OP,g6⟩:=iN (kk:=0) (k:=.int .i64 7) (v:=.func (.func 189) #[] #[]) g5 D rfl rfl rfl;have C:H6.n0≤H.nx:=by rw [R.n0];exact D
 obtain ⟨H7,s7,Q,nx7,Gc,g7⟩:=iN (kk:=0) (k:=.int .i64 8) (v:=.func (.func 190) #[] #[]) g6 C rfl rfl rfl;have B:H7.n0≤H.nx:=by rw [Q.n0];exact C
 obtain ⟨H8,s8,P,Xq,DT,g8⟩:=iN (kk:=0) (k:=.int .i64 9) (v:=.func (.func 191) #[] #[]) g7 B rfl rfl rfl;have A:H8.n0≤H.nx:=by rw [P.n0];exact B
 obtain ⟨H9,s9,N,ZY,Rw,g9⟩:=iN (kk:=0) (k:=.int .i64 10) (v:=.func (.func 192) #[] #[]) g8 A rfl rfl rfl;have z:H9.n0≤H.nx:=by rw [N.n0];exact A
 obtain ⟨Bc,i,Y,are,arf,g10⟩:=iN (kk:=0) (k:=.int .i64 11) (v:=.func (.func 194) #[] #[]) g9 z rfl rfl rfl;have d:Bc.n0≤H.nx:=by rw [Y.n0];exact z
 obtain ⟨y,g,e,ZG,ZJ,g11⟩:=iN (kk:=0) (k:=.int .i64 13) (v:=.func (.func 195) #[] #[]) g10 d rfl rfl rfl;have c:y.n0≤H.nx:=by rw [e.n0];exact d
 obtain ⟨Gd,f,W,OQ,JH,g12⟩:=iN (kk:=0) (k:=.int .i64 14) (v:=.func (.func 197) #[] #[]) g11 c rfl rfl rfl;have z12:Gd.n0≤H.nx:=by rw [W.n0];exact c
 have XX:Ext H Gd:=w.mod (Z.trans (V.trans (U.trans (T.trans (S.trans (R.trans (Q.trans (P.trans (N.trans (Y.trans (e.trans (W)))))))))))) (by rintro x rfl;exact avk _)
 have lk:jH 0 .nilFunc Gd (.map (some H.nx)) (.int .i64 op) false=some (DS op):=by
  unfold DS;by_cases r:op=2
  ·subst r;exact gg g12 z12 rfl rfl
  rw [if_neg r];by_cases q:op=3
  ·subst q;exact gg g12 z12 rfl rfl
  rw [if_neg q];by_cases p:op=4
  ·subst p;exact gg g12 z12 rfl rfl
  rw [if_neg p];by_cases o:op=5
  ·subst o;exact gg g12 z12 rfl rfl
  rw [if_neg o];by_cases n:op=6
  ·subst n;exact gg g12 z12 rfl rfl
  rw [if_neg n];by_cases m:op=7
  ·subst m;exact gg g12 z12 rfl rfl
  rw [if_neg m];by_cases l:op=8
  ·subst l;exact gg g12 z12 rfl rfl
  rw [if_neg l];by_cases j:op=9
  ·subst j;exact gg g12 z12 rfl rfl
  rw [if_neg j];by_cases u:op=10
  ·subst u;exact gg g12 z12 rfl rfl
  rw [if_neg u];by_cases t:op=11
  ·subst t;exact gg g12 z12 rfl rfl
  rw [if_neg t];by_cases s:op=13
  ·subst s;exact gg g12 z12 rfl rfl
  rw [if_neg s];by_cases b:op=14
  ·subst b;exact gg g12 z12 rfl rfl
  rw [if_neg b];refine DH g12 z12 rfl ?_;have a:∀k:Int,¬ op=k→(op==k)=false:=fun k h=>by simpa using h
  simp [ic,jB,mQ,a _ r,a _ q,a _ p,a _ o,a _ n,a _ m,a _ l,a _ j,a _ u,a _ t,a _ s,a _ b]
 simp (maxSteps:=9^7)-implicitDefEqProofs+contextual [-X.ev,a183,Dx,s1,s2,s3,s4,s5,s6,s7,s8,s9,i,g,f,lk,XX]
theorem JI {op w a b:Int} (t:(2≤op∧op≤11)∨op=13∨op=14) (h:1≤w∧w≤8) (j:0≤a∧a<2^w.toNat) (i:0≤b∧b<2^w.toNat):
 ∃f,DS op= .func (.func f) #[] #[]∧∀H:AH,Ca E O f [.int .i64 w,.int .i64 a,.int .i64 b] H (fun x H'=>∃y,x= .int .i64 y∧y%2^w.toNat=jf op w a b∧H'=H):=by
 have k:=fT h;obtain ⟨s,r⟩:=uz j i;have q:(2:Int)^w.toNat*2^w.toNat≤256*256:=Int.mul_le_mul k.2 k.2 (by omega) (by omega);have l:=zP (op:=op) h j i;have d:jf op w a b%2^w.toNat=jf op w a b:=Int.emod_eq_of_lt l.1 l.2;have m:0≤a∧a<256:=by omega
 have p:op=2∨op=3∨op=4∨op=5∨op=6∨op=7∨op=8∨op=9∨op=10∨op=11∨op=13∨op=14:=by omega
 have g:((a.toNat:Nat):Int)=a∧((b.toNat:Nat):Int)=b:=by omega
 have v:=uA j;have u:=uA i;have o:(2:Nat)^w.toNat≤2^62:=Nat.pow_le_pow_right (by omega) (by omega);rcases p with rfl|rfl|rfl|rfl|rfl|rfl|rfl|rfl|rfl|rfl|rfl|rfl
 ·refine ⟨184,rfl,fun H=>?_⟩
  refine Ca.aR (F:=NQ) rfl rfl rfl ?_;simp (maxSteps:=9^7)-implicitDefEqProofs+contextual [-X.ev,NQ,ai (n:=a+b) ⟨by omega,by omega⟩];simp [jf]
 ·refine ⟨185,rfl,fun H=>?_⟩
  refine Ca.aR (F:=NS) rfl rfl rfl ?_;simp (maxSteps:=9^7)-implicitDefEqProofs+contextual [-X.ev,NS,ai (n:=a- b) ⟨by omega,by omega⟩];simp only [jf];rw [if_neg (show¬ (3:Int)=2 by omega),if_pos trivial,show a+2^w.toNat- b=(a- b)+2^w.toNat by omega,Int.add_emod_right]
 ·refine ⟨186,rfl,fun H=>?_⟩
  refine Ca.aR (F:=NT) rfl rfl rfl ?_;simp (maxSteps:=9^7)-implicitDefEqProofs+contextual [-X.ev,NT,ai (n:=a*b) ⟨by omega,by omega⟩];simp [jf]
 ·refine ⟨187,rfl,fun H=>?_⟩
  refine Ca.aR (F:=IY) rfl rfl rfl ?_;by_cases c:b=0
  ·subst c
   simp (maxSteps:=9^7)-implicitDefEqProofs+contextual [-X.ev,IY];apply ah
   ·(simp-implicitDefEqProofs [-X.ev];rfl)
   refine (xK h H).mono ?_;rintro x H ⟨rfl,rfl⟩;simp (maxSteps:=9^7)-implicitDefEqProofs+contextual [-X.ev];rw [←d];simp [jf]
  ·simp (maxSteps:=9^7)-implicitDefEqProofs+contextual [-X.ev,IY,c,xH j.1 (by omega) (show 0<b by omega)]
   rw [←d];simp [jf,c]
 ·refine ⟨188,rfl,fun H=>?_⟩
  refine Ca.aR (F:=IZ) rfl rfl rfl ?_;by_cases c:b=0
  ·subst c
   simp (maxSteps:=9^7)-implicitDefEqProofs+contextual [-X.ev,IZ];rw [←d];simp [jf]
  ·simp (maxSteps:=9^7)-implicitDefEqProofs+contextual [-X.ev,IZ,c,iQ j.1]
   rw [←d];simp [jf,c]
 ·refine ⟨189,rfl,fun H=>?_⟩
  refine Ca.aR (F:=NU) rfl rfl rfl ?_;have e:=OG (a:=a.toNat) (b:=b.toNat) (by omega) (by omega);rw [g.1,g.2]at e;simp (maxSteps:=9^7)-implicitDefEqProofs+contextual [-X.ev,NU,e];rw [←d];simp [jf]
 ·refine ⟨190,rfl,fun H=>?_⟩
  refine Ca.aR (F:=NV) rfl rfl rfl ?_;have e:=Ue (a:=a.toNat) (b:=b.toNat) (by omega) (by omega);rw [g.1,g.2]at e;simp (maxSteps:=9^7)-implicitDefEqProofs+contextual [-X.ev,NV,e];rw [←d];simp [jf]
 ·refine ⟨191,rfl,fun H=>?_⟩
  refine Ca.aR (F:=NW) rfl rfl rfl ?_;have e:=OJ (a:=a.toNat) (b:=b.toNat) (by omega) (by omega);rw [g.1,g.2]at e;simp (maxSteps:=9^7)-implicitDefEqProofs+contextual [-X.ev,NW,e];rw [←d];simp [jf]
 ·refine ⟨192,rfl,fun H=>?_⟩
  refine Ca.aR (F:=NX) rfl rfl rfl ?_;simp (maxSteps:=9^7)-implicitDefEqProofs+contextual [-X.ev,NX];apply ah
  ·(simp-implicitDefEqProofs [-X.ev];rfl)
  refine (uB (up:=true) h m i.1 H).mono ?_;rintro x H ⟨rfl,rfl⟩;simp (maxSteps:=9^7)-implicitDefEqProofs+contextual [-X.ev];by_cases c:w≤b
  ·simp [jf,c]
  ·simp [jf,c]
 ·refine ⟨194,rfl,fun H=>?_⟩
  refine Ca.aR (F:=a194) rfl rfl rfl ?_;simp (maxSteps:=9^7)-implicitDefEqProofs+contextual [-X.ev,a194];apply ah
  ·(simp-implicitDefEqProofs [-X.ev];rfl)
  refine (uB (up:=false) h m i.1 H).mono ?_;rintro x H ⟨rfl,rfl⟩;simp (maxSteps:=9^7)-implicitDefEqProofs+contextual [-X.ev];rw [←d];by_cases c:w≤b
  ·simp [jf,c]
  ·simp [jf,c]
 ·refine ⟨195,rfl,fun H=>?_⟩
  refine Ca.aR (F:=NY) rfl rfl rfl ?_;simp (maxSteps:=9^7)-implicitDefEqProofs+contextual [-X.ev,NY];apply ah
  ·(simp-implicitDefEqProofs [-X.ev];rfl)
  refine (zQ (decide (a=b)) H).mono ?_;rintro x H ⟨rfl,rfl⟩;simp (maxSteps:=9^7)-implicitDefEqProofs+contextual [-X.ev];rw [←d];simp [jf]
 ·refine ⟨197,rfl,fun H=>?_⟩
  refine Ca.aR (F:=NZ) rfl rfl rfl ?_;simp (maxSteps:=9^7)-implicitDefEqProofs+contextual [-X.ev,NZ];apply ah
  ·(simp-implicitDefEqProofs [-X.ev];rfl)
  refine (zQ (decide (a<b)) H).mono ?_;rintro x H ⟨rfl,rfl⟩;simp (maxSteps:=9^7)-implicitDefEqProofs+contextual [-X.ev];rw [←d];simp [jf]
theorem Uj {op w a b:Int} {H:AH} (h:H.n0≤H.nx) (o:(2≤op∧op≤11)∨op=13∨op=14) (c:1≤w∧w≤8) (m:0≤a∧a<2^w.toNat) (l:0≤b∧b<2^w.toNat):Ca E O 178 [.int .i64 op,.int .i64 w,.int .i64 a,.int .i64 b] H (fun x H'=>x= .tuple #[.int .i64 (jf op w a b),.int .i64 0]∧Ext H H'):=by
 refine Ca.aR (F:=NP) rfl rfl rfl ?_;have k:oG 2 1 [.int .i64 0,.int .i64 0] H [(0,1,.int .i64 a),(1,1,.int .i64 b)]=some (.slice (some ⟨H.nx,0,none⟩) 2 2,H.alloc (.cells 1 [.int .i64 a,.int .i64 b])):=rfl;have g:=Ext.alloc H (.cells 1 [.int .i64 a,.int .i64 b]);have j:=ZV h a b;generalize H.alloc (.cells 1 [.int .i64 a,.int .i64 b])=s at k g j;simp (maxSteps:=9^7)-implicitDefEqProofs+contextual [-X.ev,NP,k];apply ah
 ·(simp-implicitDefEqProofs [-X.ev];rfl)
 refine (Ru j (by simp)).mono ?_;rintro x s ⟨rfl,rfl⟩;have e:(bE w&&[a,b].all (isWord w))=true:=by simp [bE,c,nZ c m,nZ c l]
 rw [e];simp (maxSteps:=9^7)-implicitDefEqProofs+contextual [-X.ev];apply ah
 ·(simp-implicitDefEqProofs [-X.ev];rfl)
 refine (OO (op:=op) (g.wf h)).mono ?_;rintro x d ⟨rfl,r⟩;obtain ⟨f,p,q⟩:=JI o c m l;rw [p];simp (maxSteps:=9^7)-implicitDefEqProofs+contextual [-X.ev];apply lF
 ·(simp-implicitDefEqProofs [-X.ev,-Value.func.injEq];rfl)
 ·(simp-implicitDefEqProofs [-X.ev];rfl)
 refine (q d).mono ?_;rintro x d ⟨y,rfl,n,rfl⟩;simp (maxSteps:=9^7)-implicitDefEqProofs+contextual [-X.ev];apply ah
 ·(simp-implicitDefEqProofs [-X.ev];rfl)
 refine (xK c d).mono ?_;rintro x d ⟨rfl,rfl⟩;have i:=DO (x:=y) (w:=w.toNat) (by omega);rw [n]at i;simp (maxSteps:=9^7)-implicitDefEqProofs+contextual [-X.ev,i,g.trans r]
end
section
open Go
def Uk (l:List Int) (i:Int):Int:=(l[i.toNat]?).getD 0
def bl (V:List Vr) (n:Int):Int:=dE ((V.take n.toNat).map (·.cells))
def eu (l:List Int) (k:Nat):Int:=(l[k]?).getD 0
def storeAt (S:List (List Int)) (cp:Int):List Int:=(S[cp.toNat]?).getD []
mutual
def a6 (w:Int) (V:List Vr) (S:List (List Int)):ch→Int
 | .mk op n cp args=>if op=0 then n else if op=1 then Uk (storeAt S cp) (bl V n+eu (bV w V S args) 0%aq V n)
   else if op=12 then 2^w.toNat- 1- eu (bV w V S args) 0 else if op=15 then(if eu (bV w V S args) 0=0 then eu (bV w V S args) 2 else eu (bV w V S args) 1)
   else jf op w (eu (bV w V S args) 0) (eu (bV w V S args) 1)
def bV (w:Int) (V:List Vr) (S:List (List Int)):List ch→List Int
 |[]=>[]
 |e::es=>a6 w V S e::bV w V S es
end
theorem qv {w:Int} {V:List Vr} {S:List (List Int)}:∀(l:List ch) (i:Nat),(bV w V S l)[i]?=(l[i]?).map (a6 w V S)
 |[],i=>by simp [bV]
 |e::es,0=>by simp [bV]
 |e::es,i+1=>by simp [bV,qv es i]
structure Ev where
 kind:Int
 at_:Int
 val:Int
mutual
def mF (w:Int) (V:List Vr) (S:List (List Int)):ch→List Ev
 | .mk op n cp args=>eN w V S args++if op=1∧args≠[]then [⟨1,n,eu (bV w V S args) 0%aq V n⟩]else []
def eN (w:Int) (V:List Vr) (S:List (List Int)):List ch→List Ev
 |[]=>[]
 |e::es=>mF w V S e++eN w V S es
end
theorem rB {V:List Vr} (h:∀v∈V,1≤v.cells∧v.cells≤8) (g:V.length≤18):∀i,i≤V.length→(i:Int)≤dE ((V.take i).map (·.cells))∧dE ((V.take i).map (·.cells))≤8*i∧∀j,j≤i→dE ((V.take j).map (·.cells))≤dE ((V.take i).map (·.cells)):=by
 intro i
 induction i with
 |zero=>intro _;exact ⟨by simp [dE],by simp [dE],fun j c=>by rw [show j=0 by omega];exact Int.le_refl _⟩
 |succ i ih=>
  intro hi;obtain ⟨f,h2,d⟩:=ih (by omega)
  obtain ⟨y,b⟩:∃y,V[i]?=some y:=⟨_,avg (by omega)⟩
  have k:=h y (avl b)
  have e:dE ((V.take (i+1)).map (·.cells))=dE ((V.take i).map (·.cells))+y.cells:=by
   rw [avB];simp only [b,Option.toList_some,List.map_append,List.map_cons,List.map_nil,dE,List.foldl_append,List.foldl_cons,List.foldl_nil];exact ai ⟨by unfold dE at f;omega,by unfold dE at h2;omega⟩
  refine ⟨by omega,by omega,fun j c=>?_⟩;by_cases a:j=i+1
  ·subst a;exact Int.le_refl _
  ·have:=d j (by omega);omega
theorem iR {w:Int} {V:List Vr} (h:aC w V=true):(∀v∈V,1≤v.cells∧v.cells≤8)∧V.length≤18∧dE (V.map (·.cells))≤48:=by
 refine ⟨fun v a=>?_,(aD h).2.2.2,?_⟩
 ·obtain ⟨i,hi,e⟩:=List.mem_iff_getElem.1 a
  exact jE h (i:=i) (by rw [avg hi,e])
 ·rw [iu]at h;simp only [avj,avs]at h;exact h.2.2.2.2
theorem oh {w:Int} {V:List Vr} (h:aC w V=true) {n:Int} (p:0≤n∧n<V.length) (i:Int):
 0≤bl V n∧bl V n≤48∧1≤aq V n∧aq V n≤8∧0≤i%aq V n∧i%aq V n<aq V n∧bl V n+i%aq V n<dE (V.map (·.cells)):=by
 obtain ⟨a,h2,q⟩:=iR h
 obtain ⟨y,b⟩:∃y,V[n.toNat]?=some y:=⟨_,avg (by omega)⟩
 have d:aq V n=y.cells:=by simp [aq,b]
 have o:=a y (avl b);obtain ⟨k,j,_⟩:=rB a h2 n.toNat (by omega);obtain ⟨t,s,r⟩:=rB a h2 (n.toNat+1) (by omega);obtain ⟨_,_,c⟩:=rB a h2 V.length (avk _)
 have e:dE ((V.take (n.toNat+1)).map (·.cells))=dE ((V.take n.toNat).map (·.cells))+y.cells:=by
  rw [avB];simp only [b,Option.toList_some,List.map_append,List.map_cons,List.map_nil,dE,List.foldl_append,List.foldl_cons,List.foldl_nil];exact ai ⟨by unfold dE at k;omega,by unfold dE at j;omega⟩
 have g:=c (n.toNat+1) (by omega);have f:=c n.toNat (by omega);rw [List.take_length]at g f;have m:=Int.emod_nonneg i (show y.cells≠0 by omega);have l:=Int.emod_lt_of_pos i (show 0<y.cells by omega);rw [d];unfold bl;omega
def Bd (w:Int) (V:List Vr) (S:List (List Int)):Prop:=∀s∈S,bq w V s=true
theorem jq {w:Int} {V:List Vr} {s:List Int} (c:1≤w∧w≤8) (h:bq w V s=true) {i:Int} (hi:0≤i∧i<dE (V.map (·.cells))):∃a,s[i.toNat]?=some a∧0≤a∧a<2^w.toNat∧Uk s i=a:=by
 simp only [bq,avj,avs,avw]at h
 obtain ⟨a,b⟩:∃y,s[i.toNat]?=some y:=⟨_,avg (by omega)⟩
 have:=h.2 a (avl b);rw [lI c]at this;simp at this;exact ⟨a,b,this.1,this.2,by simp [Uk,b]⟩
theorem kj {w k op n cp:Int} {V:List Vr} {args:List ch} (p:1≤w∧w≤8) (h:dq w V k (.mk op n cp args)=true):
 (∀e∈args,dq w V k e=true)∧((op=0∧args=[]∧0≤n∧n<2^w.toNat)∨(op=1∧0≤n∧n<V.length∧0≤cp∧cp<k∧((args=[]∧¬ 1<aq V n)∨(∃a,args=[a])∧1<aq V n))∨(op=12∧∃a,args=[a])∨(op=15∧∃a b c,args=[a,b,c])∨
  (((2≤op∧op≤11)∨op=13∨op=14)∧∃a b,args=[a,b])):=by
 rw [dq,avj]at h;refine ⟨jW.1 h.2,?_⟩;have d:=h.1;rw [xA p,avj,avs]at d;obtain ⟨d,h2⟩:=d;unfold nc at d;unfold wm at h2;by_cases o:op=0
 ·rw [if_pos o]at d h2
  simp at h2;exact .inl ⟨o,avO (by omega),h2.1,h2.2.1⟩
 rw [if_neg o]at d h2;by_cases f:op=1
 ·rw [if_pos f]at h2
  simp at h2;by_cases g:0≤n∧n<V.length
  ·rw [if_pos ⟨f,g⟩]at d
   refine .inr (.inl ⟨f,g.1,g.2,h2.1,h2.2,?_⟩);by_cases i:1<aq V n
   ·rw [if_pos i]at d
    exact .inr ⟨avW.1 (by omega),i⟩
   ·rw [if_neg i]at d
    exact .inl ⟨avO (by omega),i⟩
  ·rw [if_neg (fun q=>g q.2),if_neg (by omega),if_neg (by omega),if_neg (by omega)]at d
   omega
 rw [if_neg (fun q=>f q.1)]at d;by_cases m:(2≤op∧op≤11)∨op=13∨op=14
 ·rw [if_pos m]at d
  exact .inr (.inr (.inr (.inr ⟨m,Rr (by omega)⟩)))
 rw [if_neg m]at d;by_cases l:op=12
 ·rw [if_pos l]at d
  exact .inr (.inr (.inl ⟨l,avW.1 (by omega)⟩))
 rw [if_neg l]at d;by_cases j:op=15
 ·rw [if_pos j]at d
  exact .inr (.inr (.inr (.inl ⟨j,JB (by omega)⟩)))
 rw [if_neg j]at d;omega
theorem iw {w:Int} {V:List Vr} {S:List (List Int)} (j:aC w V=true) (y:Bd w V S):∀e,dq w V S.length e=true→0≤a6 w V S e∧a6 w V S e<2^w.toNat:=nQ fun op n m args ih u=>by
 have f:1≤w∧w≤8:=⟨(aD j).1,(aD j).2.1⟩
 have z:=fT f;obtain ⟨d,g⟩:=kj f u;rcases g with⟨rfl,rfl,k,h2⟩|⟨rfl,k,h2,C,B,_⟩|⟨rfl,a,rfl⟩|⟨rfl,a,b,c,rfl⟩|⟨A,a,b,rfl⟩
 ·rw [a6,if_pos rfl];exact ⟨k,h2⟩
 ·rw [a6,if_neg (by omega),if_pos rfl]
  obtain ⟨s,l⟩:∃s,S[m.toNat]?=some s:=⟨_,avg (by omega)⟩
  have t:=y s (avl l);have g:=oh j ⟨k,h2⟩ (eu (bV w V S args) 0);obtain ⟨x,_,r,p,o⟩:=jq f t (i:=bl V n+eu (bV w V S args) 0%aq V n) (by omega);have:storeAt S m=s:=by simp [storeAt,l]
  rw [this,o];exact ⟨r,p⟩
 ·rw [a6,if_neg (by omega),if_neg (by omega),if_pos rfl]
  have:=ih a (by simp) (d a (by simp));simp only [bV,eu,avf,Option.getD_some];omega
 ·rw [a6,if_neg (by omega),if_neg (by omega),if_neg (by omega),if_pos rfl]
  have h:=ih b (by simp) (d b (by simp));have g:=ih c (by simp) (d c (by simp));by_cases q:eu (bV w V S [a,b,c]) 0=0
  ·rw [if_pos q];exact g
  ·rw [if_neg q];exact h
 ·rw [a6,if_neg (by omega),if_neg (by omega),if_neg (by omega),if_neg (by omega)]
  have v:=ih a (by simp) (d a (by simp));have h:=ih b (by simp) (d b (by simp));simp only [bV,eu,avf,List.getElem?_cons_succ,Option.getD_some];exact zP f v h
def eO (H:AH) (v:Value) (S:List (List Int)):Prop:=∃rows,Rows H 1 v rows∧gC (fun r s=>∃u,r=[u]∧fC H u s) rows S
theorem gC.get {α β:Type} {C:α→β→Prop}:∀{l:List α} {m:List β} {i:Nat} {y:β},gC C l m→m[i]?=some y→∃x,l[i]?=some x∧C x y
 |_,_,i,y,.nil,h=>by simp at h
 |_,_,0,y,.cons a b,h=>by simp at h;subst h;exact ⟨_,rfl,a⟩
 |_,_,i+1,y,.cons a b,h=>by obtain ⟨x,c,h2⟩:=gC.get b (by simpa using h);exact ⟨x,by simpa using c,h2⟩
theorem gC.imp {α β:Type} {C D:α→β→Prop} (h:∀a b,C a b→D a b):∀{l:List α} {m:List β},gC C l m→gC D l m
 |_,_,.nil=>.nil
 |_,_,.cons a b=>.cons (h _ _ a) (gC.imp h b)
theorem eO.sub {H H':AH} (X:Sub H H') {v:Value} {S:List (List Int)} (h:eO H v S):eO H' v S:=by
 obtain ⟨rows,a,h2⟩:=h;exact ⟨rows,a.sub X,h2.imp fun _ _ ⟨u,e,k⟩=>⟨u,e,k.sub X⟩⟩
theorem eO.ext {H H':AH} (X:Ext H H') {v:Value} {S:List (List Int)} (h:eO H v S):eO H' v S:=h.sub (Sub.cv X)
theorem eO.at {H:AH} {v:Value} {S:List (List Int)} (h:eO H v S) {i:Nat} {s:List Int} (hi:S[i]?=some s):∃b o c a d,v= .slice (some ⟨b,o,none⟩) S.length c∧H.ld ⟨b,o+i,none⟩=some (.slice a s.length d)∧fC H (.slice a s.length d) s:=by
 obtain ⟨rows,l,h2⟩:=h;obtain ⟨r,g,u,rfl,f⟩:=h2.get hi;obtain ⟨b,o,c,e,k⟩:=l.at g;obtain ⟨a,d,m⟩:=f.len;rw [h2.length]at e;have:=aQ k (j:=0) rfl;rw [m]at this f;exact ⟨b,o,c,a,d,e,by simpa using this,f⟩
theorem eO.len {H:AH} {v:Value} {S:List (List Int)} (h:eO H v S):∃a c,v= .slice a S.length c:=by
 obtain ⟨rows,b,h2⟩:=h;obtain ⟨a,c,e⟩:=b.len;rw [h2.length]at e;exact ⟨a,c,e⟩
open Go
theorem Gf:∀(N:Nat) (e:ch) (c:List Value) (H:AH),SizeOf.sizeOf e<N→H.n0≤H.nx→oV H c e→aA e<2^60→
 Ca E O 91 [.agg c.toArray] H (fun x H'=>x= .int .i64 (aA e)∧Ext H H'):=by
 intro N
 induction N with
 |zero=>intro e c H h;omega
 |succ N ih=>
  intro e c H hN a K G
  cases K with| @mk op n cp v rows args i1 i2 i3 z w A=>
  refine Ca.aR (F:=a91) rfl rfl rfl ?_;have t:=Ext.alloc H (.cells 4 [.int .i64 op,.int .i64 n,.int .i64 cp,v]);have Q:(H.alloc (.cells 4 [.int .i64 op,.int .i64 n,.int .i64 cp,v])).ld ⟨H.nx,0,none⟩=some (.int .i64 op):=ak a rfl;have P:(H.alloc (.cells 4 [.int .i64 op,.int .i64 n,.int .i64 cp,v])).ld ⟨H.nx,1,none⟩=some (.int .i64 n):=ak a rfl;have M:(H.alloc (.cells 4 [.int .i64 op,.int .i64 n,.int .i64 cp,v])).ld ⟨H.nx,2,none⟩=some (.int .i64 cp):=ak a rfl;have B:(H.alloc (.cells 4 [.int .i64 op,.int .i64 n,.int .i64 cp,v])).ld ⟨H.nx,3,none⟩=some v:=ak a rfl;have d:(H.alloc (.cells 4 [.int .i64 op,.int .i64 n,.int .i64 cp,v])).ldn ⟨H.nx,0,none⟩ 4=some [.int .i64 op,.int .i64 n,.int .i64 cp,v]:=bo a 4 rfl;generalize L:H.alloc (.cells 4 [.int .i64 op,.int .i64 n,.int .i64 cp,v])=T at t Q P M B d;have bT:=t.wf a;rw [aA]at G;obtain ⟨p0,c0,u⟩:=w.len;rw [A.length]at u;simp (maxSteps:=9^7)-implicitDefEqProofs+contextual [-X.ev,a91,L];refine cn (fun k f H'=>Ext T H'∧∃i:Nat,i+k=args.length∧f.get 1= .pointer (some ⟨H.nx,0,none⟩)∧f.get 4= .int .i64 i∧f.get 3= .int .i64 (1+aw (args.take i))) ?_ args.length ⟨Ext.refl _,0,by simp,by simp,by simp,by simp [aw]⟩;rintro k f S ⟨s,i,hi,q,m,p⟩;have g:=t.trans s;have C:=g.wf a;have j:=s.ld B;by_cases h:i<args.length
  ·obtain ⟨y,l⟩:∃y,args[i]?=some y:=⟨_,avg h⟩
   obtain ⟨b,o,c',U,r,D,I,rfl,J⟩:=gY.row (w.ext g) (A.ext g) l;rw [D]at j;have Z:=eX l;have Y:=bk args (i+1);have W:=bk args i;have V:=eA y;have hs:=iq (op:=op) (n:=n) (cp:=cp) l;simp (maxSteps:=9^7)-implicitDefEqProofs+contextual [-X.ev,q,m,p,h,I,j];apply ah
   ·(simp-implicitDefEqProofs [-X.ev];rfl)
   refine (ih y _ S (by omega) C J (by omega)).mono ?_;rintro x H4 ⟨rfl,R⟩;simp (maxSteps:=9^7)-implicitDefEqProofs+contextual [-X.ev,q,m,p];rw [ai (n:=(i:Int)+1) ⟨by omega,by omega⟩,ai ⟨by omega,by omega⟩];exact ⟨k- 1,by omega,s.trans R,i+1,by omega,by simp,by omega⟩
  ·rw [u]at j
   simp (maxSteps:=9^7)-implicitDefEqProofs+contextual [-X.ev,q,m,p,h,j];rw [avn (by omega)];exact ⟨by rw [aA],g⟩
theorem JJ {w n i:Int} {c:Value} {V:List Vr} {H:AH} (g:dI H c V) (k:aC w V=true) (d:0≤n∧n<V.length) (hi:0≤i∧i<2^40):
 Ca E O 121 [c,.int .i64 n,.int .i64 i] H (fun x H'=>x= .int .i64 (bl V n+i%aq V n)∧H'=H):=by
 refine Ca.aR (F:=Nw) rfl rfl rfl ?_;have s:=oh k d i
 obtain ⟨y,f⟩:∃y,V[n.toNat]?=some y:=⟨_,avg (by omega)⟩
 obtain ⟨b,o,t,m,_,_,_,h⟩:=g.at f;have r:aq V n=y.cells:=by simp [aq,f]
 have p:=bh.1 h;have q:V.length<2^60:=by have:=(iR k).2.1;omega
 have j:Ca E O 41 [c,.int .i64 n] H (fun x H'=>x= .int .i64 (bl V n)∧H'=H):=by
  have:=zp g q n.toNat (by omega);rwa [show((n.toNat:Nat):Int)=n by omega]at this
 rw [r]at s⊢;have l:¬ y.cells=0:=by omega
 have e:=iQ (a:=i) (b:=y.cells) hi.1;rw [if_neg l]at e;rw [m]at j⊢;simp (maxSteps:=9^7)-implicitDefEqProofs+contextual [-X.ev,Nw,d.1,d.2,h,e];apply ah
 ·(simp-implicitDefEqProofs [-X.ev];rfl)
 refine (j).mono ?_;rintro x H ⟨rfl,rfl⟩;have ww:IntKind.i64.wrap (bl V n+i%y.cells)=bl V n+i%y.cells:=ai ⟨by omega,by omega⟩;simp (maxSteps:=9^7)-implicitDefEqProofs+contextual [-X.ev,ww,bu,aM,aN,p]
theorem zT {w:Int} {vv vS:Value} {V:List Vr} {S:List (List Int)} (T:aC w V=true) (hS:Bd w V S):∀(N:Nat) (e:ch) (c:List Value) (H:AH),SizeOf.sizeOf e<N→H.n0≤H.nx→dI H vv V→eO H vS S→oV H c e→dq w V S.length e=true→
 Ca E O 90 [.int .i64 w,vv,vS,.agg c.toArray] H (fun x H'=>x= .int .i64 (a6 w V S e)∧Ext H H'):=by
 have Z:1≤w∧w≤8:=⟨(aD T).1,(aD T).2.1⟩
 have hp:=fT Z;intro N
 induction N with
 |zero=>intro e c H h;omega
 |succ N ih=>
  intro e c H hN C hv hs he hf
  cases he with| @mk op n cp va rows args i1 i2 i3 hlen hr hl=>
  refine Ca.aR (F:=No) rfl rfl rfl ?_;have t:=Ext.alloc H (.cells 4 [.int .i64 op,.int .i64 n,.int .i64 cp,va]);have g:(H.alloc (.cells 4 [.int .i64 op,.int .i64 n,.int .i64 cp,va])).ld ⟨H.nx,0,none⟩=some (.int .i64 op):=ak C rfl;have v:(H.alloc (.cells 4 [.int .i64 op,.int .i64 n,.int .i64 cp,va])).ld ⟨H.nx,1,none⟩=some (.int .i64 n):=ak C rfl;have u:(H.alloc (.cells 4 [.int .i64 op,.int .i64 n,.int .i64 cp,va])).ld ⟨H.nx,2,none⟩=some (.int .i64 cp):=ak C rfl;have f:(H.alloc (.cells 4 [.int .i64 op,.int .i64 n,.int .i64 cp,va])).ld ⟨H.nx,3,none⟩=some va:=ak C rfl;have d:(H.alloc (.cells 4 [.int .i64 op,.int .i64 n,.int .i64 cp,va])).ldn ⟨H.nx,0,none⟩ 4=some [.int .i64 op,.int .i64 n,.int .i64 cp,va]:=bo C 4 rfl;generalize U:H.alloc (.cells 4 [.int .i64 op,.int .i64 n,.int .i64 cp,va])=z at t g v u f d;have bT:=t.wf C;obtain ⟨aH,hc⟩:=kj Z hf
  have arg:∀(k:AH) (i:Nat) (y:ch),Ext z k→args[i]?=some y→∃b o c' m,va= .slice (some ⟨b,o,none⟩) args.length c'∧k.ldn ⟨b,o+i*4,none⟩ 4=some [.int .i64 y.op,.int .i64 y.n,.int .i64 y.cp,m]∧
   Ca E O 90 [.int .i64 w,vv,vS,.agg #[.int .i64 y.op,.int .i64 y.n,.int .i64 y.cp,m]] k (fun x H'=>x= .int .i64 (a6 w V S y)∧Ext k H'):=by
   intro k i y a W;have B:=t.trans a;obtain ⟨b,o,c',m,r,cL,bM,rfl,ll⟩:=gY.row (hr.ext B) (hl.ext B) W;have iD:=iq (op:=op) (n:=n) (cp:=cp) W;exact ⟨b,o,c',m,cL,bM,ih y _ k (by omega) (B.wf C) (hv.ext B) (hs.ext B) ll (aH y (avl W))⟩
  have wd:∀y∈args,0≤a6 w V S y∧a6 w V S y<2^w.toNat:=fun y W=>iw T hS y (aH y W)
  rcases hc with⟨rfl,rfl,h1,h2⟩|⟨rfl,h1,h2,h3,h4,gO⟩|⟨rfl,j,rfl⟩|⟨rfl,j,l,Q,rfl⟩|⟨ho,j,l,rfl⟩
  ·simp (maxSteps:=9^7)-implicitDefEqProofs+contextual [-X.ev,No,U,g,v,a6,t]
  ·obtain ⟨s,OS⟩:∃s,S[cp.toNat]?=some s:=⟨_,avg (by omega)⟩
   have eY:=hS s (avl OS);have ZZ:storeAt S cp=s:=by simp [storeAt,OS]
   have nh:=oh T ⟨h1,h2⟩ (eu (bV w V S args) 0);obtain ⟨x,hx,HQ,Dd,Y⟩:=jq Z eY (i:=bl V n+eu (bV w V S args) 0%aq V n) (by omega)
   have cO:bl V n+eu (bV w V S args) 0%aq V n<(s.length:Int):=by
    have:=(avm.1 hx).1;omega
   rcases gO with⟨rfl,Ml⟩|⟨⟨y,rfl⟩,Ml⟩
   ·obtain ⟨b,o,c',a',G9,qh,eR,vN⟩:=(hs.ext t).at OS
    obtain ⟨a5,c5,gT⟩:=hr.len;rw [hl.length]at gT;obtain ⟨b3,o3,c3,G7,R⟩:=vN.at hx;cases G7;rw [gT]at f;have D2:=bh.1 u;have HN:=bh.1 eR;rw [qh];have Xs:cp<S.length:=by omega
    simp (maxSteps:=9^7)-implicitDefEqProofs+contextual [-X.ev,No,U,g,v,u,f,eR,h3,Xs];apply ah
    ·(simp-implicitDefEqProofs [-X.ev];rfl)
    refine (JJ (i:=0) (hv.ext t) T ⟨h1,h2⟩ (by omega)).mono ?_;rintro x z ⟨rfl,rfl⟩;have e0:eu (bV w V S []) 0=0:=rfl;rw [e0]at nh cO R Y;simp only [Int.zero_emod,Int.add_zero]at nh cO R Y;have g1:0≤bl V n:=by omega
    have uh:a6 w V S (.mk 1 n cp [])=x:=by
     rw [a6,if_neg (by omega),if_pos rfl,ZZ,e0,Int.zero_emod,Int.add_zero,Y]
    simp (maxSteps:=9^7)-implicitDefEqProofs+contextual [-X.ev,bu,aM,aN,D2,HN,g1,cO,R,t,uh]
   ·obtain ⟨P,G,c0,m,J,L,M⟩:=arg z 0 y (Ext.refl _) rfl
    rw [J]at f;have K:z.ldn ⟨P,G,none⟩ 4=some [.int .i64 y.op,.int .i64 y.n,.int .i64 y.cp,m]:=by simpa using L
    simp (maxSteps:=9^7)-implicitDefEqProofs+contextual [-X.ev,No,U,g,v,u,f,K];apply ah
    ·(simp-implicitDefEqProofs [-X.ev];rfl)
    refine (M).mono ?_;rintro x k ⟨rfl,a⟩;replace g:=a.ld g;replace v:=a.ld v;replace u:=a.ld u;replace f:=a.ld f;have B:=t.trans a;have Mm:=wd y (by simp);have e0:eu (bV w V S [y]) 0=a6 w V S y:=rfl;obtain ⟨b,o,c',a',G9,qh,eR,vN⟩:=(hs.ext B).at OS;obtain ⟨b3,o3,c3,G7,R⟩:=vN.at hx;cases G7;have D2:=bh.1 u;have HN:=bh.1 eR;rw [qh];have Xs:cp<S.length:=by omega
    rw [e0]at nh cO R Y;have g1:0≤bl V n+a6 w V S y%aq V n:=by omega
    simp (maxSteps:=9^7)-implicitDefEqProofs+contextual [-X.ev,g,v,u,f,eR,h3,Xs];apply ah
    ·(simp-implicitDefEqProofs [-X.ev];rfl)
    refine (JJ (i:=a6 w V S y) (hv.ext B) T ⟨h1,h2⟩ ⟨Mm.1,by omega⟩).mono ?_;rintro x k ⟨rfl,rfl⟩;simp (maxSteps:=9^7)-implicitDefEqProofs+contextual [-X.ev,bu,aM,aN,D2,HN,g1,cO,R,B];rw [a6,if_neg (by omega),if_pos rfl,ZZ,e0,Y]
  ·obtain ⟨P,G,c0,m,J,L,M⟩:=arg z 0 j (Ext.refl _) rfl
   rw [J]at f;have K:z.ldn ⟨P,G,none⟩ 4=some [.int .i64 j.op,.int .i64 j.n,.int .i64 j.cp,m]:=by simpa using L
   simp (maxSteps:=9^7)-implicitDefEqProofs+contextual [-X.ev,No,U,g,v,u,f,K];apply ah
   ·(simp-implicitDefEqProofs [-X.ev];rfl)
   refine (M).mono ?_;rintro x k ⟨rfl,a⟩;simp (maxSteps:=9^7)-implicitDefEqProofs+contextual [-X.ev];apply ah
   ·(simp-implicitDefEqProofs [-X.ev];rfl)
   refine (OM Z (wd j (by simp)) k).mono ?_;rintro x k ⟨rfl,rfl⟩;simp (maxSteps:=9^7)-implicitDefEqProofs+contextual [-X.ev,t.trans a];rw [a6,if_neg (by omega),if_neg (by omega),if_pos rfl];rfl
  ·obtain ⟨P,G,c0,m,J,L,M⟩:=arg z 0 j (Ext.refl _) rfl
   have p:=f;rw [J]at f;have K:z.ldn ⟨P,G,none⟩ 4=some [.int .i64 j.op,.int .i64 j.n,.int .i64 j.cp,m]:=by simpa using L
   simp (maxSteps:=9^7)-implicitDefEqProofs+contextual [-X.ev,No,U,g,v,u,f,K];apply ah
   ·(simp-implicitDefEqProofs [-X.ev];rfl)
   refine (M).mono ?_;rintro x k ⟨rfl,a⟩;replace g:=a.ld g;replace f:=a.ld f;replace p:=a.ld p;obtain ⟨b1,o1,c1,D,ue,JD,Cg⟩:=arg k 1 l a rfl;rw [ue]at p;have JK:k.ldn ⟨b1,o1+4,none⟩ 4=some [.int .i64 l.op,.int .i64 l.n,.int .i64 l.cp,D]:=by simpa using JD
   simp (maxSteps:=9^7)-implicitDefEqProofs+contextual [-X.ev,p,JK];apply ah
   ·(simp-implicitDefEqProofs [-X.ev];rfl)
   refine (Cg).mono ?_;rintro x H3 ⟨rfl,A⟩;replace g:=A.ld g;replace f:=A.ld f;replace p:=A.ld p;by_cases q:a6 w V S j=0
   ·obtain ⟨b2,o2,c2,vy2,yK,uf,Um⟩:=arg H3 2 Q (a.trans A) rfl
    rw [ue]at yK;cases yK;have Z0:H3.ldn ⟨b1,o1+8,none⟩ 4=some [.int .i64 Q.op,.int .i64 Q.n,.int .i64 Q.cp,vy2]:=by simpa using uf
    simp (maxSteps:=9^7)-implicitDefEqProofs+contextual [-X.ev,g,q,p,Z0];apply ah
    ·(simp-implicitDefEqProofs [-X.ev];rfl)
    refine (Um).mono ?_;rintro x H4 ⟨rfl,X4⟩;simp (maxSteps:=9^7)-implicitDefEqProofs+contextual [-X.ev,t.trans (a.trans (A.trans X4))];rw [a6,if_neg (by omega),if_neg (by omega),if_neg (by omega),if_pos rfl,if_pos (show eu (bV w V S [j,l,Q]) 0=0 from q)];rfl
   ·simp (maxSteps:=9^7)-implicitDefEqProofs+contextual [-X.ev,g,q,t.trans (a.trans A)]
    rw [a6,if_neg (by omega),if_neg (by omega),if_neg (by omega),if_pos rfl,if_neg (show¬ eu (bV w V S [j,l,Q]) 0=0 from q)];rfl
  ·have n0:¬ op=0:=by omega
   have n1:¬ op=1:=by omega
   have Z1:¬ op=12:=by omega
   have I:¬ op=15:=by omega
   obtain ⟨P,G,c0,m,J,L,M⟩:=arg z 0 j (Ext.refl _) rfl;have p:=f;rw [J]at f;have K:z.ldn ⟨P,G,none⟩ 4=some [.int .i64 j.op,.int .i64 j.n,.int .i64 j.cp,m]:=by simpa using L
   simp (maxSteps:=9^7)-implicitDefEqProofs+contextual [-X.ev,No,U,g,v,u,f,K,n0,n1,Z1,I];apply ah
   ·(simp-implicitDefEqProofs [-X.ev];rfl)
   refine (M).mono ?_;rintro x k ⟨rfl,a⟩;replace g:=a.ld g;replace f:=a.ld f;replace p:=a.ld p;obtain ⟨b1,o1,c1,D,ue,JD,Cg⟩:=arg k 1 l a rfl;rw [ue]at p;have JK:k.ldn ⟨b1,o1+4,none⟩ 4=some [.int .i64 l.op,.int .i64 l.n,.int .i64 l.cp,D]:=by simpa using JD
   simp (maxSteps:=9^7)-implicitDefEqProofs+contextual [-X.ev,p,JK];apply ah
   ·(simp-implicitDefEqProofs [-X.ev];rfl)
   refine (Cg).mono ?_;rintro x H3 ⟨rfl,A⟩;replace g:=A.ld g;have jd:=t.trans (a.trans A);simp (maxSteps:=9^7)-implicitDefEqProofs+contextual [-X.ev,g,I];apply ah
   ·(simp-implicitDefEqProofs [-X.ev];rfl)
   refine (Ui (jd.wf C) Z (wd j (by simp)) (wd l (by simp))).mono ?_;rintro x H4 ⟨rfl,X4⟩;simp (maxSteps:=9^7)-implicitDefEqProofs+contextual [-X.ev,jd.trans X4];rw [a6,if_neg n0,if_neg n1,if_neg Z1,if_neg I];rfl
end
section
open Go
def Ev.row (e:Ev):List Value:=[.int .i64 e.kind,.int .i64 e.at_,.int .i64 e.val]
def dj (l:List Ev):List (List Value):=l.map Ev.row
theorem lg (l m:List Ev):dj (l++m)=dj l++dj m:=by simp [dj]
theorem cY (l:List Ev):(dj l).length=l.length:=by simp [dj]
theorem jX {w:Int} {V:List Vr} {S:List (List Int)} {l:List ch} (h:∀e∈l,((mF w V S e).length:Int)≤aA e):((eN w V S l).length:Int)≤aw l:=by
 induction l with
 |nil=>simp [eN,aw]
 |cons x l ih=>
  rw [eN,aw,avp];have b:=h x (by simp);have h2:=ih fun e a=>h e (by simp [a])
  omega
theorem ek {w:Int} {V:List Vr} {S:List (List Int)}:∀e,((mF w V S e).length:Int)≤aA e:=nQ fun op n b args ih=>by
 have a:=jX (w:=w) (V:=V) (S:=S) ih;rw [mF,aA,avp];split
 ·simp;omega
 ·simp;omega
theorem nj {w:Int} {V:List Vr} {S:List (List Int)} {l:List ch} {i:Nat} {y:ch} (h:l[i]?=some y):eN w V S (l.take (i+1))=eN w V S (l.take i)++mF w V S y:=by
 induction l generalizing i with
 |nil=>simp at h
 |cons x l ih=>
  cases i with
  |zero=>simp at h;subst h;simp [eN]
  |succ i=>simp only [List.take_succ_cons,eN];rw [ih (by simpa using h),avF]
theorem nk {w:Int} {V:List Vr} {S:List (List Int)} (l:List ch) (i:Nat):((eN w V S (l.take i)).length:Int)≤aw l:=by
 have:=jX (w:=w) (V:=V) (S:=S) (l:=l.take i) fun e _=>ek e
 have:=bk l i;omega
theorem OT {H H1:AH} {u:Value} {s:List Int} {a:Option Addr} {c:Nat} (b:H.n0≤H.nx) (d:fC H u s) (e:H.alloc (.cells 1 [u])=H1):eO H1 (.slice (some ⟨H.nx,0,none⟩) 1 1) [s]:=by
 subst e;refine ⟨[[u]],⟨_,_,rfl,fun i r hi=>⟨H.nx,0,rfl,?_⟩⟩,.cons ⟨u,rfl,fC.ext (Ext.alloc _ _) d⟩ .nil⟩
 cases i with
 |zero=>
  simp at hi;subst hi;have:=bo b (z:=1) (c:=[u]) 1 rfl
  simpa using this
 |succ i=>simp at hi
theorem Uo (a b c:Int):fD [.int .i64 0,.int .i64 0,.int .i64 0] [(0,1,.int .i64 a),(1,1,.int .i64 b),(2,1,.int .i64 c)]=some (.agg #[.int .i64 a,.int .i64 b,.int .i64 c]):=rfl
theorem Gg {w:Int} {Z vs:Value} {V:List Vr} {s:List Int} (P:aC w V=true) (hS:bq w V s=true):∀(N:Nat) (e:ch) (c:List Value) (H:AH),SizeOf.sizeOf e<N→H.n0≤H.nx→dI H Z V→fC H vs s→oV H c e→dq w V 1 e=true→aA e≤2^30→
 Ca E O 92 [.int .i64 w,Z,vs,.agg c.toArray] H (fun x H'=>dU H' 3 x (dj (mF w V [s] e))∧Ext H H'∧∀b,aX x b→H.nx≤b):=by
 have eJ:1≤w∧w≤8:=⟨(aD P).1,(aD P).2.1⟩
 have hp:=fT eJ;have xL:Bd w V [s]:=fun t A=>by simp at A;subst A;exact hS
 intro N
 induction N with
 |zero=>intro e c H h;omega
 |succ N ih=>
  intro e c H hN j hv hs he hf mP
  cases he with| @mk op n cp va rows args i1 i2 i3 hlen hr hl=>
  refine Ca.aR (F:=a92) rfl rfl rfl ?_;have U:=Ext.alloc H (.cells 4 [.int .i64 op,.int .i64 n,.int .i64 cp,va]);have d0:(H.alloc (.cells 4 [.int .i64 op,.int .i64 n,.int .i64 cp,va])).ld ⟨H.nx,0,none⟩=some (.int .i64 op):=ak j rfl;have d1:(H.alloc (.cells 4 [.int .i64 op,.int .i64 n,.int .i64 cp,va])).ld ⟨H.nx,1,none⟩=some (.int .i64 n):=ak j rfl;have d2:(H.alloc (.cells 4 [.int .i64 op,.int .i64 n,.int .i64 cp,va])).ld ⟨H.nx,2,none⟩=some (.int .i64 cp):=ak j rfl;have d3:(H.alloc (.cells 4 [.int .i64 op,.int .i64 n,.int .i64 cp,va])).ld ⟨H.nx,3,none⟩=some va:=ak j rfl;have d:(H.alloc (.cells 4 [.int .i64 op,.int .i64 n,.int .i64 cp,va])).ldn ⟨H.nx,0,none⟩ 4=some [.int .i64 op,.int .i64 n,.int .i64 cp,va]:=bo j 4 rfl;generalize cM:H.alloc (.cells 4 [.int .i64 op,.int .i64 n,.int .i64 cp,va])=H1 at U d0 d1 d2 d3 d;have bT:=U.wf j;obtain ⟨aH,hc⟩:=kj eJ hf;rw [aA]at mP;obtain ⟨p0,c0,gT⟩:=hr.len;rw [hl.length]at gT;simp (maxSteps:=9^7)-implicitDefEqProofs+contextual [-X.ev,a92,cM];refine cn (fun k l H'=>Ext H1 H'∧∃(i:Nat) (z:Value),i+k=args.length∧l.get 0= .int .i64 w∧l.get 1=Z∧l.get 2=vs∧l.get 7= .pointer (some ⟨H.nx,0,none⟩)∧l.get 9=z∧l.get 10= .int .i64 i∧dU H' 3 z (dj (eN w V [s] (args.take i)))∧(∀b,aX z b→H1.nx≤b)) ?_ args.length ⟨Ext.refl _,0,.slice none 0 0,by simp,by simp,by simp,by simp,by simp,by simp,by simp,by simpa [eN,dj]using dU.nil _ 3,fun b hb=>absurd hb (dO _ _ _)⟩;rintro k l Y ⟨J,i,z,hi,I,m,G,D,C,f10,u,gu⟩;have g:=U.trans J;have Q:=g.wf j;have p:=J.ld d3;have tl:=nk (w:=w) (V:=V) (S:=[s]) args i;by_cases h:i<args.length
  ·obtain ⟨y,K⟩:∃y,args[i]?=some y:=⟨_,avg h⟩
   obtain ⟨b,o,c',vy,r,cL,bM,rfl,ll⟩:=gY.row (hr.ext g) (hl.ext g) K;rw [cL]at p;have iD:=iq (op:=op) (n:=n) (cp:=cp) K;have t1:=eX K;have t2:=bk args (i+1);have t3:=bk args i;have bd:=ek (w:=w) (V:=V) (S:=[s]) y;simp (maxSteps:=9^7)-implicitDefEqProofs+contextual [-X.ev,I,m,G,D,C,f10,h,bM,p];apply ah
   ·(simp-implicitDefEqProofs [-X.ev];rfl)
   refine (ih y _ Y (by omega) Q (hv.ext g) (fC.ext g hs) ll (aH y (avl K)) (by omega)).mono ?_;rintro x H3 ⟨o3,f,k3⟩;have L:=f.wf Q;obtain ⟨z',H4,Up,o4,M4,k4⟩:=xE (bytes:=24) L (u.ext f) o3.rows (by rw [cY,cY];omega) (by rw [cY,cY];omega);simp (maxSteps:=9^7)-implicitDefEqProofs+contextual [-X.ev,I,m,G,D,C,f10,Up];rw [ai (n:=(i:Int)+1) ⟨by omega,by omega⟩];refine ⟨k- 1,by omega,(J.trans f).mod M4 gu,i+1,by omega,by simp,?_,fun q M=>?_⟩
   ·rw [nj K,lg];exact o4
   ·rcases k4 q M with h|h
    ·exact gu q h
    ·exact avC (avC J.nx f.nx) h
  ·have A:args.take i=args:=avn (by omega)
   rw [A]at u;have D3':=p;rw [gT]at p;have D0:=J.ld d0;have D1:=J.ld d1
   obtain ⟨R,B⟩:∃R,mF w V [s] (.mk op n cp args)=R:=⟨_,rfl⟩
   rw [B];rw [mF]at B;have Uq:∀q,aX z q→H.nx≤q:=fun q M=>avC U.nx (gu q M)
   by_cases o1:op=1∧args≠[]
   ·obtain ⟨rfl,gw⟩:=o1
    rcases hc with⟨h0,_⟩|⟨_,h1,h2,h3,h4,gO⟩|⟨h0,_⟩|⟨h0,_⟩|⟨h0,_⟩
    ·omega
    rotate_left
    ·omega
    ·omega
    ·omega
    rcases gO with⟨rfl,_⟩|⟨⟨y,rfl⟩,Ml⟩
    ·exact absurd rfl gw
    obtain ⟨yv,Ch⟩:∃yv,V[n.toNat]?=some yv:=⟨_,avg (by omega)⟩
    have Cd:aq V n=yv.cells:=by simp [aq,Ch]
    have Mm:=iw P xL y (aH y (by simp));have e0:eu (bV w V [s] [y]) 0=a6 w V [s] y:=rfl;have hi1:¬ (i:Int)<1:=by simp at h;omega
    rw [e0,if_pos ⟨rfl,gw⟩,Cd]at B;have A9:=fC.ext g hs;obtain ⟨as_,cs_,qh⟩:=A9.len;have lj:=sP (sz:=1) (z:=[.slice none 0 0]) (H:=Y) (v:=vs) (by rw [qh];rfl) (by rw [qh];rfl) rfl;have Yk:aZ vs=[vs]:=by rw [qh];rfl
    rw [Yk]at lj;have f:=Ext.alloc Y (.cells 1 [vs]);have eY:=OT (a:=none) (c:=0) Q A9 rfl;have L:=f.wf Q;generalize Mn:Y.alloc (.cells 1 [vs])=H3 at lj f eY L;have W:=g.trans f;obtain ⟨b,o,c',vy,r,cL,bM,rfl,ll⟩:=gY.row (hr.ext W) (hl.ext W) (i:=0) (y:=y) rfl;have Z2:H3.ldn ⟨b,o,none⟩ 4=some [.int .i64 y.op,.int .i64 y.n,.int .i64 y.cp,vy]:=by simpa using bM
    have d33:=f.ld D3';rw [cL]at d33;simp (maxSteps:=9^7)-implicitDefEqProofs+contextual [-X.ev,I,m,G,D,C,f10,hi1,p,D0,lj,d33,Z2];apply ah
    ·(simp-implicitDefEqProofs [-X.ev];rfl)
    refine (zT P xL _ y _ H3 (avv _) L (hv.ext W) eY ll (aH y (by simp))).mono ?_;rintro x H4 ⟨rfl,T⟩;have qX:=W.trans T;have qY:=T.wf L;have D14:=(f.trans T).ld D1;obtain ⟨bb,oo,cc,my,_,_,_,eR⟩:=(hv.ext qX).at Ch;have QL:=jE P Ch;have rn:=iQ (a:=a6 w V [s] y) (b:=yv.cells) Mm.1;rw [if_neg (by omega)]at rn;have mz:=sP (sz:=3) (z:=[.int .i64 0,.int .i64 0,.int .i64 0]) (H:=H4) (v:=.agg #[.int .i64 1,.int .i64 n,.int .i64 (a6 w V [s] y%yv.cells)]) rfl rfl rfl;simp only [gM]at mz
    obtain ⟨H5,Ur⟩:∃H5,H4.alloc (.cells 3 [.int .i64 1,.int .i64 n,.int .i64 (a6 w V [s] y%yv.cells)])=H5:=⟨_,rfl⟩
    obtain ⟨z',H6,Us,o6,M6,k6,c1,c2,c3,c4,c5,c6⟩:=iv (bytes:=24) qY (u.ext (f.trans T)) (r:=[.int .i64 1,.int .i64 n,.int .i64 (a6 w V [s] y%yv.cells)]) rfl Ur (by rw [cY];rw [A]at tl;omega) (by rw [cY];rw [A]at tl;omega);rw [Ur]at mz;rw [my]at m;simp (maxSteps:=9^7)-implicitDefEqProofs+contextual [-X.ev,I,m,G,D,C,f10,D14,h1,h2,eR,rn,Uo,mz,Us,bu,aM,aN,c1,c4,c5,c6];refine ⟨by rw [←B,lg];exact o6,qX.mod M6 Uq,fun q M=>avC qX.nx (k6 q M)⟩
   ·rw [if_neg o1,List.append_nil]at B
    rw [B]at u;by_cases q1:op=1
    ·have q2:args=[]:=by
      rcases Classical.em (args=[])with e|e
      ·exact e
      ·exact absurd ⟨q1,e⟩ o1
     subst q2;have hi0:¬ (i:Int)<0:=by omega
     simp (maxSteps:=9^7)-implicitDefEqProofs+contextual [-X.ev,I,m,G,D,C,f10,p,D0,q1,hi0,u,g];exact Uq
    ·simp (maxSteps:=9^7)-implicitDefEqProofs+contextual [-X.ev,I,m,G,D,C,f10,h,p,D0,q1,u,g]
     exact Uq
open Go
abbrev kJ:=Int×bF
def bO:List bF→Int→List kJ
 |[],_=>[]
 | .mk op n args thn els::ss,k=>(k,.mk op n args thn els)::bO ss (k+1+ar thn+ar els)
theorem pF.sub:∀{G H:AH} (X:Sub G H) {c:List Value} {e:bF},pF G c e→pF H c e:=by
 intro G H X
 have z:∀(N:Nat) (e:ch) (c:List Value),SizeOf.sizeOf e<N→oV G c e→oV H c e:=by
  intro N
  induction N with
  |zero=>intro e c h;omega
  |succ N ih=>
   intro e c i h
   cases h with| @mk op n O v rows args m k j u t s=>
   refine .mk m k j u (t.sub X) ?_
   have:∀(rows:List (List Value)) (l:List ch),(∀y∈l,SizeOf.sizeOf y<N)→gY G rows l→gY H rows l:=by
    intro rows l
    induction l generalizing rows with
    |nil=>intro _ h;cases h;exact .nil
    |cons x l f=>intro g h;cases h with|cons a b=>exact .cons (ih x _ (g x (by simp)) a) (f _ (fun y d=>g y (by simp [d])) b)
   exact this rows args (fun y d=>by have:=avL d;simp at i;omega) s
 have o:∀(rows:List (List Value)) (l:List ch),gY G rows l→gY H rows l:=by
  intro rows l
  induction l generalizing rows with
  |nil=>intro h;cases h;exact .nil
  |cons x l f=>intro h;cases h with|cons a b=>exact .cons (z _ x _ (avv _) a) (f _ b)
 have w:∀(N:Nat) (e:bF) (c:List Value),SizeOf.sizeOf e<N→pF G c e→pF H c e:=by
  intro N
  induction N with
  |zero=>intro e c h;omega
  |succ N ih=>
   intro e c i h
   cases h with| @mk op n K I J M rt L args p F m k j r q E h2 D C B A=>
   have key:∀(rows:List (List Value)) (l:List bF),(∀y∈l,SizeOf.sizeOf y<N)→je G rows l→je H rows l:=by
    intro rows l
    induction l generalizing rows with
    |nil=>intro _ h;cases h;exact .nil
    |cons x l f=>intro g h;cases h with|cons a b=>exact .cons (ih x _ (g x (by simp)) a) (f _ (fun y d=>g y (by simp [d])) b)
   refine .mk m k j r q (E.sub X) (o _ _ h2) (D.sub X) (key _ _ (fun y d=>?_) C) (B.sub X) (key _ _ (fun y d=>?_) A)
   ·have:=avL d;simp at i;omega
   ·have:=avL d;simp at i;omega
 exact fun{c e} h=>w _ e c (avv _) h
theorem je.sub {G H:AH} (X:Sub G H):∀{rows:List (List Value)} {l:List bF},je G rows l→je H rows l
 |_,_,.nil=>.nil
 |_,_,.cons a b=>.cons (a.sub X) (je.sub X b)
end
section
open Go
noncomputable def part (H:AH) (n:Nat) (S:Nat→Prop):AH:=H.vM ((List.range H.nx).filter fun b=>@decide (b<n∨S b) (Classical.propDecidable _))
theorem kl {H:AH} {n:Nat} {S:Nat→Prop} {b:Nat} {x:q7}:(part H n S).get b=some x↔H.get b=some x∧n≤b∧¬ S b:=by
 unfold part;rw [uw];have a:b∈((List.range H.nx).filter fun b=>@decide (b<n∨S b) (Classical.propDecidable _))↔b<H.nx∧(b<n∨S b):=by rw [List.mem_filter,List.mem_range,@avs _ (Classical.propDecidable _)]
 constructor
 ·intro h
  split at h
  ·cases h
  ·rename_i q
   rw [a]at q;have c:=AH.bc h;exact ⟨h,Nat.le_of_not_lt fun k=>q ⟨c,.inl k⟩,fun k=>q ⟨c,.inr k⟩⟩
 ·rintro ⟨h,e,d⟩
  rw [if_neg]
  ·exact h
  ·rw [a]
   rintro ⟨_,q|q⟩
   ·omega
   ·exact d q
theorem qw (H:AH) (n:Nat) (S:Nat→Prop):(part H n S).n0=H.n0:=xF _ _
theorem xM (H:AH) (n:Nat) (S:Nat→Prop):(part H n S).nx=H.nx:=xG _ _
theorem DU (H:AH) (n:Nat) (S:Nat→Prop):Sub (part H n S) H:=Jy _ _
theorem fw {H H':AH} {n m:Nat} {S S':Nat→Prop} (e:H'.n0=H.n0) (d:H.nx≤H'.nx) (h:∀b x,H.get b=some x→n≤b→¬ S b→H'.get b=some x∧m≤b∧¬ S' b):Sub (part H n S) (part H' m S'):=
 ⟨by rw [qw,qw,e],by rw [xM,xM];exact d,fun b x k=>kl.2 (let⟨a,f,c⟩:=kl.1 k;h b x a f c)⟩
theorem dU.part {H:AH} {sz n:Nat} {v:Value} {rows:List (List Value)} {S:Nat→Prop} (h:dU H sz v rows) (hs:∀b,aX v b→n≤b∧¬ S b):dU (part H n S) sz v rows:=by
 refine ⟨?_,h.len⟩;rcases h.is with⟨rfl,rfl⟩|⟨b,rfl,c,a⟩
 ·exact .inl ⟨rfl,rfl⟩
 ·have:=hs b ((bJ _ _ _ _ _).2 rfl)
  exact .inr ⟨b,rfl,by rw [qw];exact c,kl.2 ⟨a,this.1,this.2⟩⟩
theorem dU.sub {G H:AH} (X:Sub G H) {sz:Nat} {v:Value} {rows:List (List Value)} (h:dU G sz v rows):dU H sz v rows:=by
 refine ⟨?_,h.len⟩;rcases h.is with⟨rfl,rfl⟩|⟨b,rfl,c,a⟩
 ·exact .inl ⟨rfl,rfl⟩
 ·exact .inr ⟨b,rfl,by rw [X.n0];exact c,X.get _ _ a⟩
abbrev Be:Nat→Prop:=fun _=>False
theorem oV.sub {G H:AH} (X:Sub G H):∀{c:List Value} {e:ch},oV G c e→oV H c e:=by
 have r:∀(N:Nat) (e:ch) (c:List Value),SizeOf.sizeOf e<N→oV G c e→oV H c e:=by
  intro N
  induction N with
  |zero=>intro e c h;omega
  |succ N ih=>
   intro e c q h
   cases h with| @mk op n s v rows args k j i p o m=>
   refine .mk k j i p (o.sub X) ?_
   have:∀(rows:List (List Value)) (l:List ch),(∀y∈l,SizeOf.sizeOf y<N)→gY G rows l→gY H rows l:=by
    intro rows l
    induction l generalizing rows with
    |nil=>intro _ h;cases h;exact .nil
    |cons x l g=>intro f h;cases h with|cons a b=>exact .cons (ih x _ (f x (by simp)) a) (g _ (fun y d=>f y (by simp [d])) b)
   exact this rows args (fun y d=>by have:=avL d;simp at q;omega) m
 exact fun{c e} h=>r _ e c (avv _) h
theorem gY.sub {G H:AH} (X:Sub G H):∀{rows:List (List Value)} {l:List ch},gY G rows l→gY H rows l
 |_,_,.nil=>.nil
 |_,_,.cons a b=>.cons (a.sub X) (gY.sub X b)
theorem gY.snoc {H:AH}:∀{rows:List (List Value)} {l:List ch} {r:List Value} {y:ch},gY H rows l→oV H r y→gY H (rows++[r]) (l++[y])
 |_,_,_,_,.nil,h=>.cons h .nil
 |_,_,_,_,.cons a b,h=>.cons a (gY.snoc b h)
theorem oi {α:Type} {l:List α} {i:Nat} {y:α} (h:l[i]?=some y):l.take (i+1)=l.take i++[y]:=by rw [avB,h];rfl
theorem mb:∀l:List ch,(l.length:Int)≤aw l
 |[]=>by simp [aw]
 |x::l=>by have:=eA x;have:=mb l;simp [aw];omega
theorem uD:∀(N:Nat) (l:List ch) (A:Value) (rows:List (List Value)) (H:AH),SizeOf.sizeOf l<N→H.n0≤H.nx→Rows H 4 A rows→gY H rows l→l.length≤2^40→aw l≤2^40→
 Ca E O 140 [A] H (fun x H'=>∃rs,dU H' 4 x rs∧gY (part H' H.nx (aX x)) rs l∧Ext H H'∧∀b,aX x b→H.nx≤b):=by
 intro N
 induction N with
 |zero=>intro l A rows H h;omega
 |succ N ih=>
  intro l A rows H hN hw hr hl hlen mP;refine Ca.aR (F:=ND) rfl rfl rfl ?_;obtain ⟨p0,c0,M⟩:=hr.len;rw [hl.length]at M;simp (maxSteps:=9^7)-implicitDefEqProofs+contextual [-X.ev,ND,M];refine cn (fun k G H'=>Ext H H'∧∃(i:Nat) (z:Value) (rs:List (List Value)),i+k=l.length∧G.get 6=A∧G.get 3=z∧G.get 7= .int .i64 l.length∧G.get 8= .int .i64 i∧dU H' 4 z rs∧rs.length=i∧gY (part H' H.nx (aX z)) rs (l.take i)∧(∀b,aX z b→H.nx≤b)) ?_ l.length ⟨Ext.refl _,0,.slice none 0 0,[],by simp,by simp [M],by simp,by simp [M],by simp,dU.nil _ _,rfl,by simpa using gY.nil,fun b a=>absurd a (dO _ _ _)⟩;rintro k G f ⟨u,i,z,rs,hi,f6,f3,f7,f8,T,BE,aH,gu⟩;have D:=u.wf hw;by_cases h:i<l.length
  ·obtain ⟨y,L⟩:∃y,l[i]?=some y:=⟨_,avg h⟩
   obtain ⟨op,n,d,args⟩:=y;obtain ⟨b,o,c',va,r,cL,bM,rfl,ll⟩:=gY.row (hr.ext u) (hl.ext u) L;simp only [ch.op,ch.n,ch.cp]at bM ll;have Ut:=f6;rw [cL]at Ut;have qq:=avL (avl L);have V:=eX L;have ht2:=bk l (i+1);have ht3:=bk l i;rw [aA]at V;have hla:=mb args
   cases ll with| @mk _ _ _ _ ra _ i1 i2 i3 DK IE Y=>
   obtain ⟨p,B,e,aiy,Zv,q,C⟩:=eZ (H:=f) D (z:=4) (c:=[.int .i64 0,.int .i64 0,.int .i64 0,.slice none 0 0]) (vs:=[.int .i64 op,.int .i64 n,.int .i64 d,va]) rfl;have q0:p.ld ⟨f.nx,0,none⟩=some (.int .i64 op):=C 0 _ rfl;have q1:p.ld ⟨f.nx,1,none⟩=some (.int .i64 n):=C 1 _ rfl;have q2:p.ld ⟨f.nx,2,none⟩=some (.int .i64 d):=C 2 _ rfl;have q3:p.ld ⟨f.nx,3,none⟩=some va:=C 3 _ rfl;clear C;replace q:p.ldn ⟨f.nx,0,none⟩ 4=some [.int .i64 op,.int .i64 n,.int .i64 d,va]:=q;have kg:=e.wf D
   have g2:p.get f.nx=some (.cells 4 [.int .i64 op,.int .i64 n,.int .i64 d,va]):=by
    obtain ⟨H2',s2,_,_,_,g⟩:=jN D (z:=4) (c:=[.int .i64 0,.int .i64 0,.int .i64 0,.slice none 0 0]) (vs:=[.int .i64 op,.int .i64 n,.int .i64 d,va]) rfl;rw [B]at s2;cases s2;exact g
   have lt2:=AH.bc g2;simp (maxSteps:=9^7)-implicitDefEqProofs+contextual [-X.ev,Ut,f3,f7,f8,h,bM,B,q3];apply ah
   ·(simp-implicitDefEqProofs [-X.ev];rfl)
   refine (ih args va ra p (by simp at qq;omega) kg (IE.ext e) (Y.ext e) (by omega) (by omega)).mono ?_;rintro x0 H3 ⟨m,o3,e3,j,k3⟩;obtain ⟨t,s,hx⟩:=o3.shape;subst hx;have nV:=j.wf kg;have g3:=j.get g2;obtain ⟨I,s4,w,Bb,J,g4⟩:=cm g3 (by rw [j.n0,e.n0];exact D) (k:=3) (vs:=[.slice t m.length s]) (by simp);have jz:aP [.int .i64 op,.int .i64 n,.int .i64 d,va] 3 [.slice t m.length s]=[.int .i64 op,.int .i64 n,.int .i64 d,.slice t m.length s]:=rfl;rw [jz]at g4;have qY:=w.wf nV;have h04:I.n0≤f.nx:=by rw [J,j.n0,e.n0];exact D
   have l4:I.ldn ⟨f.nx,0,none⟩ 4=some [.int .i64 op,.int .i64 n,.int .i64 d,.slice t m.length s]:=by rw [b9 g4 h04 (by simp)];rfl
   have Q:∀b,aX z b→b<f.nx:=fun b a=>T.lt a
   have R:dU I 4 z rs:=(T.ext (e.trans j)).mod w (fun b a q=>by have:=Q b a;omega);have Z:=sP (sz:=4) (z:=[.int .i64 0,.int .i64 0,.int .i64 0,.slice none 0 0]) (H:=I) (v:=.agg #[.int .i64 op,.int .i64 n,.int .i64 d,.slice t m.length s]) rfl rfl rfl;simp only [gM]at Z
   obtain ⟨H5,Ur⟩:∃H5,I.alloc (.cells 4 [.int .i64 op,.int .i64 n,.int .i64 d,.slice t m.length s])=H5:=⟨_,rfl⟩
   obtain ⟨z',H6,Us,o6,P,K,c1,c2,c3,c4,c5,c6⟩:=iv (bytes:=48) qY R (r:=[.int .i64 op,.int .i64 n,.int .i64 d,.slice t m.length s]) rfl Ur (by omega) (by omega);rw [Ur]at Z;have hX:Ext H H6:=((u.trans (e.trans j)).mod w (fun b a=>by have:=u.nx;omega)).mod P gu;have Z1:=e.nx;have n23:=j.nx;have DR:=u.nx;simp (maxSteps:=9^7)-implicitDefEqProofs+contextual [-X.ev,Ut,f3,f7,f8,s4,l4,Z,Us];rw [ai (n:=(i:Int)+1) ⟨by omega,by omega⟩];refine ⟨k- 1,by omega,hX,i+1,by omega,cL.symm,by omega,_,o6,by simp [BE],?_,fun q hq=>by have:=K q hq;omega⟩;rw [oi L];refine gY.snoc (aH.sub (fw (c1.trans (J.trans (j.n0.trans e.n0))) (by omega) fun b y a W U=>?_)) (.mk i1 i2 i3 DK (rows:=m) (Rows.sub (fw (n:=p.nx) (S:=Be) (c1.trans J) (by omega) fun b y a W U=>?_) (o3.part (fun b a=>⟨k3 b a,fun q=>q⟩)).rows) (e3.sub (fw (c1.trans J) (by omega) fun b y a W U=>?_)))
   ·have mM:=AH.bc a
    refine ⟨P.get (fun q=>U q) (w.get (fun q=>by omega) (j.get (e.get a))),W,fun q=>by have:=K b q;omega⟩
   ·have mM:=AH.bc a
    refine ⟨P.get (fun q=>by have:=Q b q;omega) (w.get (fun q=>by omega) a),by omega,fun q=>by have:=K b q;omega⟩
   ·have mM:=AH.bc a
    refine ⟨P.get (fun q=>by have:=Q b q;omega) (w.get (fun q=>by omega) a),by omega,fun q=>by have:=K b q;omega⟩
  ·rw [avn (by omega)]at aH
   simp (maxSteps:=9^7)-implicitDefEqProofs+contextual [-X.ev,f6,f3,f7,f8,h,u];exact ⟨rs,T,aH,gu⟩
open Go
def Fit (H:AH) (v:Value):Prop:=∃a n c,v= .slice a n c∧n≤c∧(0<n→∃b o,a=some ⟨b,o,none⟩∧H.lS b 5=true)
theorem xN {H:AH} {b z k:Nat} {c:List Value} (h:H.get b=some (.cells z c)) (a:k≤z):H.lS b k=true:=by simp [AH.lS,h,a]
theorem dU.fit {H:AH} {v:Value} {rows:List (List Value)} (h:dU H 5 v rows):Fit H v:=by
 rcases h.is with⟨rfl,_⟩|⟨b,rfl,_,a⟩
 ·exact ⟨_,_,_,rfl,avk _,fun h=>absurd h (by omega)⟩
 ·exact ⟨_,_,_,rfl,avk _,fun _=>⟨_,_,rfl,xN a (avk _)⟩⟩
theorem Fit.sub {G H:AH} (X:Sub G H) {v:Value} (h:Fit G v):Fit H v:=by
 obtain ⟨a,n,c,e,g,h2⟩:=h;refine ⟨a,n,c,e,g,fun h=>?_⟩;obtain ⟨b,o,i,d⟩:=h2 h;refine ⟨b,o,i,?_⟩;unfold AH.lS at d⊢;split at d
 ·rename_i f;rw [X.get _ _ f];exact d
 ·cases d
mutual
inductive Bf (H:AH):List Value→bF→Prop where
 |mk {op n:Int} {va vt ve:Value} {ra rt re:List (List Value)} {args:List ch} {thn els:List bF}:lC op→lC n→args.length<2^60→thn.length<2^60→els.length<2^60→
  Rows H 4 va ra→gY H ra args→Rows H 5 vt rt→fE H rt thn→Fit H vt→Rows H 5 ve re→fE H re els→Fit H ve→Bf H [.int .i64 op,.int .i64 n,va,vt,ve] (.mk op n args thn els)
inductive fE (H:AH):List (List Value)→List bF→Prop where
 |nil:fE H [] []
 |cons {r:List Value} {e:bF} {rs:List (List Value)} {es:List bF}:Bf H r e→fE H rs es→fE H (r::rs) (e::es)
end
mutual
theorem Bf.toC {H:AH} {c:List Value} {e:bF}:Bf H c e→pF H c e
 | .mk a b c d e g h rt lt _ f le _=>.mk a b c d e g h rt (fE.Z3 lt) f (fE.Z3 le)
theorem fE.Z3 {H:AH} {c:List (List Value)} {e:List bF}:fE H c e→je H c e
 | .nil=>.nil
 | .cons a b=>.cons (Bf.toC a) (fE.Z3 b)
end
mutual
theorem Bf.sub {G H:AH} (X:Sub G H) {c:List Value} {e:bF}:Bf G c e→Bf H c e
 | .mk a b c d e g h rt lt i f le j=>.mk a b c d e (g.sub X) (gY.sub X h) (rt.sub X) (fE.sub X lt) (i.sub X) (f.sub X) (fE.sub X le) (j.sub X)
theorem fE.sub {G H:AH} (X:Sub G H) {c:List (List Value)} {e:List bF}:fE G c e→fE H c e
 | .nil=>.nil
 | .cons a b=>.cons (Bf.sub X a) (fE.sub X b)
end
theorem fE.length {H:AH}:∀{c:List (List Value)} {e:List bF},fE H c e→c.length=e.length:=fun h=>h.Z3.length
theorem fE.snoc {H:AH}:∀{rows:List (List Value)} {l:List bF} {r:List Value} {y:bF},fE H rows l→Bf H r y→fE H (rows++[r]) (l++[y])
 |_,_,_,_,.nil,h=>.cons h .nil
 |_,_,_,_,.cons a b,h=>.cons a (fE.snoc b h)
theorem Bf.len {H:AH} {c:List Value} {s:bF} (h:Bf H c s):c.length=5:=by cases h;rfl
abbrev zS:List Value:=[.int .i64 0,.int .i64 0,.slice none 0 0,.slice none 0 0,.slice none 0 0]
theorem fU:∀l:List bF,(l.length:Int)≤av l
 |[]=>by simp [av]
 |x::l=>by have:=kO x;have:=fU l;simp [av];omega
theorem zU {H1 a:AH} {n m:Nat} {z:Value} {rs:List (List Value)} {o:List bF} {cs:List Value} {s:bF} (x:H1.n0≤H1.nx) (X:Ext H1 a) (F:H1.nx≤m) (h:n≤H1.nx) (l:dU H1 5 z rs) (B:fE (part H1 n (aX z)) rs o) (i:Bf (part a m Be) cs s) (c:rs.length≤2^40):
 ∃d H4 f,oG 1 5 zS a [(0,5,.agg cs.toArray)]=some (.slice (some ⟨a.nx,0,none⟩) 1 1,H4)∧bL 5 88 H4 z (.slice (some ⟨a.nx,0,none⟩) 1 1)=some (d,f)∧dU f 5 d (rs++[cs])∧fE (part f n (aX d)) (rs++[cs]) (o++[s])∧Mod (aX z) a f∧∀b,aX d b→a.nx≤b:=by
 have w:=X.wf x;have j:=sP (sz:=5) (z:=zS) (H:=a) (v:=.agg cs.toArray) (by simpa using i.len) rfl rfl;simp only [gM]at j
 obtain ⟨H4,e⟩:∃H4,a.alloc (.cells 5 cs)=H4:=⟨_,rfl⟩
 obtain ⟨d,D,C,u,k,g,r,L,K,J,I,G⟩:=iv (bytes:=88) w (l.ext X) i.len e (by omega) (by omega);rw [e]at j;have t:∀b,aX z b→b<H1.nx:=fun b c=>l.lt c
 have E:=X.nx;refine ⟨d,H4,D,j,C,u,fE.snoc (B.sub (fw (r.trans X.n0) (by omega) fun b y c h p=>?_)) (i.sub (fw r (by omega) fun b y c h p=>?_)),k,g⟩
 ·have A:=AH.bc c
  exact ⟨k.get (fun q=>p q) (X.get c),h,fun q=>by have:=g b q;omega⟩
 ·have A:=AH.bc c
  exact ⟨k.get (fun q=>by have:=t b q;omega) c,by omega,fun q=>by have:=g b q;omega⟩
theorem Gi:∀(N:Nat) (s:bF) (c:List Value) (H:AH),SizeOf.sizeOf s<N→H.n0≤H.nx→pF H c s→bA s≤2^40→
 Ca E O 104 [.agg c.toArray] H (fun x H'=>∃cs,x= .agg cs.toArray∧Bf (part H' H.nx Be) cs s∧Ext H H'):=by
 intro N
 induction N with
 |zero=>intro s c H h;omega
 |succ N ih=>
  intro s c H hN M hs mP
  cases hs with| @mk op n va vt ve ra rt re args e f i1 i2 i3 i4 i5 h1 h2 h3 h4 h5 h6=>
  refine Ca.aR (F:=Nr) rfl rfl rfl ?_;rw [bA]at mP;have na:=bf args;have nt:=bH e;have ne:=bH f;have la:=mb args;have lt:=fU e;have le:=fU f;obtain ⟨p1,q1,yP⟩:=h3.len;rw [h4.length]at yP;obtain ⟨p2,q2,uh⟩:=h5.len;rw [h6.length]at uh;have gB:=cQ H (.cells 5 [.int .i64 op,.int .i64 n,va,vt,ve]);have X1:=Ext.alloc H (.cells 5 [.int .i64 op,.int .i64 n,va,vt,ve]);have d0:(H.alloc (.cells 5 [.int .i64 op,.int .i64 n,va,vt,ve])).ld ⟨H.nx,0,none⟩=some (.int .i64 op):=ak M rfl;have d1:(H.alloc (.cells 5 [.int .i64 op,.int .i64 n,va,vt,ve])).ld ⟨H.nx,1,none⟩=some (.int .i64 n):=ak M rfl;have d2:(H.alloc (.cells 5 [.int .i64 op,.int .i64 n,va,vt,ve])).ld ⟨H.nx,2,none⟩=some va:=ak M rfl;have d3:(H.alloc (.cells 5 [.int .i64 op,.int .i64 n,va,vt,ve])).ld ⟨H.nx,3,none⟩=some vt:=ak M rfl;have d4:(H.alloc (.cells 5 [.int .i64 op,.int .i64 n,va,vt,ve])).ld ⟨H.nx,4,none⟩=some ve:=ak M rfl;have d:(H.alloc (.cells 5 [.int .i64 op,.int .i64 n,va,vt,ve])).ldn ⟨H.nx,0,none⟩ 5=some [.int .i64 op,.int .i64 n,va,vt,ve]:=bo M 5 rfl;generalize cM:H.alloc (.cells 5 [.int .i64 op,.int .i64 n,va,vt,ve])=H1 at X1 d0 d1 d2 d3 d4 d;have bT:=X1.wf M;rw [cM]at gB;have X2:=Ext.alloc H1 (.cells 5 zS);have gR:=cQ H1 (.cells 5 zS)
  obtain ⟨H2,kH⟩:∃H2,H1.alloc (.cells 5 zS)=H2:=⟨_,rfl⟩
  rw [kH]at X2 gR;have jG:=X2.wf bT;have gH:=X1.trans X2;have ltB:=AH.bc gB;have ltR:=AH.bc gR;have d22:=X2.ld d2;have n1:=X1.nx;have n2:=X2.nx;simp at hN;simp (maxSteps:=9^7)-implicitDefEqProofs+contextual [-X.ev,Nr,cM,kH,d22];apply ah
  ·(simp-implicitDefEqProofs [-X.ev];rfl)
  refine (uD _ args va ra H2 (avv _) jG (h1.ext gH) (h2.ext gH) (by omega) (by omega)).mono ?_;rintro x H3 ⟨w,oa,ea,X3,ka⟩;obtain ⟨t,r,hx⟩:=oa.shape;subst hx;have nV:=X3.wf jG;have n3:=X3.nx;obtain ⟨H4,s4,M4,Bb,pI,Xt⟩:=cm (X3.get (X2.get gB)) (by rw [X3.n0,X2.n0,X1.n0];exact M) (k:=2) (vs:=[.slice t w.length r]) (by simp);have jz:aP [.int .i64 op,.int .i64 n,va,vt,ve] 2 [.slice t w.length r]=[.int .i64 op,.int .i64 n,.slice t w.length r,vt,ve]:=rfl;rw [jz]at Xt;have qY:=M4.wf nV;have qX:Ext H H4:=(gH.trans X3).mod M4 (fun b a=>by omega);have gR4:=M4.get (fun q=>by omega) (X3.get gR);have B0:H4.n0≤H.nx:=by rw [qX.n0];exact M
  have e3:=aL Xt B0 (k:=3) (v:=vt) rfl;have WQ:=e3;rw [yP]at WQ;simp (maxSteps:=9^7)-implicitDefEqProofs+contextual [-X.ev,s4,WQ];refine cn (fun k m H'=>Ext H4 H'∧∃(i:Nat) (z:Value) (rs:List (List Value)),i+k=e.length∧m.get 1= .pointer (some ⟨H.nx,0,none⟩)∧m.get 2= .pointer (some ⟨H1.nx,0,none⟩)∧m.get 3=z∧m.get 4= .slice none 0 0∧m.get 14=vt∧m.get 15= .int .i64 e.length∧m.get 16= .int .i64 i∧dU H' 5 z rs∧rs.length=i∧fE (part H' H4.nx (aX z)) rs (e.take i)∧(∀b,aX z b→H4.nx≤b)) ?_ e.length ⟨Ext.refl _,0,.slice none 0 0,[],by simp,by simp,by simp,by simp,by simp,by simp [yP],by simp,by simp,dU.nil _ _,rfl,by simpa using fE.nil,fun b a=>absurd a (dO _ _ _)⟩;rintro k m p ⟨C,i,z,rs,hi,f1,Y,U,T,f14,f15,f16,ow,BE,aH,gu⟩;have sw:=C.wf qY;have Jz:=qX.trans C;by_cases h:i<e.length
  ·obtain ⟨y,L⟩:∃y,e[i]?=some y:=⟨_,avg h⟩
   obtain ⟨A,B,kP,qx,qy⟩:=y;obtain ⟨b,o,c',qz,qA,qB,Z4,Z5,Z6,cL,bM,_,_,_,_,_,j1,j2,j3,j4,j5,g1,g2,g3,g4,g5,g6⟩:=je.row (h3.ext Jz) (je.ext Jz h4) L;have Hq:pF p [.int .i64 A,.int .i64 B,qz,qA,qB] (.mk A B kP qx qy):=.mk j1 j2 j3 j4 j5 g1 g2 g3 g4 g5 g6;have qq:=avL (avl L);have t1:=fR L;have t2:=aV e (i+1);have t3:=aV e i;have Z:=f14;rw [cL]at Z;obtain ⟨l,Oz,g,T7,T8,q,vL⟩:=eZ (H:=p) sw (z:=5) (c:=[.int .i64 0,.int .i64 0,.slice none 0 0,.slice none 0 0,.slice none 0 0]) (vs:=[.int .i64 A,.int .i64 B,qz,qA,qB]) rfl;have q0:l.ld ⟨p.nx,0,none⟩=some (.int .i64 A):=vL 0 _ rfl;have q1:l.ld ⟨p.nx,1,none⟩=some (.int .i64 B):=vL 1 _ rfl;have q2:l.ld ⟨p.nx,2,none⟩=some qz:=vL 2 _ rfl;have q3:l.ld ⟨p.nx,3,none⟩=some qA:=vL 3 _ rfl;have q4:l.ld ⟨p.nx,4,none⟩=some qB:=vL 4 _ rfl;clear vL;replace q:l.ldn ⟨p.nx,0,none⟩ 5=some [.int .i64 A,.int .i64 B,qz,qA,qB]:=q;have Jn:=g.wf sw;simp (maxSteps:=9^7)-implicitDefEqProofs+contextual [-X.ev,Z,U,f15,f16,h,bM,Oz,q];apply ah
   ·(simp-implicitDefEqProofs [-X.ev];rfl)
   refine (ih _ _ l (by omega) Jn (pF.ext g Hq) (by omega)).mono ?_;rintro x P ⟨cs,rfl,hk,J⟩;obtain ⟨z',H8,H9,b8,a9,o9,s9,M9,k9⟩:=zU sw (g.trans J) g.nx C.nx ow aH hk (by omega);have n6:=g.nx;have n7:=J.nx;have n5:=C.nx;simp (maxSteps:=9^7)-implicitDefEqProofs+contextual [-X.ev,Z,U,f15,f16,b8,a9];rw [ai (n:=(i:Int)+1) ⟨by omega,by omega⟩];exact ⟨k- 1,by omega,((C.trans g).trans J).mod M9 gu,i+1,by omega,f1,Y,T,cL.symm,by omega,_,o9,by simp [BE],by rw [oi L];exact s9,fun q hq=>by have:=k9 q hq;omega⟩
  rw [avn (by omega)]at aH;have gB5:=C.get Xt;have B5:p.n0≤H.nx:=by rw [C.n0];exact B0
  have e4:=aL gB5 B5 (k:=4) (v:=ve) rfl;rw [uh]at e4;obtain ⟨I,D,hz⟩:=ow.shape;have n5:=C.nx;have Z:=f14;rw [yP]at Z;simp (maxSteps:=9^7)-implicitDefEqProofs+contextual [-X.ev,f1,Y,U,T,Z,f15,f16,h,e4];refine cn (fun k m H'=>Ext p H'∧∃(j:Nat) (z2:Value) (u:List (List Value)),j+k=f.length∧m.get 1= .pointer (some ⟨H.nx,0,none⟩)∧m.get 2= .pointer (some ⟨H1.nx,0,none⟩)∧m.get 3=z∧m.get 4=z2∧m.get 27=ve∧m.get 28= .int .i64 f.length∧m.get 29= .int .i64 j∧dU H' 5 z2 u∧u.length=j∧fE (part H' p.nx (aX z2)) u (f.take j)∧(∀b,aX z2 b→p.nx≤b)) ?_ f.length ⟨Ext.refl _,0,.slice none 0 0,[],by simp,by simp [f1],by simp [Y],by simp [U],by simp [T],by simp [uh],by simp,by simp,dU.nil _ _,rfl,by simpa using fE.nil,fun b a=>absurd a (dO _ _ _)⟩;clear f1 Y U T f14 Z f15 f16 m;rintro k m l ⟨g,j,z2,u,hj,f1,Y,U,T,f27,f28,f29,K,ai5,ui,Uv⟩;have F6:=g.wf sw;have X06:=Jz.trans g;by_cases h':j<f.length
  ·obtain ⟨y,L⟩:∃y,f[j]?=some y:=⟨_,avg h'⟩
   obtain ⟨A,B,kP,qx,qy⟩:=y;obtain ⟨b,o,c',qz,qA,qB,Z4,Z5,Z6,cL,bM,_,_,_,_,_,j1,j2,j3,j4,j5,g1,g2,g3,g4,g5,g6⟩:=je.row (h5.ext X06) (je.ext X06 h6) L;have Hq:pF l [.int .i64 A,.int .i64 B,qz,qA,qB] (.mk A B kP qx qy):=.mk j1 j2 j3 j4 j5 g1 g2 g3 g4 g5 g6;have qq:=avL (avl L);have t1:=fR L;have t2:=aV f (j+1);have t3:=aV f j;have Gj:=f27;rw [cL]at Gj;obtain ⟨P,sH7,J,aru,arv,q,Xu⟩:=eZ (H:=l) F6 (z:=5) (c:=[.int .i64 0,.int .i64 0,.slice none 0 0,.slice none 0 0,.slice none 0 0]) (vs:=[.int .i64 A,.int .i64 B,qz,qA,qB]) rfl;have q0:P.ld ⟨l.nx,0,none⟩=some (.int .i64 A):=Xu 0 _ rfl;have q1:P.ld ⟨l.nx,1,none⟩=some (.int .i64 B):=Xu 1 _ rfl;have q2:P.ld ⟨l.nx,2,none⟩=some qz:=Xu 2 _ rfl;have q3:P.ld ⟨l.nx,3,none⟩=some qA:=Xu 3 _ rfl;have q4:P.ld ⟨l.nx,4,none⟩=some qB:=Xu 4 _ rfl;clear Xu;replace q:P.ldn ⟨l.nx,0,none⟩ 5=some [.int .i64 A,.int .i64 B,qz,qA,qB]:=q;have ai7:=J.wf F6;simp (maxSteps:=9^7)-implicitDefEqProofs+contextual [-X.ev,Gj,T,f28,f29,h',bM,sH7,q];apply ah
   ·(simp-implicitDefEqProofs [-X.ev];rfl)
   refine (ih _ _ P (by omega) ai7 (pF.ext J Hq) (by omega)).mono ?_;rintro x H8 ⟨cs,rfl,hk,X8⟩;obtain ⟨z',Ha,Hb,b8,a9,o9,s9,M9,k9⟩:=zU F6 (J.trans X8) J.nx g.nx K ui hk (by omega);have n6:=g.nx;have n7:=J.nx;have n8:=X8.nx;simp (maxSteps:=9^7)-implicitDefEqProofs+contextual [-X.ev,Gj,T,f28,f29,b8,a9];rw [ai (n:=(j:Int)+1) ⟨by omega,by omega⟩];exact ⟨k- 1,by omega,((g.trans J).trans X8).mod M9 Uv,j+1,by omega,f1,Y,U,cL.symm,by omega,_,o9,by simp [ai5],by rw [oi L];exact s9,fun q hq=>by have:=k9 q hq;omega⟩
  rw [avn (by omega)]at ui;obtain ⟨R,Q,hz2⟩:=K.shape;have n6:=g.nx;have gB6:=g.get gB5;have gR6:=g.get (C.get gR4);have B6:l.n0≤H.nx:=by rw [g.n0];exact B5
  subst hz hz2;obtain ⟨P,s7,M7,nx7,Gc,Z7⟩:=cm gB6 B6 (k:=3) (vs:=[.slice I rs.length D]) (by simp);have ai8:aP [.int .i64 op,.int .i64 n,.slice t w.length r,vt,ve] 3 [.slice I rs.length D]=[.int .i64 op,.int .i64 n,.slice t w.length r,.slice I rs.length D,ve]:=rfl;rw [ai8]at Z7;obtain ⟨H8,s8,M8,Xq,DT,Z8⟩:=cm Z7 (by rw [Gc];exact B6) (k:=4) (vs:=[.slice R u.length Q]) (by simp);have Uw:aP [.int .i64 op,.int .i64 n,.slice t w.length r,.slice I rs.length D,ve] 4 [.slice R u.length Q]=[.int .i64 op,.int .i64 n,.slice t w.length r,.slice I rs.length D,.slice R u.length Q]:=rfl;rw [Uw]at Z8;have l8:H8.ldn ⟨H.nx,0,none⟩ 5=some [.int .i64 op,.int .i64 n,.slice t w.length r,.slice I rs.length D,.slice R u.length Q]:=by rw [b9 Z8 (by rw [DT,Gc];exact B6) (by simp)];rfl
  have gR8:=M8.get (fun q=>by omega) (M7.get (fun q=>by omega) gR6);obtain ⟨H9,s9,M9,ZY,Rw,Z9⟩:=cm gR8 (by rw [DT,Gc];omega) (k:=0) (vs:=[.int .i64 op,.int .i64 n,.slice t w.length r,.slice I rs.length D,.slice R u.length Q]) (by simp);have Ux:aP zS 0 [.int .i64 op,.int .i64 n,.slice t w.length r,.slice I rs.length D,.slice R u.length Q]=[.int .i64 op,.int .i64 n,.slice t w.length r,.slice I rs.length D,.slice R u.length Q]:=rfl;rw [Ux]at Z9;have l9:H9.ldn ⟨H1.nx,0,none⟩ 5=some [.int .i64 op,.int .i64 n,.slice t w.length r,.slice I rs.length D,.slice R u.length Q]:=by rw [b9 Z9 (by rw [Rw,DT,Gc];omega) (by simp)];rfl
  have Gj:=f27;rw [uh]at Gj;simp (maxSteps:=9^7)-implicitDefEqProofs+contextual [-X.ev,f1,Y,U,T,Gj,f28,f29,h',s7,s8,l8,s9,l9]
  have key:∀b x,H.nx≤b→b≠H.nx→b≠H1.nx→l.get b=some x→H9.get b=some x∧H.nx≤b∧¬ Be b:=fun b x a h1 h2 hg=>⟨M9.get h2 (M8.get h1 (M7.get h1 hg)),a,fun q=>q⟩
  have e09:H9.n0=l.n0:=Rw.trans (DT.trans Gc);have xa9:Sub (part H3 H2.nx Be) (part H9 H.nx Be):=fw (by rw [e09,g.n0,C.n0,pI]) (by omega) fun b x a hn _=>key b x (by omega) (by omega) (by omega) (g.get (C.get (M4.get (fun q=>by omega) a)))
  have W:Sub (part p H4.nx Be) (part H9 H.nx Be):=fw (by rw [e09,g.n0]) (by omega) fun b x a hn _=>key b x (by omega) (by omega) (by omega) (g.get a)
  have V:Sub (part l p.nx Be) (part H9 H.nx Be):=fw e09 (by omega) fun b x a hn _=>key b x (by omega) (by omega) (by omega) a
  have un:∀(G:AH) (k:Nat) (S:Nat→Prop),Sub (part G k S) (part G k Be):=fun G k S=>fw rfl (avk _) fun b x a hn _=>⟨a,hn,fun q=>q⟩
  refine ⟨.mk i1 i2 i3 i4 i5 (dU.part (n:=H2.nx) (S:=Be) oa (fun b a=>⟨ka b a,fun q=>q⟩)|>.sub xa9).rows (ea.sub ((un _ _ _).trans xa9)) (dU.part (n:=H4.nx) (S:=Be) ow (fun b a=>⟨gu b a,fun q=>q⟩)|>.sub W).rows (aH.sub ((un _ _ _).trans W)) (dU.part (n:=H4.nx) (S:=Be) ow (fun b a=>⟨gu b a,fun q=>q⟩)|>.sub W).fit (dU.part (n:=p.nx) (S:=Be) K (fun b a=>⟨Uv b a,fun q=>q⟩)|>.sub V).rows (ui.sub ((un _ _ _).trans V)) (dU.part (n:=p.nx) (S:=Be) K (fun b a=>⟨Uv b a,fun q=>q⟩)|>.sub V).fit,?_⟩;exact (((X06.mod M7 (fun b a=>by omega)).mod M8 (fun b a=>by omega)).mod M9 (fun b a=>by omega))
end
section
open Go
structure gN (H:AH) (sz:Nat) (v:Value) (rows:List (List Value)):Prop where
 is:(v= .slice none 0 0∧rows=[])∨∃b c junk,v= .slice (some ⟨b,0,none⟩) rows.length c∧H.n0≤b∧H.get b=some (.cells sz (rows.flatten++junk))∧rows.length*sz+junk.length=c*sz∧rows.length≤c
 len:∀r∈rows,r.length=sz
theorem dU.Uy {H:AH} {sz:Nat} {v:Value} {rows:List (List Value)} (h:dU H sz v rows):gN H sz v rows:=by
 refine ⟨?_,h.len⟩;rcases h.is with⟨rfl,rfl⟩|⟨b,rfl,c,a⟩
 ·exact .inl ⟨rfl,rfl⟩
 ·exact .inr ⟨b,_,[],rfl,c,by simpa using a,by simp,avk _⟩
theorem gN.lt {H:AH} {sz b:Nat} {v:Value} {rows:List (List Value)} (h:gN H sz v rows) (a:aX v b):b<H.nx:=by
 rcases h.is with⟨rfl,_⟩|⟨e,c,j,rfl,_,d,_⟩
 ·exact absurd a (dO _ _ _)
 ·rw [(bJ _ _ _ _ _).1 a];exact AH.bc d
theorem gN.shape {H:AH} {sz:Nat} {v:Value} {rows:List (List Value)} (h:gN H sz v rows):∃a c,v= .slice a rows.length c:=by
 rcases h.is with⟨rfl,rfl⟩|⟨b,c,j,rfl,_⟩
 ·exact ⟨_,_,rfl⟩
 ·exact ⟨_,_,rfl⟩
theorem gN.mod {S:Nat→Prop} {H H':AH} {sz:Nat} {v:Value} {rows:List (List Value)} (h:gN H sz v rows) (M:Mod S H H') (hs:∀b,aX v b→¬ S b):gN H' sz v rows:=by
 refine ⟨?_,h.len⟩;rcases h.is with⟨rfl,rfl⟩|⟨b,c,j,rfl,e,a,d,h2⟩
 ·exact .inl ⟨rfl,rfl⟩
 ·exact .inr ⟨b,c,j,rfl,by rw [M.n0];exact e,M.get (hs b ((bJ _ _ _ _ _).2 rfl)) a,d,h2⟩
theorem gN.ext {H H':AH} {sz:Nat} {v:Value} {rows:List (List Value)} (h:gN H sz v rows) (X:Ext H H'):gN H' sz v rows:=h.mod (Mod.cv (S:=fun _=>False) X) (by simp)
theorem gN.rows {H:AH} {sz:Nat} {v:Value} {rows:List (List Value)} (h:gN H sz v rows):Rows H sz v rows:=by
 rcases h.is with⟨rfl,rfl⟩|⟨b,c,j,rfl,d,a,f,h2⟩
 ·exact ⟨_,_,rfl,by simp⟩
 ·refine ⟨_,_,rfl,fun i r hi=>⟨b,0,rfl,?_⟩⟩
  obtain ⟨e,g⟩:=jO h.len hi;rw [b9 a d (by simp only [avp];omega)];rw [Nat.zero_add,List.drop_append_of_le_length (by omega),List.take_append_of_le_length (by rw [List.length_drop];omega)];rw [e]
theorem rC (a b c d:List Value) (h:b.length=c.length):aP (a++(b++d)) a.length c=a++(c++d):=by
 induction a with
 |nil=>
  have:aP (b++d) 0 c=c++(b++d).drop c.length:=by cases (b++d)<;>rfl
  rw [List.nil_append,List.length_nil,this,←h,List.drop_left];rfl
 |cons x a ih=>simp only [List.cons_append,List.length_cons,aP,ih]
theorem gN.push {H H1:AH} {sz bytes:Nat} {s:Value} {rows:List (List Value)} {r:List Value} (t:H.n0≤H.nx) (hs:gN H sz s rows) (N:0<sz) (m:r.length=sz) (B:H.alloc (.cells sz r)=H1) (i:(rows.length+1)*bytes≤2^47) (w:rows.length+1<2^62):
 ∃f H',bL sz bytes H1 s (.slice (some ⟨H.nx,0,none⟩) 1 1)=some (f,H')∧gN H' sz f (rows++[r])∧Mod (aX s) H H'∧(∀b,aX f b→aX s b∨H.nx≤b)∧H'.n0=H.n0∧H.nx≤H'.nx∧H1.nx≤H'.nx:=by
 rcases hs.is with⟨rfl,rfl⟩|⟨b,c,d,rfl,y,v,z,O⟩
 ·obtain ⟨f,H',a,o,M,k,l,j,wf,D,C,p⟩:=iv (bytes:=bytes) t (dU.nil H sz) m B i w
  exact ⟨f,H',a,o.Uy,M,fun b i=>.inr (k b i),l,j,p⟩
 subst B;have X:=Ext.alloc H (.cells sz r);have u:=X.get v
 have J:∀q∈rows++[r],q.length=sz:=by
  intro q n;rcases avA.1 n with h|h
  ·exact hs.len q h
  ·simp at h;subst h;exact m
 have I:q8 (H.alloc (.cells sz r)) sz (.slice (some ⟨H.nx,0,none⟩) 1 1)=some r:=by
  have:=tf t sz r;rw [m]at this;simp [q8,nb,this,m]
 have F:(H.alloc (.cells sz r)).lS b sz=true:=xN u (avk _);have K:=cJ hs.len;by_cases room:rows.length+1≤c
 ·have A:sz≤d.length:=by
   have:(rows.length+1)*sz≤c*sz:=Nat.mul_le_mul_right _ room;rw [Nat.succ_mul]at this;omega
  obtain ⟨H',st,M,j,l,g⟩:=cm u (by exact y) (k:=rows.length*sz) (vs:=r) (by simp only [avp];omega);refine ⟨.slice (some ⟨b,0,none⟩) (rows.length+1) c,H',?_,⟨.inr ⟨b,c,d.drop sz,by simp,by rw [l];exact y,?_,?_,by simpa using room⟩,J⟩,(Mod.cv X).trans (M.mono fun x _ G=>(bJ _ _ _ _ _).2 G),fun q n=>.inl ?_,l.trans X.n0,by rw [j];exact X.nx,by rw [j];exact avk _⟩
  ·simp [bL,oD,I,i,w,room,F,st]
  ·rw [g]
   have e:=rC rows.flatten (d.take sz) r (d.drop sz) (by rw [List.length_take,m];omega);rw [List.take_append_drop,K]at e;rw [e];simp
  ·simp only [avp,List.length_drop,List.length_singleton,Nat.succ_mul];omega
  ·rw [bJ]at n⊢;exact n
 ·have L:c=rows.length:=by omega
  subst L;have A:d=[]:=avO (by omega);subst A;rw [List.append_nil]at v u
  have E:dU H sz (.slice (some ⟨b,0,none⟩) rows.length rows.length) rows:=⟨.inr ⟨b,rfl,y,v⟩,hs.len⟩
  obtain ⟨f,H',a,o,M,k,l,j,wf,D,C,p⟩:=iv (bytes:=bytes) t E m rfl i w;exact ⟨f,H',a,o.Uy,M,fun b i=>.inr (k b i),l,j,p⟩
theorem gN.last {H:AH} {sz:Nat} {v:Value} {rows:List (List Value)} {r:List Value} (h:gN H sz v (rows++[r])):∃b c,v= .slice (some ⟨b,0,none⟩) (rows.length+1) c∧rows.length+1≤c∧H.n0≤b∧b<H.nx∧H.lS b sz=true∧H.ldn ⟨b,rows.length*sz,none⟩ sz=some r∧
 (∀(j:Nat) (x:Value),j<sz→∃H',H.st ⟨b,rows.length*sz+j,none⟩ [x]=some H'∧gN H' sz v (rows++[r.set j x])∧Mod (fun q=>q=b) H H'∧H'.nx=H.nx∧H'.n0=H.n0)∧gN H sz (.slice (some ⟨b,0,none⟩) rows.length c) rows:=by
 rcases h.is with⟨_,e⟩|⟨b,c,a,rfl,m,l,d,p⟩
 ·simp at e
 have n:∀q∈rows,q.length=sz:=fun q f=>h.len q (by simp [f])
 have u:=h.len r (by simp);have y:=cJ n;simp only [avp,List.length_singleton]at d p;refine ⟨b,c,by simp,p,m,AH.bc l,xN l (avk _),?_,fun j x B=>?_,⟨.inr ⟨b,c,r++a,rfl,m,by simpa using l,by rw [Nat.succ_mul]at d;simp only [avp];omega,by omega⟩,n⟩⟩
 ·obtain ⟨D,o,C,e,w⟩:=h.rows.at (i:=rows.length) (r:=r) (by simp)
  cases e
  simpa using w
 ·obtain ⟨H',st,M,t,s,g⟩:=cm l m (k:=rows.length*sz+j) (vs:=[x]) (by rw [avp,cJ h.len];simp only [avp,List.length_singleton,Nat.succ_mul];omega)
  refine ⟨H',st,⟨.inr ⟨b,c,a,by simp,by rw [s];exact m,?_,by simpa using d,by simpa using p⟩,?_⟩,M,t,s⟩
  ·rw [g]
   have e:r=r.take j++([r[j]'(by omega)]++r.drop (j+1)):=by
    rw [←avF];simp
   have A:r.set j x=r.take j++([x]++r.drop (j+1)):=by rw [List.set_eq_take_append_cons_drop,if_pos (by omega)];rfl
   have:=rC (rows.flatten++r.take j) [r[j]'(by omega)] [x] (r.drop (j+1)++a) rfl;rw [avp,List.length_take,y,Nat.min_eq_left (by omega)]at this
   have z:(rows++[r]).flatten++a=rows.flatten++r.take j++([r[j]'(by omega)]++(r.drop (j+1)++a)):=by
    simp only [List.flatten_append,List.flatten_cons,List.flatten_nil,List.append_nil,avF];congr 1
    conv=>lhs;rw [e]
    simp only [avF]
   rw [z,this];simp only [List.flatten_append,List.flatten_cons,List.flatten_nil,List.append_nil,avF,A]
  ·intro q f
   rcases avA.1 f with f|f
   ·exact n q f
   ·simp at f;subst f;simpa using u
theorem DV:∀(N:Nat) (s:bF) (c:List Value) (H:AH),SizeOf.sizeOf s<N→H.n0≤H.nx→pF H c s→bA s<2^60→
 Ca E O 159 [.agg c.toArray] H (fun x H'=>x= .int .i64 (bg s)∧Ext H H'):=by
 intro N
 induction N with
 |zero=>intro s c H h;omega
 |succ N ih=>
  intro s c H hN v hs mP
  cases hs with| @mk op n va vt ve ra rt re args a e i1 i2 i3 i4 i5 h1 h2 h3 h4 h5 h6=>
  refine Ca.aR (F:=a159) rfl rfl rfl ?_;rw [bA]at mP;have na:=bf args;have nt:=bH a;have ne:=bH e;obtain ⟨p1,q1,M⟩:=h3.len;rw [h4.length]at M;obtain ⟨p2,q2,P⟩:=h5.len;rw [h6.length]at P;have X1:=Ext.alloc H (.cells 5 [.int .i64 op,.int .i64 n,va,vt,ve]);have d0:(H.alloc (.cells 5 [.int .i64 op,.int .i64 n,va,vt,ve])).ld ⟨H.nx,0,none⟩=some (.int .i64 op):=ak v rfl;have d1:(H.alloc (.cells 5 [.int .i64 op,.int .i64 n,va,vt,ve])).ld ⟨H.nx,1,none⟩=some (.int .i64 n):=ak v rfl;have d2:(H.alloc (.cells 5 [.int .i64 op,.int .i64 n,va,vt,ve])).ld ⟨H.nx,2,none⟩=some va:=ak v rfl;have d3:(H.alloc (.cells 5 [.int .i64 op,.int .i64 n,va,vt,ve])).ld ⟨H.nx,3,none⟩=some vt:=ak v rfl;have d4:(H.alloc (.cells 5 [.int .i64 op,.int .i64 n,va,vt,ve])).ld ⟨H.nx,4,none⟩=some ve:=ak v rfl;have d:(H.alloc (.cells 5 [.int .i64 op,.int .i64 n,va,vt,ve])).ldn ⟨H.nx,0,none⟩ 5=some [.int .i64 op,.int .i64 n,va,vt,ve]:=bo v 5 rfl;generalize cM:H.alloc (.cells 5 [.int .i64 op,.int .i64 n,va,vt,ve])=H1 at X1 d0 d1 d2 d3 d4 d;have bT:=X1.wf v;have K:=d3;rw [M]at K;simp at hN;simp (maxSteps:=9^7)-implicitDefEqProofs+contextual [-X.ev,a159,cM,K];refine cn (fun k m H'=>Ext H1 H'∧∃i:Nat,i+k=a.length∧m.get 1= .pointer (some ⟨H.nx,0,none⟩)∧m.get 9=vt∧m.get 10= .int .i64 a.length∧m.get 11= .int .i64 i∧m.get 3= .int .i64 (1+ar (a.take i))) ?_ a.length ⟨Ext.refl _,0,by simp,by simp,by simp [M],by simp,by simp,by simp [ar]⟩;rintro k m t ⟨R,i,hi,f1,Q,f10,f11,p⟩;have jG:=R.wf bT;have gH:=X1.trans R;have bt:=aK a;have be:=aK e;by_cases h:i<a.length
  ·obtain ⟨y,r⟩:∃y,a[i]?=some y:=⟨_,avg h⟩
   have qq:=avL (avl r);have t1:=fR r;have t2:=aV a (i+1);have t3:=aV a i;have u1:=gV r;have u2:=cy a i;have u3:=cy a (i+1);obtain ⟨g,l,I,D,G⟩:=y;obtain ⟨b,o,c',qz,qA,qB,Z4,Z5,Z6,J,bM,_,_,_,_,_,Z,Y,W,V,U,g1,g2,g3,g4,g5,g6⟩:=je.row (h3.ext gH) (je.ext gH h4) r;have Hq:pF t [.int .i64 g,.int .i64 l,qz,qA,qB] (.mk g l I D G):=.mk Z Y W V U g1 g2 g3 g4 g5 g6;have w:=Q;rw [J]at w;obtain ⟨f,Hm,A,Jk,Jl,q,C⟩:=eZ (H:=t) jG (z:=5) (c:=[.int .i64 0,.int .i64 0,.slice none 0 0,.slice none 0 0,.slice none 0 0]) (vs:=[.int .i64 g,.int .i64 l,qz,qA,qB]) rfl;have q0:f.ld ⟨t.nx,0,none⟩=some (.int .i64 g):=C 0 _ rfl;have q1:f.ld ⟨t.nx,1,none⟩=some (.int .i64 l):=C 1 _ rfl;have q2:f.ld ⟨t.nx,2,none⟩=some qz:=C 2 _ rfl;have q3:f.ld ⟨t.nx,3,none⟩=some qA:=C 3 _ rfl;have q4:f.ld ⟨t.nx,4,none⟩=some qB:=C 4 _ rfl;clear C;replace q:f.ldn ⟨t.nx,0,none⟩ 5=some [.int .i64 g,.int .i64 l,qz,qA,qB]:=q;have zI:=A.wf jG;have S:IntKind.i64.wrap (1+ar (a.take i)+bg (.mk g l I D G))=1+ar (a.take (i+1)):=by rw [ai ⟨by omega,by omega⟩];omega
   simp (maxSteps:=9^7)-implicitDefEqProofs+contextual [-X.ev,w,p,f10,f11,h,bM,Hm,q];apply ah
   ·(simp-implicitDefEqProofs [-X.ev];rfl)
   refine (ih _ _ f (by omega) zI (pF.ext A Hq) (by omega)).mono ?_;rintro x u ⟨rfl,L⟩;simp (maxSteps:=9^7)-implicitDefEqProofs+contextual [-X.ev,w,p,f10,f11,S];rw [ai (n:=(i:Int)+1) ⟨by omega,by omega⟩];exact ⟨k- 1,by omega,(R.trans A).trans L,i+1,by omega,f1,J.symm,by simp,rfl⟩
  rw [avn (by omega)]at p;have e4:=R.ld d4;rw [P]at e4;rw [M]at Q;simp (maxSteps:=9^7)-implicitDefEqProofs+contextual [-X.ev,f1,Q,p,f10,f11,h,e4];refine cn (fun k m H'=>Ext t H'∧∃j:Nat,j+k=e.length∧m.get 21=ve∧m.get 22= .int .i64 e.length∧m.get 23= .int .i64 j∧m.get 3= .int .i64 (1+ar a+ar (e.take j))) ?_ e.length ⟨Ext.refl _,0,by simp,by simp [P],by simp,by simp,by simp [ar,p]⟩;clear f1 Q f10 f11 p m;rintro k m f ⟨A,j,hj,f21,f22,f23,p⟩;have nV:=A.wf jG;have jd:=gH.trans A;by_cases h':j<e.length
  ·obtain ⟨y,r⟩:∃y,e[j]?=some y:=⟨_,avg h'⟩
   have qq:=avL (avl r);have t1:=fR r;have t2:=aV e (j+1);have t3:=aV e j;have u1:=gV r;have u2:=cy e j;have u3:=cy e (j+1);obtain ⟨g,l,I,D,G⟩:=y;obtain ⟨b,o,c',qz,qA,qB,Z4,Z5,Z6,J,bM,_,_,_,_,_,Z,Y,W,V,U,g1,g2,g3,g4,g5,g6⟩:=je.row (h5.ext jd) (je.ext jd h6) r;have Hq:pF f [.int .i64 g,.int .i64 l,qz,qA,qB] (.mk g l I D G):=.mk Z Y W V U g1 g2 g3 g4 g5 g6;have Uz:=f21;rw [J]at Uz;obtain ⟨u,T,L,aiT,aiU,q,B⟩:=eZ (H:=f) nV (z:=5) (c:=[.int .i64 0,.int .i64 0,.slice none 0 0,.slice none 0 0,.slice none 0 0]) (vs:=[.int .i64 g,.int .i64 l,qz,qA,qB]) rfl;have q0:u.ld ⟨f.nx,0,none⟩=some (.int .i64 g):=B 0 _ rfl;have q1:u.ld ⟨f.nx,1,none⟩=some (.int .i64 l):=B 1 _ rfl;have q2:u.ld ⟨f.nx,2,none⟩=some qz:=B 2 _ rfl;have q3:u.ld ⟨f.nx,3,none⟩=some qA:=B 3 _ rfl;have q4:u.ld ⟨f.nx,4,none⟩=some qB:=B 4 _ rfl;clear B;replace q:u.ldn ⟨f.nx,0,none⟩ 5=some [.int .i64 g,.int .i64 l,qz,qA,qB]:=q;have ZM:=L.wf nV;have S:IntKind.i64.wrap (1+ar a+ar (e.take j)+bg (.mk g l I D G))=1+ar a+ar (e.take (j+1)):=by rw [ai ⟨by omega,by omega⟩];omega
   simp (maxSteps:=9^7)-implicitDefEqProofs+contextual [-X.ev,Uz,p,f22,f23,h',bM,T,q];apply ah
   ·(simp-implicitDefEqProofs [-X.ev];rfl)
   refine (ih _ _ u (by omega) ZM (pF.ext L Hq) (by omega)).mono ?_;rintro x H5 ⟨rfl,X5⟩;simp (maxSteps:=9^7)-implicitDefEqProofs+contextual [-X.ev,Uz,p,f22,f23,S];rw [ai (n:=(j:Int)+1) ⟨by omega,by omega⟩];exact ⟨k- 1,by omega,(A.trans L).trans X5,j+1,by omega,J.symm,by simp,rfl⟩
  rw [avn (by omega)]at p;rw [P]at f21;simp (maxSteps:=9^7)-implicitDefEqProofs+contextual [-X.ev,f21,p,f22,f23,h',bg];exact jd
end
end Go.Proofs.YtppcmpmnglaleaaGreatDoor.A
