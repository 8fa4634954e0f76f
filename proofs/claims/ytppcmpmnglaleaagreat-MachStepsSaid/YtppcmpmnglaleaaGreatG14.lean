/- Texts that stand one behind the other: AbsR, S24, S25, S26, S27, S28, S29, S30, S31, S32, S33, S34, S35. -/
import Derived.Test.YtppcmpmnglaleaaGreatG13
import Derived.SizedLaws
import Derived.OpenShut
import Derived.ProofKit
import Derived.ChangeOld
import Derived.ShutString
set_option linter.unusedVariables false
set_option linter.unusedSimpArgs false
namespace Go.Proofs.YtppcmpmnglaleaaGreat.A
section
open Go Go.RowKit Go.WideShapes Go.ChangeShapes
section
variable{T:Type} {enc:TypeId×Value→T} {P:Program} {W:World}
theorem FQ {α:Type} {l:List α} (h:l.length=2):∃a b,l=[a,b]:=by
 match l,h with
 |[a,b],_=>exact ⟨a,b,rfl⟩
theorem FR {α:Type} {l:List α} (h:l.length=3):∃a b c,l=[a,b,c]:=by
 match l,h with
 |[a,b,c],_=>exact ⟨a,b,c,rfl⟩
def Rd (enc:TypeId×Value→T) (P:Program) (W:World) (n:Nat) (t:TypeId) (cs:List Value) (d:DataW T):Prop:=∃ps,DataW.trod enc P W 0 (fun _=>true) true n t cs=some (d,ps)
def tV (P:Program) (t:TypeId) (d:DataW T):Prop:=∀n∈d.weights P t,n≤reachBytes
theorem jy {n:Nat} {t:TypeId} {k:IntKind} {cs:List Value} {d:DataW T} (a:P.underlying t=some (.int k)) (h:Rd enc P W n t cs d):∃m,cs=[.int k m]∧(Lit.int k m).wf=true:=by
 obtain ⟨ps,h⟩:=h;obtain ⟨m,b,_,h2⟩:=DataW.trod_int a h;exact ⟨m,b,h2⟩
theorem wf_i64 {m:Int} (h:(Lit.int .i64 m).wf=true):oh m:=by
 have:=bounds_i64 h;unfold oh;omega
theorem Ox {n:Nat} {t:TypeId} {cs:List Value} {d:DataW T} (b:P.underlying t=some .string) (h:Rd enc P W n t cs d) (a:tV P t d):∃s:ByteArray,cs=[.string s]∧s.size≤reachBytes:=by
 obtain ⟨ps,h⟩:=h;obtain ⟨s,c,h2,_⟩:=DataW.trod_string b h;cases h2;have:=a s.data.toList.length (by simp [DataW.weights]);exact ⟨s,c,by simpa using this⟩
theorem A9 {b o:Nat} {v:Value} (h:W.cell? ⟨b,o,none⟩=some v):∃arr ty d,W.heap[b]?=some (.cells arr ty d)∧arr[o]?=some v:=by
 unfold World.cell? at h;dsimp only at h;split at h
 ·rename_i c e f a
  simp at h;exact ⟨c,e,f,a,h⟩
 ·cases h
theorem J1 {b o n:Nat} {cs l:List Value} (m:0<n) (s:cs.length=n) (h:∀j,j<n→W.cell? ⟨b,o+j,none⟩=cs[j]?) (q:aQ W.heap.size cs=some l):b<W.heap.size∧(H0 W).ldn ⟨b,o,none⟩ n=some l:=by
 obtain ⟨arr,ty,u,f,t⟩:=A9 (b:=b) (o:=o) (v:=cs[0]'(by omega)) (by have:=h 0 m;rw [Nat.add_zero]at this;rw [this];exact apG (by omega));have d:=(apU.1 f).1;refine ⟨d,?_⟩
 have c:∀j,j<n→arr[o+j]?=cs[j]?:=by
  intro j c;have:=h j c;obtain ⟨i,_,_,g,r⟩:=A9 (v:=cs[j]'(by omega)) (by rw [this];exact apG (by omega));rw [f]at g;cases g;rw [r,apG (by omega)]
 have a:o+n≤arr.toList.length:=by
  have:=c (n- 1) (by omega);rw [apG (by omega)]at this;have:=(apU.1 this).1;rw [Array.length_toList];omega
 have k:(arr.toList.drop o).take n=cs:=by
  apply List.ext_getElem?;intro j;by_cases e:j<n
  ·rw [aqf,if_pos e,aqk,Array.getElem?_toList,c j e]
  ·rw [aqf,if_neg e,aql (by omega)]
 have p:(H0 W).get b=some (.cells 1048576 arr.toList):=by
  rw [AH.fQ d,ze];unfold tK;rw [f]
 unfold AH.ldn;dsimp only;rw [p];simp only [a,decide_true,cond_true,k];rw [show decide (b<(H0 W).n0)=true from decide_eq_true d,cond_true];exact q
inductive fE {α β:Type} (C:α→β→Prop):List α→List β→Prop where
 |nil:fE C [] []
 |cons {a:α} {b:β} {l:List α} {m:List β}:C a b→fE C l m→fE C (a::l) (b::m)
theorem fE.length {α β:Type} {C:α→β→Prop}:∀{l:List α} {m:List β},fE C l m→l.length=m.length
 |_,_,.nil=>rfl
 |_,_,.cons _ h=>by simp [fE.length h]
theorem J2 {α β:Type} {C:α→β→Prop} {l:List α}:(∀(i:Nat) (a:α),l[i]?=some a→∃b,C a b)→∃m,fE C l m:=by
 induction l with
 |nil=>exact fun _=>⟨[],.nil⟩
 |cons a l ih=>
  intro h;obtain ⟨b,e⟩:=h 0 a rfl;obtain ⟨m,d⟩:=ih fun i x c=>h (i+1) x (by simpa using c)
  exact ⟨b::m,.cons e d⟩
theorem Ba {α:Type} {p:Nat→α→Prop}:∀n,(∀i,i<n→∃x,p i x)→∃l:List α,l.length=n∧∀i x,l[i]?=some x→p i x
 |0,_=>⟨[],rfl,by simp⟩
 |n+1,h=>by
  obtain ⟨l,b,d⟩:=Ba n fun i hi=>h i (by omega)
  obtain ⟨x,c⟩:=h n (by omega);refine ⟨l++[x],by simp [b],fun i y a=>?_⟩;by_cases hi:i<n
  ·rw [apT (by omega)]at a;exact d i y a
  ·rw [apX (by omega)]at a
   have:i=n:=by
    have:=(apM.1 a).1;simp at this;omega
   subst this;simp [b]at a;subst a;exact c
theorem Bb {α:Type} {C:List Value→α→Prop} {t e:TypeId} {fuel:Nat} {cs:List Value} {d:DataW T} (F:P.underlying t=some (.slice e)) (K:0<P.cellsOf e) (V:0<P.bytesOf e)
 (h:Rd enc P W fuel t cs d) (O:tV P t d) (rd:∀m cz g,m<fuel→Rd enc P W m e cz g→tV P e g→∃l y,aQ W.heap.size cz=some l∧C l y):
 ∃v rows ys,aQ W.heap.size cs=some [v]∧Rows (H0 W) (P.cellsOf e) v rows∧fE C rows ys∧rows.length*P.bytesOf e≤reachBytes:=by
 obtain ⟨ps,h⟩:=h;rcases DataW.trod_slice F h with⟨rfl,_⟩|⟨a,len,cap,elems,rest,n,hf,rfl,q,_,WG,_,s,A,_,_⟩
 ·exact ⟨_,[],[],rfl,⟨_,_,rfl,by simp⟩,.nil,by simp⟩
 cases q
 have E:∀m∈((elems.map (·.1)).length+(rest.map (·.1)).length)*P.bytesOf e::(DataW.weightsAll P e (elems.map (·.1))++DataW.weightsAll P e (rest.map (·.1))),m≤reachBytes:=by
  intro m f;refine O m ?_;simp only [DataW.weights,F];exact f
 have U:len*P.bytesOf e≤reachBytes:=by
  have:=E _ (List.mem_cons_self ..);rw [List.length_map,s]at this;exact ap2 (Nat.mul_le_mul_right _ (by omega)) this
 have Y:∀(l:List (DataW T)) (x:DataW T),x∈l→∀m∈x.weights P e,m∈DataW.weightsAll P e l:=by
  intro l
  induction l with
  |nil=>intro x q;cases q
  |cons y l ih=>
   intro x q m f;simp only [DataW.weightsAll,ap0];rcases apY.1 q with rfl|q
   ·exact .inl f
   ·exact .inr (ih x q m f)
 by_cases Z:len=0
 ·subst Z
  cases G:(decide (a.block<W.heap.size)&&a.spot.isNone)with
  |true=>exact ⟨.slice (some a) 0 cap,[],[],by simp only [aQ,bw,G,cond_true],⟨_,_,rfl,by simp⟩,.nil,by simp⟩
  |false=>exact ⟨.slice (some ⟨0,0,some 1⟩) 0 0,[],[],by simp [aQ,bw,G],⟨_,_,rfl,by simp⟩,.nil,by simp⟩
 obtain ⟨b,o,spot⟩:=a
 have key:∀i,i<len→∃cz g,(∃m,m<fuel∧Rd enc P W m e cz g)∧tV P e g∧W.cells? 0 ((⟨b,o,spot⟩:Addr).add (i*P.cellsOf e)) (P.cellsOf e)=some cz:=by
  intro i hi;have:=A i hi;rw [apG (by omega)]at this;obtain ⟨cz,D,h2⟩:=apR.1 this;refine ⟨cz,(elems[i]'(by omega)).1,⟨n,by omega,⟨_,h2⟩⟩,fun m f=>?_,D⟩;refine E m (List.mem_cons_of_mem _ (List.mem_append_left _ (Y _ _ ?_ m f)));exact List.mem_map_of_mem (List.getElem_mem _)
 have Q:spot=none∧b<W.heap.size:=by
  obtain ⟨cz,g,_,_,B⟩:=key 0 (by omega);obtain ⟨_,J,z⟩:=World.cells?_some B;have:=z 0 K;rw [apG (by omega)]at this;simp only [Nat.zero_mul,Addr.add,if_true]at this;unfold World.cell? at this;dsimp only at this;split at this
  ·rename_i c ty fz S
   cases spot with
   |none=>exact ⟨rfl,(apU.1 S).1⟩
   |some x=>simp at this
  ·cases this
 obtain ⟨rfl,X⟩:=Q
 have L:∀o k,(⟨b,o,none⟩:Addr).add k=⟨b,o+k,none⟩:=by
  intro o k;unfold Addr.add;split
  ·rename_i R;subst R;rfl
  ·rfl
 obtain ⟨rows,I,H⟩:=Ba (p:=fun i (r:List Value)=>(∃y,C r y)∧(H0 W).ldn ⟨b,o+i*P.cellsOf e,none⟩ (P.cellsOf e)=some r) len (fun i hi=>by
  obtain ⟨cz,g,⟨m,f,u⟩,N,B⟩:=key i hi;obtain ⟨l,y,D,h2⟩:=rd m cz g f u N;obtain ⟨_,J,z⟩:=World.cells?_some B;refine ⟨l,⟨y,h2⟩,(J1 K J (fun j w=>?_) D).2⟩;have:=z j w;rw [L,L]at this
  exact this)
 obtain ⟨ys,M⟩:=J2 (l:=rows) (C:=C) fun i r u=>(H i r u).1
 refine ⟨.slice (some ⟨b,o,none⟩) len cap,rows,ys,?_,⟨_,_,by rw [I],fun i r hi=>⟨b,o,rfl,(H i r hi).2⟩⟩,M,by rw [I];exact U⟩;simp [aQ,bw,X]
theorem kE {t:TypeId} {fs:Array Field} {fuel:Nat} {cs:List Value} {d:DataW T} (a:P.underlying t=some (.struct fs)) (h:Rd enc P W fuel t cs d) (e:tV P t d):
 cs.length=P.cellsOf t∧∃m,m<fuel∧∀(i:Nat) (f:Field),fs[i]?=some f→∃di,Rd enc P W m f.type ((cs.drop f.offset).take (P.cellsOf f.type)) di∧tV P f.type di:=by
 obtain ⟨ps,h⟩:=h;obtain ⟨xs,n,p,c,k,b,l⟩:=DataW.trod_struct a h;cases c;refine ⟨k,n,by omega,fun i f hi=>?_⟩;have o:=(apU.1 hi).1;have:=l i f hi;rw [apG (by omega)]at this;refine ⟨_,⟨_,this⟩,fun m g=>e m ?_⟩;simp only [DataW.weights,a];exact DataW.weights_mem_each (j:=i) (t:=f.type) (d:=(xs[i]'(by omega)).1) (by simp [hi]) (by simp [apG (show i<xs.length by omega)]) m g
theorem ei {n0:Nat} {k:IntKind} {m:Int} {cs l:List Value} (h:aQ n0 cs=some l):aQ n0 (.int k m::cs)=some (.int k m::l):=by simp [aQ,bw,flat,h]
theorem zB {n0:Nat} {s:ByteArray} {cs l:List Value} (h:aQ n0 cs=some l):aQ n0 (.string s::cs)=some (.string s::l):=by simp [aQ,bw,flat,h]
theorem jU {n0:Nat} {c v:Value} {cs l:List Value} (a:aQ n0 [c]=some [v]) (h:aQ n0 cs=some l):aQ n0 (c::cs)=some (v::l):=by
 simp only [aQ]at a⊢;split at a
 ·rename_i x m h2 b
  simp only [apH]at b;subst b;simp only [apH,List.cons.injEq,and_true]at a;subst a;simp [h2,h]
 ·cases a
theorem Bc {c:Array Value} {l:List Value} (h:aQ W.heap.size c.toList=some l):V (qJ W) (.agg l.toArray) (.agg c):=by
 obtain ⟨a,h2⟩:=oy (S9 W) (l:=c.toList) (m:=l) h;exact .agg (by simpa using a) (by simpa using h2)
end
end
section
open Go
section
variable{T:Type} {enc:TypeId×Value→T} {W:World}
theorem CQ {n k:Nat} (h:n*k≤reachBytes) (a:0<k):n<2^60:=by
 have b:n*1≤n*k:=Nat.mul_le_mul_left _ a;have:reachBytes<2^47:=reachBytes_lt;omega
theorem cE:Tryz.prog.cellsOf 107=4:=by kernel_rfl
theorem cS:Tryz.prog.cellsOf 85=5:=by kernel_rfl
theorem cV:Tryz.prog.cellsOf 75=3:=by kernel_rfl
theorem cP:Tryz.prog.cellsOf 25=3:=by kernel_rfl
theorem cT:Tryz.prog.cellsOf 28=2:=by kernel_rfl
theorem cI:Tryz.prog.cellsOf 3=1:=by kernel_rfl
theorem cZ:Tryz.prog.cellsOf 9=1:=by kernel_rfl
theorem cEs:Tryz.prog.cellsOf 83=1:=by kernel_rfl
theorem cSs:Tryz.prog.cellsOf 23=1:=by kernel_rfl
theorem cVs:Tryz.prog.cellsOf 22=1:=by kernel_rfl
theorem cIs:Tryz.prog.cellsOf 26=1:=by kernel_rfl
theorem Uj {α:Type} {l:List α} (h:l.length=4):∃a b c d,l=[a,b,c,d]:=by
 match l,h with
 |[a,b,c,d],_=>exact ⟨a,b,c,d,rfl⟩
theorem Uk {α:Type} {l:List α} (h:l.length=5):∃a b c d e,l=[a,b,c,d,e]:=by
 match l,h with
 |[a,b,c,d,e],_=>exact ⟨a,b,c,d,e,rfl⟩
theorem Oz (n:Nat) (cs:List Value) (d:DataW T) (h:Rd enc Tryz.prog W n 75 cs d) (r:tV Tryz.prog 75 d):∃l y,aQ W.heap.size cs=some l∧(l=Vr.row y∧y.name.size<2^60):=by
 obtain ⟨i,m,t,c⟩:=kE Tryz.underlying75 h r;rw [cV]at i;obtain ⟨A,z,x,rfl⟩:=FR i;obtain ⟨w,f,g⟩:=c 0 _ rfl;obtain ⟨v,e,q⟩:=c 1 _ rfl;obtain ⟨u,h2,p⟩:=c 2 _ rfl;simp only [List.getElem_toArray,List.getElem_cons_zero,List.getElem_cons_succ]at f e h2 g q p;rw [cZ]at f;rw [cI]at e h2;obtain ⟨s,o,D⟩:=Ox Tryz.underlying9 f g;obtain ⟨a,k,C⟩:=jy Tryz.underlying3 e;obtain ⟨b,j,B⟩:=jy Tryz.underlying3 h2;simp at o k j;subst o;subst k;subst j;have:reachBytes<2^47:=reachBytes_lt;exact ⟨_,⟨s,a,b⟩,zB (ei (ei rfl)),rfl,by show s.size<2^60;omega⟩
end
end
section
open Go
theorem gG {a b:Int} (c:0≤a):de .rem (.int .i64 a) (.int .i64 b)=if b=0 then none else some (.int .i64 (a%b)):=by
 by_cases h:b=0
 ·simp [de,dL,jq,h]
 ·simp [de,dL,jq,h]
  rw [Int.tmod_eq_emod_of_nonneg c]
theorem sy {a b:Int} (c:0≤a) (hi:a≤2^62) (e:0<b):de .quo (.int .i64 a) (.int .i64 b)=some (.int .i64 (a/b)):=by
 have d:¬ b=0:=by omega
 have f:0≤a/b:=Int.ediv_nonneg c (by omega);have h2:a/b≤a:=Int.ediv_le_self _ c;simp only [de,dL,jq,d,if_true,if_false];rw [Int.tdiv_eq_ediv_of_nonneg c,aj ⟨by omega,by omega⟩]
theorem lb (a:Nat) (h:a<2^62):(BitVec.ofInt 64 (a:Int)).toNat=a:=by
 rw [BitVec.toNat_ofInt];have:((a:Int)%((2^64:Nat):Int))=a:=Int.emod_eq_of_lt (by omega) (by omega);rw [this];rfl
theorem J3 {a b:Nat} (d:a<2^62) (c:b<2^62):de .and (.int .i64 a) (.int .i64 b)=some (.int .i64 ((a&&&b:Nat):Int)):=by
 have:(BitVec.ofInt IntKind.i64.bits (a:Int)&&&BitVec.ofInt IntKind.i64.bits (b:Int)).toNat=a&&&b:=by
  show(BitVec.ofInt 64 (a:Int)&&&BitVec.ofInt 64 (b:Int)).toNat=a&&&b;rw [BitVec.toNat_and,lb a d,lb b c]
 have h2:a&&&b≤a:=Nat.and_le_left;simp only [de,dL,jq,if_true,this];rw [aj ⟨by omega,by omega⟩]
theorem OA {a b:Nat} (d:a<2^62) (c:b<2^62):de .or (.int .i64 a) (.int .i64 b)=some (.int .i64 ((a|||b:Nat):Int)):=by
 have:(BitVec.ofInt IntKind.i64.bits (a:Int)|||BitVec.ofInt IntKind.i64.bits (b:Int)).toNat=a|||b:=by
  show(BitVec.ofInt 64 (a:Int)|||BitVec.ofInt 64 (b:Int)).toNat=a|||b;rw [BitVec.toNat_or,lb a d,lb b c]
 have h2:a|||b<2^62:=Nat.or_lt_two_pow d c;simp only [de,dL,jq,if_true,this];rw [aj ⟨by omega,by omega⟩]
theorem J4 {a b:Nat} (d:a<2^62) (c:b<2^62):de .xor (.int .i64 a) (.int .i64 b)=some (.int .i64 ((a^^^b:Nat):Int)):=by
 have:(BitVec.ofInt IntKind.i64.bits (a:Int)^^^BitVec.ofInt IntKind.i64.bits (b:Int)).toNat=a^^^b:=by
  show(BitVec.ofInt 64 (a:Int)^^^BitVec.ofInt 64 (b:Int)).toNat=a^^^b;rw [BitVec.toNat_xor,lb a d,lb b c]
 have h2:a^^^b<2^62:=Nat.xor_lt_two_pow d c;simp only [de,dL,jq,if_true,this];rw [aj ⟨by omega,by omega⟩]
theorem J5 {x:Int} {w:Nat} (d:w≤62):de .and (.int .i64 x) (.int .i64 (2^w- 1))=some (.int .i64 (x%2^w)):=by
 have a:0<2^w:=Nat.two_pow_pos w;have b:2^w≤2^62:=Nat.pow_le_pow_right (by omega) d
 have g:((2:Int)^w- 1)=((2^w- 1:Nat):Int):=by
  rw [Int.natCast_sub a];simp
 have f:(BitVec.ofInt IntKind.i64.bits x&&&BitVec.ofInt IntKind.i64.bits ((2^w- 1:Nat):Int)).toNat=(BitVec.ofInt 64 x).toNat%2^w:=by
  show(BitVec.ofInt 64 x&&&BitVec.ofInt 64 ((2^w- 1:Nat):Int)).toNat=(BitVec.ofInt 64 x).toNat%2^w;rw [BitVec.toNat_and,lb _ (by omega),Nat.and_two_pow_sub_one_eq_mod]
 have e:(((BitVec.ofInt 64 x).toNat%2^w:Nat):Int)=x%2^w:=by
  rw [BitVec.toNat_ofInt,Int.natCast_emod,Int.toNat_of_nonneg (Int.emod_nonneg _ (by omega))];have c:((2^w:Nat):Int)∣((2^64:Nat):Int):=Int.natCast_dvd_natCast.2 (Nat.pow_dvd_pow 2 (by omega));rw [Int.emod_emod_of_dvd _ c];simp
 rw [g];simp only [de,dL,jq,if_true,f,e]
 have i:0≤x%2^w:=Int.emod_nonneg _ (by have:(0:Int)<2^w:=by exact_mod_cast a
                                       omega)
 have h2:x%(2:Int)^w<2^w:=Int.emod_lt_of_pos _ (by exact_mod_cast a);have h:(2:Int)^w≤2^62:=by exact_mod_cast b
 rw [aj ⟨by omega,by omega⟩]
theorem zC {a w:Nat} (b:w≤62) (f:a<2^w):de .andNot (.int .i64 (2^w- 1)) (.int .i64 a)=some (.int .i64 (2^w- 1- a)):=by
 have c:0<2^w:=Nat.two_pow_pos w;have d:2^w≤2^62:=Nat.pow_le_pow_right (by omega) b
 have j:((2:Int)^w- 1)=((2^w- 1:Nat):Int):=by
  rw [Int.natCast_sub c];simp
 rw [j]
 have g:(BitVec.ofInt IntKind.i64.bits ((2^w- 1:Nat):Int)&&&~~~BitVec.ofInt IntKind.i64.bits (a:Int)).toNat=2^w- 1- a:=by
  show(BitVec.ofInt 64 ((2^w- 1:Nat):Int)&&&~~~BitVec.ofInt 64 (a:Int)).toNat=2^w- 1- a;rw [BitVec.toNat_and,BitVec.toNat_not,lb _ (by omega),lb a (by omega)];have e:2^64- 1- a=2^64- (a+1):=by omega
  rw [e];apply Nat.eq_of_testBit_eq;intro i;rw [Nat.testBit_and,Nat.testBit_two_pow_sub_one,Nat.testBit_two_pow_sub_succ (by omega),show 2^w- 1- a=2^w- (a+1) by omega,Nat.testBit_two_pow_sub_succ f];by_cases h:i<w
  ·simp [h,show i<64 by omega]
  ·simp [h]
 simp only [de,dL,jq,if_true,g];rw [aj ⟨by omega,by omega⟩,Int.natCast_sub (by omega)]
def hZ (op w a b:Int):Int:=
 if op=2 then(a+b)%2^w.toNat else if op=3 then(a+2^w.toNat- b)%2^w.toNat else if op=4 then a*b%2^w.toNat
 else if op=5 then(if b=0 then 2^w.toNat- 1 else a/b)else if op=6 then(if b=0 then a else a%b)
 else if op=7 then((a.toNat&&&b.toNat:Nat):Int)else if op=8 then((a.toNat|||b.toNat:Nat):Int)else if op=9 then((a.toNat^^^b.toNat:Nat):Int)
 else if op=10 then(if w≤b then 0 else a*2^b.toNat%2^w.toNat)else if op=11 then(if w≤b then 0 else a/2^b.toNat)
 else if op=13 then(if a=b then 1 else 0)else(if a<b then 1 else 0)
def nw (op x y:Int):Int:=if op=7 then x*y else if op=8 then x+y- x*y else(x+y)%2
def oO (op a b:Int):Nat→Int
 |0=>0
 |k+1=>oO op a b k+nw op (a/2^k%2) (b/2^k%2)*2^k
theorem xw (a k:Nat):((a:Int)/2^k%2)=((a.testBit k).toNat:Int):=by
 rw [Nat.testBit_eq_decide_div_mod_eq];have e:((a:Int)/2^k%2)=((a/2^k%2:Nat):Int):=by simp
 rw [e];have:a/2^k%2<2:=Nat.mod_lt _ (by omega);by_cases h:a/2^k%2=1
 ·simp [h]
 ·have:a/2^k%2=0:=by omega
  simp [this]
theorem mL (op:Int) (f:Bool→Bool→Bool) (g:Nat→Nat→Nat) (c:∀a b i,(g a b).testBit i=f (a.testBit i) (b.testBit i)) (d:∀x y:Bool,nw op (x.toNat:Int) (y.toNat:Int)=((f x y).toNat:Int)) (a b:Nat):
 ∀k,oO op a b k=((g a b%2^k:Nat):Int)
 |0=>by simp [oO,Nat.mod_one]
 |k+1=>by
  rw [oO,mL op f g c d a b k,xw,xw,d,←c,Nat.mod_pow_succ,Nat.toNat_testBit]
  push_cast
  rw [Int.mul_comm]
theorem FT {op w:Int} {a b:Nat} (f:1≤w∧w≤8) (c:a<2^w.toNat) (d:b<2^w.toNat) (e:op=7∨op=8∨op=9):oO op a b w.toNat=hZ op w a b:=by
 rcases e with rfl|rfl|rfl
 ·rw [mL 7 (fun x y=>x&&y) (fun a b=>a&&&b) (fun a b i=>Nat.testBit_and a b i) (by intro x y;cases x<;>cases y<;>rfl)]
  rw [Nat.mod_eq_of_lt (Nat.lt_of_le_of_lt Nat.and_le_left c)];simp [hZ]
 ·rw [mL 8 (fun x y=>x||y) (fun a b=>a|||b) (fun a b i=>Nat.testBit_or a b i) (by intro x y;cases x<;>cases y<;>rfl)]
  rw [Nat.mod_eq_of_lt (Nat.or_lt_two_pow c d)];simp [hZ]
 ·rw [mL 9 (fun x y=>x^^y) (fun a b=>a^^^b) (fun a b i=>Nat.testBit_xor a b i) (by intro x y;cases x<;>cases y<;>rfl)]
  rw [Nat.mod_eq_of_lt (Nat.xor_lt_two_pow c d)];simp [hZ]
theorem iV {w:Int} (a:1≤w∧w≤8):2≤(2:Int)^w.toNat∧(2:Int)^w.toNat≤256:=by
 obtain ⟨n,rfl⟩:∃n:Nat,w=n:=⟨w.toNat,by omega⟩
 have:n=1∨n=2∨n=3∨n=4∨n=5∨n=6∨n=7∨n=8:=by omega
 rcases this with rfl|rfl|rfl|rfl|rfl|rfl|rfl|rfl<;>exact ⟨by decide,by decide⟩
theorem sA {a b M:Int} (d:0≤a∧a<M) (c:0≤b∧b<M):0≤a*b∧a*b≤M*M:=by
 refine ⟨Int.mul_nonneg d.1 c.1,Int.mul_le_mul (by omega) (by omega) c.1 (by omega)⟩
theorem xy {op w a b:Int} (z:1≤w∧w≤8) (k:0≤a∧a<2^w.toNat) (v:0≤b∧b<2^w.toNat):0≤hZ op w a b∧hZ op w a b<2^w.toNat:=by
 have A:=iV z
 have r:∀x:Int,0≤x%2^w.toNat∧x%2^w.toNat<2^w.toNat:=fun x=>⟨Int.emod_nonneg _ (by omega),Int.emod_lt_of_pos _ (by omega)⟩
 have o:(2:Int)^w.toNat=((2^w.toNat:Nat):Int):=by simp
 have t:a.toNat<2^w.toNat:=by have:=k.2;rw [o]at this;omega
 have y:b.toNat<2^w.toNat:=by have:=v.2;rw [o]at this;omega
 have B:b=0∨¬ b=0:=by omega
 have p:∀c:Prop,∀_:Decidable c,0≤(if c then(1:Int)else 0)∧(if c then(1:Int)else 0)<2^w.toNat:=fun c _=>by
  by_cases h:c
  ·rw [if_pos h];omega
  ·rw [if_neg h];omega
 by_cases d:op=2
 ·rw [hZ,if_pos d];exact r _
 by_cases e:op=3
 ·rw [hZ,if_neg d,if_pos e];exact r _
 by_cases g:op=4
 ·rw [hZ,if_neg d,if_neg e,if_pos g];exact r _
 by_cases i:op=5
 ·rw [hZ,if_neg d,if_neg e,if_neg g,if_pos i]
  by_cases f:b=0
  ·rw [if_pos f];omega
  ·rw [if_neg f];exact ⟨Int.ediv_nonneg k.1 v.1,Int.lt_of_le_of_lt (Int.ediv_le_self _ k.1) k.2⟩
 by_cases j:op=6
 ·rw [hZ,if_neg d,if_neg e,if_neg g,if_neg i,if_pos j]
  by_cases f:b=0
  ·rw [if_pos f];exact k
  ·rw [if_neg f];exact ⟨Int.emod_nonneg _ (by omega),Int.lt_of_lt_of_le (Int.emod_lt_of_pos _ (by omega)) (by omega)⟩
 by_cases l:op=7
 ·rw [hZ,if_neg d,if_neg e,if_neg g,if_neg i,if_neg j,if_pos l,o];exact ⟨by omega,Int.ofNat_lt.2 (Nat.lt_of_le_of_lt Nat.and_le_left t)⟩
 by_cases m:op=8
 ·rw [hZ,if_neg d,if_neg e,if_neg g,if_neg i,if_neg j,if_neg l,if_pos m,o];exact ⟨by omega,Int.ofNat_lt.2 (Nat.or_lt_two_pow t y)⟩
 by_cases n:op=9
 ·rw [hZ,if_neg d,if_neg e,if_neg g,if_neg i,if_neg j,if_neg l,if_neg m,if_pos n,o];exact ⟨by omega,Int.ofNat_lt.2 (Nat.xor_lt_two_pow t y)⟩
 by_cases q:op=10
 ·rw [hZ,if_neg d,if_neg e,if_neg g,if_neg i,if_neg j,if_neg l,if_neg m,if_neg n,if_pos q]
  by_cases f:w≤b
  ·rw [if_pos f];omega
  ·rw [if_neg f];exact r _
 by_cases s:op=11
 ·rw [hZ,if_neg d,if_neg e,if_neg g,if_neg i,if_neg j,if_neg l,if_neg m,if_neg n,if_neg q,if_pos s]
  by_cases f:w≤b
  ·rw [if_pos f];omega
  ·rw [if_neg f]
   have:(0:Int)≤2^b.toNat:=by have:=two_pow_pos b.toNat;omega
   exact ⟨Int.ediv_nonneg k.1 this,Int.lt_of_le_of_lt (Int.ediv_le_self _ k.1) k.2⟩
 by_cases u:op=13
 ·rw [hZ,if_neg d,if_neg e,if_neg g,if_neg i,if_neg j,if_neg l,if_neg m,if_neg n,if_neg q,if_neg s,if_pos u];exact p _ _
 ·rw [hZ,if_neg d,if_neg e,if_neg g,if_neg i,if_neg j,if_neg l,if_neg m,if_neg n,if_neg q,if_neg s,if_neg u];exact p _ _
set_option maxRecDepth 10000
open Go
theorem ic {n:Int} (a:0≤n∧n≤60) (H:AH):Ca E O 106 [.int .i64 n] H (fun x H'=>x= .int .i64 (2^n.toNat)∧H'=H):=by
 have:=E4 n.toNat (by omega) H;rwa [show((n.toNat:Nat):Int)=n by omega]at this
theorem Be {w:Int} (a:1≤w∧w≤8) (H:AH):Ca E O 105 [.int .i64 w] H (fun x H'=>x= .int .i64 (2^w.toNat- 1)∧H'=H):=by
 refine Ca.aJ (F:=IY) rfl rfl rfl ?_;have b:=iV a;simp (maxSteps:=9^7)-implicitDefEqProofs+contextual [-X.ev,IY];apply ah
 ·(simp-implicitDefEqProofs [-X.ev];rfl)
 refine (ic (by omega) H).mono ?_;rintro x H' ⟨rfl,rfl⟩;simp (maxSteps:=9^7)-implicitDefEqProofs+contextual [-X.ev,aj (n:=2^w.toNat- 1) ⟨by omega,by omega⟩]
theorem OB {a i:Int} (b:0≤a∧a≤2^40) (hi:0≤i∧i≤60) (H:AH):Ca E O 122 [.int .i64 a,.int .i64 i] H (fun x H'=>x= .int .i64 (a/2^i.toNat%2)∧H'=H):=by
 refine Ca.aJ (F:=Jb) rfl rfl rfl ?_;have d:=two_pow_pos i.toNat;have c:0≤a/2^i.toNat:=Int.ediv_nonneg b.1 (by omega);simp (maxSteps:=9^7)-implicitDefEqProofs+contextual [-X.ev,Jb];apply ah
 ·(simp-implicitDefEqProofs [-X.ev];rfl)
 refine (ic hi H).mono ?_;rintro x H' ⟨rfl,rfl⟩;simp (maxSteps:=9^7)-implicitDefEqProofs+contextual [-X.ev,sy b.1 (by omega) (show(0:Int)<2^i.toNat by omega),gG c]
theorem Bf {a:Int} {i:Nat} (b:0≤a∧a≤2^40) (hi:i≤60) (H:AH):Ca E O 122 [.int .i64 a,.int .i64 i] H (fun x H'=>x= .int .i64 (a/2^i%2)∧H'=H):=by
 have:=OB (i:=i) b (by omega) H;rwa [Int.toNat_natCast]at this
theorem J6 {op x y:Int} (e:0≤x∧x≤1) (d:0≤y∧y≤1) (H:AH):Ca E O 121 [.int .i64 op,.int .i64 x,.int .i64 y] H (fun v H'=>v= .int .i64 (nw op x y)∧H'=H):=by
 refine Ca.aJ (F:=Ja) rfl rfl rfl ?_;obtain ⟨g,f⟩:=sA (M:=2) ⟨e.1,by omega⟩ ⟨d.1,by omega⟩;have c:IntKind.i64.wrap (x*y)=x*y:=aj ⟨by omega,by omega⟩;have b:IntKind.i64.wrap (x+y)=x+y:=aj ⟨by omega,by omega⟩;have a:IntKind.i64.wrap (x+y- x*y)=x+y- x*y:=aj ⟨by omega,by omega⟩;simp (maxSteps:=9^7)-implicitDefEqProofs+contextual [-X.ev,Ja,c,b,a,gG (show 0≤x+y by omega),nw]
theorem CS {op x y:Int} (d:0≤x∧x≤1) (c:0≤y∧y≤1):0≤nw op x y∧nw op x y≤1:=by
 have b:x=0∨x=1:=by omega
 have a:y=0∨y=1:=by omega
 unfold nw;rcases b with rfl|rfl<;>rcases a with rfl|rfl<;>(repeat' split)<;>simp
def zD (l:List Int):Nat→Int
 |0=>0
 |k+1=>zD l k+(l[k]?).getD 0*2^k
theorem zE {l:List Int} (h:∀x∈l,0≤x∧x≤1):∀k,0≤zD l k∧zD l k<2^k
 |0=>by simp [zD]
 |k+1=>by
  have ih:=zE h k;have b:=two_pow_pos k;rw [zD,Int.pow_succ]
  cases e:l[k]? with
  |none=>simp;omega
  |some x=>
   have:=h x (apL e);have a:x=0∨x=1:=by omega
   rcases a with rfl|rfl<;>simp<;>omega
theorem OC {v:Value} {l:List Int} {H:AH} (s:ep H v l) (M:l.length≤8) (j:∀x∈l,0≤x∧x≤1):Ca E O 123 [v] H (fun x H'=>x= .int .i64 (zD l l.length)∧H'=H):=by
 refine Ca.aJ (F:=Jc) rfl rfl rfl ?_;obtain ⟨a,c,z⟩:=s.len;simp (maxSteps:=9^7)-implicitDefEqProofs+contextual [-X.ev,Jc];refine bZ (fun k f H'=>H'=H∧∃i:Nat,i+k=l.length∧f.get 0=v∧f.get 3= .int .i64 (zD l i)∧f.get 4= .int .i64 i) ?_ l.length ⟨rfl,0,by simp,by simp,by simp [zD],by simp⟩;rintro k f H' ⟨rfl,i,hi,d,p,m⟩;by_cases h:i<l.length
 ·obtain ⟨n,g⟩:∃n,l[i]?=some n:=⟨_,apG h⟩
  obtain ⟨b,o,N,q,r⟩:=s.at g;have B:=aV.1 r;rw [q]at d;have K:=j n (apL g);have J:=zE j i;have I:=zE j (i+1);have G:=two_pow_pos i;have D:=r9 (n:=i+1) (by omega);have C:(2:Int)^(i+1)=2^i*2:=Int.pow_succ _ _;have e:zD l (i+1)=zD l i+n*2^i:=by rw [zD,g];rfl
  simp (maxSteps:=9^7)-implicitDefEqProofs+contextual [-X.ev,d,p,m,h,r];have A:=ic (n:=i) (by omega) H';apply ah
  ·(simp-implicitDefEqProofs [-X.ev];rfl)
  refine (A).mono ?_;rintro x H' ⟨rfl,rfl⟩
  have L:0≤n*2^i∧n*2^i≤2^i:=by
   have y:n=0∨n=1:=by omega
   rcases y with rfl|rfl<;>simp<;>omega
  have w:IntKind.i64.wrap (n*2^i)=n*2^i:=aj ⟨by omega,by omega⟩;have u:IntKind.i64.wrap (zD l i+n*2^i)=zD l i+n*2^i:=aj ⟨by omega,by omega⟩;have t:IntKind.i64.wrap ((i:Int)+1)=i+1:=aj ⟨by omega,by omega⟩;simp (maxSteps:=9^7)-implicitDefEqProofs+contextual [-X.ev,d,p,m,w,u,t,aN,aD,aE,B];exact ⟨k- 1,by omega,i+1,by omega,q.symm,e.symm,by simp⟩
 ·rw [z]at d
  simp (maxSteps:=9^7)-implicitDefEqProofs+contextual [-X.ev,d,p,m,h];rw [show i=l.length by omega]
theorem L5 (a:Int) (k:Nat):0≤a/2^k%2∧a/2^k%2≤1:=by
 have:=Int.emod_nonneg (a/2^k) (show(2:Int)≠0 by omega);have:=Int.emod_lt_of_pos (a/2^k) (show(0:Int)<2 by omega);omega
theorem vw {op w a b:Int} {H:AH} (S:H.n0≤H.nx) (eh:1≤w∧w≤8) (Y:0≤a∧a≤2^40) (V:0≤b∧b≤2^40):Ca E O 107 [.int .i64 op,.int .i64 w,.int .i64 a,.int .i64 b] H (fun x H'=>x= .int .i64 (oO op a b w.toNat)∧Ext H H'):=by
 refine Ca.aJ (F:=I1) rfl rfl rfl ?_;simp (maxSteps:=9^7)-implicitDefEqProofs+contextual [-X.ev,I1]
 have A:∀(l:List Int) (k:Nat),(∀j,j<k→l[j]?=some (nw op (a/2^j%2) (b/2^j%2)))→zD l k=oO op a b k:=by
  intro l k
  induction k with
  |zero=>intro _;rfl
  |succ k ih=>intro h;rw [zD,oO,ih fun j C=>h j (by omega),h k (by omega)];rfl
 refine bZ (fun k c H'=>Ext H H'∧∃(i:Nat) (s:Value) (l:List Int),i+k=w.toNat∧c.get 0= .int .i64 op∧c.get 1= .int .i64 w∧c.get 2= .int .i64 a∧c.get 3= .int .i64 b∧c.get 9=s∧c.get 10= .int .i64 i∧da H' 1 s (bC l)∧(∀z,aU s z→H.nx≤z)∧l.length=i∧(∀x∈l,0≤x∧x≤1)∧∀j,j<i→l[j]?=some (nw op (a/2^j%2) (b/2^j%2))) ?_ w.toNat ⟨Ext.refl _,0,.slice none 0 0,[],by simp,by simp,by simp,by simp,by simp,by simp,by simp,da.nil _ _,fun z y=>absurd y (dv _ _ _),rfl,by simp,by simp⟩;rintro k c H' ⟨u,i,s,l,hi,t,q,p,o,n,f10,G,U,B,f,C⟩;have R:=u.wf S;by_cases h:(i:Int)<w
 ·simp (maxSteps:=9^7)-implicitDefEqProofs+contextual [-X.ev,t,q,p,o,n,f10,h]
  apply ah
  ·(simp-implicitDefEqProofs [-X.ev];rfl)
  refine (Bf (i:=i) Y (by omega) H').mono ?_;rintro x H' ⟨rfl,rfl⟩;simp (maxSteps:=9^7)-implicitDefEqProofs+contextual [-X.ev,t,q,p,o,n,f10,h];apply ah
  ·(simp-implicitDefEqProofs [-X.ev];rfl)
  refine (Bf (i:=i) V (by omega) H').mono ?_;rintro x H' ⟨rfl,rfl⟩;have M:=L5 a i;have L:=L5 b i;simp (maxSteps:=9^7)-implicitDefEqProofs+contextual [-X.ev,t,q,p,o,n,f10,h];apply ah
  ·(simp-implicitDefEqProofs [-X.ev];rfl)
  refine (J6 M L H').mono ?_;rintro x H' ⟨rfl,rfl⟩
  obtain ⟨g,I⟩:∃g,nw op (a/2^i%2) (b/2^i%2)=g:=⟨_,rfl⟩
  have m:=CS (op:=op) M L;rw [I]at m⊢;have J:=mZ (sz:=1) (z:=[.int .i64 0]) (H:=H') (v:=.int .i64 g) rfl rfl rfl
  obtain ⟨H2,K⟩:∃H2,H'.alloc (.cells 1 [.int .i64 g])=H2:=⟨_,rfl⟩
  obtain ⟨s',H3,W,P,Z,Q,n3,x3,w3⟩:=gF (bytes:=8) R G (r:=[.int .i64 g]) rfl K (by simp [bC];omega) (by simp [bC];omega);have N:IntKind.i64.wrap ((i:Int)+1)=i+1:=aj ⟨by omega,by omega⟩;simp only [nM,K]at J;simp (maxSteps:=9^7)-implicitDefEqProofs+contextual [-X.ev,t,q,p,o,n,f10,h,J,W,N];refine ⟨k- 1,by omega,u.mod Z U,i+1,by omega,by simp,l++[g],by simpa [bC]using P,fun z y=>ap2 u.nx (Q z y),by simp [B],fun x d=>?_,fun j T=>?_⟩
  ·rcases ap0.1 d with d|d
   ·exact f x d
   ·simp at d;subst d;exact m
  ·by_cases e:j=i
   ·subst e;rw [apX (by omega)];simp [B,I]
   ·rw [apT (by omega)];exact C j (by omega)
 ·have D:i=w.toNat:=by omega
  simp (maxSteps:=9^7)-implicitDefEqProofs+contextual [-X.ev,t,q,p,o,n,f10,h];apply ah
  ·(simp-implicitDefEqProofs [-X.ev];rfl)
  refine (OC G.ints (by omega) f).mono ?_;rintro x H' ⟨rfl,rfl⟩;rw [B,A l i C,D];simp (maxSteps:=9^7)-implicitDefEqProofs+contextual [-X.ev,u]
theorem J7 {w a:Int} (b:1≤w∧w≤8) (d:0≤a∧a<2^w.toNat) (H:AH):Ca E O 84 [.int .i64 w,.int .i64 a] H (fun x H'=>x= .int .i64 (2^w.toNat- 1- a)∧H'=H):=by
 refine Ca.aJ (F:=XC) rfl rfl rfl ?_;have c:=iV b;simp (maxSteps:=9^7)-implicitDefEqProofs+contextual [-X.ev,XC];apply ah
 ·(simp-implicitDefEqProofs [-X.ev];rfl)
 refine (Be b H).mono ?_;rintro x H' ⟨rfl,rfl⟩;simp (maxSteps:=9^7)-implicitDefEqProofs+contextual [-X.ev,aj (n:=2^w.toNat- 1- a) ⟨by omega,by omega⟩]
end
section
open Go
theorem sB {a w:Int} (b:0≤a∧a<2^w.toNat):a.toNat<2^w.toNat:=by
 have h:((2^w.toNat:Nat):Int)=2^w.toNat:=by simp
 have:=b.2;omega
theorem pY {op w a b:Int} (c:1≤w∧w≤8) (f:0≤a∧a<2^w.toNat) (e:0≤b∧b<2^w.toNat) (d:op=7∨op=8∨op=9):oO op a b w.toNat=hZ op w a b:=by
 have:=FT (op:=op) c (sB f) (sB e) d;rwa [show((a.toNat:Nat):Int)=a by omega,show((b.toNat:Nat):Int)=b by omega]at this
theorem OE {op w a b:Int} {H:AH} (y:H.n0≤H.nx) (e:1≤w∧w≤8) (f:0≤a∧a<2^w.toNat) (k:0≤b∧b<2^w.toNat):Ca E O 85 [.int .i64 op,.int .i64 w,.int .i64 a,.int .i64 b] H (fun x H'=>x= .int .i64 (hZ op w a b)∧Ext H H'):=by
 refine Ca.aJ (F:=uZ) rfl rfl rfl ?_;have z:=iV e;obtain ⟨D,L⟩:=sA f k;have K:(2:Int)^w.toNat*2^w.toNat≤256*256:=Int.mul_le_mul z.2 z.2 (by omega) (by omega);have j:¬ (2:Int)^w.toNat=0:=by omega
 have d:=Ext.refl H;have h:0≤w∧w≤60:=by omega
 by_cases s:op=2
 ·subst s
  have g:IntKind.i64.wrap (a+b)=a+b:=aj ⟨by omega,by omega⟩;simp (maxSteps:=9^7)-implicitDefEqProofs+contextual [-X.ev,uZ,g];apply ah
  ·(simp-implicitDefEqProofs [-X.ev];rfl)
  refine (ic h H).mono ?_;rintro x H ⟨rfl,rfl⟩;simp (maxSteps:=9^7)-implicitDefEqProofs+contextual [-X.ev,gG (show 0≤a+b by omega),j,hZ,d]
 by_cases r:op=3
 ·subst r
  have g:IntKind.i64.wrap (a+2^w.toNat)=a+2^w.toNat:=aj ⟨by omega,by omega⟩;have B:IntKind.i64.wrap (a+2^w.toNat- b)=a+2^w.toNat- b:=aj ⟨by omega,by omega⟩;simp (maxSteps:=9^7)-implicitDefEqProofs+contextual [-X.ev,uZ];apply ah
  ·(simp-implicitDefEqProofs [-X.ev];rfl)
  refine (ic h H).mono ?_;rintro x H ⟨rfl,rfl⟩;simp (maxSteps:=9^7)-implicitDefEqProofs+contextual [-X.ev,g,B];apply ah
  ·(simp-implicitDefEqProofs [-X.ev];rfl)
  refine (ic h H).mono ?_;rintro x H ⟨rfl,rfl⟩;simp (maxSteps:=9^7)-implicitDefEqProofs+contextual [-X.ev,gG (show 0≤a+2^w.toNat- b by omega),j,hZ,d]
 by_cases q:op=4
 ·subst q
  have g:IntKind.i64.wrap (a*b)=a*b:=aj ⟨by omega,by omega⟩;simp (maxSteps:=9^7)-implicitDefEqProofs+contextual [-X.ev,uZ,g];apply ah
  ·(simp-implicitDefEqProofs [-X.ev];rfl)
  refine (ic h H).mono ?_;rintro x H ⟨rfl,rfl⟩;simp (maxSteps:=9^7)-implicitDefEqProofs+contextual [-X.ev,gG D,j,hZ,d]
 by_cases p:op=5
 ·subst p
  by_cases c:b=0
  ·subst c
   simp (maxSteps:=9^7)-implicitDefEqProofs+contextual [-X.ev,uZ];apply ah
   ·(simp-implicitDefEqProofs [-X.ev];rfl)
   refine (Be e H).mono ?_;rintro x H ⟨rfl,rfl⟩;simp (maxSteps:=9^7)-implicitDefEqProofs+contextual [-X.ev,hZ,d]
  ·simp (maxSteps:=9^7)-implicitDefEqProofs+contextual [-X.ev,uZ,c,sy f.1 (by omega) (show 0<b by omega),hZ,d]
 by_cases o:op=6
 ·subst o
  by_cases c:b=0
  ·subst c
   simp (maxSteps:=9^7)-implicitDefEqProofs+contextual [-X.ev,uZ,hZ,d]
  ·simp (maxSteps:=9^7)-implicitDefEqProofs+contextual [-X.ev,uZ,c,gG f.1,hZ,d]
 by_cases n:op=7
 ·subst n
  simp (maxSteps:=9^7)-implicitDefEqProofs+contextual [-X.ev,uZ];apply ah
  ·(simp-implicitDefEqProofs [-X.ev];rfl)
  refine (vw y e (by omega) (by omega)).mono ?_;rintro x A ⟨rfl,i⟩;rw [pY e f k (by omega)];simp (maxSteps:=9^7)-implicitDefEqProofs+contextual [-X.ev,i]
 by_cases m:op=8
 ·subst m
  simp (maxSteps:=9^7)-implicitDefEqProofs+contextual [-X.ev,uZ];apply ah
  ·(simp-implicitDefEqProofs [-X.ev];rfl)
  refine (vw y e (by omega) (by omega)).mono ?_;rintro x A ⟨rfl,i⟩;rw [pY e f k (by omega)];simp (maxSteps:=9^7)-implicitDefEqProofs+contextual [-X.ev,i]
 by_cases l:op=9
 ·subst l
  simp (maxSteps:=9^7)-implicitDefEqProofs+contextual [-X.ev,uZ];apply ah
  ·(simp-implicitDefEqProofs [-X.ev];rfl)
  refine (vw y e (by omega) (by omega)).mono ?_;rintro x A ⟨rfl,i⟩;rw [pY e f k (by omega)];simp (maxSteps:=9^7)-implicitDefEqProofs+contextual [-X.ev,i]
 by_cases v:op=10
 ·subst v
  by_cases c:w≤b
  ·simp (maxSteps:=9^7)-implicitDefEqProofs+contextual [-X.ev,uZ,c,hZ,d]
  have G:=iV (w:=w) e
  have N:(2:Int)^b.toNat≤256:=by
   have:(2:Nat)^b.toNat≤2^8:=Nat.pow_le_pow_right (by omega) (by omega);have h2:((2^b.toNat:Nat):Int)≤((2^8:Nat):Int):=Int.ofNat_le.2 this
   simpa using h2
  have I:=two_pow_pos b.toNat;obtain ⟨C,J⟩:=sA (M:=257) ⟨f.1,by omega⟩ (b:=2^b.toNat) ⟨by omega,by omega⟩;have g:IntKind.i64.wrap (a*2^b.toNat)=a*2^b.toNat:=aj ⟨by omega,by omega⟩;simp (maxSteps:=9^7)-implicitDefEqProofs+contextual [-X.ev,uZ,c];apply ah
  ·(simp-implicitDefEqProofs [-X.ev];rfl)
  refine (ic (by omega) H).mono ?_;rintro x H ⟨rfl,rfl⟩;simp (maxSteps:=9^7)-implicitDefEqProofs+contextual [-X.ev,g];apply ah
  ·(simp-implicitDefEqProofs [-X.ev];rfl)
  refine (ic h H).mono ?_;rintro x H ⟨rfl,rfl⟩;simp (maxSteps:=9^7)-implicitDefEqProofs+contextual [-X.ev,gG C,j,hZ,c,d]
 by_cases u:op=11
 ·subst u
  by_cases c:w≤b
  ·simp (maxSteps:=9^7)-implicitDefEqProofs+contextual [-X.ev,uZ,c,hZ,d]
  have I:=two_pow_pos b.toNat;simp (maxSteps:=9^7)-implicitDefEqProofs+contextual [-X.ev,uZ,c];apply ah
  ·(simp-implicitDefEqProofs [-X.ev];rfl)
  refine (ic (by omega) H).mono ?_;rintro x H ⟨rfl,rfl⟩;simp (maxSteps:=9^7)-implicitDefEqProofs+contextual [-X.ev,sy f.1 (by omega) (show 0<(2:Int)^b.toNat by omega),hZ,c,d]
 by_cases t:op=13
 ·subst t
  simp (maxSteps:=9^7)-implicitDefEqProofs+contextual [-X.ev,uZ];apply ah
  ·(simp-implicitDefEqProofs [-X.ev];rfl)
  refine (u7 (decide (a=b)) H).mono ?_;rintro x H ⟨rfl,rfl⟩;simp (maxSteps:=9^7)-implicitDefEqProofs+contextual [-X.ev,hZ,d]
 simp (maxSteps:=9^7)-implicitDefEqProofs+contextual [-X.ev,uZ,s,r,q,p,o,n,m,l,v,u,t];apply ah
 ·(simp-implicitDefEqProofs [-X.ev];rfl)
 refine (u7 (decide (a<b)) H).mono ?_;rintro x H ⟨rfl,rfl⟩;simp (maxSteps:=9^7)-implicitDefEqProofs+contextual [-X.ev,hZ,s,r,q,p,o,n,m,l,v,u,t,d]
theorem FV {v:Value} {l:List Int} {H:AH} (I:H.n0≤H.nx) (q:ep H v l) (S:l.length≤2^40):Ca E O 9 [v] H (fun x H'=>da H' 1 x (bC l)∧Ext H H'∧∀b,aU x b→H.nx≤b):=by
 refine Ca.aJ (F:=a9) rfl rfl rfl ?_;obtain ⟨a,c,J⟩:=q.len;simp (maxSteps:=9^7)-implicitDefEqProofs+contextual [-X.ev,a9];refine bZ (fun k e H'=>Ext H H'∧∃(i:Nat) (s:Value),i+k=l.length∧e.get 0=v∧e.get 3=s∧e.get 4= .int .i64 i∧da H' 1 s (bC (l.take i))∧(∀z,aU s z→H.nx≤z)) ?_ l.length ⟨Ext.refl _,0,.slice none 0 0,by simp,by simp,by simp,by simp,by simpa [bC]using da.nil H 1,fun z j=>absurd j (dv _ _ _)⟩;rintro k e H' ⟨d,i,s,hi,f,A,y,g,t⟩;have G:=d.wf I;by_cases h:i<l.length
 ·obtain ⟨n,p⟩:∃n,l[i]?=some n:=⟨_,apG h⟩
  obtain ⟨b,o,T,m,K⟩:=(ep.ext d q).at p;rw [m]at f;have u:=mZ (sz:=1) (z:=[.int .i64 0]) (H:=H') (v:=.int .i64 n) rfl rfl rfl
  obtain ⟨H2,w⟩:∃H2,H'.alloc (.cells 1 [.int .i64 n])=H2:=⟨_,rfl⟩
  obtain ⟨Q,U,L,C,M,D,R,N,P⟩:=gF (bytes:=8) G g (r:=[.int .i64 n]) rfl w (by simp [bC];omega) (by simp [bC];omega);have B:IntKind.i64.wrap ((i:Int)+1)=i+1:=aj ⟨by omega,by omega⟩;simp only [nM,w]at u;simp (maxSteps:=9^7)-implicitDefEqProofs+contextual [-X.ev,f,A,y,h,K,u,L,B];refine ⟨k- 1,by omega,d.mod M t,i+1,by omega,m.symm,by simp,?_,fun z j=>ap2 d.nx (D z j)⟩;rw [ap1,p]
  simpa [bC]using C
 ·rw [J]at f
  rw [apN (by omega)]at g;simp (maxSteps:=9^7)-implicitDefEqProofs+contextual [-X.ev,f,A,y,h,g,d];exact t
theorem sD {v u:Value} {l m:List Int} {H:AH} (I:ep H v l) (C:ep H u m) (P:l.length≤2^60):Ca E O 50 [v,u] H (fun x H'=>x= .bool (decide (l=m))∧H'=H):=by
 refine Ca.aJ (F:=Tu) rfl rfl rfl ?_;obtain ⟨M,R,f⟩:=I.len;obtain ⟨L,Q,s⟩:=C.len
 obtain ⟨F,g⟩:∃F,decide (l=m)=F:=⟨_,rfl⟩
 rw [g];by_cases q:(l.length:Int)=m.length
 case neg=>
  have t:F=false:=by rw [←g,decide_eq_false_iff_not];rintro rfl;exact q rfl
  have c:¬ l.length=m.length:=by omega
  simp (maxSteps:=9^7)-implicitDefEqProofs+contextual [-X.ev,Tu,f,s,q,c,t]
 have c:l.length=m.length:=by omega
 simp (maxSteps:=9^7)-implicitDefEqProofs+contextual [-X.ev,Tu,f,s,q,c];refine bZ (fun k j H'=>H'=H∧∃i:Nat,i+k=l.length∧j.get 0=v∧j.get 1=u∧j.get 5= .int .i64 i∧l.take i=m.take i) ?_ l.length ⟨rfl,0,by simp,by simp [f,c],by simp [s],by simp,by simp⟩;rintro k j H' ⟨rfl,i,hi,a,p,w,B⟩;by_cases h:i<l.length
 ·obtain ⟨x,r⟩:∃n,l[i]?=some n:=⟨_,apG h⟩
  obtain ⟨y,d⟩:∃n,m[i]?=some n:=⟨_,apG (by omega)⟩
  obtain ⟨b,o,S,z,G⟩:=I.at r;obtain ⟨T,N,K,A,D⟩:=C.at d;rw [z]at a;rw [A]at p;have h2:i<m.length:=by omega
  by_cases e:x=y
  ·subst e
   simp (maxSteps:=9^7)-implicitDefEqProofs+contextual [-X.ev,a,p,w,h,h2,G,D,aN,aD,aE];rw [aj (n:=(i:Int)+1) ⟨by omega,by omega⟩];refine ⟨k- 1,by omega,i+1,by omega,z.symm,A.symm,by simp,?_⟩;rw [ap1,ap1,r,d,B]
  ·have t:F=false:=by
    rw [←g,decide_eq_false_iff_not];rintro rfl;rw [r]at d;cases d;exact e rfl
   simp (maxSteps:=9^7)-implicitDefEqProofs+contextual [-X.ev,a,p,w,h,h2,G,D,aN,aD,aE,e,t]
 ·have J:F=true:=by
   rw [←g,decide_eq_true_iff];rwa [apN (by omega),apN (by omega)]at B
  rw [f]at a;simp (maxSteps:=9^7)-implicitDefEqProofs+contextual [-X.ev,a,p,w,h,J]
open Go
theorem acP {n:Int} (h:0≤n∧n<2^62):IntKind.u64.wrap n=n:=IntWalk.u64_in n ⟨by omega,by omega⟩
theorem vx {w:Int} (a:1≤w∧w≤8) (H:AH):Ca E O 133 [.int .i64 w] H (fun x H'=>x= .int .i64 (2^w.toNat- 1)∧H'=H):=by
 refine Ca.aJ (F:=Ji) rfl rfl rfl ?_;have b:=iV a;simp (maxSteps:=9^7)-implicitDefEqProofs+contextual [-X.ev,Ji,FF a,aj (n:=2^w.toNat- 1) ⟨by omega,by omega⟩]
theorem L7 {w:Int} {v:Value} {l:List Int} {H:AH} (B:ep H v l) (I:l.length<2^60):Ca E O 132 [.int .i64 w,v] H (fun x H'=>x= .bool (cg w&&l.all (isWord w))∧H'=H):=by
 refine Ca.aJ (F:=Cv) rfl rfl rfl ?_;obtain ⟨G,K,y⟩:=B.len
 obtain ⟨F,f⟩:∃F,(cg w&&l.all (isWord w))=F:=⟨_,rfl⟩
 rw [f];by_cases s:w<1
 ·have d:F=false:=by rw [←f];simp [cg];omega
  simp (maxSteps:=9^7)-implicitDefEqProofs+contextual [-X.ev,Cv,s,d]
 by_cases h2:8<w
 ·have d:F=false:=by rw [←f];simp [cg];omega
  simp (maxSteps:=9^7)-implicitDefEqProofs+contextual [-X.ev,Cv,s,h2,d]
 have e:1≤w∧w≤8:=by omega
 have C:cg w=true:=by simp [cg,e]
 simp (maxSteps:=9^7)-implicitDefEqProofs+contextual [-X.ev,Cv,s,h2,y];refine bZ (fun k g H'=>H'=H∧∃i:Nat,i+k=l.length∧g.get 0= .int .i64 w∧g.get 13=v∧g.get 14= .int .i64 l.length∧g.get 15= .int .i64 i∧∀a∈l.take i,isWord w a=true) ?_ l.length ⟨rfl,0,by simp,by simp,by simp [y],by simp,by simp,by simp⟩;rintro k g H' ⟨rfl,i,hi,j,f13,f14,f15,r⟩;by_cases h:i<l.length
 ·obtain ⟨n,q⟩:∃n,l[i]?=some n:=⟨_,apG h⟩
  obtain ⟨b,o,L,u,A⟩:=B.at q;rw [u]at f13
  have d:isWord w n=false→F=false:=fun z=>by
   rw [←f,Bool.and_eq_false_iff];right;rw [List.all_eq_false];exact ⟨n,apL q,by rw [z];simp⟩
  rw [kD e]at d;have J:=iV e;by_cases p:n<0
  ·simp (maxSteps:=9^7)-implicitDefEqProofs+contextual [-X.ev,j,f13,f14,f15,h,A,p,d]
  simp (maxSteps:=9^7)-implicitDefEqProofs+contextual [-X.ev,j,f13,f14,f15,h,A,p];apply ah
  ·(simp-implicitDefEqProofs [-X.ev];rfl)
  refine (vx e H').mono ?_;rintro x H' ⟨rfl,rfl⟩;by_cases t:2^w.toNat- 1<n
  ·have m:2^w.toNat≤n:=by omega
   simp (maxSteps:=9^7)-implicitDefEqProofs+contextual [-X.ev,j,f13,f14,f15,t,m,d]
  have m:¬ 2^w.toNat≤n:=by omega
  simp (maxSteps:=9^7)-implicitDefEqProofs+contextual [-X.ev,j,f13,f14,f15,h,t];rw [aj (n:=(i:Int)+1) ⟨by omega,by omega⟩];refine ⟨k- 1,by omega,i+1,by omega,u.symm,by simp,fun z c=>?_⟩;rw [ap1,q]at c;rcases ap0.1 c with c|c
  ·exact r z c
  ·simp at c;subst c;rw [kD e];simp [p,m]
 ·have D:F=true:=by
   rw [apN (by omega)]at r;rw [←f,C,Bool.true_and,apW];exact r
  simp (maxSteps:=9^7)-implicitDefEqProofs+contextual [-X.ev,j,f13,f14,f15,h,D]
theorem mM {w a:Int} (b:1≤w∧w≤8) (c:0≤a∧a<2^w.toNat):isWord w a=true:=by
 simp [isWord,cg,b,c]
theorem Uo {H:AH} (b:H.n0≤H.nx) (a:Int):ep (H.alloc (.cells 1 [.int .i64 a])) (.slice (some ⟨H.nx,0,none⟩) 1 1) [a]:=⟨_,_,rfl,fun i r hi=>⟨H.nx,0,rfl,by
 have:=bj b (z:=1) (c:=[.int .i64 a]) 1 rfl
 cases i with
 |zero=>simp at hi;subst hi;simpa using this
 |succ i=>simp at hi⟩⟩
theorem Up {H:AH} (c:H.n0≤H.nx) (a b:Int):ep (H.alloc (.cells 1 [.int .i64 a,.int .i64 b])) (.slice (some ⟨H.nx,0,none⟩) 2 2) [a,b]:=⟨_,_,rfl,fun i r hi=>⟨H.nx,0,rfl,by
 have d:=cx H (.cells 1 [.int .i64 a,.int .i64 b])
 match i,hi with
 |0,hi=>simp at hi;subst hi;exact bM d c (k:=0) (n:=1) (by simp)
 |1,hi=>simp at hi;subst hi;exact bM d c (k:=1) (n:=1) (by simp)
 |i+2,hi=>simp at hi⟩⟩
theorem J8 {w a:Int} {H:AH} (i:H.n0≤H.nx) (b:1≤w∧w≤8) (g:0≤a∧a<2^w.toNat):Ca E O 128 [.int .i64 w,.int .i64 a] H (fun x H'=>x= .tuple #[.int .i64 (2^w.toNat- 1- a),.int .i64 0]∧Ext H H'):=by
 refine Ca.aJ (F:=Jg) rfl rfl rfl ?_;have c:=mZ (sz:=1) (z:=[.int .i64 0]) (H:=H) (v:=.int .i64 a) rfl rfl rfl;have h:=Ext.alloc H (.cells 1 [.int .i64 a]);have f:=Uo i a;simp only [nM]at c;generalize H.alloc (.cells 1 [.int .i64 a])=d at c h f;simp (maxSteps:=9^7)-implicitDefEqProofs+contextual [-X.ev,Jg,c];apply ah
 ·(simp-implicitDefEqProofs [-X.ev];rfl)
 refine (L7 f (by simp)).mono ?_;rintro x d ⟨rfl,rfl⟩;have e:(cg w&&[a].all (isWord w))=true:=by simp [cg,b,mM b g]
 rw [e];simp (maxSteps:=9^7)-implicitDefEqProofs+contextual [-X.ev];apply ah
 ·(simp-implicitDefEqProofs [-X.ev];rfl)
 refine (vx b d).mono ?_;rintro x d ⟨rfl,rfl⟩
 have j:de .andNot (.int .i64 (2^w.toNat- 1)) (.int .i64 a)=some (.int .i64 (2^w.toNat- 1- a)):=by
  have:=zC (a:=a.toNat) (w:=w.toNat) (by omega) (sB g);rwa [show((a.toNat:Nat):Int)=a by omega]at this
 simp (maxSteps:=9^7)-implicitDefEqProofs+contextual [-X.ev,j,h]
theorem xA (b:Bool) (H:AH):Ca E O 149 [.bool b] H (fun x H'=>x= .int .i64 (if b=true then 1 else 0)∧H'=H):=by
 refine Ca.aJ (F:=Jt) rfl rfl rfl ?_;cases b<;>simp (maxSteps:=9^7)-implicitDefEqProofs+contextual [-X.ev,Jt]
theorem Uq {a b:Int} (c:0≤a∧a<256) (j:0≤b∧b<8):de .shl (.int .i64 a) (.int .u64 b)=some (.int .i64 (a*2^b.toNat)):=by
 have h:=two_pow_pos b.toNat
 have i:(2:Int)^b.toNat≤256:=by
  have:(2:Nat)^b.toNat≤2^8:=Nat.pow_le_pow_right (by omega) (by omega);have h2:((2^b.toNat:Nat):Int)≤((2^8:Nat):Int):=Int.ofNat_le.2 this
  simpa using h2
 obtain ⟨g,f⟩:=sA (M:=257) ⟨c.1,by omega⟩ (b:=2^b.toNat) ⟨by omega,by omega⟩;have e:¬ b<0:=by omega
 have d:min b.toNat IntKind.i64.bits=b.toNat:=Nat.min_eq_left (by show b.toNat≤64;omega);simp only [de,dL,e,if_false,d];rw [aj ⟨by omega,by omega⟩]
theorem Ur {a b:Int} (g:0≤a∧a<256) (f:0≤b∧b<8):de .shr (.int .i64 a) (.int .u64 b)=some (.int .i64 (a/2^b.toNat)):=by
 have e:=two_pow_pos b.toNat;have d:¬ b<0:=by omega
 have c:min b.toNat IntKind.i64.bits=b.toNat:=Nat.min_eq_left (by show b.toNat≤64;omega);simp only [de,dL,d,if_false,c];rw [Int.fdiv_eq_ediv_of_nonneg _ (by omega)]
theorem sE {w a b:Int} {up:Bool} (f:1≤w∧w≤8) (e:0≤a∧a<256) (c:0≤b) (H:AH):Ca E O 146 [.int .i64 w,.int .i64 a,.int .i64 b,.bool up] H (fun x H'=>x= .int .i64 (if w≤b then 0 else if up=true then a*2^b.toNat else a/2^b.toNat)∧H'=H):=by
 refine Ca.aJ (F:=Cy) rfl rfl rfl ?_;by_cases h:w≤b
 ·simp (maxSteps:=9^7)-implicitDefEqProofs+contextual [-X.ev,Cy,h]
 have d:IntKind.u64.wrap b=b:=acP ⟨c,by omega⟩;cases up
 ·simp (maxSteps:=9^7)-implicitDefEqProofs+contextual [-X.ev,Cy,h,d,Ur e ⟨c,by omega⟩]
 ·simp (maxSteps:=9^7)-implicitDefEqProofs+contextual [-X.ev,Cy,h,d,Uq e ⟨c,by omega⟩]
def Bg (op:Int):Value:=
 if op=2 then .func (.func 137) #[] #[]else if op=3 then .func (.func 138) #[] #[]else if op=4 then .func (.func 139) #[] #[]else if op=5 then .func (.func 140) #[] #[]else if op=6 then .func (.func 141) #[] #[]else if op=7 then .func (.func 142) #[] #[]else if op=8 then .func (.func 143) #[] #[]else if op=9 then .func (.func 144) #[] #[]else if op=10 then .func (.func 145) #[] #[]else if op=11 then .func (.func 147) #[] #[]else if op=13 then .func (.func 148) #[] #[]else if op=14 then .func (.func 150) #[] #[]else .nilFunc
theorem J9 {op:Int} {H:AH} (hw:H.n0≤H.nx):Ca E O 134 [.int .i64 op] H (fun x H'=>x=Bg op∧Ext H H'):=by
 refine Ca.aJ (F:=Jj) rfl rfl rfl ?_;have w:=Ext.alloc H (.map []);have L:=cx H (.map []);generalize AL:H.alloc (.map [])=H0 at w L;have K:H0.n0≤H.nx:=by rw [w.n0];exact hw
 obtain ⟨H1,s1,Z,DH,xz,g1⟩:=gU (kk:=0) (k:=.int .i64 2) (v:=.func (.func 137) #[] #[]) L K rfl rfl rfl;have J:H1.n0≤H.nx:=by rw [Z.n0];exact K
 obtain ⟨H2,s2,U,tA,nk,g2⟩:=gU (kk:=0) (k:=.int .i64 3) (v:=.func (.func 138) #[] #[]) g1 J rfl rfl rfl;have I:H2.n0≤H.nx:=by rw [U.n0];exact J
 obtain ⟨H3,s3,T,qx,lF,g3⟩:=gU (kk:=0) (k:=.int .i64 4) (v:=.func (.func 139) #[] #[]) g2 I rfl rfl rfl;have G:H3.n0≤H.nx:=by rw [T.n0];exact I
 obtain ⟨H4,s4,S,yy,nN,g4⟩:=gU (kk:=0) (k:=.int .i64 5) (v:=.func (.func 140) #[] #[]) g3 G rfl rfl rfl;have D:H4.n0≤H.nx:=by rw [S.n0];exact G
 obtain ⟨H5,s5,R,L3,yz,g5⟩:=gU (kk:=0) (k:=.int .i64 6) (v:=.func (.func 141) #[] #[]) g4 D rfl rfl rfl;have C:H5.n0≤H.nx:=by rw [R.n0];exact D
 obtain ⟨H6,s6,Q,nx6,Ka,g6⟩:=gU (kk:=0) (k:=.int .i64 7) (v:=.func (.func 142) #[] #[]) g5 C rfl rfl rfl;have B:H6.n0≤H.nx:=by rw [Q.n0];exact C
 obtain ⟨H7,s7,P,YJ,CU,g7⟩:=gU (kk:=0) (k:=.int .i64 8) (v:=.func (.func 143) #[] #[]) g6 B rfl rfl rfl;have A:H7.n0≤H.nx:=by rw [P.n0];exact B
 obtain ⟨H8,s8,N,Us,DI,g8⟩:=gU (kk:=0) (k:=.int .i64 9) (v:=.func (.func 144) #[] #[]) g7 A rfl rfl rfl;have z:H8.n0≤H.nx:=by rw [N.n0];exact A
 obtain ⟨H9,s9,M,YK,RG,g9⟩:=gU (kk:=0) (k:=.int .i64 10) (v:=.func (.func 145) #[] #[]) g8 z rfl rfl rfl;have y:H9.n0≤H.nx:=by rw [M.n0];exact z
 obtain ⟨yA,i,Y,aln,alo,YL⟩:=gU (kk:=0) (k:=.int .i64 11) (v:=.func (.func 147) #[] #[]) g9 y rfl rfl rfl;have f:yA.n0≤H.nx:=by rw [Y.n0];exact y
 obtain ⟨YD,g,W,Ua,Ub,OF⟩:=gU (kk:=0) (k:=.int .i64 13) (v:=.func (.func 148) #[] #[]) YL f rfl rfl rfl;have e:YD.n0≤H.nx:=by rw [W.n0];exact f
 obtain ⟨CW,YM,V,Kb,FW,b⟩:=gU (kk:=0) (k:=.int .i64 14) (v:=.func (.func 150) #[] #[]) OF e rfl rfl rfl;have a:CW.n0≤H.nx:=by rw [V.n0];exact e
 have XX:Ext H CW:=w.mod (Z.trans (U.trans (T.trans (S.trans (R.trans (Q.trans (P.trans (N.trans (M.trans (Y.trans (W.trans (V)))))))))))) (by rintro x rfl;exact apK _)
 have lk:iU 0 .nilFunc CW (.map (some H.nx)) (.int .i64 op) false=some (Bg op):=by
  unfold Bg;by_cases r:op=2
  ·subst r;exact fD b a rfl rfl
  rw [if_neg r];by_cases q:op=3
  ·subst q;exact fD b a rfl rfl
  rw [if_neg q];by_cases p:op=4
  ·subst p;exact fD b a rfl rfl
  rw [if_neg p];by_cases o:op=5
  ·subst o;exact fD b a rfl rfl
  rw [if_neg o];by_cases n:op=6
  ·subst n;exact fD b a rfl rfl
  rw [if_neg n];by_cases m:op=7
  ·subst m;exact fD b a rfl rfl
  rw [if_neg m];by_cases l:op=8
  ·subst l;exact fD b a rfl rfl
  rw [if_neg l];by_cases j:op=9
  ·subst j;exact fD b a rfl rfl
  rw [if_neg j];by_cases u:op=10
  ·subst u;exact fD b a rfl rfl
  rw [if_neg u];by_cases t:op=11
  ·subst t;exact fD b a rfl rfl
  rw [if_neg t];by_cases s:op=13
  ·subst s;exact fD b a rfl rfl
  rw [if_neg s];by_cases d:op=14
  ·subst d;exact fD b a rfl rfl
  rw [if_neg d];refine AX b a rfl ?_;have c:∀k:Int,¬ op=k→(op==k)=false:=fun k h=>by simpa using h
  simp [gk,iI,lV,c _ r,c _ q,c _ p,c _ o,c _ n,c _ m,c _ l,c _ j,c _ u,c _ t,c _ s,c _ d]
 simp (maxSteps:=9^7)-implicitDefEqProofs+contextual [-X.ev,Jj,AL,s1,s2,s3,s4,s5,s6,s7,s8,s9,i,g,YM,lk,XX]
theorem FX {op w a b:Int} (t:(2≤op∧op≤11)∨op=13∨op=14) (h:1≤w∧w≤8) (j:0≤a∧a<2^w.toNat) (i:0≤b∧b<2^w.toNat):
 ∃f,Bg op= .func (.func f) #[] #[]∧∀H:AH,Ca E O f [.int .i64 w,.int .i64 a,.int .i64 b] H (fun x H'=>∃y,x= .int .i64 y∧y%2^w.toNat=hZ op w a b∧H'=H):=by
 have k:=iV h;obtain ⟨s,r⟩:=sA j i;have q:(2:Int)^w.toNat*2^w.toNat≤256*256:=Int.mul_le_mul k.2 k.2 (by omega) (by omega);have l:=xy (op:=op) h j i;have d:hZ op w a b%2^w.toNat=hZ op w a b:=Int.emod_eq_of_lt l.1 l.2;have m:0≤a∧a<256:=by omega
 have p:op=2∨op=3∨op=4∨op=5∨op=6∨op=7∨op=8∨op=9∨op=10∨op=11∨op=13∨op=14:=by omega
 have g:((a.toNat:Nat):Int)=a∧((b.toNat:Nat):Int)=b:=by omega
 have v:=sB j;have u:=sB i;have o:(2:Nat)^w.toNat≤2^62:=Nat.pow_le_pow_right (by omega) (by omega);rcases p with rfl|rfl|rfl|rfl|rfl|rfl|rfl|rfl|rfl|rfl|rfl|rfl
 ·refine ⟨137,rfl,fun H=>?_⟩
  refine Ca.aJ (F:=Jk) rfl rfl rfl ?_;simp (maxSteps:=9^7)-implicitDefEqProofs+contextual [-X.ev,Jk,aj (n:=a+b) ⟨by omega,by omega⟩];simp [hZ]
 ·refine ⟨138,rfl,fun H=>?_⟩
  refine Ca.aJ (F:=Jl) rfl rfl rfl ?_;simp (maxSteps:=9^7)-implicitDefEqProofs+contextual [-X.ev,Jl,aj (n:=a- b) ⟨by omega,by omega⟩];simp only [hZ];rw [if_neg (show¬ (3:Int)=2 by omega),if_pos trivial,show a+2^w.toNat- b=(a- b)+2^w.toNat by omega,Int.add_emod_right]
 ·refine ⟨139,rfl,fun H=>?_⟩
  refine Ca.aJ (F:=Jm) rfl rfl rfl ?_;simp (maxSteps:=9^7)-implicitDefEqProofs+contextual [-X.ev,Jm,aj (n:=a*b) ⟨by omega,by omega⟩];simp [hZ]
 ·refine ⟨140,rfl,fun H=>?_⟩
  refine Ca.aJ (F:=EY) rfl rfl rfl ?_;by_cases c:b=0
  ·subst c
   simp (maxSteps:=9^7)-implicitDefEqProofs+contextual [-X.ev,EY];apply ah
   ·(simp-implicitDefEqProofs [-X.ev];rfl)
   refine (vx h H).mono ?_;rintro x H ⟨rfl,rfl⟩;simp (maxSteps:=9^7)-implicitDefEqProofs+contextual [-X.ev];rw [←d];simp [hZ]
  ·simp (maxSteps:=9^7)-implicitDefEqProofs+contextual [-X.ev,EY,c,sy j.1 (by omega) (show 0<b by omega)]
   rw [←d];simp [hZ,c]
 ·refine ⟨141,rfl,fun H=>?_⟩
  refine Ca.aJ (F:=EZ) rfl rfl rfl ?_;by_cases c:b=0
  ·subst c
   simp (maxSteps:=9^7)-implicitDefEqProofs+contextual [-X.ev,EZ];rw [←d];simp [hZ]
  ·simp (maxSteps:=9^7)-implicitDefEqProofs+contextual [-X.ev,EZ,c,gG j.1]
   rw [←d];simp [hZ,c]
 ·refine ⟨142,rfl,fun H=>?_⟩
  refine Ca.aJ (F:=Jn) rfl rfl rfl ?_;have e:=J3 (a:=a.toNat) (b:=b.toNat) (by omega) (by omega);rw [g.1,g.2]at e;simp (maxSteps:=9^7)-implicitDefEqProofs+contextual [-X.ev,Jn,e];rw [←d];simp [hZ]
 ·refine ⟨143,rfl,fun H=>?_⟩
  refine Ca.aJ (F:=Jo) rfl rfl rfl ?_;have e:=OA (a:=a.toNat) (b:=b.toNat) (by omega) (by omega);rw [g.1,g.2]at e;simp (maxSteps:=9^7)-implicitDefEqProofs+contextual [-X.ev,Jo,e];rw [←d];simp [hZ]
 ·refine ⟨144,rfl,fun H=>?_⟩
  refine Ca.aJ (F:=Jp) rfl rfl rfl ?_;have e:=J4 (a:=a.toNat) (b:=b.toNat) (by omega) (by omega);rw [g.1,g.2]at e;simp (maxSteps:=9^7)-implicitDefEqProofs+contextual [-X.ev,Jp,e];rw [←d];simp [hZ]
 ·refine ⟨145,rfl,fun H=>?_⟩
  refine Ca.aJ (F:=Jq) rfl rfl rfl ?_;simp (maxSteps:=9^7)-implicitDefEqProofs+contextual [-X.ev,Jq];apply ah
  ·(simp-implicitDefEqProofs [-X.ev];rfl)
  refine (sE (up:=true) h m i.1 H).mono ?_;rintro x H ⟨rfl,rfl⟩;simp (maxSteps:=9^7)-implicitDefEqProofs+contextual [-X.ev];by_cases c:w≤b
  ·simp [hZ,c]
  ·simp [hZ,c]
 ·refine ⟨147,rfl,fun H=>?_⟩
  refine Ca.aJ (F:=Jr) rfl rfl rfl ?_;simp (maxSteps:=9^7)-implicitDefEqProofs+contextual [-X.ev,Jr];apply ah
  ·(simp-implicitDefEqProofs [-X.ev];rfl)
  refine (sE (up:=false) h m i.1 H).mono ?_;rintro x H ⟨rfl,rfl⟩;simp (maxSteps:=9^7)-implicitDefEqProofs+contextual [-X.ev];rw [←d];by_cases c:w≤b
  ·simp [hZ,c]
  ·simp [hZ,c]
 ·refine ⟨148,rfl,fun H=>?_⟩
  refine Ca.aJ (F:=Js) rfl rfl rfl ?_;simp (maxSteps:=9^7)-implicitDefEqProofs+contextual [-X.ev,Js];apply ah
  ·(simp-implicitDefEqProofs [-X.ev];rfl)
  refine (xA (decide (a=b)) H).mono ?_;rintro x H ⟨rfl,rfl⟩;simp (maxSteps:=9^7)-implicitDefEqProofs+contextual [-X.ev];rw [←d];simp [hZ]
 ·refine ⟨150,rfl,fun H=>?_⟩
  refine Ca.aJ (F:=Ju) rfl rfl rfl ?_;simp (maxSteps:=9^7)-implicitDefEqProofs+contextual [-X.ev,Ju];apply ah
  ·(simp-implicitDefEqProofs [-X.ev];rfl)
  refine (xA (decide (a<b)) H).mono ?_;rintro x H ⟨rfl,rfl⟩;simp (maxSteps:=9^7)-implicitDefEqProofs+contextual [-X.ev];rw [←d];simp [hZ]
theorem OG {op w a b:Int} {H:AH} (h:H.n0≤H.nx) (o:(2≤op∧op≤11)∨op=13∨op=14) (c:1≤w∧w≤8) (m:0≤a∧a<2^w.toNat) (l:0≤b∧b<2^w.toNat):Ca E O 129 [.int .i64 op,.int .i64 w,.int .i64 a,.int .i64 b] H (fun x H'=>x= .tuple #[.int .i64 (hZ op w a b),.int .i64 0]∧Ext H H'):=by
 refine Ca.aJ (F:=Jh) rfl rfl rfl ?_;have k:pU 2 1 [.int .i64 0,.int .i64 0] H [(0,1,.int .i64 a),(1,1,.int .i64 b)]=some (.slice (some ⟨H.nx,0,none⟩) 2 2,H.alloc (.cells 1 [.int .i64 a,.int .i64 b])):=rfl;have g:=Ext.alloc H (.cells 1 [.int .i64 a,.int .i64 b]);have j:=Up h a b;generalize H.alloc (.cells 1 [.int .i64 a,.int .i64 b])=s at k g j;simp (maxSteps:=9^7)-implicitDefEqProofs+contextual [-X.ev,Jh,k];apply ah
 ·(simp-implicitDefEqProofs [-X.ev];rfl)
 refine (L7 j (by simp)).mono ?_;rintro x s ⟨rfl,rfl⟩;have e:(cg w&&[a,b].all (isWord w))=true:=by simp [cg,c,mM c m,mM c l]
 rw [e];simp (maxSteps:=9^7)-implicitDefEqProofs+contextual [-X.ev];apply ah
 ·(simp-implicitDefEqProofs [-X.ev];rfl)
 refine (J9 (op:=op) (g.wf h)).mono ?_;rintro x d ⟨rfl,r⟩;obtain ⟨f,p,q⟩:=FX o c m l;rw [p];simp (maxSteps:=9^7)-implicitDefEqProofs+contextual [-X.ev];apply pV
 ·(simp-implicitDefEqProofs [-X.ev,-Value.func.injEq];rfl)
 ·(simp-implicitDefEqProofs [-X.ev];rfl)
 refine (q d).mono ?_;rintro x d ⟨y,rfl,n,rfl⟩;simp (maxSteps:=9^7)-implicitDefEqProofs+contextual [-X.ev];apply ah
 ·(simp-implicitDefEqProofs [-X.ev];rfl)
 refine (vx c d).mono ?_;rintro x d ⟨rfl,rfl⟩;have i:=J5 (x:=y) (w:=w.toNat) (by omega);rw [n]at i;simp (maxSteps:=9^7)-implicitDefEqProofs+contextual [-X.ev,i,g.trans r]
end
section
open Go
def OH (l:List Int) (i:Int):Int:=(l[i.toNat]?).getD 0
def bq (V:List Vr) (n:Int):Int:=dY ((V.take n.toNat).map (·.cells))
def et (l:List Int) (k:Nat):Int:=(l[k]?).getD 0
def storeAt (S:List (List Int)) (cp:Int):List Int:=(S[cp.toNat]?).getD []
mutual
def aZ (w:Int) (V:List Vr) (S:List (List Int)):bY→Int
 | .mk op n cp args=>if op=0 then n else if op=1 then OH (storeAt S cp) (bq V n+et (bP w V S args) 0%ak V n)
   else if op=12 then 2^w.toNat- 1- et (bP w V S args) 0 else if op=15 then(if et (bP w V S args) 0=0 then et (bP w V S args) 2 else et (bP w V S args) 1)
   else hZ op w (et (bP w V S args) 0) (et (bP w V S args) 1)
def bP (w:Int) (V:List Vr) (S:List (List Int)):List bY→List Int
 |[]=>[]
 |e::es=>aZ w V S e::bP w V S es
end
theorem sG {w:Int} {V:List Vr} {S:List (List Int)}:∀(l:List bY) (i:Nat),(bP w V S l)[i]?=(l[i]?).map (aZ w V S)
 |[],i=>by simp [bP]
 |e::es,0=>by simp [bP]
 |e::es,i+1=>by simp [bP,sG es i]
structure Ev where
 kind:Int
 at_:Int
 val:Int
mutual
def mN (w:Int) (V:List Vr) (S:List (List Int)):bY→List Ev
 | .mk op n cp args=>iX w V S args++if op=1∧args≠[]then [⟨1,n,et (bP w V S args) 0%ak V n⟩]else []
def iX (w:Int) (V:List Vr) (S:List (List Int)):List bY→List Ev
 |[]=>[]
 |e::es=>mN w V S e++iX w V S es
end
theorem pZ {V:List Vr} (h:∀v∈V,1≤v.cells∧v.cells≤8) (g:V.length≤18):∀i,i≤V.length→(i:Int)≤dY ((V.take i).map (·.cells))∧dY ((V.take i).map (·.cells))≤8*i∧∀j,j≤i→dY ((V.take j).map (·.cells))≤dY ((V.take i).map (·.cells)):=by
 intro i
 induction i with
 |zero=>intro _;exact ⟨by simp [dY],by simp [dY],fun j c=>by rw [show j=0 by omega];exact Int.le_refl _⟩
 |succ i ih=>
  intro hi;obtain ⟨f,h2,d⟩:=ih (by omega)
  obtain ⟨y,b⟩:∃y,V[i]?=some y:=⟨_,apG (by omega)⟩
  have k:=h y (apL b)
  have e:dY ((V.take (i+1)).map (·.cells))=dY ((V.take i).map (·.cells))+y.cells:=by
   rw [ap1];simp only [b,Option.toList_some,List.map_append,List.map_cons,List.map_nil,dY,List.foldl_append,List.foldl_cons,List.foldl_nil];exact aj ⟨by unfold dY at f;omega,by unfold dY at h2;omega⟩
  refine ⟨by omega,by omega,fun j c=>?_⟩;by_cases a:j=i+1
  ·subst a;exact Int.le_refl _
  ·have:=d j (by omega);omega
theorem gW {w:Int} {V:List Vr} (h:aC w V=true):(∀v∈V,1≤v.cells∧v.cells≤8)∧V.length≤18∧dY (V.map (·.cells))≤48:=by
 refine ⟨fun v a=>?_,(aF h).2.2.2,?_⟩
 ·obtain ⟨i,hi,e⟩:=List.mem_iff_getElem.1 a
  exact iN h (i:=i) (by rw [apG hi,e])
 ·rw [gE]at h;simp only [apJ,apS]at h;exact h.2.2.2.2
theorem mO {w:Int} {V:List Vr} (h:aC w V=true) {n:Int} (p:0≤n∧n<V.length) (i:Int):
 0≤bq V n∧bq V n≤48∧1≤ak V n∧ak V n≤8∧0≤i%ak V n∧i%ak V n<ak V n∧bq V n+i%ak V n<dY (V.map (·.cells)):=by
 obtain ⟨a,h2,q⟩:=gW h
 obtain ⟨y,b⟩:∃y,V[n.toNat]?=some y:=⟨_,apG (by omega)⟩
 have d:ak V n=y.cells:=by simp [ak,b]
 have o:=a y (apL b);obtain ⟨k,j,_⟩:=pZ a h2 n.toNat (by omega);obtain ⟨t,s,r⟩:=pZ a h2 (n.toNat+1) (by omega);obtain ⟨_,_,c⟩:=pZ a h2 V.length (apK _)
 have e:dY ((V.take (n.toNat+1)).map (·.cells))=dY ((V.take n.toNat).map (·.cells))+y.cells:=by
  rw [ap1];simp only [b,Option.toList_some,List.map_append,List.map_cons,List.map_nil,dY,List.foldl_append,List.foldl_cons,List.foldl_nil];exact aj ⟨by unfold dY at k;omega,by unfold dY at j;omega⟩
 have g:=c (n.toNat+1) (by omega);have f:=c n.toNat (by omega);rw [List.take_length]at g f;have m:=Int.emod_nonneg i (show y.cells≠0 by omega);have l:=Int.emod_lt_of_pos i (show 0<y.cells by omega);rw [d];unfold bq;omega
def CZ (w:Int) (V:List Vr) (S:List (List Int)):Prop:=∀s∈S,ch w V s=true
theorem iu {w:Int} {V:List Vr} {s:List Int} (c:1≤w∧w≤8) (h:ch w V s=true) {i:Int} (hi:0≤i∧i<dY (V.map (·.cells))):∃a,s[i.toNat]?=some a∧0≤a∧a<2^w.toNat∧OH s i=a:=by
 simp only [ch,apJ,apS,apW]at h
 obtain ⟨a,b⟩:∃y,s[i.toNat]?=some y:=⟨_,apG (by omega)⟩
 have:=h.2 a (apL b);rw [kD c]at this;simp at this;exact ⟨a,b,this.1,this.2,by simp [OH,b]⟩
theorem lg {w k op n cp:Int} {V:List Vr} {args:List bY} (p:1≤w∧w≤8) (h:dA w V k (.mk op n cp args)=true):
 (∀e∈args,dA w V k e=true)∧((op=0∧args=[]∧0≤n∧n<2^w.toNat)∨(op=1∧0≤n∧n<V.length∧0≤cp∧cp<k∧((args=[]∧¬ 1<ak V n)∨(∃a,args=[a])∧1<ak V n))∨(op=12∧∃a,args=[a])∨(op=15∧∃a b c,args=[a,b,c])∨
  (((2≤op∧op≤11)∨op=13∨op=14)∧∃a b,args=[a,b])):=by
 rw [dA,apJ]at h;refine ⟨jk.1 h.2,?_⟩;have d:=h.1;rw [vi p,apJ,apS]at d;obtain ⟨d,h2⟩:=d;unfold mj at d;unfold tS at h2;by_cases o:op=0
 ·rw [if_pos o]at d h2
  simp at h2;exact .inl ⟨o,aqe (by omega),h2.1,h2.2.1⟩
 rw [if_neg o]at d h2;by_cases f:op=1
 ·rw [if_pos f]at h2
  simp at h2;by_cases g:0≤n∧n<V.length
  ·rw [if_pos ⟨f,g⟩]at d
   refine .inr (.inl ⟨f,g.1,g.2,h2.1,h2.2,?_⟩);by_cases i:1<ak V n
   ·rw [if_pos i]at d
    exact .inr ⟨aqm.1 (by omega),i⟩
   ·rw [if_neg i]at d
    exact .inl ⟨aqe (by omega),i⟩
  ·rw [if_neg (fun q=>g q.2),if_neg (by omega),if_neg (by omega),if_neg (by omega)]at d
   omega
 rw [if_neg (fun q=>f q.1)]at d;by_cases m:(2≤op∧op≤11)∨op=13∨op=14
 ·rw [if_pos m]at d
  exact .inr (.inr (.inr (.inr ⟨m,FQ (by omega)⟩)))
 rw [if_neg m]at d;by_cases l:op=12
 ·rw [if_pos l]at d
  exact .inr (.inr (.inl ⟨l,aqm.1 (by omega)⟩))
 rw [if_neg l]at d;by_cases j:op=15
 ·rw [if_pos j]at d
  exact .inr (.inr (.inr (.inl ⟨j,FR (by omega)⟩)))
 rw [if_neg j]at d;omega
theorem iv {w:Int} {V:List Vr} {S:List (List Int)} (j:aC w V=true) (y:CZ w V S):∀e,dA w V S.length e=true→0≤aZ w V S e∧aZ w V S e<2^w.toNat:=oH fun op n m args ih u=>by
 have f:1≤w∧w≤8:=⟨(aF j).1,(aF j).2.1⟩
 have z:=iV f;obtain ⟨d,g⟩:=lg f u;rcases g with⟨rfl,rfl,k,h2⟩|⟨rfl,k,h2,C,B,_⟩|⟨rfl,a,rfl⟩|⟨rfl,a,b,c,rfl⟩|⟨A,a,b,rfl⟩
 ·rw [aZ,if_pos rfl];exact ⟨k,h2⟩
 ·rw [aZ,if_neg (by omega),if_pos rfl]
  obtain ⟨s,l⟩:∃s,S[m.toNat]?=some s:=⟨_,apG (by omega)⟩
  have t:=y s (apL l);have g:=mO j ⟨k,h2⟩ (et (bP w V S args) 0);obtain ⟨x,_,r,p,o⟩:=iu f t (i:=bq V n+et (bP w V S args) 0%ak V n) (by omega);have:storeAt S m=s:=by simp [storeAt,l]
  rw [this,o];exact ⟨r,p⟩
 ·rw [aZ,if_neg (by omega),if_neg (by omega),if_pos rfl]
  have:=ih a (by simp) (d a (by simp));simp only [bP,et,apF,Option.getD_some];omega
 ·rw [aZ,if_neg (by omega),if_neg (by omega),if_neg (by omega),if_pos rfl]
  have h:=ih b (by simp) (d b (by simp));have g:=ih c (by simp) (d c (by simp));by_cases q:et (bP w V S [a,b,c]) 0=0
  ·rw [if_pos q];exact g
  ·rw [if_neg q];exact h
 ·rw [aZ,if_neg (by omega),if_neg (by omega),if_neg (by omega),if_neg (by omega)]
  have v:=ih a (by simp) (d a (by simp));have h:=ih b (by simp) (d b (by simp));simp only [bP,et,apF,List.getElem?_cons_succ,Option.getD_some];exact xy f v h
def ew (H:AH) (v:Value) (S:List (List Int)):Prop:=∃rows,Rows H 1 v rows∧fE (fun r s=>∃u,r=[u]∧ep H u s) rows S
theorem fE.get {α β:Type} {C:α→β→Prop}:∀{l:List α} {m:List β} {i:Nat} {y:β},fE C l m→m[i]?=some y→∃x,l[i]?=some x∧C x y
 |_,_,i,y,.nil,h=>by simp at h
 |_,_,0,y,.cons a b,h=>by simp at h;subst h;exact ⟨_,rfl,a⟩
 |_,_,i+1,y,.cons a b,h=>by obtain ⟨x,c,h2⟩:=fE.get b (by simpa using h);exact ⟨x,by simpa using c,h2⟩
theorem fE.imp {α β:Type} {C D:α→β→Prop} (h:∀a b,C a b→D a b):∀{l:List α} {m:List β},fE C l m→fE D l m
 |_,_,.nil=>.nil
 |_,_,.cons a b=>.cons (h _ _ a) (fE.imp h b)
theorem ew.sub {H H':AH} (X:Sub H H') {v:Value} {S:List (List Int)} (h:ew H v S):ew H' v S:=by
 obtain ⟨rows,a,h2⟩:=h;exact ⟨rows,a.sub X,h2.imp fun _ _ ⟨u,e,k⟩=>⟨u,e,k.sub X⟩⟩
theorem ew.ext {H H':AH} (X:Ext H H') {v:Value} {S:List (List Int)} (h:ew H v S):ew H' v S:=h.sub (Sub.bU X)
theorem ew.at {H:AH} {v:Value} {S:List (List Int)} (h:ew H v S) {i:Nat} {s:List Int} (hi:S[i]?=some s):∃b o c a d,v= .slice (some ⟨b,o,none⟩) S.length c∧H.ld ⟨b,o+i,none⟩=some (.slice a s.length d)∧ep H (.slice a s.length d) s:=by
 obtain ⟨rows,l,h2⟩:=h;obtain ⟨r,g,u,rfl,f⟩:=h2.get hi;obtain ⟨b,o,c,e,k⟩:=l.at g;obtain ⟨a,d,m⟩:=f.len;rw [h2.length]at e;have:=aL k (j:=0) rfl;rw [m]at this f;exact ⟨b,o,c,a,d,e,by simpa using this,f⟩
theorem ew.len {H:AH} {v:Value} {S:List (List Int)} (h:ew H v S):∃a c,v= .slice a S.length c:=by
 obtain ⟨rows,b,h2⟩:=h;obtain ⟨a,c,e⟩:=b.len;rw [h2.length]at e;exact ⟨a,c,e⟩
open Go
theorem C1:∀(N:Nat) (e:bY) (c:List Value) (H:AH),SizeOf.sizeOf e<N→H.n0≤H.nx→nm H c e→aB e<2^60→
 Ca E O 58 [.agg c.toArray] H (fun x H'=>x= .int .i64 (aB e)∧Ext H H'):=by
 intro N
 induction N with
 |zero=>intro e c H h;omega
 |succ N ih=>
  intro e c H hN a K G
  cases K with| @mk op n cp v rows args i1 i2 i3 z w A=>
  refine Ca.aJ (F:=Xl) rfl rfl rfl ?_;have t:=Ext.alloc H (.cells 4 [.int .i64 op,.int .i64 n,.int .i64 cp,v]);have Q:(H.alloc (.cells 4 [.int .i64 op,.int .i64 n,.int .i64 cp,v])).ld ⟨H.nx,0,none⟩=some (.int .i64 op):=ai a rfl;have P:(H.alloc (.cells 4 [.int .i64 op,.int .i64 n,.int .i64 cp,v])).ld ⟨H.nx,1,none⟩=some (.int .i64 n):=ai a rfl;have M:(H.alloc (.cells 4 [.int .i64 op,.int .i64 n,.int .i64 cp,v])).ld ⟨H.nx,2,none⟩=some (.int .i64 cp):=ai a rfl;have B:(H.alloc (.cells 4 [.int .i64 op,.int .i64 n,.int .i64 cp,v])).ld ⟨H.nx,3,none⟩=some v:=ai a rfl;have d:(H.alloc (.cells 4 [.int .i64 op,.int .i64 n,.int .i64 cp,v])).ldn ⟨H.nx,0,none⟩ 4=some [.int .i64 op,.int .i64 n,.int .i64 cp,v]:=bj a 4 rfl;generalize L:H.alloc (.cells 4 [.int .i64 op,.int .i64 n,.int .i64 cp,v])=T at t Q P M B d;have bD:=t.wf a;rw [aB]at G;obtain ⟨p0,c0,u⟩:=w.len;rw [A.length]at u;simp (maxSteps:=9^7)-implicitDefEqProofs+contextual [-X.ev,Xl,L];refine bZ (fun k f H'=>Ext T H'∧∃i:Nat,i+k=args.length∧f.get 1= .pointer (some ⟨H.nx,0,none⟩)∧f.get 4= .int .i64 i∧f.get 3= .int .i64 (1+aq (args.take i))) ?_ args.length ⟨Ext.refl _,0,by simp,by simp,by simp,by simp [aq]⟩;rintro k f S ⟨s,i,hi,q,m,p⟩;have g:=t.trans s;have C:=g.wf a;have j:=s.ld B;by_cases h:i<args.length
  ·obtain ⟨y,l⟩:∃y,args[i]?=some y:=⟨_,apG h⟩
   obtain ⟨b,o,c',U,r,D,I,rfl,J⟩:=gj.row (w.ext g) (A.ext g) l;rw [D]at j;have Z:=eJ l;have Y:=bo args (i+1);have W:=bo args i;have V:=dZ y;have hs:=gA (op:=op) (n:=n) (cp:=cp) l;simp (maxSteps:=9^7)-implicitDefEqProofs+contextual [-X.ev,q,m,p,h,I,j];apply ah
   ·(simp-implicitDefEqProofs [-X.ev];rfl)
   refine (ih y _ S (by omega) C J (by omega)).mono ?_;rintro x H4 ⟨rfl,R⟩;simp (maxSteps:=9^7)-implicitDefEqProofs+contextual [-X.ev,q,m,p];rw [aj (n:=(i:Int)+1) ⟨by omega,by omega⟩,aj ⟨by omega,by omega⟩];exact ⟨k- 1,by omega,s.trans R,i+1,by omega,by simp,by omega⟩
  ·rw [u]at j
   simp (maxSteps:=9^7)-implicitDefEqProofs+contextual [-X.ev,q,m,p,h,j];rw [apN (by omega)];exact ⟨by rw [aB],g⟩
theorem FY {w n i:Int} {c:Value} {V:List Vr} {H:AH} (g:dy H c V) (k:aC w V=true) (d:0≤n∧n<V.length) (hi:0≤i∧i<2^40):
 Ca E O 83 [c,.int .i64 n,.int .i64 i] H (fun x H'=>x= .int .i64 (bq V n+i%ak V n)∧H'=H):=by
 refine Ca.aJ (F:=XA) rfl rfl rfl ?_;have s:=mO k d i
 obtain ⟨y,f⟩:∃y,V[n.toNat]?=some y:=⟨_,apG (by omega)⟩
 obtain ⟨b,o,t,m,_,_,_,h⟩:=g.at f;have r:ak V n=y.cells:=by simp [ak,f]
 have p:=aV.1 h;have q:V.length<2^60:=by have:=(gW k).2.1;omega
 have j:Ca E O 96 [c,.int .i64 n] H (fun x H'=>x= .int .i64 (bq V n)∧H'=H):=by
  have:=wX g q n.toNat (by omega);rwa [show((n.toNat:Nat):Int)=n by omega]at this
 rw [r]at s⊢;have l:¬ y.cells=0:=by omega
 have e:=gG (a:=i) (b:=y.cells) hi.1;rw [if_neg l]at e;rw [m]at j⊢;simp (maxSteps:=9^7)-implicitDefEqProofs+contextual [-X.ev,XA,d.1,d.2,h,e];apply ah
 ·(simp-implicitDefEqProofs [-X.ev];rfl)
 refine (j).mono ?_;rintro x H ⟨rfl,rfl⟩;have ww:IntKind.i64.wrap (bq V n+i%y.cells)=bq V n+i%y.cells:=aj ⟨by omega,by omega⟩;simp (maxSteps:=9^7)-implicitDefEqProofs+contextual [-X.ev,ww,aN,aD,aE,p]
theorem xD {w:Int} {vv vS:Value} {V:List Vr} {S:List (List Int)} (T:aC w V=true) (hS:CZ w V S):∀(N:Nat) (e:bY) (c:List Value) (H:AH),SizeOf.sizeOf e<N→H.n0≤H.nx→dy H vv V→ew H vS S→nm H c e→dA w V S.length e=true→
 Ca E O 57 [.int .i64 w,vv,vS,.agg c.toArray] H (fun x H'=>x= .int .i64 (aZ w V S e)∧Ext H H'):=by
 have Z:1≤w∧w≤8:=⟨(aF T).1,(aF T).2.1⟩
 have hp:=iV Z;intro N
 induction N with
 |zero=>intro e c H h;omega
 |succ N ih=>
  intro e c H hN C hv hs he hf
  cases he with| @mk op n cp va rows args i1 i2 i3 hlen hr hl=>
  refine Ca.aJ (F:=IT) rfl rfl rfl ?_;have t:=Ext.alloc H (.cells 4 [.int .i64 op,.int .i64 n,.int .i64 cp,va]);have g:(H.alloc (.cells 4 [.int .i64 op,.int .i64 n,.int .i64 cp,va])).ld ⟨H.nx,0,none⟩=some (.int .i64 op):=ai C rfl;have v:(H.alloc (.cells 4 [.int .i64 op,.int .i64 n,.int .i64 cp,va])).ld ⟨H.nx,1,none⟩=some (.int .i64 n):=ai C rfl;have u:(H.alloc (.cells 4 [.int .i64 op,.int .i64 n,.int .i64 cp,va])).ld ⟨H.nx,2,none⟩=some (.int .i64 cp):=ai C rfl;have f:(H.alloc (.cells 4 [.int .i64 op,.int .i64 n,.int .i64 cp,va])).ld ⟨H.nx,3,none⟩=some va:=ai C rfl;have d:(H.alloc (.cells 4 [.int .i64 op,.int .i64 n,.int .i64 cp,va])).ldn ⟨H.nx,0,none⟩ 4=some [.int .i64 op,.int .i64 n,.int .i64 cp,va]:=bj C 4 rfl;generalize U:H.alloc (.cells 4 [.int .i64 op,.int .i64 n,.int .i64 cp,va])=z at t g v u f d;have bD:=t.wf C;obtain ⟨aH,hc⟩:=lg Z hf
  have arg:∀(k:AH) (i:Nat) (y:bY),Ext z k→args[i]?=some y→∃b o c' m,va= .slice (some ⟨b,o,none⟩) args.length c'∧k.ldn ⟨b,o+i*4,none⟩ 4=some [.int .i64 y.op,.int .i64 y.n,.int .i64 y.cp,m]∧
   Ca E O 57 [.int .i64 w,vv,vS,.agg #[.int .i64 y.op,.int .i64 y.n,.int .i64 y.cp,m]] k (fun x H'=>x= .int .i64 (aZ w V S y)∧Ext k H'):=by
   intro k i y a W;have B:=t.trans a;obtain ⟨b,o,c',m,r,b9,bK,rfl,km⟩:=gj.row (hr.ext B) (hl.ext B) W;have jG:=gA (op:=op) (n:=n) (cp:=cp) W;exact ⟨b,o,c',m,b9,bK,ih y _ k (by omega) (B.wf C) (hv.ext B) (hs.ext B) km (aH y (apL W))⟩
  have wd:∀y∈args,0≤aZ w V S y∧aZ w V S y<2^w.toNat:=fun y W=>iv T hS y (aH y W)
  rcases hc with⟨rfl,rfl,h1,h2⟩|⟨rfl,h1,h2,h3,h4,fV⟩|⟨rfl,j,rfl⟩|⟨rfl,j,l,Q,rfl⟩|⟨ho,j,l,rfl⟩
  ·simp (maxSteps:=9^7)-implicitDefEqProofs+contextual [-X.ev,IT,U,g,v,aZ,t]
  ·obtain ⟨s,Kd⟩:∃s,S[cp.toNat]?=some s:=⟨_,apG (by omega)⟩
   have iS:=hS s (apL Kd);have Ut:storeAt S cp=s:=by simp [storeAt,Kd]
   have mm:=mO T ⟨h1,h2⟩ (et (bP w V S args) 0);obtain ⟨x,hx,D7,Ar,Y⟩:=iu Z iS (i:=bq V n+et (bP w V S args) 0%ak V n) (by omega)
   have dh:bq V n+et (bP w V S args) 0%ak V n<(s.length:Int):=by
    have:=(apM.1 hx).1;omega
   rcases fV with⟨rfl,RI⟩|⟨⟨y,rfl⟩,RI⟩
   ·obtain ⟨b,o,c',a',Du,nG,dP,CT⟩:=(hs.ext t).at Kd
    obtain ⟨a5,c5,fO⟩:=hr.len;rw [hl.length]at fO;obtain ⟨b3,o3,c3,Dt,R⟩:=CT.at hx;cases Dt;rw [fO]at f;have D2:=aV.1 u;have HN:=aV.1 dP;rw [nG];have RJ:cp<S.length:=by omega
    simp (maxSteps:=9^7)-implicitDefEqProofs+contextual [-X.ev,IT,U,g,v,u,f,dP,h3,RJ];apply ah
    ·(simp-implicitDefEqProofs [-X.ev];rfl)
    refine (FY (i:=0) (hv.ext t) T ⟨h1,h2⟩ (by omega)).mono ?_;rintro x z ⟨rfl,rfl⟩;have e0:et (bP w V S []) 0=0:=rfl;rw [e0]at mm dh R Y;simp only [Int.zero_emod,Int.add_zero]at mm dh R Y;have g1:0≤bq V n:=by omega
    have sg:aZ w V S (.mk 1 n cp [])=x:=by
     rw [aZ,if_neg (by omega),if_pos rfl,Ut,e0,Int.zero_emod,Int.add_zero,Y]
    simp (maxSteps:=9^7)-implicitDefEqProofs+contextual [-X.ev,aN,aD,aE,D2,HN,g1,dh,R,t,sg]
   ·obtain ⟨P,G,c0,m,J,L,M⟩:=arg z 0 y (Ext.refl _) rfl
    rw [J]at f;have K:z.ldn ⟨P,G,none⟩ 4=some [.int .i64 y.op,.int .i64 y.n,.int .i64 y.cp,m]:=by simpa using L
    simp (maxSteps:=9^7)-implicitDefEqProofs+contextual [-X.ev,IT,U,g,v,u,f,K];apply ah
    ·(simp-implicitDefEqProofs [-X.ev];rfl)
    refine (M).mono ?_;rintro x k ⟨rfl,a⟩;replace g:=a.ld g;replace v:=a.ld v;replace u:=a.ld u;replace f:=a.ld f;have B:=t.trans a;have Ij:=wd y (by simp);have e0:et (bP w V S [y]) 0=aZ w V S y:=rfl;obtain ⟨b,o,c',a',Du,nG,dP,CT⟩:=(hs.ext B).at Kd;obtain ⟨b3,o3,c3,Dt,R⟩:=CT.at hx;cases Dt;have D2:=aV.1 u;have HN:=aV.1 dP;rw [nG];have RJ:cp<S.length:=by omega
    rw [e0]at mm dh R Y;have g1:0≤bq V n+aZ w V S y%ak V n:=by omega
    simp (maxSteps:=9^7)-implicitDefEqProofs+contextual [-X.ev,g,v,u,f,dP,h3,RJ];apply ah
    ·(simp-implicitDefEqProofs [-X.ev];rfl)
    refine (FY (i:=aZ w V S y) (hv.ext B) T ⟨h1,h2⟩ ⟨Ij.1,by omega⟩).mono ?_;rintro x k ⟨rfl,rfl⟩;simp (maxSteps:=9^7)-implicitDefEqProofs+contextual [-X.ev,aN,aD,aE,D2,HN,g1,dh,R,B];rw [aZ,if_neg (by omega),if_pos rfl,Ut,e0,Y]
  ·obtain ⟨P,G,c0,m,J,L,M⟩:=arg z 0 j (Ext.refl _) rfl
   rw [J]at f;have K:z.ldn ⟨P,G,none⟩ 4=some [.int .i64 j.op,.int .i64 j.n,.int .i64 j.cp,m]:=by simpa using L
   simp (maxSteps:=9^7)-implicitDefEqProofs+contextual [-X.ev,IT,U,g,v,u,f,K];apply ah
   ·(simp-implicitDefEqProofs [-X.ev];rfl)
   refine (M).mono ?_;rintro x k ⟨rfl,a⟩;simp (maxSteps:=9^7)-implicitDefEqProofs+contextual [-X.ev];apply ah
   ·(simp-implicitDefEqProofs [-X.ev];rfl)
   refine (J7 Z (wd j (by simp)) k).mono ?_;rintro x k ⟨rfl,rfl⟩;simp (maxSteps:=9^7)-implicitDefEqProofs+contextual [-X.ev,t.trans a];rw [aZ,if_neg (by omega),if_neg (by omega),if_pos rfl];rfl
  ·obtain ⟨P,G,c0,m,J,L,M⟩:=arg z 0 j (Ext.refl _) rfl
   have p:=f;rw [J]at f;have K:z.ldn ⟨P,G,none⟩ 4=some [.int .i64 j.op,.int .i64 j.n,.int .i64 j.cp,m]:=by simpa using L
   simp (maxSteps:=9^7)-implicitDefEqProofs+contextual [-X.ev,IT,U,g,v,u,f,K];apply ah
   ·(simp-implicitDefEqProofs [-X.ev];rfl)
   refine (M).mono ?_;rintro x k ⟨rfl,a⟩;replace g:=a.ld g;replace f:=a.ld f;replace p:=a.ld p;obtain ⟨b1,o1,c1,D,zp,FU,zH⟩:=arg k 1 l a rfl;rw [zp]at p;have FZ:k.ldn ⟨b1,o1+4,none⟩ 4=some [.int .i64 l.op,.int .i64 l.n,.int .i64 l.cp,D]:=by simpa using FU
   simp (maxSteps:=9^7)-implicitDefEqProofs+contextual [-X.ev,p,FZ];apply ah
   ·(simp-implicitDefEqProofs [-X.ev];rfl)
   refine (zH).mono ?_;rintro x H3 ⟨rfl,A⟩;replace g:=A.ld g;replace f:=A.ld f;replace p:=A.ld p;by_cases q:aZ w V S j=0
   ·obtain ⟨b2,o2,c2,vy2,wj,mc,OJ⟩:=arg H3 2 Q (a.trans A) rfl
    rw [zp]at wj;cases wj;have Uu:H3.ldn ⟨b1,o1+8,none⟩ 4=some [.int .i64 Q.op,.int .i64 Q.n,.int .i64 Q.cp,vy2]:=by simpa using mc
    simp (maxSteps:=9^7)-implicitDefEqProofs+contextual [-X.ev,g,q,p,Uu];apply ah
    ·(simp-implicitDefEqProofs [-X.ev];rfl)
    refine (OJ).mono ?_;rintro x H4 ⟨rfl,X4⟩;simp (maxSteps:=9^7)-implicitDefEqProofs+contextual [-X.ev,t.trans (a.trans (A.trans X4))];rw [aZ,if_neg (by omega),if_neg (by omega),if_neg (by omega),if_pos rfl,if_pos (show et (bP w V S [j,l,Q]) 0=0 from q)];rfl
   ·simp (maxSteps:=9^7)-implicitDefEqProofs+contextual [-X.ev,g,q,t.trans (a.trans A)]
    rw [aZ,if_neg (by omega),if_neg (by omega),if_neg (by omega),if_pos rfl,if_neg (show¬ et (bP w V S [j,l,Q]) 0=0 from q)];rfl
  ·have n0:¬ op=0:=by omega
   have n1:¬ op=1:=by omega
   have OK:¬ op=12:=by omega
   have I:¬ op=15:=by omega
   obtain ⟨P,G,c0,m,J,L,M⟩:=arg z 0 j (Ext.refl _) rfl;have p:=f;rw [J]at f;have K:z.ldn ⟨P,G,none⟩ 4=some [.int .i64 j.op,.int .i64 j.n,.int .i64 j.cp,m]:=by simpa using L
   simp (maxSteps:=9^7)-implicitDefEqProofs+contextual [-X.ev,IT,U,g,v,u,f,K,n0,n1,OK,I];apply ah
   ·(simp-implicitDefEqProofs [-X.ev];rfl)
   refine (M).mono ?_;rintro x k ⟨rfl,a⟩;replace g:=a.ld g;replace f:=a.ld f;replace p:=a.ld p;obtain ⟨b1,o1,c1,D,zp,FU,zH⟩:=arg k 1 l a rfl;rw [zp]at p;have FZ:k.ldn ⟨b1,o1+4,none⟩ 4=some [.int .i64 l.op,.int .i64 l.n,.int .i64 l.cp,D]:=by simpa using FU
   simp (maxSteps:=9^7)-implicitDefEqProofs+contextual [-X.ev,p,FZ];apply ah
   ·(simp-implicitDefEqProofs [-X.ev];rfl)
   refine (zH).mono ?_;rintro x H3 ⟨rfl,A⟩;replace g:=A.ld g;have gM:=t.trans (a.trans A);simp (maxSteps:=9^7)-implicitDefEqProofs+contextual [-X.ev,g,I];apply ah
   ·(simp-implicitDefEqProofs [-X.ev];rfl)
   refine (OE (gM.wf C) Z (wd j (by simp)) (wd l (by simp))).mono ?_;rintro x H4 ⟨rfl,X4⟩;simp (maxSteps:=9^7)-implicitDefEqProofs+contextual [-X.ev,gM.trans X4];rw [aZ,if_neg n0,if_neg n1,if_neg OK,if_neg I];rfl
end
section
open Go
def Ev.row (e:Ev):List Value:=[.int .i64 e.kind,.int .i64 e.at_,.int .i64 e.val]
def cU (l:List Ev):List (List Value):=l.map Ev.row
theorem kb (l m:List Ev):cU (l++m)=cU l++cU m:=by simp [cU]
theorem cF (l:List Ev):(cU l).length=l.length:=by simp [cU]
theorem jl {w:Int} {V:List Vr} {S:List (List Int)} {l:List bY} (h:∀e∈l,((mN w V S e).length:Int)≤aB e):((iX w V S l).length:Int)≤aq l:=by
 induction l with
 |nil=>simp [iX,aq]
 |cons x l ih=>
  rw [iX,aq,apP];have b:=h x (by simp);have h2:=ih fun e a=>h e (by simp [a])
  omega
theorem dV {w:Int} {V:List Vr} {S:List (List Int)}:∀e,((mN w V S e).length:Int)≤aB e:=oH fun op n b args ih=>by
 have a:=jl (w:=w) (V:=V) (S:=S) ih;rw [mN,aB,apP];split
 ·simp;omega
 ·simp;omega
theorem mn {w:Int} {V:List Vr} {S:List (List Int)} {l:List bY} {i:Nat} {y:bY} (h:l[i]?=some y):iX w V S (l.take (i+1))=iX w V S (l.take i)++mN w V S y:=by
 induction l generalizing i with
 |nil=>simp at h
 |cons x l ih=>
  cases i with
  |zero=>simp at h;subst h;simp [iX]
  |succ i=>simp only [List.take_succ_cons,iX];rw [ih (by simpa using h),ap5]
theorem mq {w:Int} {V:List Vr} {S:List (List Int)} (l:List bY) (i:Nat):((iX w V S (l.take i)).length:Int)≤aq l:=by
 have:=jl (w:=w) (V:=V) (S:=S) (l:=l.take i) fun e _=>dV e
 have:=bo l i;omega
theorem Ke {H H1:AH} {u:Value} {s:List Int} {a:Option Addr} {c:Nat} (b:H.n0≤H.nx) (d:ep H u s) (e:H.alloc (.cells 1 [u])=H1):ew H1 (.slice (some ⟨H.nx,0,none⟩) 1 1) [s]:=by
 subst e;refine ⟨[[u]],⟨_,_,rfl,fun i r hi=>⟨H.nx,0,rfl,?_⟩⟩,.cons ⟨u,rfl,ep.ext (Ext.alloc _ _) d⟩ .nil⟩
 cases i with
 |zero=>
  simp at hi;subst hi;have:=bj b (z:=1) (c:=[u]) 1 rfl
  simpa using this
 |succ i=>simp at hi
theorem OL (a b c:Int):eM [.int .i64 0,.int .i64 0,.int .i64 0] [(0,1,.int .i64 a),(1,1,.int .i64 b),(2,1,.int .i64 c)]=some (.agg #[.int .i64 a,.int .i64 b,.int .i64 c]):=rfl
theorem C2 {w:Int} {Z vs:Value} {V:List Vr} {s:List Int} (P:aC w V=true) (hS:ch w V s=true):∀(N:Nat) (e:bY) (c:List Value) (H:AH),SizeOf.sizeOf e<N→H.n0≤H.nx→dy H Z V→ep H vs s→nm H c e→dA w V 1 e=true→aB e≤2^30→
 Ca E O 59 [.int .i64 w,Z,vs,.agg c.toArray] H (fun x H'=>da H' 3 x (cU (mN w V [s] e))∧Ext H H'∧∀b,aU x b→H.nx≤b):=by
 have eh:1≤w∧w≤8:=⟨(aF P).1,(aF P).2.1⟩
 have hp:=iV eh;have yB:CZ w V [s]:=fun t A=>by simp at A;subst A;exact hS
 intro N
 induction N with
 |zero=>intro e c H h;omega
 |succ N ih=>
  intro e c H hN j hv hs he hf mr
  cases he with| @mk op n cp va rows args i1 i2 i3 hlen hr hl=>
  refine Ca.aJ (F:=Xn) rfl rfl rfl ?_;have U:=Ext.alloc H (.cells 4 [.int .i64 op,.int .i64 n,.int .i64 cp,va]);have d0:(H.alloc (.cells 4 [.int .i64 op,.int .i64 n,.int .i64 cp,va])).ld ⟨H.nx,0,none⟩=some (.int .i64 op):=ai j rfl;have d1:(H.alloc (.cells 4 [.int .i64 op,.int .i64 n,.int .i64 cp,va])).ld ⟨H.nx,1,none⟩=some (.int .i64 n):=ai j rfl;have d2:(H.alloc (.cells 4 [.int .i64 op,.int .i64 n,.int .i64 cp,va])).ld ⟨H.nx,2,none⟩=some (.int .i64 cp):=ai j rfl;have d3:(H.alloc (.cells 4 [.int .i64 op,.int .i64 n,.int .i64 cp,va])).ld ⟨H.nx,3,none⟩=some va:=ai j rfl;have d:(H.alloc (.cells 4 [.int .i64 op,.int .i64 n,.int .i64 cp,va])).ldn ⟨H.nx,0,none⟩ 4=some [.int .i64 op,.int .i64 n,.int .i64 cp,va]:=bj j 4 rfl;generalize cA:H.alloc (.cells 4 [.int .i64 op,.int .i64 n,.int .i64 cp,va])=H1 at U d0 d1 d2 d3 d;have bD:=U.wf j;obtain ⟨aH,hc⟩:=lg eh hf;rw [aB]at mr;obtain ⟨p0,c0,fO⟩:=hr.len;rw [hl.length]at fO;simp (maxSteps:=9^7)-implicitDefEqProofs+contextual [-X.ev,Xn,cA];refine bZ (fun k l H'=>Ext H1 H'∧∃(i:Nat) (z:Value),i+k=args.length∧l.get 0= .int .i64 w∧l.get 1=Z∧l.get 2=vs∧l.get 7= .pointer (some ⟨H.nx,0,none⟩)∧l.get 9=z∧l.get 10= .int .i64 i∧da H' 3 z (cU (iX w V [s] (args.take i)))∧(∀b,aU z b→H1.nx≤b)) ?_ args.length ⟨Ext.refl _,0,.slice none 0 0,by simp,by simp,by simp,by simp,by simp,by simp,by simp,by simpa [iX,cU]using da.nil _ 3,fun b hb=>absurd hb (dv _ _ _)⟩;rintro k l Y ⟨J,i,z,hi,I,m,G,D,C,f10,u,kO⟩;have g:=U.trans J;have Q:=g.wf j;have p:=J.ld d3;have tl:=mq (w:=w) (V:=V) (S:=[s]) args i;by_cases h:i<args.length
  ·obtain ⟨y,K⟩:∃y,args[i]?=some y:=⟨_,apG h⟩
   obtain ⟨b,o,c',vy,r,b9,bK,rfl,km⟩:=gj.row (hr.ext g) (hl.ext g) K;rw [b9]at p;have jG:=gA (op:=op) (n:=n) (cp:=cp) K;have t1:=eJ K;have t2:=bo args (i+1);have t3:=bo args i;have bd:=dV (w:=w) (V:=V) (S:=[s]) y;simp (maxSteps:=9^7)-implicitDefEqProofs+contextual [-X.ev,I,m,G,D,C,f10,h,bK,p];apply ah
   ·(simp-implicitDefEqProofs [-X.ev];rfl)
   refine (ih y _ Y (by omega) Q (hv.ext g) (ep.ext g hs) km (aH y (apL K)) (by omega)).mono ?_;rintro x H3 ⟨o3,f,k3⟩;have L:=f.wf Q;obtain ⟨z',H4,OM,o4,M4,k4⟩:=oN (bytes:=24) L (u.ext f) o3.rows (by rw [cF,cF];omega) (by rw [cF,cF];omega);simp (maxSteps:=9^7)-implicitDefEqProofs+contextual [-X.ev,I,m,G,D,C,f10,OM];rw [aj (n:=(i:Int)+1) ⟨by omega,by omega⟩];refine ⟨k- 1,by omega,(J.trans f).mod M4 kO,i+1,by omega,by simp,?_,fun q M=>?_⟩
   ·rw [mn K,kb];exact o4
   ·rcases k4 q M with h|h
    ·exact kO q h
    ·exact ap2 (ap2 J.nx f.nx) h
  ·have A:args.take i=args:=apN (by omega)
   rw [A]at u;have D3':=p;rw [fO]at p;have D0:=J.ld d0;have D1:=J.ld d1
   obtain ⟨R,B⟩:∃R,mN w V [s] (.mk op n cp args)=R:=⟨_,rfl⟩
   rw [B];rw [mN]at B;have ON:∀q,aU z q→H.nx≤q:=fun q M=>ap2 U.nx (kO q M)
   by_cases o1:op=1∧args≠[]
   ·obtain ⟨rfl,fR⟩:=o1
    rcases hc with⟨h0,_⟩|⟨_,h1,h2,h3,h4,fV⟩|⟨h0,_⟩|⟨h0,_⟩|⟨h0,_⟩
    ·omega
    rotate_left
    ·omega
    ·omega
    ·omega
    rcases fV with⟨rfl,_⟩|⟨⟨y,rfl⟩,RI⟩
    ·exact absurd rfl fR
    obtain ⟨yv,zI⟩:∃yv,V[n.toNat]?=some yv:=⟨_,apG (by omega)⟩
    have zF:ak V n=yv.cells:=by simp [ak,zI]
    have Ij:=iv P yB y (aH y (by simp));have e0:et (bP w V [s] [y]) 0=aZ w V [s] y:=rfl;have hi1:¬ (i:Int)<1:=by simp at h;omega
    rw [e0,if_pos ⟨rfl,fR⟩,zF]at B;have Co:=ep.ext g hs;obtain ⟨as_,cs_,nG⟩:=Co.len;have mY:=mZ (sz:=1) (z:=[.slice none 0 0]) (H:=Y) (v:=vs) (by rw [nG];rfl) (by rw [nG];rfl) rfl;have SK:aW vs=[vs]:=by rw [nG];rfl
    rw [SK]at mY;have f:=Ext.alloc Y (.cells 1 [vs]);have iS:=Ke (a:=none) (c:=0) Q Co rfl;have L:=f.wf Q;generalize OO:Y.alloc (.cells 1 [vs])=H3 at mY f iS L;have W:=g.trans f;obtain ⟨b,o,c',vy,r,b9,bK,rfl,km⟩:=gj.row (hr.ext W) (hl.ext W) (i:=0) (y:=y) rfl;have Uv:H3.ldn ⟨b,o,none⟩ 4=some [.int .i64 y.op,.int .i64 y.n,.int .i64 y.cp,vy]:=by simpa using bK
    have d33:=f.ld D3';rw [b9]at d33;simp (maxSteps:=9^7)-implicitDefEqProofs+contextual [-X.ev,I,m,G,D,C,f10,hi1,p,D0,mY,d33,Uv];apply ah
    ·(simp-implicitDefEqProofs [-X.ev];rfl)
    refine (xD P yB _ y _ H3 (apV _) L (hv.ext W) iS km (aH y (by simp))).mono ?_;rintro x H4 ⟨rfl,T⟩;have lE:=W.trans T;have mK:=T.wf L;have D14:=(f.trans T).ld D1;obtain ⟨bb,oo,cc,lD,_,_,_,dP⟩:=(hv.ext lE).at zI;have Lu:=iN P zI;have rn:=gG (a:=aZ w V [s] y) (b:=yv.cells) Ij.1;rw [if_neg (by omega)]at rn;have pX:=mZ (sz:=3) (z:=[.int .i64 0,.int .i64 0,.int .i64 0]) (H:=H4) (v:=.agg #[.int .i64 1,.int .i64 n,.int .i64 (aZ w V [s] y%yv.cells)]) rfl rfl rfl;simp only [dM]at pX
    obtain ⟨H5,OP⟩:∃H5,H4.alloc (.cells 3 [.int .i64 1,.int .i64 n,.int .i64 (aZ w V [s] y%yv.cells)])=H5:=⟨_,rfl⟩
    obtain ⟨z',H6,OQ,o6,M6,k6,c1,c2,c3,c4,c5,c6⟩:=gF (bytes:=24) mK (u.ext (f.trans T)) (r:=[.int .i64 1,.int .i64 n,.int .i64 (aZ w V [s] y%yv.cells)]) rfl OP (by rw [cF];rw [A]at tl;omega) (by rw [cF];rw [A]at tl;omega);rw [OP]at pX;rw [lD]at m;simp (maxSteps:=9^7)-implicitDefEqProofs+contextual [-X.ev,I,m,G,D,C,f10,D14,h1,h2,dP,rn,OL,pX,OQ,aN,aD,aE,c1,c4,c5,c6];refine ⟨by rw [←B,kb];exact o6,lE.mod M6 ON,fun q M=>ap2 lE.nx (k6 q M)⟩
   ·rw [if_neg o1,List.append_nil]at B
    rw [B]at u;by_cases q1:op=1
    ·have q2:args=[]:=by
      rcases Classical.em (args=[])with e|e
      ·exact e
      ·exact absurd ⟨q1,e⟩ o1
     subst q2;have hi0:¬ (i:Int)<0:=by omega
     simp (maxSteps:=9^7)-implicitDefEqProofs+contextual [-X.ev,I,m,G,D,C,f10,p,D0,q1,hi0,u,g];exact ON
    ·simp (maxSteps:=9^7)-implicitDefEqProofs+contextual [-X.ev,I,m,G,D,C,f10,h,p,D0,q1,u,g]
     exact ON
open Go
abbrev jM:=Int×bH
def bI:List bH→Int→List jM
 |[],_=>[]
 | .mk op n args thn els::ss,k=>(k,.mk op n args thn els)::bI ss (k+1+al thn+al els)
theorem nK.sub:∀{G H:AH} (X:Sub G H) {c:List Value} {e:bH},nK G c e→nK H c e:=by
 intro G H X
 have z:∀(N:Nat) (e:bY) (c:List Value),SizeOf.sizeOf e<N→nm G c e→nm H c e:=by
  intro N
  induction N with
  |zero=>intro e c h;omega
  |succ N ih=>
   intro e c i h
   cases h with| @mk op n O v rows args m k j u t s=>
   refine .mk m k j u (t.sub X) ?_
   have:∀(rows:List (List Value)) (l:List bY),(∀y∈l,SizeOf.sizeOf y<N)→gj G rows l→gj H rows l:=by
    intro rows l
    induction l generalizing rows with
    |nil=>intro _ h;cases h;exact .nil
    |cons x l f=>intro g h;cases h with|cons a b=>exact .cons (ih x _ (g x (by simp)) a) (f _ (fun y d=>g y (by simp [d])) b)
   exact this rows args (fun y d=>by have:=aqb d;simp at i;omega) s
 have o:∀(rows:List (List Value)) (l:List bY),gj G rows l→gj H rows l:=by
  intro rows l
  induction l generalizing rows with
  |nil=>intro h;cases h;exact .nil
  |cons x l f=>intro h;cases h with|cons a b=>exact .cons (z _ x _ (apV _) a) (f _ b)
 have w:∀(N:Nat) (e:bH) (c:List Value),SizeOf.sizeOf e<N→nK G c e→nK H c e:=by
  intro N
  induction N with
  |zero=>intro e c h;omega
  |succ N ih=>
   intro e c i h
   cases h with| @mk op n K I J M rt L args p F m k j r q E h2 D C B A=>
   have key:∀(rows:List (List Value)) (l:List bH),(∀y∈l,SizeOf.sizeOf y<N)→hY G rows l→hY H rows l:=by
    intro rows l
    induction l generalizing rows with
    |nil=>intro _ h;cases h;exact .nil
    |cons x l f=>intro g h;cases h with|cons a b=>exact .cons (ih x _ (g x (by simp)) a) (f _ (fun y d=>g y (by simp [d])) b)
   refine .mk m k j r q (E.sub X) (o _ _ h2) (D.sub X) (key _ _ (fun y d=>?_) C) (B.sub X) (key _ _ (fun y d=>?_) A)
   ·have:=aqb d;simp at i;omega
   ·have:=aqb d;simp at i;omega
 exact fun{c e} h=>w _ e c (apV _) h
theorem hY.sub {G H:AH} (X:Sub G H):∀{rows:List (List Value)} {l:List bH},hY G rows l→hY H rows l
 |_,_,.nil=>.nil
 |_,_,.cons a b=>.cons (a.sub X) (hY.sub X b)
end
section
open Go
noncomputable def part (H:AH) (n:Nat) (S:Nat→Prop):AH:=H.tC ((List.range H.nx).filter fun b=>@decide (b<n∨S b) (Classical.propDecidable _))
theorem jz {H:AH} {n:Nat} {S:Nat→Prop} {b:Nat} {x:pG}:(part H n S).get b=some x↔H.get b=some x∧n≤b∧¬ S b:=by
 unfold part;rw [sw];have a:b∈((List.range H.nx).filter fun b=>@decide (b<n∨S b) (Classical.propDecidable _))↔b<H.nx∧(b<n∨S b):=by rw [List.mem_filter,List.mem_range,@apS _ (Classical.propDecidable _)]
 constructor
 ·intro h
  split at h
  ·cases h
  ·rename_i q
   rw [a]at q;have c:=AH.bk h;exact ⟨h,Nat.le_of_not_lt fun k=>q ⟨c,.inl k⟩,fun k=>q ⟨c,.inr k⟩⟩
 ·rintro ⟨h,e,d⟩
  rw [if_neg]
  ·exact h
  ·rw [a]
   rintro ⟨_,q|q⟩
   ·omega
   ·exact d q
theorem oP (H:AH) (n:Nat) (S:Nat→Prop):(part H n S).n0=H.n0:=vq _ _
theorem vz (H:AH) (n:Nat) (S:Nat→Prop):(part H n S).nx=H.nx:=vr _ _
theorem Bh (H:AH) (n:Nat) (S:Nat→Prop):Sub (part H n S) H:=FP _ _
theorem eX {H H':AH} {n m:Nat} {S S':Nat→Prop} (e:H'.n0=H.n0) (d:H.nx≤H'.nx) (h:∀b x,H.get b=some x→n≤b→¬ S b→H'.get b=some x∧m≤b∧¬ S' b):Sub (part H n S) (part H' m S'):=
 ⟨by rw [oP,oP,e],by rw [vz,vz];exact d,fun b x k=>jz.2 (let⟨a,f,c⟩:=jz.1 k;h b x a f c)⟩
theorem da.part {H:AH} {sz n:Nat} {v:Value} {rows:List (List Value)} {S:Nat→Prop} (h:da H sz v rows) (hs:∀b,aU v b→n≤b∧¬ S b):da (part H n S) sz v rows:=by
 refine ⟨?_,h.len⟩;rcases h.is with⟨rfl,rfl⟩|⟨b,rfl,c,a⟩
 ·exact .inl ⟨rfl,rfl⟩
 ·have:=hs b ((aS _ _ _ _ _).2 rfl)
  exact .inr ⟨b,rfl,by rw [oP];exact c,jz.2 ⟨a,this.1,this.2⟩⟩
theorem da.sub {G H:AH} (X:Sub G H) {sz:Nat} {v:Value} {rows:List (List Value)} (h:da G sz v rows):da H sz v rows:=by
 refine ⟨?_,h.len⟩;rcases h.is with⟨rfl,rfl⟩|⟨b,rfl,c,a⟩
 ·exact .inl ⟨rfl,rfl⟩
 ·exact .inr ⟨b,rfl,by rw [X.n0];exact c,X.get _ _ a⟩
abbrev yC:Nat→Prop:=fun _=>False
theorem nm.sub {G H:AH} (X:Sub G H):∀{c:List Value} {e:bY},nm G c e→nm H c e:=by
 have r:∀(N:Nat) (e:bY) (c:List Value),SizeOf.sizeOf e<N→nm G c e→nm H c e:=by
  intro N
  induction N with
  |zero=>intro e c h;omega
  |succ N ih=>
   intro e c q h
   cases h with| @mk op n s v rows args k j i p o m=>
   refine .mk k j i p (o.sub X) ?_
   have:∀(rows:List (List Value)) (l:List bY),(∀y∈l,SizeOf.sizeOf y<N)→gj G rows l→gj H rows l:=by
    intro rows l
    induction l generalizing rows with
    |nil=>intro _ h;cases h;exact .nil
    |cons x l g=>intro f h;cases h with|cons a b=>exact .cons (ih x _ (f x (by simp)) a) (g _ (fun y d=>f y (by simp [d])) b)
   exact this rows args (fun y d=>by have:=aqb d;simp at q;omega) m
 exact fun{c e} h=>r _ e c (apV _) h
theorem gj.sub {G H:AH} (X:Sub G H):∀{rows:List (List Value)} {l:List bY},gj G rows l→gj H rows l
 |_,_,.nil=>.nil
 |_,_,.cons a b=>.cons (a.sub X) (gj.sub X b)
theorem gj.snoc {H:AH}:∀{rows:List (List Value)} {l:List bY} {r:List Value} {y:bY},gj H rows l→nm H r y→gj H (rows++[r]) (l++[y])
 |_,_,_,_,.nil,h=>.cons h .nil
 |_,_,_,_,.cons a b,h=>.cons a (gj.snoc b h)
theorem mP {α:Type} {l:List α} {i:Nat} {y:α} (h:l[i]?=some y):l.take (i+1)=l.take i++[y]:=by rw [ap1,h];rfl
theorem lh:∀l:List bY,(l.length:Int)≤aq l
 |[]=>by simp [aq]
 |x::l=>by have:=dZ x;have:=lh l;simp [aq];omega
theorem sJ:∀(N:Nat) (l:List bY) (A:Value) (rows:List (List Value)) (H:AH),SizeOf.sizeOf l<N→H.n0≤H.nx→Rows H 4 A rows→gj H rows l→l.length≤2^40→aq l≤2^40→
 Ca E O 72 [A] H (fun x H'=>∃rs,da H' 4 x rs∧gj (part H' H.nx (aU x)) rs l∧Ext H H'∧∀b,aU x b→H.nx≤b):=by
 intro N
 induction N with
 |zero=>intro l A rows H h;omega
 |succ N ih=>
  intro l A rows H hN hw hr hl hlen mr;refine Ca.aJ (F:=Xu) rfl rfl rfl ?_;obtain ⟨p0,c0,L⟩:=hr.len;rw [hl.length]at L;simp (maxSteps:=9^7)-implicitDefEqProofs+contextual [-X.ev,Xu,L];refine bZ (fun k D H'=>Ext H H'∧∃(i:Nat) (z:Value) (rs:List (List Value)),i+k=l.length∧D.get 6=A∧D.get 3=z∧D.get 7= .int .i64 l.length∧D.get 8= .int .i64 i∧da H' 4 z rs∧rs.length=i∧gj (part H' H.nx (aU z)) rs (l.take i)∧(∀b,aU z b→H.nx≤b)) ?_ l.length ⟨Ext.refl _,0,.slice none 0 0,[],by simp,by simp [L],by simp,by simp [L],by simp,da.nil _ _,rfl,by simpa using gj.nil,fun b a=>absurd a (dv _ _ _)⟩;rintro k D f ⟨u,i,z,rs,hi,f6,f3,f7,f8,R,wL,Z,kO⟩;have C:=u.wf hw;by_cases h:i<l.length
  ·obtain ⟨y,K⟩:∃y,l[i]?=some y:=⟨_,apG h⟩
   obtain ⟨op,n,d,args⟩:=y;obtain ⟨b,o,c',va,r,b9,bK,rfl,km⟩:=gj.row (hr.ext u) (hl.ext u) K;simp only [bY.op,bY.n,bY.cp]at bK km;have OR:=f6;rw [b9]at OR;have oL:=aqb (apL K);have U:=eJ K;have ht2:=bo l (i+1);have ht3:=bo l i;rw [aB]at U;have hla:=lh args
   cases km with| @mk _ _ _ _ ra _ i1 i2 i3 A7 EM W=>
   obtain ⟨p,Yy,e,acn,TW,q,B⟩:=fg (H:=f) C (z:=4) (c:=[.int .i64 0,.int .i64 0,.int .i64 0,.slice none 0 0]) (vs:=[.int .i64 op,.int .i64 n,.int .i64 d,va]) rfl;have q0:p.ld ⟨f.nx,0,none⟩=some (.int .i64 op):=B 0 _ rfl;have q1:p.ld ⟨f.nx,1,none⟩=some (.int .i64 n):=B 1 _ rfl;have q2:p.ld ⟨f.nx,2,none⟩=some (.int .i64 d):=B 2 _ rfl;have q3:p.ld ⟨f.nx,3,none⟩=some va:=B 3 _ rfl;clear B;replace q:p.ldn ⟨f.nx,0,none⟩ 4=some [.int .i64 op,.int .i64 n,.int .i64 d,va]:=q;have jL:=e.wf C
   have g2:p.get f.nx=some (.cells 4 [.int .i64 op,.int .i64 n,.int .i64 d,va]):=by
    obtain ⟨H2',s2,_,_,_,g⟩:=fC C (z:=4) (c:=[.int .i64 0,.int .i64 0,.int .i64 0,.slice none 0 0]) (vs:=[.int .i64 op,.int .i64 n,.int .i64 d,va]) rfl;rw [Yy]at s2;cases s2;exact g
   have lt2:=AH.bk g2;simp (maxSteps:=9^7)-implicitDefEqProofs+contextual [-X.ev,OR,f3,f7,f8,h,bK,Yy,q3];apply ah
   ·(simp-implicitDefEqProofs [-X.ev];rfl)
   refine (ih args va ra p (by simp at oL;omega) jL (EM.ext e) (W.ext e) (by omega) (by omega)).mono ?_;rintro x0 H3 ⟨m,o3,e3,j,k3⟩;obtain ⟨t,s,hx⟩:=o3.shape;subst hx;have kn:=j.wf jL;have g3:=j.get g2;obtain ⟨G,s4,w,yy,I,g4⟩:=bV g3 (by rw [j.n0,e.n0];exact C) (k:=3) (vs:=[.slice t m.length s]) (by simp);have iL:aM [.int .i64 op,.int .i64 n,.int .i64 d,va] 3 [.slice t m.length s]=[.int .i64 op,.int .i64 n,.int .i64 d,.slice t m.length s]:=rfl;rw [iL]at g4;have mK:=w.wf kn;have h04:G.n0≤f.nx:=by rw [I,j.n0,e.n0];exact C
   have l4:G.ldn ⟨f.nx,0,none⟩ 4=some [.int .i64 op,.int .i64 n,.int .i64 d,.slice t m.length s]:=by rw [bM g4 h04 (by simp)];rfl
   have P:∀b,aU z b→b<f.nx:=fun b a=>R.lt a
   have Q:da G 4 z rs:=(R.ext (e.trans j)).mod w (fun b a q=>by have:=P b a;omega);have Y:=mZ (sz:=4) (z:=[.int .i64 0,.int .i64 0,.int .i64 0,.slice none 0 0]) (H:=G) (v:=.agg #[.int .i64 op,.int .i64 n,.int .i64 d,.slice t m.length s]) rfl rfl rfl;simp only [dM]at Y
   obtain ⟨H5,OP⟩:∃H5,G.alloc (.cells 4 [.int .i64 op,.int .i64 n,.int .i64 d,.slice t m.length s])=H5:=⟨_,rfl⟩
   obtain ⟨z',H6,OQ,o6,M,J,c1,c2,c3,c4,c5,c6⟩:=gF (bytes:=48) mK Q (r:=[.int .i64 op,.int .i64 n,.int .i64 d,.slice t m.length s]) rfl OP (by omega) (by omega);rw [OP]at Y;have hX:Ext H H6:=((u.trans (e.trans j)).mod w (fun b a=>by have:=u.nx;omega)).mod M kO;have OK:=e.nx;have n23:=j.nx;have xz:=u.nx;simp (maxSteps:=9^7)-implicitDefEqProofs+contextual [-X.ev,OR,f3,f7,f8,s4,l4,Y,OQ];rw [aj (n:=(i:Int)+1) ⟨by omega,by omega⟩];refine ⟨k- 1,by omega,hX,i+1,by omega,b9.symm,by omega,_,o6,by simp [wL],?_,fun q hq=>by have:=J q hq;omega⟩;rw [mP K];refine gj.snoc (Z.sub (eX (c1.trans (I.trans (j.n0.trans e.n0))) (by omega) fun b y a V T=>?_)) (.mk i1 i2 i3 A7 (rows:=m) (Rows.sub (eX (n:=p.nx) (S:=yC) (c1.trans I) (by omega) fun b y a V T=>?_) (o3.part (fun b a=>⟨k3 b a,fun q=>q⟩)).rows) (e3.sub (eX (c1.trans I) (by omega) fun b y a V T=>?_)))
   ·have mX:=AH.bk a
    refine ⟨M.get (fun q=>T q) (w.get (fun q=>by omega) (j.get (e.get a))),V,fun q=>by have:=J b q;omega⟩
   ·have mX:=AH.bk a
    refine ⟨M.get (fun q=>by have:=P b q;omega) (w.get (fun q=>by omega) a),by omega,fun q=>by have:=J b q;omega⟩
   ·have mX:=AH.bk a
    refine ⟨M.get (fun q=>by have:=P b q;omega) (w.get (fun q=>by omega) a),by omega,fun q=>by have:=J b q;omega⟩
  ·rw [apN (by omega)]at Z
   simp (maxSteps:=9^7)-implicitDefEqProofs+contextual [-X.ev,f6,f3,f7,f8,h,u];exact ⟨rs,R,Z,kO⟩
open Go
def Fit (H:AH) (v:Value):Prop:=∃a n c,v= .slice a n c∧n≤c∧(0<n→∃b o,a=some ⟨b,o,none⟩∧H.lz b 5=true)
theorem vA {H:AH} {b z k:Nat} {c:List Value} (h:H.get b=some (.cells z c)) (a:k≤z):H.lz b k=true:=by simp [AH.lz,h,a]
theorem da.fit {H:AH} {v:Value} {rows:List (List Value)} (h:da H 5 v rows):Fit H v:=by
 rcases h.is with⟨rfl,_⟩|⟨b,rfl,_,a⟩
 ·exact ⟨_,_,_,rfl,apK _,fun h=>absurd h (by omega)⟩
 ·exact ⟨_,_,_,rfl,apK _,fun _=>⟨_,_,rfl,vA a (apK _)⟩⟩
theorem Fit.sub {G H:AH} (X:Sub G H) {v:Value} (h:Fit G v):Fit H v:=by
 obtain ⟨a,n,c,e,g,h2⟩:=h;refine ⟨a,n,c,e,g,fun h=>?_⟩;obtain ⟨b,o,i,d⟩:=h2 h;refine ⟨b,o,i,?_⟩;unfold AH.lz at d⊢;split at d
 ·rename_i f;rw [X.get _ _ f];exact d
 ·cases d
mutual
inductive yD (H:AH):List Value→bH→Prop where
 |mk {op n:Int} {va vt ve:Value} {ra rt re:List (List Value)} {args:List bY} {thn els:List bH}:oh op→oh n→args.length<2^60→thn.length<2^60→els.length<2^60→
  Rows H 4 va ra→gj H ra args→Rows H 5 vt rt→fh H rt thn→Fit H vt→Rows H 5 ve re→fh H re els→Fit H ve→yD H [.int .i64 op,.int .i64 n,va,vt,ve] (.mk op n args thn els)
inductive fh (H:AH):List (List Value)→List bH→Prop where
 |nil:fh H [] []
 |cons {r:List Value} {e:bH} {rs:List (List Value)} {es:List bH}:yD H r e→fh H rs es→fh H (r::rs) (e::es)
end
mutual
theorem yD.toC {H:AH} {c:List Value} {e:bH}:yD H c e→nK H c e
 | .mk a b c d e g h rt lt _ f le _=>.mk a b c d e g h rt (fh.Uw lt) f (fh.Uw le)
theorem fh.Uw {H:AH} {c:List (List Value)} {e:List bH}:fh H c e→hY H c e
 | .nil=>.nil
 | .cons a b=>.cons (yD.toC a) (fh.Uw b)
end
mutual
theorem yD.sub {G H:AH} (X:Sub G H) {c:List Value} {e:bH}:yD G c e→yD H c e
 | .mk a b c d e g h rt lt i f le j=>.mk a b c d e (g.sub X) (gj.sub X h) (rt.sub X) (fh.sub X lt) (i.sub X) (f.sub X) (fh.sub X le) (j.sub X)
theorem fh.sub {G H:AH} (X:Sub G H) {c:List (List Value)} {e:List bH}:fh G c e→fh H c e
 | .nil=>.nil
 | .cons a b=>.cons (yD.sub X a) (fh.sub X b)
end
theorem fh.length {H:AH}:∀{c:List (List Value)} {e:List bH},fh H c e→c.length=e.length:=fun h=>h.Uw.length
theorem fh.snoc {H:AH}:∀{rows:List (List Value)} {l:List bH} {r:List Value} {y:bH},fh H rows l→yD H r y→fh H (rows++[r]) (l++[y])
 |_,_,_,_,.nil,h=>.cons h .nil
 |_,_,_,_,.cons a b,h=>.cons a (fh.snoc b h)
theorem yD.len {H:AH} {c:List Value} {s:bH} (h:yD H c s):c.length=5:=by cases h;rfl
abbrev zS:List Value:=[.int .i64 0,.int .i64 0,.slice none 0 0,.slice none 0 0,.slice none 0 0]
theorem fv:∀l:List bH,(l.length:Int)≤aw l
 |[]=>by simp [aw]
 |x::l=>by have:=jT x;have:=fv l;simp [aw];omega
theorem xE {H1 a:AH} {n m:Nat} {z:Value} {rs:List (List Value)} {o:List bH} {cs:List Value} {s:bH} (x:H1.n0≤H1.nx) (X:Ext H1 a) (F:H1.nx≤m) (h:n≤H1.nx) (l:da H1 5 z rs) (B:fh (part H1 n (aU z)) rs o) (i:yD (part a m yC) cs s) (c:rs.length≤2^40):
 ∃d H4 f,pU 1 5 zS a [(0,5,.agg cs.toArray)]=some (.slice (some ⟨a.nx,0,none⟩) 1 1,H4)∧bL 5 88 H4 z (.slice (some ⟨a.nx,0,none⟩) 1 1)=some (d,f)∧da f 5 d (rs++[cs])∧fh (part f n (aU d)) (rs++[cs]) (o++[s])∧Mod (aU z) a f∧∀b,aU d b→a.nx≤b:=by
 have w:=X.wf x;have j:=mZ (sz:=5) (z:=zS) (H:=a) (v:=.agg cs.toArray) (by simpa using i.len) rfl rfl;simp only [dM]at j
 obtain ⟨H4,e⟩:∃H4,a.alloc (.cells 5 cs)=H4:=⟨_,rfl⟩
 obtain ⟨d,D,C,u,k,g,r,I,G,c4,c5,c6⟩:=gF (bytes:=88) w (l.ext X) i.len e (by omega) (by omega);rw [e]at j;have t:∀b,aU z b→b<H1.nx:=fun b c=>l.lt c
 have E:=X.nx;refine ⟨d,H4,D,j,C,u,fh.snoc (B.sub (eX (r.trans X.n0) (by omega) fun b y c h p=>?_)) (i.sub (eX r (by omega) fun b y c h p=>?_)),k,g⟩
 ·have A:=AH.bk c
  exact ⟨k.get (fun q=>p q) (X.get c),h,fun q=>by have:=g b q;omega⟩
 ·have A:=AH.bk c
  exact ⟨k.get (fun q=>by have:=t b q;omega) c,by omega,fun q=>by have:=g b q;omega⟩
theorem C3:∀(N:Nat) (s:bH) (c:List Value) (H:AH),SizeOf.sizeOf s<N→H.n0≤H.nx→nK H c s→bx s≤2^40→
 Ca E O 36 [.agg c.toArray] H (fun x H'=>∃cs,x= .agg cs.toArray∧yD (part H' H.nx yC) cs s∧Ext H H'):=by
 intro N
 induction N with
 |zero=>intro s c H h;omega
 |succ N ih=>
  intro s c H hN L hs mr
  cases hs with| @mk op n va vt ve ra rt re args e f i1 i2 i3 i4 i5 h1 h2 h3 h4 h5 h6=>
  refine Ca.aJ (F:=W8) rfl rfl rfl ?_;rw [bx]at mr;have na:=bh args;have nt:=bF e;have ne:=bF f;have la:=lh args;have lt:=fv e;have le:=fv f;obtain ⟨p1,q1,wo⟩:=h3.len;rw [h4.length]at wo;obtain ⟨p2,q2,sg⟩:=h5.len;rw [h6.length]at sg;have gB:=cx H (.cells 5 [.int .i64 op,.int .i64 n,va,vt,ve]);have X1:=Ext.alloc H (.cells 5 [.int .i64 op,.int .i64 n,va,vt,ve]);have d0:(H.alloc (.cells 5 [.int .i64 op,.int .i64 n,va,vt,ve])).ld ⟨H.nx,0,none⟩=some (.int .i64 op):=ai L rfl;have d1:(H.alloc (.cells 5 [.int .i64 op,.int .i64 n,va,vt,ve])).ld ⟨H.nx,1,none⟩=some (.int .i64 n):=ai L rfl;have d2:(H.alloc (.cells 5 [.int .i64 op,.int .i64 n,va,vt,ve])).ld ⟨H.nx,2,none⟩=some va:=ai L rfl;have d3:(H.alloc (.cells 5 [.int .i64 op,.int .i64 n,va,vt,ve])).ld ⟨H.nx,3,none⟩=some vt:=ai L rfl;have d4:(H.alloc (.cells 5 [.int .i64 op,.int .i64 n,va,vt,ve])).ld ⟨H.nx,4,none⟩=some ve:=ai L rfl;have d:(H.alloc (.cells 5 [.int .i64 op,.int .i64 n,va,vt,ve])).ldn ⟨H.nx,0,none⟩ 5=some [.int .i64 op,.int .i64 n,va,vt,ve]:=bj L 5 rfl;generalize cA:H.alloc (.cells 5 [.int .i64 op,.int .i64 n,va,vt,ve])=H1 at X1 d0 d1 d2 d3 d4 d;have bD:=X1.wf L;rw [cA]at gB;have X2:=Ext.alloc H1 (.cells 5 zS);have gR:=cx H1 (.cells 5 zS)
  obtain ⟨H2,iE⟩:∃H2,H1.alloc (.cells 5 zS)=H2:=⟨_,rfl⟩
  rw [iE]at X2 gR;have gT:=X2.wf bD;have fP:=X1.trans X2;have ltB:=AH.bk gB;have ltR:=AH.bk gR;have d22:=X2.ld d2;have n1:=X1.nx;have n2:=X2.nx;simp at hN;simp (maxSteps:=9^7)-implicitDefEqProofs+contextual [-X.ev,W8,cA,iE,d22];apply ah
  ·(simp-implicitDefEqProofs [-X.ev];rfl)
  refine (sJ _ args va ra H2 (apV _) gT (h1.ext fP) (h2.ext fP) (by omega) (by omega)).mono ?_;rintro x H3 ⟨w,oa,ea,X3,ka⟩;obtain ⟨t,r,hx⟩:=oa.shape;subst hx;have kn:=X3.wf gT;have n3:=X3.nx;obtain ⟨H4,s4,M4,yy,nN,RK⟩:=bV (X3.get (X2.get gB)) (by rw [X3.n0,X2.n0,X1.n0];exact L) (k:=2) (vs:=[.slice t w.length r]) (by simp);have iL:aM [.int .i64 op,.int .i64 n,va,vt,ve] 2 [.slice t w.length r]=[.int .i64 op,.int .i64 n,.slice t w.length r,vt,ve]:=rfl;rw [iL]at RK;have mK:=M4.wf kn;have lE:Ext H H4:=(fP.trans X3).mod M4 (fun b a=>by omega);have gR4:=M4.get (fun q=>by omega) (X3.get gR);have B0:H4.n0≤H.nx:=by rw [lE.n0];exact L
  have e3:=aI RK B0 (k:=3) (v:=vt) rfl;have QR:=e3;rw [wo]at QR;simp (maxSteps:=9^7)-implicitDefEqProofs+contextual [-X.ev,s4,QR];refine bZ (fun k m H'=>Ext H4 H'∧∃(i:Nat) (z:Value) (rs:List (List Value)),i+k=e.length∧m.get 1= .pointer (some ⟨H.nx,0,none⟩)∧m.get 2= .pointer (some ⟨H1.nx,0,none⟩)∧m.get 3=z∧m.get 4= .slice none 0 0∧m.get 14=vt∧m.get 15= .int .i64 e.length∧m.get 16= .int .i64 i∧da H' 5 z rs∧rs.length=i∧fh (part H' H4.nx (aU z)) rs (e.take i)∧(∀b,aU z b→H4.nx≤b)) ?_ e.length ⟨Ext.refl _,0,.slice none 0 0,[],by simp,by simp,by simp,by simp,by simp,by simp [wo],by simp,by simp,da.nil _ _,rfl,by simpa using fh.nil,fun b a=>absurd a (dv _ _ _)⟩;rintro k m p ⟨C,i,z,rs,hi,Z,W,T,R,f14,f15,f16,ow,wL,aH,kO⟩;have rk:=C.wf mK;have vu:=lE.trans C;by_cases h:i<e.length
  ·obtain ⟨y,K⟩:∃y,e[i]?=some y:=⟨_,apG h⟩
   obtain ⟨A,B,jV,oQ,oR⟩:=y;obtain ⟨b,o,c',oT,oU,oV,Ux,Uy,Uz,b9,bK,_,_,_,_,_,j1,j2,j3,j4,j5,g1,g2,g3,g4,g5,g6⟩:=hY.row (h3.ext vu) (hY.ext vu h4) K;have DJ:nK p [.int .i64 A,.int .i64 B,oT,oU,oV] (.mk A B jV oQ oR):=.mk j1 j2 j3 j4 j5 g1 g2 g3 g4 g5 g6;have oL:=aqb (apL K);have t1:=fu K;have t2:=aX e (i+1);have t3:=aX e i;have Y:=f14;rw [b9]at Y;obtain ⟨l,sH6,g,acu,acv,q,DE⟩:=fg (H:=p) rk (z:=5) (c:=[.int .i64 0,.int .i64 0,.slice none 0 0,.slice none 0 0,.slice none 0 0]) (vs:=[.int .i64 A,.int .i64 B,oT,oU,oV]) rfl;have q0:l.ld ⟨p.nx,0,none⟩=some (.int .i64 A):=DE 0 _ rfl;have q1:l.ld ⟨p.nx,1,none⟩=some (.int .i64 B):=DE 1 _ rfl;have q2:l.ld ⟨p.nx,2,none⟩=some oT:=DE 2 _ rfl;have q3:l.ld ⟨p.nx,3,none⟩=some oU:=DE 3 _ rfl;have q4:l.ld ⟨p.nx,4,none⟩=some oV:=DE 4 _ rfl;clear DE;replace q:l.ldn ⟨p.nx,0,none⟩ 5=some [.int .i64 A,.int .i64 B,oT,oU,oV]:=q;have Ou:=g.wf rk;simp (maxSteps:=9^7)-implicitDefEqProofs+contextual [-X.ev,Y,T,f15,f16,h,bK,sH6,q];apply ah
   ·(simp-implicitDefEqProofs [-X.ev];rfl)
   refine (ih _ _ l (by omega) Ou (nK.ext g DJ) (by omega)).mono ?_;rintro x M ⟨cs,rfl,hk,J⟩;obtain ⟨z',H8,H9,b8,a9,o9,s9,M9,k9⟩:=xE rk (g.trans J) g.nx C.nx ow aH hk (by omega);have n6:=g.nx;have n7:=J.nx;have n5:=C.nx;simp (maxSteps:=9^7)-implicitDefEqProofs+contextual [-X.ev,Y,T,f15,f16,b8,a9];rw [aj (n:=(i:Int)+1) ⟨by omega,by omega⟩];exact ⟨k- 1,by omega,((C.trans g).trans J).mod M9 kO,i+1,by omega,Z,W,R,b9.symm,by omega,_,o9,by simp [wL],by rw [mP K];exact s9,fun q hq=>by have:=k9 q hq;omega⟩
  rw [apN (by omega)]at aH;have gB5:=C.get RK;have B5:p.n0≤H.nx:=by rw [C.n0];exact B0
  have e4:=aI gB5 B5 (k:=4) (v:=ve) rfl;rw [sg]at e4;obtain ⟨I,D,hz⟩:=ow.shape;have n5:=C.nx;have Y:=f14;rw [wo]at Y;simp (maxSteps:=9^7)-implicitDefEqProofs+contextual [-X.ev,Z,W,T,R,Y,f15,f16,h,e4];refine bZ (fun k m H'=>Ext p H'∧∃(j:Nat) (z2:Value) (u:List (List Value)),j+k=f.length∧m.get 1= .pointer (some ⟨H.nx,0,none⟩)∧m.get 2= .pointer (some ⟨H1.nx,0,none⟩)∧m.get 3=z∧m.get 4=z2∧m.get 27=ve∧m.get 28= .int .i64 f.length∧m.get 29= .int .i64 j∧da H' 5 z2 u∧u.length=j∧fh (part H' p.nx (aU z2)) u (f.take j)∧(∀b,aU z2 b→p.nx≤b)) ?_ f.length ⟨Ext.refl _,0,.slice none 0 0,[],by simp,by simp [Z],by simp [W],by simp [T],by simp [R],by simp [sg],by simp,by simp,da.nil _ _,rfl,by simpa using fh.nil,fun b a=>absurd a (dv _ _ _)⟩;clear Z W T R f14 Y f15 f16 m;rintro k m l ⟨g,j,z2,u,hj,Z,W,T,R,f27,f28,f29,YN,acU,sj,OT⟩;have A0:=g.wf rk;have Bi:=vu.trans g;by_cases h':j<f.length
  ·obtain ⟨y,K⟩:∃y,f[j]?=some y:=⟨_,apG h'⟩
   obtain ⟨A,B,jV,oQ,oR⟩:=y;obtain ⟨b,o,c',oT,oU,oV,Ux,Uy,Uz,b9,bK,_,_,_,_,_,j1,j2,j3,j4,j5,g1,g2,g3,g4,g5,g6⟩:=hY.row (h5.ext Bi) (hY.ext Bi h6) K;have DJ:nK l [.int .i64 A,.int .i64 B,oT,oU,oV] (.mk A B jV oQ oR):=.mk j1 j2 j3 j4 j5 g1 g2 g3 g4 g5 g6;have oL:=aqb (apL K);have t1:=fu K;have t2:=aX f (j+1);have t3:=aX f j;have C4:=f27;rw [b9]at C4;obtain ⟨M,sH7,J,alD,alE,q,RL⟩:=fg (H:=l) A0 (z:=5) (c:=[.int .i64 0,.int .i64 0,.slice none 0 0,.slice none 0 0,.slice none 0 0]) (vs:=[.int .i64 A,.int .i64 B,oT,oU,oV]) rfl;have q0:M.ld ⟨l.nx,0,none⟩=some (.int .i64 A):=RL 0 _ rfl;have q1:M.ld ⟨l.nx,1,none⟩=some (.int .i64 B):=RL 1 _ rfl;have q2:M.ld ⟨l.nx,2,none⟩=some oT:=RL 2 _ rfl;have q3:M.ld ⟨l.nx,3,none⟩=some oU:=RL 3 _ rfl;have q4:M.ld ⟨l.nx,4,none⟩=some oV:=RL 4 _ rfl;clear RL;replace q:M.ldn ⟨l.nx,0,none⟩ 5=some [.int .i64 A,.int .i64 B,oT,oU,oV]:=q;have acV:=J.wf A0;simp (maxSteps:=9^7)-implicitDefEqProofs+contextual [-X.ev,C4,R,f28,f29,h',bK,sH7,q];apply ah
   ·(simp-implicitDefEqProofs [-X.ev];rfl)
   refine (ih _ _ M (by omega) acV (nK.ext J DJ) (by omega)).mono ?_;rintro x H8 ⟨cs,rfl,hk,X8⟩;obtain ⟨z',Ha,Hb,b8,a9,o9,s9,M9,k9⟩:=xE A0 (J.trans X8) J.nx g.nx YN sj hk (by omega);have n6:=g.nx;have n7:=J.nx;have n8:=X8.nx;simp (maxSteps:=9^7)-implicitDefEqProofs+contextual [-X.ev,C4,R,f28,f29,b8,a9];rw [aj (n:=(j:Int)+1) ⟨by omega,by omega⟩];exact ⟨k- 1,by omega,((g.trans J).trans X8).mod M9 OT,j+1,by omega,Z,W,T,b9.symm,by omega,_,o9,by simp [acU],by rw [mP K];exact s9,fun q hq=>by have:=k9 q hq;omega⟩
  rw [apN (by omega)]at sj;obtain ⟨Q,P,hz2⟩:=YN.shape;have n6:=g.nx;have YO:=g.get gB5;have gR6:=g.get (C.get gR4);have B6:l.n0≤H.nx:=by rw [g.n0];exact B5
  subst hz hz2;obtain ⟨M,s7,M7,YJ,CU,UA⟩:=bV YO B6 (k:=3) (vs:=[.slice I rs.length D]) (by simp);have acW:aM [.int .i64 op,.int .i64 n,.slice t w.length r,vt,ve] 3 [.slice I rs.length D]=[.int .i64 op,.int .i64 n,.slice t w.length r,.slice I rs.length D,ve]:=rfl;rw [acW]at UA;obtain ⟨H8,s8,M8,Us,DI,UB⟩:=bV UA (by rw [CU];exact B6) (k:=4) (vs:=[.slice Q u.length P]) (by simp);have OU:aM [.int .i64 op,.int .i64 n,.slice t w.length r,.slice I rs.length D,ve] 4 [.slice Q u.length P]=[.int .i64 op,.int .i64 n,.slice t w.length r,.slice I rs.length D,.slice Q u.length P]:=rfl;rw [OU]at UB;have l8:H8.ldn ⟨H.nx,0,none⟩ 5=some [.int .i64 op,.int .i64 n,.slice t w.length r,.slice I rs.length D,.slice Q u.length P]:=by rw [bM UB (by rw [DI,CU];exact B6) (by simp)];rfl
  have gR8:=M8.get (fun q=>by omega) (M7.get (fun q=>by omega) gR6);obtain ⟨H9,s9,M9,YK,RG,UC⟩:=bV gR8 (by rw [DI,CU];omega) (k:=0) (vs:=[.int .i64 op,.int .i64 n,.slice t w.length r,.slice I rs.length D,.slice Q u.length P]) (by simp);have OV:aM zS 0 [.int .i64 op,.int .i64 n,.slice t w.length r,.slice I rs.length D,.slice Q u.length P]=[.int .i64 op,.int .i64 n,.slice t w.length r,.slice I rs.length D,.slice Q u.length P]:=rfl;rw [OV]at UC;have l9:H9.ldn ⟨H1.nx,0,none⟩ 5=some [.int .i64 op,.int .i64 n,.slice t w.length r,.slice I rs.length D,.slice Q u.length P]:=by rw [bM UC (by rw [RG,DI,CU];omega) (by simp)];rfl
  have C4:=f27;rw [sg]at C4;simp (maxSteps:=9^7)-implicitDefEqProofs+contextual [-X.ev,Z,W,T,R,C4,f28,f29,h',s7,s8,l8,s9,l9]
  have key:∀b x,H.nx≤b→b≠H.nx→b≠H1.nx→l.get b=some x→H9.get b=some x∧H.nx≤b∧¬ yC b:=fun b x a h1 h2 hg=>⟨M9.get h2 (M8.get h1 (M7.get h1 hg)),a,fun q=>q⟩
  have e09:H9.n0=l.n0:=RG.trans (DI.trans CU);have xa9:Sub (part H3 H2.nx yC) (part H9 H.nx yC):=eX (by rw [e09,g.n0,C.n0,nN]) (by omega) fun b x a hn _=>key b x (by omega) (by omega) (by omega) (g.get (C.get (M4.get (fun q=>by omega) a)))
  have V:Sub (part p H4.nx yC) (part H9 H.nx yC):=eX (by rw [e09,g.n0]) (by omega) fun b x a hn _=>key b x (by omega) (by omega) (by omega) (g.get a)
  have U:Sub (part l p.nx yC) (part H9 H.nx yC):=eX e09 (by omega) fun b x a hn _=>key b x (by omega) (by omega) (by omega) a
  have un:∀(G:AH) (k:Nat) (S:Nat→Prop),Sub (part G k S) (part G k yC):=fun G k S=>eX rfl (apK _) fun b x a hn _=>⟨a,hn,fun q=>q⟩
  refine ⟨.mk i1 i2 i3 i4 i5 (da.part (n:=H2.nx) (S:=yC) oa (fun b a=>⟨ka b a,fun q=>q⟩)|>.sub xa9).rows (ea.sub ((un _ _ _).trans xa9)) (da.part (n:=H4.nx) (S:=yC) ow (fun b a=>⟨kO b a,fun q=>q⟩)|>.sub V).rows (aH.sub ((un _ _ _).trans V)) (da.part (n:=H4.nx) (S:=yC) ow (fun b a=>⟨kO b a,fun q=>q⟩)|>.sub V).fit (da.part (n:=p.nx) (S:=yC) YN (fun b a=>⟨OT b a,fun q=>q⟩)|>.sub U).rows (sj.sub ((un _ _ _).trans U)) (da.part (n:=p.nx) (S:=yC) YN (fun b a=>⟨OT b a,fun q=>q⟩)|>.sub U).fit,?_⟩;exact (((Bi.mod M7 (fun b a=>by omega)).mod M8 (fun b a=>by omega)).mod M9 (fun b a=>by omega))
end
section
open Go
structure fU (H:AH) (sz:Nat) (v:Value) (rows:List (List Value)):Prop where
 is:(v= .slice none 0 0∧rows=[])∨∃b c oW,v= .slice (some ⟨b,0,none⟩) rows.length c∧H.n0≤b∧H.get b=some (.cells sz (rows.flatten++oW))∧rows.length*sz+oW.length=c*sz∧rows.length≤c
 len:∀r∈rows,r.length=sz
theorem da.Kf {H:AH} {sz:Nat} {v:Value} {rows:List (List Value)} (h:da H sz v rows):fU H sz v rows:=by
 refine ⟨?_,h.len⟩;rcases h.is with⟨rfl,rfl⟩|⟨b,rfl,c,a⟩
 ·exact .inl ⟨rfl,rfl⟩
 ·exact .inr ⟨b,_,[],rfl,c,by simpa using a,by simp,apK _⟩
theorem fU.lt {H:AH} {sz b:Nat} {v:Value} {rows:List (List Value)} (h:fU H sz v rows) (a:aU v b):b<H.nx:=by
 rcases h.is with⟨rfl,_⟩|⟨e,c,j,rfl,_,d,_⟩
 ·exact absurd a (dv _ _ _)
 ·rw [(aS _ _ _ _ _).1 a];exact AH.bk d
theorem fU.shape {H:AH} {sz:Nat} {v:Value} {rows:List (List Value)} (h:fU H sz v rows):∃a c,v= .slice a rows.length c:=by
 rcases h.is with⟨rfl,rfl⟩|⟨b,c,j,rfl,_⟩
 ·exact ⟨_,_,rfl⟩
 ·exact ⟨_,_,rfl⟩
theorem fU.mod {S:Nat→Prop} {H H':AH} {sz:Nat} {v:Value} {rows:List (List Value)} (h:fU H sz v rows) (M:Mod S H H') (hs:∀b,aU v b→¬ S b):fU H' sz v rows:=by
 refine ⟨?_,h.len⟩;rcases h.is with⟨rfl,rfl⟩|⟨b,c,j,rfl,e,a,d,h2⟩
 ·exact .inl ⟨rfl,rfl⟩
 ·exact .inr ⟨b,c,j,rfl,by rw [M.n0];exact e,M.get (hs b ((aS _ _ _ _ _).2 rfl)) a,d,h2⟩
theorem fU.ext {H H':AH} {sz:Nat} {v:Value} {rows:List (List Value)} (h:fU H sz v rows) (X:Ext H H'):fU H' sz v rows:=h.mod (Mod.bU (S:=fun _=>False) X) (by simp)
theorem fU.rows {H:AH} {sz:Nat} {v:Value} {rows:List (List Value)} (h:fU H sz v rows):Rows H sz v rows:=by
 rcases h.is with⟨rfl,rfl⟩|⟨b,c,j,rfl,d,a,f,h2⟩
 ·exact ⟨_,_,rfl,by simp⟩
 ·refine ⟨_,_,rfl,fun i r hi=>⟨b,0,rfl,?_⟩⟩
  obtain ⟨e,g⟩:=jc h.len hi;rw [bM a d (by simp only [apP];omega)];rw [Nat.zero_add,List.drop_append_of_le_length (by omega),List.take_append_of_le_length (by rw [List.length_drop];omega)];rw [e]
theorem mQ (a b c d:List Value) (h:b.length=c.length):aM (a++(b++d)) a.length c=a++(c++d):=by
 induction a with
 |nil=>
  have:aM (b++d) 0 c=c++(b++d).drop c.length:=by cases (b++d)<;>rfl
  rw [List.nil_append,List.length_nil,this,←h,List.drop_left];rfl
 |cons x a ih=>simp only [List.cons_append,List.length_cons,aM,ih]
theorem fU.push {H H1:AH} {sz bytes:Nat} {s:Value} {rows:List (List Value)} {r:List Value} (u:H.n0≤H.nx) (hs:fU H sz s rows) (N:0<sz) (m:r.length=sz) (B:H.alloc (.cells sz r)=H1) (i:(rows.length+1)*bytes≤2^47) (w:rows.length+1<2^62):
 ∃d H',bL sz bytes H1 s (.slice (some ⟨H.nx,0,none⟩) 1 1)=some (d,H')∧fU H' sz d (rows++[r])∧Mod (aU s) H H'∧(∀b,aU d b→aU s b∨H.nx≤b)∧H'.n0=H.n0∧H.nx≤H'.nx∧H1.nx≤H'.nx:=by
 rcases hs.is with⟨rfl,rfl⟩|⟨b,c,n,rfl,y,v,z,O⟩
 ·obtain ⟨d,H',a,o,M,k,l,j,wf,D,C,t⟩:=gF (bytes:=bytes) u (da.nil H sz) m B i w
  exact ⟨d,H',a,o.Kf,M,fun b i=>.inr (k b i),l,j,t⟩
 subst B;have X:=Ext.alloc H (.cells sz r);have f:=X.get v
 have J:∀q∈rows++[r],q.length=sz:=by
  intro q p;rcases ap0.1 p with h|h
  ·exact hs.len q h
  ·simp at h;subst h;exact m
 have I:pJ (H.alloc (.cells sz r)) sz (.slice (some ⟨H.nx,0,none⟩) 1 1)=some r:=by
  have:=ri u sz r;rw [m]at this;simp [pJ,nb,this,m]
 have F:(H.alloc (.cells sz r)).lz b sz=true:=vA f (apK _);have K:=bW hs.len;by_cases room:rows.length+1≤c
 ·have A:sz≤n.length:=by
   have:(rows.length+1)*sz≤c*sz:=Nat.mul_le_mul_right _ room;rw [Nat.succ_mul]at this;omega
  obtain ⟨H',st,M,j,l,g⟩:=bV f (by exact y) (k:=rows.length*sz) (vs:=r) (by simp only [apP];omega);refine ⟨.slice (some ⟨b,0,none⟩) (rows.length+1) c,H',?_,⟨.inr ⟨b,c,n.drop sz,by simp,by rw [l];exact y,?_,?_,by simpa using room⟩,J⟩,(Mod.bU X).trans (M.mono fun x _ G=>(aS _ _ _ _ _).2 G),fun q p=>.inl ?_,l.trans X.n0,by rw [j];exact X.nx,by rw [j];exact apK _⟩
  ·simp [bL,mW,I,i,w,room,F,st]
  ·rw [g]
   have e:=mQ rows.flatten (n.take sz) r (n.drop sz) (by rw [List.length_take,m];omega);rw [List.take_append_drop,K]at e;rw [e];simp
  ·simp only [apP,List.length_drop,List.length_singleton,Nat.succ_mul];omega
  ·rw [aS]at p⊢;exact p
 ·have L:c=rows.length:=by omega
  subst L;have A:n=[]:=aqe (by omega);subst A;rw [List.append_nil]at v f
  have E:da H sz (.slice (some ⟨b,0,none⟩) rows.length rows.length) rows:=⟨.inr ⟨b,rfl,y,v⟩,hs.len⟩
  obtain ⟨d,H',a,o,M,k,l,j,wf,D,C,t⟩:=gF (bytes:=bytes) u E m rfl i w;exact ⟨d,H',a,o.Kf,M,fun b i=>.inr (k b i),l,j,t⟩
theorem fU.last {H:AH} {sz:Nat} {v:Value} {rows:List (List Value)} {r:List Value} (h:fU H sz v (rows++[r])):∃b c,v= .slice (some ⟨b,0,none⟩) (rows.length+1) c∧rows.length+1≤c∧H.n0≤b∧b<H.nx∧H.lz b sz=true∧H.ldn ⟨b,rows.length*sz,none⟩ sz=some r∧
 (∀(j:Nat) (x:Value),j<sz→∃H',H.st ⟨b,rows.length*sz+j,none⟩ [x]=some H'∧fU H' sz v (rows++[r.set j x])∧Mod (fun q=>q=b) H H'∧H'.nx=H.nx∧H'.n0=H.n0)∧fU H sz (.slice (some ⟨b,0,none⟩) rows.length c) rows:=by
 rcases h.is with⟨_,e⟩|⟨b,c,f,rfl,m,l,a,p⟩
 ·simp at e
 have n:∀q∈rows,q.length=sz:=fun q d=>h.len q (by simp [d])
 have u:=h.len r (by simp);have y:=bW n;simp only [apP,List.length_singleton]at a p;refine ⟨b,c,by simp,p,m,AH.bk l,vA l (apK _),?_,fun j x B=>?_,⟨.inr ⟨b,c,r++f,rfl,m,by simpa using l,by rw [Nat.succ_mul]at a;simp only [apP];omega,by omega⟩,n⟩⟩
 ·obtain ⟨D,o,C,e,w⟩:=h.rows.at (i:=rows.length) (r:=r) (by simp)
  cases e
  simpa using w
 ·obtain ⟨H',st,M,t,s,g⟩:=bV l m (k:=rows.length*sz+j) (vs:=[x]) (by rw [apP,bW h.len];simp only [apP,List.length_singleton,Nat.succ_mul];omega)
  refine ⟨H',st,⟨.inr ⟨b,c,f,by simp,by rw [s];exact m,?_,by simpa using a,by simpa using p⟩,?_⟩,M,t,s⟩
  ·rw [g]
   have e:r=r.take j++([r[j]'(by omega)]++r.drop (j+1)):=by
    rw [←ap5];simp
   have A:r.set j x=r.take j++([x]++r.drop (j+1)):=by rw [List.set_eq_take_append_cons_drop,if_pos (by omega)];rfl
   have:=mQ (rows.flatten++r.take j) [r[j]'(by omega)] [x] (r.drop (j+1)++f) rfl;rw [apP,List.length_take,y,Nat.min_eq_left (by omega)]at this
   have z:(rows++[r]).flatten++f=rows.flatten++r.take j++([r[j]'(by omega)]++(r.drop (j+1)++f)):=by
    simp only [List.flatten_append,List.flatten_cons,List.flatten_nil,List.append_nil,ap5];congr 1
    conv=>lhs;rw [e]
    simp only [ap5]
   rw [z,this];simp only [List.flatten_append,List.flatten_cons,List.flatten_nil,List.append_nil,ap5,A]
  ·intro q d
   rcases ap0.1 d with d|d
   ·exact n q d
   ·simp at d;subst d;simpa using u
theorem Bj:∀(N:Nat) (s:bH) (c:List Value) (H:AH),SizeOf.sizeOf s<N→H.n0≤H.nx→nK H c s→bx s<2^60→
 Ca E O 103 [.agg c.toArray] H (fun x H'=>x= .int .i64 (bA s)∧Ext H H'):=by
 intro N
 induction N with
 |zero=>intro s c H h;omega
 |succ N ih=>
  intro s c H hN v hs mr
  cases hs with| @mk op n va vt ve ra rt re args a e i1 i2 i3 i4 i5 h1 h2 h3 h4 h5 h6=>
  refine Ca.aJ (F:=IX) rfl rfl rfl ?_;rw [bx]at mr;have na:=bh args;have nt:=bF a;have ne:=bF e;obtain ⟨p1,q1,M⟩:=h3.len;rw [h4.length]at M;obtain ⟨p2,q2,P⟩:=h5.len;rw [h6.length]at P;have X1:=Ext.alloc H (.cells 5 [.int .i64 op,.int .i64 n,va,vt,ve]);have d0:(H.alloc (.cells 5 [.int .i64 op,.int .i64 n,va,vt,ve])).ld ⟨H.nx,0,none⟩=some (.int .i64 op):=ai v rfl;have d1:(H.alloc (.cells 5 [.int .i64 op,.int .i64 n,va,vt,ve])).ld ⟨H.nx,1,none⟩=some (.int .i64 n):=ai v rfl;have d2:(H.alloc (.cells 5 [.int .i64 op,.int .i64 n,va,vt,ve])).ld ⟨H.nx,2,none⟩=some va:=ai v rfl;have d3:(H.alloc (.cells 5 [.int .i64 op,.int .i64 n,va,vt,ve])).ld ⟨H.nx,3,none⟩=some vt:=ai v rfl;have d4:(H.alloc (.cells 5 [.int .i64 op,.int .i64 n,va,vt,ve])).ld ⟨H.nx,4,none⟩=some ve:=ai v rfl;have d:(H.alloc (.cells 5 [.int .i64 op,.int .i64 n,va,vt,ve])).ldn ⟨H.nx,0,none⟩ 5=some [.int .i64 op,.int .i64 n,va,vt,ve]:=bj v 5 rfl;generalize cA:H.alloc (.cells 5 [.int .i64 op,.int .i64 n,va,vt,ve])=H1 at X1 d0 d1 d2 d3 d4 d;have bD:=X1.wf v;have K:=d3;rw [M]at K;simp at hN;simp (maxSteps:=9^7)-implicitDefEqProofs+contextual [-X.ev,IX,cA,K];refine bZ (fun k m H'=>Ext H1 H'∧∃i:Nat,i+k=a.length∧m.get 1= .pointer (some ⟨H.nx,0,none⟩)∧m.get 9=vt∧m.get 10= .int .i64 a.length∧m.get 11= .int .i64 i∧m.get 3= .int .i64 (1+al (a.take i))) ?_ a.length ⟨Ext.refl _,0,by simp,by simp,by simp [M],by simp,by simp,by simp [al]⟩;rintro k m t ⟨R,i,hi,f1,Q,f10,f11,p⟩;have gT:=R.wf bD;have fP:=X1.trans R;have bt:=aR a;have be:=aR e;by_cases h:i<a.length
  ·obtain ⟨y,r⟩:∃y,a[i]?=some y:=⟨_,apG h⟩
   have oL:=aqb (apL r);have t1:=fu r;have t2:=aX a (i+1);have t3:=aX a i;have u1:=fY r;have u2:=cl a i;have u3:=cl a (i+1);obtain ⟨g,l,I,D,G⟩:=y;obtain ⟨b,o,c',oT,oU,oV,Ux,Uy,Uz,J,bK,_,_,_,_,_,Y,W,V,U,T,g1,g2,g3,g4,g5,g6⟩:=hY.row (h3.ext fP) (hY.ext fP h4) r;have Z:nK t [.int .i64 g,.int .i64 l,oT,oU,oV] (.mk g l I D G):=.mk Y W V U T g1 g2 g3 g4 g5 g6;have w:=Q;rw [J]at w;obtain ⟨f,DD,A,FB,FC,q,C⟩:=fg (H:=t) gT (z:=5) (c:=[.int .i64 0,.int .i64 0,.slice none 0 0,.slice none 0 0,.slice none 0 0]) (vs:=[.int .i64 g,.int .i64 l,oT,oU,oV]) rfl;have q0:f.ld ⟨t.nx,0,none⟩=some (.int .i64 g):=C 0 _ rfl;have q1:f.ld ⟨t.nx,1,none⟩=some (.int .i64 l):=C 1 _ rfl;have q2:f.ld ⟨t.nx,2,none⟩=some oT:=C 2 _ rfl;have q3:f.ld ⟨t.nx,3,none⟩=some oU:=C 3 _ rfl;have q4:f.ld ⟨t.nx,4,none⟩=some oV:=C 4 _ rfl;clear C;replace q:f.ldn ⟨t.nx,0,none⟩ 5=some [.int .i64 g,.int .i64 l,oT,oU,oV]:=q;have xp:=A.wf gT;have S:IntKind.i64.wrap (1+al (a.take i)+bA (.mk g l I D G))=1+al (a.take (i+1)):=by rw [aj ⟨by omega,by omega⟩];omega
   simp (maxSteps:=9^7)-implicitDefEqProofs+contextual [-X.ev,w,p,f10,f11,h,bK,DD,q];apply ah
   ·(simp-implicitDefEqProofs [-X.ev];rfl)
   refine (ih _ _ f (by omega) xp (nK.ext A Z) (by omega)).mono ?_;rintro x u ⟨rfl,L⟩;simp (maxSteps:=9^7)-implicitDefEqProofs+contextual [-X.ev,w,p,f10,f11,S];rw [aj (n:=(i:Int)+1) ⟨by omega,by omega⟩];exact ⟨k- 1,by omega,(R.trans A).trans L,i+1,by omega,f1,J.symm,by simp,rfl⟩
  rw [apN (by omega)]at p;have e4:=R.ld d4;rw [P]at e4;rw [M]at Q;simp (maxSteps:=9^7)-implicitDefEqProofs+contextual [-X.ev,f1,Q,p,f10,f11,h,e4];refine bZ (fun k m H'=>Ext t H'∧∃j:Nat,j+k=e.length∧m.get 21=ve∧m.get 22= .int .i64 e.length∧m.get 23= .int .i64 j∧m.get 3= .int .i64 (1+al a+al (e.take j))) ?_ e.length ⟨Ext.refl _,0,by simp,by simp [P],by simp,by simp,by simp [al,p]⟩;clear f1 Q f10 f11 p m;rintro k m f ⟨A,j,hj,f21,f22,f23,p⟩;have kn:=A.wf gT;have gM:=fP.trans A;by_cases h':j<e.length
  ·obtain ⟨y,r⟩:∃y,e[j]?=some y:=⟨_,apG h'⟩
   have oL:=aqb (apL r);have t1:=fu r;have t2:=aX e (j+1);have t3:=aX e j;have u1:=fY r;have u2:=cl e j;have u3:=cl e (j+1);obtain ⟨g,l,I,D,G⟩:=y;obtain ⟨b,o,c',oT,oU,oV,Ux,Uy,Uz,J,bK,_,_,_,_,_,Y,W,V,U,T,g1,g2,g3,g4,g5,g6⟩:=hY.row (h5.ext gM) (hY.ext gM h6) r;have Z:nK f [.int .i64 g,.int .i64 l,oT,oU,oV] (.mk g l I D G):=.mk Y W V U T g1 g2 g3 g4 g5 g6;have OW:=f21;rw [J]at OW;obtain ⟨u,Ud,L,Ue,Uf,q,B⟩:=fg (H:=f) kn (z:=5) (c:=[.int .i64 0,.int .i64 0,.slice none 0 0,.slice none 0 0,.slice none 0 0]) (vs:=[.int .i64 g,.int .i64 l,oT,oU,oV]) rfl;have q0:u.ld ⟨f.nx,0,none⟩=some (.int .i64 g):=B 0 _ rfl;have q1:u.ld ⟨f.nx,1,none⟩=some (.int .i64 l):=B 1 _ rfl;have q2:u.ld ⟨f.nx,2,none⟩=some oT:=B 2 _ rfl;have q3:u.ld ⟨f.nx,3,none⟩=some oU:=B 3 _ rfl;have q4:u.ld ⟨f.nx,4,none⟩=some oV:=B 4 _ rfl;clear B;replace q:u.ldn ⟨f.nx,0,none⟩ 5=some [.int .i64 g,.int .i64 l,oT,oU,oV]:=q;have J0:=L.wf kn;have S:IntKind.i64.wrap (1+al a+al (e.take j)+bA (.mk g l I D G))=1+al a+al (e.take (j+1)):=by rw [aj ⟨by omega,by omega⟩];omega
   simp (maxSteps:=9^7)-implicitDefEqProofs+contextual [-X.ev,OW,p,f22,f23,h',bK,Ud,q];apply ah
   ·(simp-implicitDefEqProofs [-X.ev];rfl)
   refine (ih _ _ u (by omega) J0 (nK.ext L Z) (by omega)).mono ?_;rintro x H5 ⟨rfl,X5⟩;simp (maxSteps:=9^7)-implicitDefEqProofs+contextual [-X.ev,OW,p,f22,f23,S];rw [aj (n:=(j:Int)+1) ⟨by omega,by omega⟩];exact ⟨k- 1,by omega,(A.trans L).trans X5,j+1,by omega,J.symm,by simp,rfl⟩
  rw [apN (by omega)]at p;rw [P]at f21;simp (maxSteps:=9^7)-implicitDefEqProofs+contextual [-X.ev,f21,p,f22,f23,h',bA];exact gM
end
end Go.Proofs.YtppcmpmnglaleaaGreat.A
