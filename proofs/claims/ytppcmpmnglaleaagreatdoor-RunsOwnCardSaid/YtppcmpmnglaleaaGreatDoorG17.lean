/- Texts that stand one behind the other: AbsR, S24, S25, S26, S27, S28, S29, S30, S31, S32, S33, S34, S35, S36, S37, S38. -/
import Derived.Test.YtppcmpmnglaleaaGreatDoorG16
import Derived.SizedLaws
import Derived.OpenShut
import Derived.ProofKit
import Derived.ChangeOld
import Derived.ShutString
set_option linter.unusedVariables false
set_option linter.unusedSimpArgs false
namespace Go.Proofs.YtppcmpmnglaleaaGreatDoor.A
section
open Go Go.RowKit Go.WideShapes Go.ChangeShapes
section
variable{T:Type} {enc:TypeId×Value→T} {P:Program} {W:World}
theorem N7 {α:Type} {l:List α} (h:l.length=2):∃a b,l=[a,b]:=by
 match l,h with
 |[a,b],_=>exact ⟨a,b,rfl⟩
theorem GM {α:Type} {l:List α} (h:l.length=3):∃a b c,l=[a,b,c]:=by
 match l,h with
 |[a,b,c],_=>exact ⟨a,b,c,rfl⟩
def Rd (enc:TypeId×Value→T) (P:Program) (W:World) (n:Nat) (t:TypeId) (cs:List Value) (d:DataW T):Prop:=∃ps,DataW.trod enc P W 0 (fun _=>true) true n t cs=some (d,ps)
def xV (P:Program) (t:TypeId) (d:DataW T):Prop:=∀n∈d.weights P t,n≤reachBytes
theorem jT {n:Nat} {t:TypeId} {k:IntKind} {cs:List Value} {d:DataW T} (a:P.underlying t=some (.int k)) (h:Rd enc P W n t cs d):∃m,cs=[.int k m]∧(Lit.int k m).wf=true:=by
 obtain ⟨ps,h⟩:=h;obtain ⟨m,b,_,h2⟩:=DataW.trod_int a h;exact ⟨m,b,h2⟩
theorem wf_i64 {m:Int} (h:(Lit.int .i64 m).wf=true):jR m:=by
 have:=bounds_i64 h;unfold jR;omega
theorem QG {n:Nat} {t:TypeId} {cs:List Value} {d:DataW T} (b:P.underlying t=some .string) (h:Rd enc P W n t cs d) (a:xV P t d):∃s:ByteArray,cs=[.string s]∧s.size≤reachBytes:=by
 obtain ⟨ps,h⟩:=h;obtain ⟨s,c,h2,_⟩:=DataW.trod_string b h;cases h2;have:=a s.data.toList.length (by simp [DataW.weights]);exact ⟨s,c,by simpa using this⟩
theorem BH {b o:Nat} {v:Value} (h:W.cell? ⟨b,o,none⟩=some v):∃arr ty d,W.heap[b]?=some (.cells arr ty d)∧arr[o]?=some v:=by
 unfold World.cell? at h;dsimp only at h;split at h
 ·rename_i c e f a
  simp at h;exact ⟨c,e,f,a,h⟩
 ·cases h
theorem Lm {b o n:Nat} {cs l:List Value} (m:0<n) (s:cs.length=n) (h:∀j,j<n→W.cell? ⟨b,o+j,none⟩=cs[j]?) (q:aL W.heap.size cs=some l):b<W.heap.size∧(H0 W).ldn ⟨b,o,none⟩ n=some l:=by
 obtain ⟨arr,ty,u,f,t⟩:=BH (b:=b) (o:=o) (v:=cs[0]'(by omega)) (by have:=h 0 m;rw [Nat.add_zero]at this;rw [this];exact aqG (by omega));have d:=(aqU.1 f).1;refine ⟨d,?_⟩
 have c:∀j,j<n→arr[o+j]?=cs[j]?:=by
  intro j c;have:=h j c;obtain ⟨i,_,_,g,r⟩:=BH (v:=cs[j]'(by omega)) (by rw [this];exact aqG (by omega));rw [f]at g;cases g;rw [r,aqG (by omega)]
 have a:o+n≤arr.toList.length:=by
  have:=c (n- 1) (by omega);rw [aqG (by omega)]at this;have:=(aqU.1 this).1;rw [Array.length_toList];omega
 have k:(arr.toList.drop o).take n=cs:=by
  apply List.ext_getElem?;intro j;by_cases e:j<n
  ·rw [arf,if_pos e,arl,Array.getElem?_toList,c j e]
  ·rw [arf,if_neg e,arn (by omega)]
 have p:(H0 W).get b=some (.cells 1048576 arr.toList):=by
  rw [AH.eO d,zK];unfold uk;rw [f]
 unfold AH.ldn;dsimp only;rw [p];simp only [a,decide_true,cond_true,k];rw [show decide (b<(H0 W).n0)=true from decide_eq_true d,cond_true];exact q
inductive fg {α β:Type} (C:α→β→Prop):List α→List β→Prop where
 |nil:fg C [] []
 |cons {a:α} {b:β} {l:List α} {m:List β}:C a b→fg C l m→fg C (a::l) (b::m)
theorem fg.length {α β:Type} {C:α→β→Prop}:∀{l:List α} {m:List β},fg C l m→l.length=m.length
 |_,_,.nil=>rfl
 |_,_,.cons _ h=>by simp [fg.length h]
theorem Ln {α β:Type} {C:α→β→Prop} {l:List α}:(∀(i:Nat) (a:α),l[i]?=some a→∃b,C a b)→∃m,fg C l m:=by
 induction l with
 |nil=>exact fun _=>⟨[],.nil⟩
 |cons a l ih=>
  intro h;obtain ⟨b,e⟩:=h 0 a rfl;obtain ⟨m,d⟩:=ih fun i x c=>h (i+1) x (by simpa using c)
  exact ⟨b::m,.cons e d⟩
theorem BI {α:Type} {p:Nat→α→Prop}:∀n,(∀i,i<n→∃x,p i x)→∃l:List α,l.length=n∧∀i x,l[i]?=some x→p i x
 |0,_=>⟨[],rfl,by simp⟩
 |n+1,h=>by
  obtain ⟨l,b,d⟩:=BI n fun i hi=>h i (by omega)
  obtain ⟨x,c⟩:=h n (by omega);refine ⟨l++[x],by simp [b],fun i y a=>?_⟩;by_cases hi:i<n
  ·rw [aqT (by omega)]at a;exact d i y a
  ·rw [aqX (by omega)]at a
   have:i=n:=by
    have:=(aqM.1 a).1;simp at this;omega
   subst this;simp [b]at a;subst a;exact c
theorem Lo {α:Type} {C:List Value→α→Prop} {t e:TypeId} {fuel:Nat} {cs:List Value} {d:DataW T} (F:P.underlying t=some (.slice e)) (K:0<P.cellsOf e) (V:0<P.bytesOf e)
 (h:Rd enc P W fuel t cs d) (O:xV P t d) (rd:∀m c9 g,m<fuel→Rd enc P W m e c9 g→xV P e g→∃l y,aL W.heap.size c9=some l∧C l y):
 ∃v rows ys,aL W.heap.size cs=some [v]∧Rows (H0 W) (P.cellsOf e) v rows∧fg C rows ys∧rows.length*P.bytesOf e≤reachBytes:=by
 obtain ⟨ps,h⟩:=h;rcases DataW.trod_slice F h with⟨rfl,_⟩|⟨a,len,cap,elems,rest,n,hf,rfl,q,_,YM,_,s,A,_,_⟩
 ·exact ⟨_,[],[],rfl,⟨_,_,rfl,by simp⟩,.nil,by simp⟩
 cases q
 have E:∀m∈((elems.map (·.1)).length+(rest.map (·.1)).length)*P.bytesOf e::(DataW.weightsAll P e (elems.map (·.1))++DataW.weightsAll P e (rest.map (·.1))),m≤reachBytes:=by
  intro m f;refine O m ?_;simp only [DataW.weights,F];exact f
 have U:len*P.bytesOf e≤reachBytes:=by
  have:=E _ (List.mem_cons_self ..);rw [List.length_map,s]at this;exact aq2 (Nat.mul_le_mul_right _ (by omega)) this
 have Y:∀(l:List (DataW T)) (x:DataW T),x∈l→∀m∈x.weights P e,m∈DataW.weightsAll P e l:=by
  intro l
  induction l with
  |nil=>intro x q;cases q
  |cons y l ih=>
   intro x q m f;simp only [DataW.weightsAll,aq0];rcases aqY.1 q with rfl|q
   ·exact .inl f
   ·exact .inr (ih x q m f)
 by_cases Z:len=0
 ·subst Z
  cases G:(decide (a.block<W.heap.size)&&a.spot.isNone)with
  |true=>exact ⟨.slice (some a) 0 cap,[],[],by simp only [aL,aX,G,cond_true],⟨_,_,rfl,by simp⟩,.nil,by simp⟩
  |false=>exact ⟨.slice (some ⟨0,0,some 1⟩) 0 0,[],[],by simp [aL,aX,G],⟨_,_,rfl,by simp⟩,.nil,by simp⟩
 obtain ⟨b,o,spot⟩:=a
 have key:∀i,i<len→∃c9 g,(∃m,m<fuel∧Rd enc P W m e c9 g)∧xV P e g∧W.cells? 0 ((⟨b,o,spot⟩:Addr).add (i*P.cellsOf e)) (P.cellsOf e)=some c9:=by
  intro i hi;have:=A i hi;rw [aqG (by omega)]at this;obtain ⟨c9,D,h2⟩:=aqR.1 this;refine ⟨c9,(elems[i]'(by omega)).1,⟨n,by omega,⟨_,h2⟩⟩,fun m f=>?_,D⟩;refine E m (List.mem_cons_of_mem _ (List.mem_append_left _ (Y _ _ ?_ m f)));exact List.mem_map_of_mem (List.getElem_mem _)
 have Q:spot=none∧b<W.heap.size:=by
  obtain ⟨c9,g,_,_,B⟩:=key 0 (by omega);obtain ⟨_,J,z⟩:=World.cells?_some B;have:=z 0 K;rw [aqG (by omega)]at this;simp only [Nat.zero_mul,Addr.add,if_true]at this;unfold World.cell? at this;dsimp only at this;split at this
  ·rename_i c ty fz S
   cases spot with
   |none=>exact ⟨rfl,(aqU.1 S).1⟩
   |some x=>simp at this
  ·cases this
 obtain ⟨rfl,X⟩:=Q
 have L:∀o k,(⟨b,o,none⟩:Addr).add k=⟨b,o+k,none⟩:=by
  intro o k;unfold Addr.add;split
  ·rename_i R;subst R;rfl
  ·rfl
 obtain ⟨rows,I,H⟩:=BI (p:=fun i (r:List Value)=>(∃y,C r y)∧(H0 W).ldn ⟨b,o+i*P.cellsOf e,none⟩ (P.cellsOf e)=some r) len (fun i hi=>by
  obtain ⟨c9,g,⟨m,f,u⟩,N,B⟩:=key i hi;obtain ⟨l,y,D,h2⟩:=rd m c9 g f u N;obtain ⟨_,J,z⟩:=World.cells?_some B;refine ⟨l,⟨y,h2⟩,(Lm K J (fun j w=>?_) D).2⟩;have:=z j w;rw [L,L]at this
  exact this)
 obtain ⟨ys,M⟩:=Ln (l:=rows) (C:=C) fun i r u=>(H i r u).1
 refine ⟨.slice (some ⟨b,o,none⟩) len cap,rows,ys,?_,⟨_,_,by rw [I],fun i r hi=>⟨b,o,rfl,(H i r hi).2⟩⟩,M,by rw [I];exact U⟩;simp [aL,aX,X]
theorem mM {t:TypeId} {fs:Array Field} {fuel:Nat} {cs:List Value} {d:DataW T} (a:P.underlying t=some (.struct fs)) (h:Rd enc P W fuel t cs d) (c:xV P t d):
 cs.length=P.cellsOf t∧∃m,m<fuel∧∀(i:Nat) (f:Field),fs[i]?=some f→∃di,Rd enc P W m f.type ((cs.drop f.offset).take (P.cellsOf f.type)) di∧xV P f.type di:=by
 obtain ⟨ps,h⟩:=h;obtain ⟨xs,n,p,b,g,l,k⟩:=DataW.trod_struct a h;cases b;refine ⟨g,n,by omega,fun i f hi=>?_⟩;have o:=(aqU.1 hi).1;have:=k i f hi;rw [aqG (by omega)]at this;refine ⟨_,⟨_,this⟩,fun m e=>c m ?_⟩;simp only [DataW.weights,a];exact DataW.weights_mem_each (j:=i) (t:=f.type) (d:=(xs[i]'(by omega)).1) (by simp [hi]) (by simp [aqG (show i<xs.length by omega)]) m e
theorem ee {a:Nat} {k:IntKind} {m:Int} {cs l:List Value} (h:aL a cs=some l):aL a (.int k m::cs)=some (.int k m::l):=by simp [aL,aX,flat,h]
theorem Ag {a:Nat} {s:ByteArray} {cs l:List Value} (h:aL a cs=some l):aL a (.string s::cs)=some (.string s::l):=by simp [aL,aX,flat,h]
theorem lW {b:Nat} {c v:Value} {cs l:List Value} (a:aL b [c]=some [v]) (h:aL b cs=some l):aL b (c::cs)=some (v::l):=by
 simp only [aL]at a⊢;split at a
 ·rename_i x m h2 d
  simp only [aqH]at d;subst d;simp only [aqH,List.cons.injEq,and_true]at a;subst a;simp [h2,h]
 ·cases a
theorem Lp {c:Array Value} {l:List Value} (h:aL W.heap.size c.toList=some l):V (q9 W) (.agg l.toArray) (.agg c):=by
 obtain ⟨a,h2⟩:=oF (UH W) (l:=c.toList) (m:=l) h;exact .agg (by simpa using a) (by simpa using h2)
end
end
section
open Go
section
variable{T:Type} {enc:TypeId×Value→T} {W:World}
theorem DJ {n k:Nat} (h:n*k≤reachBytes) (a:0<k):n<2^60:=by
 have b:n*1≤n*k:=Nat.mul_le_mul_left _ a;have:reachBytes<2^47:=reachBytes_lt;omega
theorem cE:Tryz.prog.cellsOf 117=4:=by kernel_rfl
theorem cS:Tryz.prog.cellsOf 114=5:=by kernel_rfl
theorem cV:Tryz.prog.cellsOf 108=3:=by kernel_rfl
theorem cP:Tryz.prog.cellsOf 25=3:=by kernel_rfl
theorem cI:Tryz.prog.cellsOf 3=1:=by kernel_rfl
theorem cZ:Tryz.prog.cellsOf 9=1:=by kernel_rfl
theorem cEs:Tryz.prog.cellsOf 112=1:=by kernel_rfl
theorem cSs:Tryz.prog.cellsOf 23=1:=by kernel_rfl
theorem cVs:Tryz.prog.cellsOf 22=1:=by kernel_rfl
theorem V3 {α:Type} {l:List α} (h:l.length=4):∃a b c d,l=[a,b,c,d]:=by
 match l,h with
 |[a,b,c,d],_=>exact ⟨a,b,c,d,rfl⟩
theorem V4 {α:Type} {l:List α} (h:l.length=5):∃a b c d e,l=[a,b,c,d,e]:=by
 match l,h with
 |[a,b,c,d,e],_=>exact ⟨a,b,c,d,e,rfl⟩
theorem QI (n:Nat) (cs:List Value) (d:DataW T) (h:Rd enc Tryz.prog W n 108 cs d) (r:xV Tryz.prog 108 d):∃l y,aL W.heap.size cs=some l∧(l=Vr.row y∧y.name.size<2^60):=by
 obtain ⟨i,m,t,c⟩:=mM Tryz.underlying108 h r;rw [cV]at i;obtain ⟨A,z,x,rfl⟩:=GM i;obtain ⟨w,f,g⟩:=c 0 _ rfl;obtain ⟨v,e,q⟩:=c 1 _ rfl;obtain ⟨u,h2,p⟩:=c 2 _ rfl;simp only [List.getElem_toArray,List.getElem_cons_zero,List.getElem_cons_succ]at f e h2 g q p;rw [cZ]at f;rw [cI]at e h2;obtain ⟨s,o,D⟩:=QG Tryz.underlying9 f g;obtain ⟨a,k,C⟩:=jT Tryz.underlying3 e;obtain ⟨b,j,B⟩:=jT Tryz.underlying3 h2;simp at o k j;subst o;subst k;subst j;have:reachBytes<2^47:=reachBytes_lt;exact ⟨_,⟨s,a,b⟩,Ag (ee (ee rfl)),rfl,by show s.size<2^60;omega⟩
end
end
section
open Go
theorem Ah {a b:Int} (c:0≤a):cj .rem (.int .i64 a) (.int .i64 b)=if b=0 then none else some (.int .i64 (a%b)):=by
 by_cases h:b=0
 ·simp [cj,df,jx,h]
 ·simp [cj,df,jx,h]
  rw [Int.tmod_eq_emod_of_nonneg c]
theorem QJ {a b:Int} (c:0≤a) (hi:a≤2^62) (e:0<b):cj .quo (.int .i64 a) (.int .i64 b)=some (.int .i64 (a/b)):=by
 have d:¬ b=0:=by omega
 have f:0≤a/b:=Int.ediv_nonneg c (by omega);have h2:a/b≤a:=Int.ediv_le_self _ c;simp only [cj,df,jx,d,if_true,if_false];rw [Int.tdiv_eq_ediv_of_nonneg c,ai ⟨by omega,by omega⟩]
theorem kN (a:Nat) (h:a<2^62):(BitVec.ofInt 64 (a:Int)).toNat=a:=by
 rw [BitVec.toNat_ofInt];have:((a:Int)%((2^64:Nat):Int))=a:=Int.emod_eq_of_lt (by omega) (by omega);rw [this];rfl
theorem Lq {a b:Nat} (d:a<2^62) (c:b<2^62):cj .and (.int .i64 a) (.int .i64 b)=some (.int .i64 ((a&&&b:Nat):Int)):=by
 have:(BitVec.ofInt IntKind.i64.bits (a:Int)&&&BitVec.ofInt IntKind.i64.bits (b:Int)).toNat=a&&&b:=by
  show(BitVec.ofInt 64 (a:Int)&&&BitVec.ofInt 64 (b:Int)).toNat=a&&&b;rw [BitVec.toNat_and,kN a d,kN b c]
 have h2:a&&&b≤a:=Nat.and_le_left;simp only [cj,df,jx,if_true,this];rw [ai ⟨by omega,by omega⟩]
theorem QK {a b:Nat} (d:a<2^62) (c:b<2^62):cj .or (.int .i64 a) (.int .i64 b)=some (.int .i64 ((a|||b:Nat):Int)):=by
 have:(BitVec.ofInt IntKind.i64.bits (a:Int)|||BitVec.ofInt IntKind.i64.bits (b:Int)).toNat=a|||b:=by
  show(BitVec.ofInt 64 (a:Int)|||BitVec.ofInt 64 (b:Int)).toNat=a|||b;rw [BitVec.toNat_or,kN a d,kN b c]
 have h2:a|||b<2^62:=Nat.or_lt_two_pow d c;simp only [cj,df,jx,if_true,this];rw [ai ⟨by omega,by omega⟩]
theorem Lr {a b:Nat} (d:a<2^62) (c:b<2^62):cj .xor (.int .i64 a) (.int .i64 b)=some (.int .i64 ((a^^^b:Nat):Int)):=by
 have:(BitVec.ofInt IntKind.i64.bits (a:Int)^^^BitVec.ofInt IntKind.i64.bits (b:Int)).toNat=a^^^b:=by
  show(BitVec.ofInt 64 (a:Int)^^^BitVec.ofInt 64 (b:Int)).toNat=a^^^b;rw [BitVec.toNat_xor,kN a d,kN b c]
 have h2:a^^^b<2^62:=Nat.xor_lt_two_pow d c;simp only [cj,df,jx,if_true,this];rw [ai ⟨by omega,by omega⟩]
theorem BJ {x:Int} {w:Nat} (d:w≤62):cj .and (.int .i64 x) (.int .i64 (2^w- 1))=some (.int .i64 (x%2^w)):=by
 have a:0<2^w:=Nat.two_pow_pos w;have b:2^w≤2^62:=Nat.pow_le_pow_right (by omega) d
 have g:((2:Int)^w- 1)=((2^w- 1:Nat):Int):=by
  rw [Int.natCast_sub a];simp
 have f:(BitVec.ofInt IntKind.i64.bits x&&&BitVec.ofInt IntKind.i64.bits ((2^w- 1:Nat):Int)).toNat=(BitVec.ofInt 64 x).toNat%2^w:=by
  show(BitVec.ofInt 64 x&&&BitVec.ofInt 64 ((2^w- 1:Nat):Int)).toNat=(BitVec.ofInt 64 x).toNat%2^w;rw [BitVec.toNat_and,kN _ (by omega),Nat.and_two_pow_sub_one_eq_mod]
 have e:(((BitVec.ofInt 64 x).toNat%2^w:Nat):Int)=x%2^w:=by
  rw [BitVec.toNat_ofInt,Int.natCast_emod,Int.toNat_of_nonneg (Int.emod_nonneg _ (by omega))];have c:((2^w:Nat):Int)∣((2^64:Nat):Int):=Int.natCast_dvd_natCast.2 (Nat.pow_dvd_pow 2 (by omega));rw [Int.emod_emod_of_dvd _ c];simp
 rw [g];simp only [cj,df,jx,if_true,f,e]
 have i:0≤x%2^w:=Int.emod_nonneg _ (by have:(0:Int)<2^w:=by exact_mod_cast a
                                       omega)
 have h2:x%(2:Int)^w<2^w:=Int.emod_lt_of_pos _ (by exact_mod_cast a);have h:(2:Int)^w≤2^62:=by exact_mod_cast b
 rw [ai ⟨by omega,by omega⟩]
theorem Ai {a w:Nat} (b:w≤62) (f:a<2^w):cj .andNot (.int .i64 (2^w- 1)) (.int .i64 a)=some (.int .i64 (2^w- 1- a)):=by
 have c:0<2^w:=Nat.two_pow_pos w;have d:2^w≤2^62:=Nat.pow_le_pow_right (by omega) b
 have j:((2:Int)^w- 1)=((2^w- 1:Nat):Int):=by
  rw [Int.natCast_sub c];simp
 rw [j]
 have g:(BitVec.ofInt IntKind.i64.bits ((2^w- 1:Nat):Int)&&&~~~BitVec.ofInt IntKind.i64.bits (a:Int)).toNat=2^w- 1- a:=by
  show(BitVec.ofInt 64 ((2^w- 1:Nat):Int)&&&~~~BitVec.ofInt 64 (a:Int)).toNat=2^w- 1- a;rw [BitVec.toNat_and,BitVec.toNat_not,kN _ (by omega),kN a (by omega)];have e:2^64- 1- a=2^64- (a+1):=by omega
  rw [e];apply Nat.eq_of_testBit_eq;intro i;rw [Nat.testBit_and,Nat.testBit_two_pow_sub_one,Nat.testBit_two_pow_sub_succ (by omega),show 2^w- 1- a=2^w- (a+1) by omega,Nat.testBit_two_pow_sub_succ f];by_cases h:i<w
  ·simp [h,show i<64 by omega]
  ·simp [h]
 simp only [cj,df,jx,if_true,g];rw [ai ⟨by omega,by omega⟩,Int.natCast_sub (by omega)]
def lX (op w a b:Int):Int:=
 if op=2 then(a+b)%2^w.toNat else if op=3 then(a+2^w.toNat- b)%2^w.toNat else if op=4 then a*b%2^w.toNat
 else if op=5 then(if b=0 then 2^w.toNat- 1 else a/b)else if op=6 then(if b=0 then a else a%b)
 else if op=7 then((a.toNat&&&b.toNat:Nat):Int)else if op=8 then((a.toNat|||b.toNat:Nat):Int)else if op=9 then((a.toNat^^^b.toNat:Nat):Int)
 else if op=10 then(if w≤b then 0 else a*2^b.toNat%2^w.toNat)else if op=11 then(if w≤b then 0 else a/2^b.toNat)
 else if op=13 then(if a=b then 1 else 0)else(if a<b then 1 else 0)
theorem jH {w:Int} (a:1≤w∧w≤8):2≤(2:Int)^w.toNat∧(2:Int)^w.toNat≤256:=by
 obtain ⟨n,rfl⟩:∃n:Nat,w=n:=⟨w.toNat,by omega⟩
 have:n=1∨n=2∨n=3∨n=4∨n=5∨n=6∨n=7∨n=8:=by omega
 rcases this with rfl|rfl|rfl|rfl|rfl|rfl|rfl|rfl<;>exact ⟨by decide,by decide⟩
theorem GN {a b M:Int} (d:0≤a∧a<M) (c:0≤b∧b<M):0≤a*b∧a*b≤M*M:=by
 refine ⟨Int.mul_nonneg d.1 c.1,Int.mul_le_mul (by omega) (by omega) c.1 (by omega)⟩
theorem xW {op w a b:Int} (z:1≤w∧w≤8) (k:0≤a∧a<2^w.toNat) (v:0≤b∧b<2^w.toNat):0≤lX op w a b∧lX op w a b<2^w.toNat:=by
 have A:=jH z
 have r:∀x:Int,0≤x%2^w.toNat∧x%2^w.toNat<2^w.toNat:=fun x=>⟨Int.emod_nonneg _ (by omega),Int.emod_lt_of_pos _ (by omega)⟩
 have o:(2:Int)^w.toNat=((2^w.toNat:Nat):Int):=by simp
 have t:a.toNat<2^w.toNat:=by have:=k.2;rw [o]at this;omega
 have y:b.toNat<2^w.toNat:=by have:=v.2;rw [o]at this;omega
 have B:b=0∨¬ b=0:=by omega
 have p:∀c:Prop,∀_:Decidable c,0≤(if c then(1:Int)else 0)∧(if c then(1:Int)else 0)<2^w.toNat:=fun c _=>by
  by_cases h:c
  ·rw [if_pos h];omega
  ·rw [if_neg h];omega
 by_cases d:op=2
 ·rw [lX,if_pos d];exact r _
 by_cases e:op=3
 ·rw [lX,if_neg d,if_pos e];exact r _
 by_cases g:op=4
 ·rw [lX,if_neg d,if_neg e,if_pos g];exact r _
 by_cases i:op=5
 ·rw [lX,if_neg d,if_neg e,if_neg g,if_pos i]
  by_cases f:b=0
  ·rw [if_pos f];omega
  ·rw [if_neg f];exact ⟨Int.ediv_nonneg k.1 v.1,Int.lt_of_le_of_lt (Int.ediv_le_self _ k.1) k.2⟩
 by_cases j:op=6
 ·rw [lX,if_neg d,if_neg e,if_neg g,if_neg i,if_pos j]
  by_cases f:b=0
  ·rw [if_pos f];exact k
  ·rw [if_neg f];exact ⟨Int.emod_nonneg _ (by omega),Int.lt_of_lt_of_le (Int.emod_lt_of_pos _ (by omega)) (by omega)⟩
 by_cases l:op=7
 ·rw [lX,if_neg d,if_neg e,if_neg g,if_neg i,if_neg j,if_pos l,o];exact ⟨by omega,Int.ofNat_lt.2 (Nat.lt_of_le_of_lt Nat.and_le_left t)⟩
 by_cases m:op=8
 ·rw [lX,if_neg d,if_neg e,if_neg g,if_neg i,if_neg j,if_neg l,if_pos m,o];exact ⟨by omega,Int.ofNat_lt.2 (Nat.or_lt_two_pow t y)⟩
 by_cases n:op=9
 ·rw [lX,if_neg d,if_neg e,if_neg g,if_neg i,if_neg j,if_neg l,if_neg m,if_pos n,o];exact ⟨by omega,Int.ofNat_lt.2 (Nat.xor_lt_two_pow t y)⟩
 by_cases q:op=10
 ·rw [lX,if_neg d,if_neg e,if_neg g,if_neg i,if_neg j,if_neg l,if_neg m,if_neg n,if_pos q]
  by_cases f:w≤b
  ·rw [if_pos f];omega
  ·rw [if_neg f];exact r _
 by_cases s:op=11
 ·rw [lX,if_neg d,if_neg e,if_neg g,if_neg i,if_neg j,if_neg l,if_neg m,if_neg n,if_neg q,if_pos s]
  by_cases f:w≤b
  ·rw [if_pos f];omega
  ·rw [if_neg f]
   have:(0:Int)≤2^b.toNat:=by have:=two_pow_pos b.toNat;omega
   exact ⟨Int.ediv_nonneg k.1 this,Int.lt_of_le_of_lt (Int.ediv_le_self _ k.1) k.2⟩
 by_cases u:op=13
 ·rw [lX,if_neg d,if_neg e,if_neg g,if_neg i,if_neg j,if_neg l,if_neg m,if_neg n,if_neg q,if_neg s,if_pos u];exact p _ _
 ·rw [lX,if_neg d,if_neg e,if_neg g,if_neg i,if_neg j,if_neg l,if_neg m,if_neg n,if_neg q,if_neg s,if_neg u];exact p _ _
set_option maxRecDepth 10000
open Go
end
section
open Go
theorem Aj {a w:Int} (b:0≤a∧a<2^w.toNat):a.toNat<2^w.toNat:=by
 have h:((2^w.toNat:Nat):Int)=2^w.toNat:=by simp
 have:=b.2;omega
theorem GO {v:Value} {l:List Int} {H:AH} (I:H.n0≤H.nx) (q:fb H v l) (S:l.length≤2^40):Ca E O 27 [v] H (fun x H'=>dK H' 1 x (bg l)∧Ext H H'∧∀b,aR x b→H.nx≤b):=by
 refine Ca.aW (F:=Zb) rfl rfl rfl ?_;obtain ⟨a,c,J⟩:=q.len;simp (maxSteps:=9^7)-implicitDefEqProofs+contextual [-X.ev,Zb];refine cm (fun k e H'=>Ext H H'∧∃(i:Nat) (s:Value),i+k=l.length∧e.get 0=v∧e.get 3=s∧e.get 4= .int .i64 i∧dK H' 1 s (bg (l.take i))∧(∀z,aR s z→H.nx≤z)) ?_ l.length ⟨Ext.refl _,0,.slice none 0 0,by simp,by simp,by simp,by simp,by simpa [bg]using dK.nil H 1,fun z j=>absurd j (dL _ _ _)⟩;rintro k e H' ⟨d,i,s,hi,f,A,y,g,t⟩;have G:=d.wf I;by_cases h:i<l.length
 ·obtain ⟨n,p⟩:∃n,l[i]?=some n:=⟨_,aqG h⟩
  obtain ⟨b,o,T,m,K⟩:=(fb.ext d q).at p;rw [m]at f;have u:=vM (sz:=1) (z:=[.int .i64 0]) (H:=H') (v:=.int .i64 n) rfl rfl rfl
  obtain ⟨H2,w⟩:∃H2,H'.alloc (.cells 1 [.int .i64 n])=H2:=⟨_,rfl⟩
  obtain ⟨Q,U,L,C,M,D,R,N,P⟩:=ji (bytes:=8) G g (r:=[.int .i64 n]) rfl w (by simp [bg];omega) (by simp [bg];omega);have B:IntKind.i64.wrap ((i:Int)+1)=i+1:=ai ⟨by omega,by omega⟩;simp only [sG,w]at u;simp (maxSteps:=9^7)-implicitDefEqProofs+contextual [-X.ev,f,A,y,h,K,u,L,B];refine ⟨k- 1,by omega,d.mod M t,i+1,by omega,m.symm,by simp,?_,fun z j=>aq2 d.nx (D z j)⟩;rw [aq1,p]
  simpa [bg]using C
 ·rw [J]at f
  rw [aqN (by omega)]at g;simp (maxSteps:=9^7)-implicitDefEqProofs+contextual [-X.ev,f,A,y,h,g,d];exact t
theorem GP {v u:Value} {l m:List Int} {H:AH} (I:fb H v l) (C:fb H u m) (P:l.length≤2^60):Ca E O 29 [v,u] H (fun x H'=>x= .bool (decide (l=m))∧H'=H):=by
 refine Ca.aW (F:=U0) rfl rfl rfl ?_;obtain ⟨M,R,g⟩:=I.len;obtain ⟨L,Q,t⟩:=C.len
 obtain ⟨F,j⟩:∃F,decide (l=m)=F:=⟨_,rfl⟩
 rw [j];by_cases q:(l.length:Int)=m.length
 case neg=>
  have w:F=false:=by rw [←j,decide_eq_false_iff_not];rintro rfl;exact q rfl
  have d:¬ l.length=m.length:=by omega
  simp (maxSteps:=9^7)-implicitDefEqProofs+contextual [-X.ev,U0,g,t,q,d,w]
 have d:l.length=m.length:=by omega
 simp (maxSteps:=9^7)-implicitDefEqProofs+contextual [-X.ev,U0,g,t,q,d];refine cm (fun k p H'=>H'=H∧∃i:Nat,i+k=l.length∧p.get 0=v∧p.get 1=u∧p.get 5= .int .i64 i∧l.take i=m.take i) ?_ l.length ⟨rfl,0,by simp,by simp [g,d],by simp [t],by simp,by simp⟩;rintro k p H' ⟨rfl,i,hi,c,r,z,a⟩;by_cases h:i<l.length
 ·obtain ⟨x,s⟩:∃n,l[i]?=some n:=⟨_,aqG h⟩
  obtain ⟨y,f⟩:∃n,m[i]?=some n:=⟨_,aqG (by omega)⟩
  obtain ⟨b,o,S,A,G⟩:=I.at s;obtain ⟨T,N,K,B,D⟩:=C.at f;rw [A]at c;rw [B]at r;have h2:i<m.length:=by omega
  by_cases e:x=y
  ·subst e
   simp (maxSteps:=9^7)-implicitDefEqProofs+contextual [-X.ev,c,r,z,h,h2,G,D,bq,aM,aN];rw [ai (n:=(i:Int)+1) ⟨by omega,by omega⟩];refine ⟨k- 1,by omega,i+1,by omega,A.symm,B.symm,by simp,?_⟩;rw [aq1,aq1,s,f,a]
  ·have w:F=false:=by
    rw [←j,decide_eq_false_iff_not];rintro rfl;rw [s]at f;cases f;exact e rfl
   simp (maxSteps:=9^7)-implicitDefEqProofs+contextual [-X.ev,c,r,z,h,h2,G,D,bq,aM,aN,e,w]
 ·have J:F=true:=by
   rw [←j,decide_eq_true_iff];rwa [aqN (by omega),aqN (by omega)]at a
  rw [g]at c;simp (maxSteps:=9^7)-implicitDefEqProofs+contextual [-X.ev,c,r,z,h,J]
open Go
theorem ae4 {n:Int} (h:0≤n∧n<2^62):IntKind.u64.wrap n=n:=IntWalk.u64_in n ⟨by omega,by omega⟩
theorem vP {w:Int} (a:1≤w∧w≤8) (H:AH):Ca E O 182 [.int .i64 w] H (fun x H'=>x= .int .i64 (2^w.toNat- 1)∧H'=H):=by
 refine Ca.aW (F:=a182) rfl rfl rfl ?_;have b:=jH a;simp (maxSteps:=9^7)-implicitDefEqProofs+contextual [-X.ev,a182,uy a,ai (n:=2^w.toNat- 1) ⟨by omega,by omega⟩]
theorem Oa {w:Int} {v:Value} {l:List Int} {H:AH} (B:fb H v l) (I:l.length<2^60):Ca E O 181 [.int .i64 w,v] H (fun x H'=>x= .bool (bA w&&l.all (isWord w))∧H'=H):=by
 refine Ca.aW (F:=Dt) rfl rfl rfl ?_;obtain ⟨G,K,y⟩:=B.len
 obtain ⟨F,f⟩:∃F,(bA w&&l.all (isWord w))=F:=⟨_,rfl⟩
 rw [f];by_cases s:w<1
 ·have d:F=false:=by rw [←f];simp [bA];omega
  simp (maxSteps:=9^7)-implicitDefEqProofs+contextual [-X.ev,Dt,s,d]
 by_cases h2:8<w
 ·have d:F=false:=by rw [←f];simp [bA];omega
  simp (maxSteps:=9^7)-implicitDefEqProofs+contextual [-X.ev,Dt,s,h2,d]
 have e:1≤w∧w≤8:=by omega
 have C:bA w=true:=by simp [bA,e]
 simp (maxSteps:=9^7)-implicitDefEqProofs+contextual [-X.ev,Dt,s,h2,y];refine cm (fun k g H'=>H'=H∧∃i:Nat,i+k=l.length∧g.get 0= .int .i64 w∧g.get 13=v∧g.get 14= .int .i64 l.length∧g.get 15= .int .i64 i∧∀a∈l.take i,isWord w a=true) ?_ l.length ⟨rfl,0,by simp,by simp,by simp [y],by simp,by simp,by simp⟩;rintro k g H' ⟨rfl,i,hi,j,f13,f14,f15,r⟩;by_cases h:i<l.length
 ·obtain ⟨n,q⟩:∃n,l[i]?=some n:=⟨_,aqG h⟩
  obtain ⟨b,o,L,u,A⟩:=B.at q;rw [u]at f13
  have d:isWord w n=false→F=false:=fun z=>by
   rw [←f,Bool.and_eq_false_iff];right;rw [List.all_eq_false];exact ⟨n,aqL q,by rw [z];simp⟩
  rw [km e]at d;have J:=jH e;by_cases p:n<0
  ·simp (maxSteps:=9^7)-implicitDefEqProofs+contextual [-X.ev,j,f13,f14,f15,h,A,p,d]
  simp (maxSteps:=9^7)-implicitDefEqProofs+contextual [-X.ev,j,f13,f14,f15,h,A,p];apply ah
  ·(simp-implicitDefEqProofs [-X.ev];rfl)
  refine (vP e H').mono ?_;rintro x H' ⟨rfl,rfl⟩;by_cases t:2^w.toNat- 1<n
  ·have m:2^w.toNat≤n:=by omega
   simp (maxSteps:=9^7)-implicitDefEqProofs+contextual [-X.ev,j,f13,f14,f15,t,m,d]
  have m:¬ 2^w.toNat≤n:=by omega
  simp (maxSteps:=9^7)-implicitDefEqProofs+contextual [-X.ev,j,f13,f14,f15,h,t];rw [ai (n:=(i:Int)+1) ⟨by omega,by omega⟩];refine ⟨k- 1,by omega,i+1,by omega,u.symm,by simp,fun z c=>?_⟩;rw [aq1,q]at c;rcases aq0.1 c with c|c
  ·exact r z c
  ·simp at c;subst c;rw [km e];simp [p,m]
 ·have D:F=true:=by
   rw [aqN (by omega)]at r;rw [←f,C,Bool.true_and,aqW];exact r
  simp (maxSteps:=9^7)-implicitDefEqProofs+contextual [-X.ev,j,f13,f14,f15,h,D]
theorem mN {w a:Int} (b:1≤w∧w≤8) (c:0≤a∧a<2^w.toNat):isWord w a=true:=by
 simp [isWord,bA,b,c]
theorem V6 {H:AH} (b:H.n0≤H.nx) (a:Int):fb (H.alloc (.cells 1 [.int .i64 a])) (.slice (some ⟨H.nx,0,none⟩) 1 1) [a]:=⟨_,_,rfl,fun i r hi=>⟨H.nx,0,rfl,by
 have:=bj b (z:=1) (c:=[.int .i64 a]) 1 rfl
 cases i with
 |zero=>simp at hi;subst hi;simpa using this
 |succ i=>simp at hi⟩⟩
theorem V7 {H:AH} (c:H.n0≤H.nx) (a b:Int):fb (H.alloc (.cells 1 [.int .i64 a,.int .i64 b])) (.slice (some ⟨H.nx,0,none⟩) 2 2) [a,b]:=⟨_,_,rfl,fun i r hi=>⟨H.nx,0,rfl,by
 have d:=cq H (.cells 1 [.int .i64 a,.int .i64 b])
 match i,hi with
 |0,hi=>simp at hi;subst hi;exact bH d c (k:=0) (n:=1) (by simp)
 |1,hi=>simp at hi;subst hi;exact bH d c (k:=1) (n:=1) (by simp)
 |i+2,hi=>simp at hi⟩⟩
theorem Ls {w a:Int} {H:AH} (i:H.n0≤H.nx) (b:1≤w∧w≤8) (g:0≤a∧a<2^w.toNat):Ca E O 177 [.int .i64 w,.int .i64 a] H (fun x H'=>x= .tuple #[.int .i64 (2^w.toNat- 1- a),.int .i64 0]∧Ext H H'):=by
 refine Ca.aW (F:=Kz) rfl rfl rfl ?_;have c:=vM (sz:=1) (z:=[.int .i64 0]) (H:=H) (v:=.int .i64 a) rfl rfl rfl;have h:=Ext.alloc H (.cells 1 [.int .i64 a]);have f:=V6 i a;simp only [sG]at c;generalize H.alloc (.cells 1 [.int .i64 a])=d at c h f;simp (maxSteps:=9^7)-implicitDefEqProofs+contextual [-X.ev,Kz,c];apply ah
 ·(simp-implicitDefEqProofs [-X.ev];rfl)
 refine (Oa f (by simp)).mono ?_;rintro x d ⟨rfl,rfl⟩;have e:(bA w&&[a].all (isWord w))=true:=by simp [bA,b,mN b g]
 rw [e];simp (maxSteps:=9^7)-implicitDefEqProofs+contextual [-X.ev];apply ah
 ·(simp-implicitDefEqProofs [-X.ev];rfl)
 refine (vP b d).mono ?_;rintro x d ⟨rfl,rfl⟩
 have j:cj .andNot (.int .i64 (2^w.toNat- 1)) (.int .i64 a)=some (.int .i64 (2^w.toNat- 1- a)):=by
  have:=Ai (a:=a.toNat) (w:=w.toNat) (by omega) (Aj g);rwa [show((a.toNat:Nat):Int)=a by omega]at this
 simp (maxSteps:=9^7)-implicitDefEqProofs+contextual [-X.ev,j,h]
theorem xY (b:Bool) (H:AH):Ca E O 196 [.bool b] H (fun x H'=>x= .int .i64 (if b=true then 1 else 0)∧H'=H):=by
 refine Ca.aW (F:=a196) rfl rfl rfl ?_;cases b<;>simp (maxSteps:=9^7)-implicitDefEqProofs+contextual [-X.ev,a196]
theorem V8 {a b:Int} (c:0≤a∧a<256) (j:0≤b∧b<8):cj .shl (.int .i64 a) (.int .u64 b)=some (.int .i64 (a*2^b.toNat)):=by
 have h:=two_pow_pos b.toNat
 have i:(2:Int)^b.toNat≤256:=by
  have:(2:Nat)^b.toNat≤2^8:=Nat.pow_le_pow_right (by omega) (by omega);have h2:((2^b.toNat:Nat):Int)≤((2^8:Nat):Int):=Int.ofNat_le.2 this
  simpa using h2
 obtain ⟨g,f⟩:=GN (M:=257) ⟨c.1,by omega⟩ (b:=2^b.toNat) ⟨by omega,by omega⟩;have e:¬ b<0:=by omega
 have d:min b.toNat IntKind.i64.bits=b.toNat:=Nat.min_eq_left (by show b.toNat≤64;omega);simp only [cj,df,e,if_false,d];rw [ai ⟨by omega,by omega⟩]
theorem V9 {a b:Int} (g:0≤a∧a<256) (f:0≤b∧b<8):cj .shr (.int .i64 a) (.int .u64 b)=some (.int .i64 (a/2^b.toNat)):=by
 have e:=two_pow_pos b.toNat;have d:¬ b<0:=by omega
 have c:min b.toNat IntKind.i64.bits=b.toNat:=Nat.min_eq_left (by show b.toNat≤64;omega);simp only [cj,df,d,if_false,c];rw [Int.fdiv_eq_ediv_of_nonneg _ (by omega)]
theorem sT {w a b:Int} {up:Bool} (f:1≤w∧w≤8) (e:0≤a∧a<256) (c:0≤b) (H:AH):Ca E O 193 [.int .i64 w,.int .i64 a,.int .i64 b,.bool up] H (fun x H'=>x= .int .i64 (if w≤b then 0 else if up=true then a*2^b.toNat else a/2^b.toNat)∧H'=H):=by
 refine Ca.aW (F:=a193) rfl rfl rfl ?_;by_cases h:w≤b
 ·simp (maxSteps:=9^7)-implicitDefEqProofs+contextual [-X.ev,a193,h]
 have d:IntKind.u64.wrap b=b:=ae4 ⟨c,by omega⟩;cases up
 ·simp (maxSteps:=9^7)-implicitDefEqProofs+contextual [-X.ev,a193,h,d,V9 e ⟨c,by omega⟩]
 ·simp (maxSteps:=9^7)-implicitDefEqProofs+contextual [-X.ev,a193,h,d,V8 e ⟨c,by omega⟩]
def BK (op:Int):Value:=
 if op=2 then .func (.func 184) #[] #[]else if op=3 then .func (.func 185) #[] #[]else if op=4 then .func (.func 186) #[] #[]else if op=5 then .func (.func 187) #[] #[]else if op=6 then .func (.func 188) #[] #[]else if op=7 then .func (.func 189) #[] #[]else if op=8 then .func (.func 190) #[] #[]else if op=9 then .func (.func 191) #[] #[]else if op=10 then .func (.func 192) #[] #[]else if op=11 then .func (.func 194) #[] #[]else if op=13 then .func (.func 195) #[] #[]else if op=14 then .func (.func 197) #[] #[]else .nilFunc
theorem Lt {op:Int} {H:AH} (hw:H.n0≤H.nx):Ca E O 183 [.int .i64 op] H (fun x H'=>x=BK op∧Ext H H'):=by
 refine Ca.aW (F:=a183) rfl rfl rfl ?_;have w:=Ext.alloc H (.map []);have M:=cq H (.map []);generalize Bq:H.alloc (.map [])=H0 at w M;have L:H0.n0≤H.nx:=by rw [w.n0];exact hw
 obtain ⟨H1,s1,Z,GQ,DK,g1⟩:=gE (kk:=0) (k:=.int .i64 2) (v:=.func (.func 184) #[] #[]) M L rfl rfl rfl;have K:H1.n0≤H.nx:=by rw [Z.n0];exact L
 obtain ⟨H2,s2,V,wR,pM,g2⟩:=gE (kk:=0) (k:=.int .i64 3) (v:=.func (.func 185) #[] #[]) g1 K rfl rfl rfl;have J:H2.n0≤H.nx:=by rw [V.n0];exact K
 obtain ⟨H3,s3,U,rG,mJ,g3⟩:=gE (kk:=0) (k:=.int .i64 4) (v:=.func (.func 186) #[] #[]) g2 J rfl rfl rfl;have I:H3.n0≤H.nx:=by rw [U.n0];exact J
 obtain ⟨H4,s4,T,y9,nN,g4⟩:=gE (kk:=0) (k:=.int .i64 5) (v:=.func (.func 187) #[] #[]) g3 I rfl rfl rfl;have G:H4.n0≤H.nx:=by rw [T.n0];exact I
 obtain ⟨H5,s5,S,N4,xS,g5⟩:=gE (kk:=0) (k:=.int .i64 6) (v:=.func (.func 188) #[] #[]) g4 G rfl rfl rfl;have D:H5.n0≤H.nx:=by rw [S.n0];exact G
 obtain ⟨H6,s6,R,nx6,Lu,g6⟩:=gE (kk:=0) (k:=.int .i64 7) (v:=.func (.func 189) #[] #[]) g5 D rfl rfl rfl;have C:H6.n0≤H.nx:=by rw [R.n0];exact D
 obtain ⟨H7,s7,Q,nx7,DL,g7⟩:=gE (kk:=0) (k:=.int .i64 8) (v:=.func (.func 190) #[] #[]) g6 C rfl rfl rfl;have B:H7.n0≤H.nx:=by rw [Q.n0];exact C
 obtain ⟨H8,s8,P,Tx,BL,g8⟩:=gE (kk:=0) (k:=.int .i64 9) (v:=.func (.func 191) #[] #[]) g7 B rfl rfl rfl;have A:H8.n0≤H.nx:=by rw [P.n0];exact B
 obtain ⟨H9,s9,N,Wa,Ob,g9⟩:=gE (kk:=0) (k:=.int .i64 10) (v:=.func (.func 192) #[] #[]) g8 A rfl rfl rfl;have z:H9.n0≤H.nx:=by rw [N.n0];exact A
 obtain ⟨zd,i,Y,amK,amL,g10⟩:=gE (kk:=0) (k:=.int .i64 11) (v:=.func (.func 194) #[] #[]) g9 z rfl rfl rfl;have d:zd.n0≤H.nx:=by rw [Y.n0];exact z
 obtain ⟨y,g,e,VW,VX,g11⟩:=gE (kk:=0) (k:=.int .i64 13) (v:=.func (.func 195) #[] #[]) g10 d rfl rfl rfl;have c:y.n0≤H.nx:=by rw [e.n0];exact d
 obtain ⟨DM,f,W,Lv,GR,g12⟩:=gE (kk:=0) (k:=.int .i64 14) (v:=.func (.func 197) #[] #[]) g11 c rfl rfl rfl;have z12:DM.n0≤H.nx:=by rw [W.n0];exact c
 have XX:Ext H DM:=w.mod (Z.trans (V.trans (U.trans (T.trans (S.trans (R.trans (Q.trans (P.trans (N.trans (Y.trans (e.trans (W)))))))))))) (by rintro x rfl;exact aqK _)
 have lk:iE 0 .nilFunc DM (.map (some H.nx)) (.int .i64 op) false=some (BK op):=by
  unfold BK;by_cases r:op=2
  ·subst r;exact eV g12 z12 rfl rfl
  rw [if_neg r];by_cases q:op=3
  ·subst q;exact eV g12 z12 rfl rfl
  rw [if_neg q];by_cases p:op=4
  ·subst p;exact eV g12 z12 rfl rfl
  rw [if_neg p];by_cases o:op=5
  ·subst o;exact eV g12 z12 rfl rfl
  rw [if_neg o];by_cases n:op=6
  ·subst n;exact eV g12 z12 rfl rfl
  rw [if_neg n];by_cases m:op=7
  ·subst m;exact eV g12 z12 rfl rfl
  rw [if_neg m];by_cases l:op=8
  ·subst l;exact eV g12 z12 rfl rfl
  rw [if_neg l];by_cases j:op=9
  ·subst j;exact eV g12 z12 rfl rfl
  rw [if_neg j];by_cases u:op=10
  ·subst u;exact eV g12 z12 rfl rfl
  rw [if_neg u];by_cases t:op=11
  ·subst t;exact eV g12 z12 rfl rfl
  rw [if_neg t];by_cases s:op=13
  ·subst s;exact eV g12 z12 rfl rfl
  rw [if_neg s];by_cases b:op=14
  ·subst b;exact eV g12 z12 rfl rfl
  rw [if_neg b];refine BB g12 z12 rfl ?_;have a:∀k:Int,¬ op=k→(op==k)=false:=fun k h=>by simpa using h
  simp [fI,il,lI,a _ r,a _ q,a _ p,a _ o,a _ n,a _ m,a _ l,a _ j,a _ u,a _ t,a _ s,a _ b]
 simp (maxSteps:=9^7)-implicitDefEqProofs+contextual [-X.ev,a183,Bq,s1,s2,s3,s4,s5,s6,s7,s8,s9,i,g,f,lk,XX]
theorem GS {op w a b:Int} (t:(2≤op∧op≤11)∨op=13∨op=14) (h:1≤w∧w≤8) (j:0≤a∧a<2^w.toNat) (i:0≤b∧b<2^w.toNat):
 ∃f,BK op= .func (.func f) #[] #[]∧∀H:AH,Ca E O f [.int .i64 w,.int .i64 a,.int .i64 b] H (fun x H'=>∃y,x= .int .i64 y∧y%2^w.toNat=lX op w a b∧H'=H):=by
 have k:=jH h;obtain ⟨s,r⟩:=GN j i;have q:(2:Int)^w.toNat*2^w.toNat≤256*256:=Int.mul_le_mul k.2 k.2 (by omega) (by omega);have l:=xW (op:=op) h j i;have d:lX op w a b%2^w.toNat=lX op w a b:=Int.emod_eq_of_lt l.1 l.2;have m:0≤a∧a<256:=by omega
 have p:op=2∨op=3∨op=4∨op=5∨op=6∨op=7∨op=8∨op=9∨op=10∨op=11∨op=13∨op=14:=by omega
 have g:((a.toNat:Nat):Int)=a∧((b.toNat:Nat):Int)=b:=by omega
 have v:=Aj j;have u:=Aj i;have o:(2:Nat)^w.toNat≤2^62:=Nat.pow_le_pow_right (by omega) (by omega);rcases p with rfl|rfl|rfl|rfl|rfl|rfl|rfl|rfl|rfl|rfl|rfl|rfl
 ·refine ⟨184,rfl,fun H=>?_⟩
  refine Ca.aW (F:=KB) rfl rfl rfl ?_;simp (maxSteps:=9^7)-implicitDefEqProofs+contextual [-X.ev,KB,ai (n:=a+b) ⟨by omega,by omega⟩];simp [lX]
 ·refine ⟨185,rfl,fun H=>?_⟩
  refine Ca.aW (F:=KC) rfl rfl rfl ?_;simp (maxSteps:=9^7)-implicitDefEqProofs+contextual [-X.ev,KC,ai (n:=a- b) ⟨by omega,by omega⟩];simp only [lX];rw [if_neg (show¬ (3:Int)=2 by omega),if_pos trivial,show a+2^w.toNat- b=(a- b)+2^w.toNat by omega,Int.add_emod_right]
 ·refine ⟨186,rfl,fun H=>?_⟩
  refine Ca.aW (F:=KD) rfl rfl rfl ?_;simp (maxSteps:=9^7)-implicitDefEqProofs+contextual [-X.ev,KD,ai (n:=a*b) ⟨by omega,by omega⟩];simp [lX]
 ·refine ⟨187,rfl,fun H=>?_⟩
  refine Ca.aW (F:=FZ) rfl rfl rfl ?_;by_cases c:b=0
  ·subst c
   simp (maxSteps:=9^7)-implicitDefEqProofs+contextual [-X.ev,FZ];apply ah
   ·(simp-implicitDefEqProofs [-X.ev];rfl)
   refine (vP h H).mono ?_;rintro x H ⟨rfl,rfl⟩;simp (maxSteps:=9^7)-implicitDefEqProofs+contextual [-X.ev];rw [←d];simp [lX]
  ·simp (maxSteps:=9^7)-implicitDefEqProofs+contextual [-X.ev,FZ,c,QJ j.1 (by omega) (show 0<b by omega)]
   rw [←d];simp [lX,c]
 ·refine ⟨188,rfl,fun H=>?_⟩
  refine Ca.aW (F:=F3) rfl rfl rfl ?_;by_cases c:b=0
  ·subst c
   simp (maxSteps:=9^7)-implicitDefEqProofs+contextual [-X.ev,F3];rw [←d];simp [lX]
  ·simp (maxSteps:=9^7)-implicitDefEqProofs+contextual [-X.ev,F3,c,Ah j.1]
   rw [←d];simp [lX,c]
 ·refine ⟨189,rfl,fun H=>?_⟩
  refine Ca.aW (F:=KE) rfl rfl rfl ?_;have e:=Lq (a:=a.toNat) (b:=b.toNat) (by omega) (by omega);rw [g.1,g.2]at e;simp (maxSteps:=9^7)-implicitDefEqProofs+contextual [-X.ev,KE,e];rw [←d];simp [lX]
 ·refine ⟨190,rfl,fun H=>?_⟩
  refine Ca.aW (F:=KF) rfl rfl rfl ?_;have e:=QK (a:=a.toNat) (b:=b.toNat) (by omega) (by omega);rw [g.1,g.2]at e;simp (maxSteps:=9^7)-implicitDefEqProofs+contextual [-X.ev,KF,e];rw [←d];simp [lX]
 ·refine ⟨191,rfl,fun H=>?_⟩
  refine Ca.aW (F:=KG) rfl rfl rfl ?_;have e:=Lr (a:=a.toNat) (b:=b.toNat) (by omega) (by omega);rw [g.1,g.2]at e;simp (maxSteps:=9^7)-implicitDefEqProofs+contextual [-X.ev,KG,e];rw [←d];simp [lX]
 ·refine ⟨192,rfl,fun H=>?_⟩
  refine Ca.aW (F:=KH) rfl rfl rfl ?_;simp (maxSteps:=9^7)-implicitDefEqProofs+contextual [-X.ev,KH];apply ah
  ·(simp-implicitDefEqProofs [-X.ev];rfl)
  refine (sT (up:=true) h m i.1 H).mono ?_;rintro x H ⟨rfl,rfl⟩;simp (maxSteps:=9^7)-implicitDefEqProofs+contextual [-X.ev];by_cases c:w≤b
  ·simp [lX,c]
  ·simp [lX,c]
 ·refine ⟨194,rfl,fun H=>?_⟩
  refine Ca.aW (F:=a194) rfl rfl rfl ?_;simp (maxSteps:=9^7)-implicitDefEqProofs+contextual [-X.ev,a194];apply ah
  ·(simp-implicitDefEqProofs [-X.ev];rfl)
  refine (sT (up:=false) h m i.1 H).mono ?_;rintro x H ⟨rfl,rfl⟩;simp (maxSteps:=9^7)-implicitDefEqProofs+contextual [-X.ev];rw [←d];by_cases c:w≤b
  ·simp [lX,c]
  ·simp [lX,c]
 ·refine ⟨195,rfl,fun H=>?_⟩
  refine Ca.aW (F:=KI) rfl rfl rfl ?_;simp (maxSteps:=9^7)-implicitDefEqProofs+contextual [-X.ev,KI];apply ah
  ·(simp-implicitDefEqProofs [-X.ev];rfl)
  refine (xY (decide (a=b)) H).mono ?_;rintro x H ⟨rfl,rfl⟩;simp (maxSteps:=9^7)-implicitDefEqProofs+contextual [-X.ev];rw [←d];simp [lX]
 ·refine ⟨197,rfl,fun H=>?_⟩
  refine Ca.aW (F:=KJ) rfl rfl rfl ?_;simp (maxSteps:=9^7)-implicitDefEqProofs+contextual [-X.ev,KJ];apply ah
  ·(simp-implicitDefEqProofs [-X.ev];rfl)
  refine (xY (decide (a<b)) H).mono ?_;rintro x H ⟨rfl,rfl⟩;simp (maxSteps:=9^7)-implicitDefEqProofs+contextual [-X.ev];rw [←d];simp [lX]
theorem QL {op w a b:Int} {H:AH} (h:H.n0≤H.nx) (o:(2≤op∧op≤11)∨op=13∨op=14) (c:1≤w∧w≤8) (m:0≤a∧a<2^w.toNat) (l:0≤b∧b<2^w.toNat):Ca E O 178 [.int .i64 op,.int .i64 w,.int .i64 a,.int .i64 b] H (fun x H'=>x= .tuple #[.int .i64 (lX op w a b),.int .i64 0]∧Ext H H'):=by
 refine Ca.aW (F:=KA) rfl rfl rfl ?_;have k:ng 2 1 [.int .i64 0,.int .i64 0] H [(0,1,.int .i64 a),(1,1,.int .i64 b)]=some (.slice (some ⟨H.nx,0,none⟩) 2 2,H.alloc (.cells 1 [.int .i64 a,.int .i64 b])):=rfl;have g:=Ext.alloc H (.cells 1 [.int .i64 a,.int .i64 b]);have j:=V7 h a b;generalize H.alloc (.cells 1 [.int .i64 a,.int .i64 b])=s at k g j;simp (maxSteps:=9^7)-implicitDefEqProofs+contextual [-X.ev,KA,k];apply ah
 ·(simp-implicitDefEqProofs [-X.ev];rfl)
 refine (Oa j (by simp)).mono ?_;rintro x s ⟨rfl,rfl⟩;have e:(bA w&&[a,b].all (isWord w))=true:=by simp [bA,c,mN c m,mN c l]
 rw [e];simp (maxSteps:=9^7)-implicitDefEqProofs+contextual [-X.ev];apply ah
 ·(simp-implicitDefEqProofs [-X.ev];rfl)
 refine (Lt (op:=op) (g.wf h)).mono ?_;rintro x d ⟨rfl,r⟩;obtain ⟨f,p,q⟩:=GS o c m l;rw [p];simp (maxSteps:=9^7)-implicitDefEqProofs+contextual [-X.ev];apply kh
 ·(simp-implicitDefEqProofs [-X.ev,-Value.func.injEq];rfl)
 ·(simp-implicitDefEqProofs [-X.ev];rfl)
 refine (q d).mono ?_;rintro x d ⟨y,rfl,n,rfl⟩;simp (maxSteps:=9^7)-implicitDefEqProofs+contextual [-X.ev];apply ah
 ·(simp-implicitDefEqProofs [-X.ev];rfl)
 refine (vP c d).mono ?_;rintro x d ⟨rfl,rfl⟩;have i:=BJ (x:=y) (w:=w.toNat) (by omega);rw [n]at i;simp (maxSteps:=9^7)-implicitDefEqProofs+contextual [-X.ev,i,g.trans r]
end
section
open Go
def QM (l:List Int) (i:Int):Int:=(l[i.toNat]?).getD 0
def bZ (V:List Vr) (n:Int):Int:=cT ((V.take n.toNat).map (·.cells))
def fZ (l:List Int) (k:Nat):Int:=(l[k]?).getD 0
def storeAt (S:List (List Int)) (cp:Int):List Int:=(S[cp.toNat]?).getD []
mutual
def bF (w:Int) (V:List Vr) (S:List (List Int)):bQ→Int
 | .mk op n cp args=>if op=0 then n else if op=1 then QM (storeAt S cp) (bZ V n+fZ (de w V S args) 0%al V n)
   else if op=12 then 2^w.toNat- 1- fZ (de w V S args) 0 else if op=15 then(if fZ (de w V S args) 0=0 then fZ (de w V S args) 2 else fZ (de w V S args) 1)
   else lX op w (fZ (de w V S args) 0) (fZ (de w V S args) 1)
def de (w:Int) (V:List Vr) (S:List (List Int)):List bQ→List Int
 |[]=>[]
 |e::es=>bF w V S e::de w V S es
end
theorem xZ {w:Int} {V:List Vr} {S:List (List Int)}:∀(l:List bQ) (i:Nat),(de w V S l)[i]?=(l[i]?).map (bF w V S)
 |[],i=>by simp [de]
 |e::es,0=>by simp [de]
 |e::es,i+1=>by simp [de,xZ es i]
structure Ev where
 kind:Int
 at_:Int
 val:Int
mutual
def pO (w:Int) (V:List Vr) (S:List (List Int)):bQ→List Ev
 | .mk op n cp args=>fy w V S args++if op=1∧args≠[]then [⟨1,n,fZ (de w V S args) 0%al V n⟩]else []
def fy (w:Int) (V:List Vr) (S:List (List Int)):List bQ→List Ev
 |[]=>[]
 |e::es=>pO w V S e++fy w V S es
end
theorem qd {V:List Vr} (h:∀v∈V,1≤v.cells∧v.cells≤8) (g:V.length≤18):∀i,i≤V.length→(i:Int)≤cT ((V.take i).map (·.cells))∧cT ((V.take i).map (·.cells))≤8*i∧∀j,j≤i→cT ((V.take j).map (·.cells))≤cT ((V.take i).map (·.cells)):=by
 intro i
 induction i with
 |zero=>intro _;exact ⟨by simp [cT],by simp [cT],fun j c=>by rw [show j=0 by omega];exact Int.le_refl _⟩
 |succ i ih=>
  intro hi;obtain ⟨f,h2,d⟩:=ih (by omega)
  obtain ⟨y,a⟩:∃y,V[i]?=some y:=⟨_,aqG (by omega)⟩
  have k:=h y (aqL a)
  have e:cT ((V.take (i+1)).map (·.cells))=cT ((V.take i).map (·.cells))+y.cells:=by
   rw [aq1];simp only [a,Option.toList_some,List.map_append,List.map_cons,List.map_nil,cT,List.foldl_append,List.foldl_cons,List.foldl_nil];exact ai ⟨by unfold cT at f;omega,by unfold cT at h2;omega⟩
  refine ⟨by omega,by omega,fun j c=>?_⟩;by_cases b:j=i+1
  ·subst b;exact Int.le_refl _
  ·have:=d j (by omega);omega
theorem kO {w:Int} {V:List Vr} (h:aA w V=true):(∀v∈V,1≤v.cells∧v.cells≤8)∧V.length≤18∧cT (V.map (·.cells))≤48:=by
 refine ⟨fun v a=>?_,(aP h).2.2.2,?_⟩
 ·obtain ⟨i,hi,e⟩:=List.mem_iff_getElem.1 a
  exact ll h (i:=i) (by rw [aqG hi,e])
 ·rw [fQ]at h;simp only [aqJ,aqS]at h;exact h.2.2.2.2
theorem vQ {w:Int} {V:List Vr} (h:aA w V=true) {n:Int} (p:0≤n∧n<V.length) (i:Int):
 0≤bZ V n∧bZ V n≤48∧1≤al V n∧al V n≤8∧0≤i%al V n∧i%al V n<al V n∧bZ V n+i%al V n<cT (V.map (·.cells)):=by
 obtain ⟨a,h2,q⟩:=kO h
 obtain ⟨y,b⟩:∃y,V[n.toNat]?=some y:=⟨_,aqG (by omega)⟩
 have d:al V n=y.cells:=by simp [al,b]
 have o:=a y (aqL b);obtain ⟨k,j,_⟩:=qd a h2 n.toNat (by omega);obtain ⟨t,s,r⟩:=qd a h2 (n.toNat+1) (by omega);obtain ⟨_,_,c⟩:=qd a h2 V.length (aqK _)
 have e:cT ((V.take (n.toNat+1)).map (·.cells))=cT ((V.take n.toNat).map (·.cells))+y.cells:=by
  rw [aq1];simp only [b,Option.toList_some,List.map_append,List.map_cons,List.map_nil,cT,List.foldl_append,List.foldl_cons,List.foldl_nil];exact ai ⟨by unfold cT at k;omega,by unfold cT at j;omega⟩
 have g:=c (n.toNat+1) (by omega);have f:=c n.toNat (by omega);rw [List.take_length]at g f;have m:=Int.emod_nonneg i (show y.cells≠0 by omega);have l:=Int.emod_lt_of_pos i (show 0<y.cells by omega);rw [d];unfold bZ;omega
def Od (w:Int) (V:List Vr) (S:List (List Int)):Prop:=∀s∈S,bB w V s=true
theorem lY {w:Int} {V:List Vr} {s:List Int} (c:1≤w∧w≤8) (h:bB w V s=true) {i:Int} (hi:0≤i∧i<cT (V.map (·.cells))):∃a,s[i.toNat]?=some a∧0≤a∧a<2^w.toNat∧QM s i=a:=by
 simp only [bB,aqJ,aqS,aqW]at h
 obtain ⟨a,b⟩:∃y,s[i.toNat]?=some y:=⟨_,aqG (by omega)⟩
 have:=h.2 a (aqL b);rw [km c]at this;simp at this;exact ⟨a,b,this.1,this.2,by simp [QM,b]⟩
theorem sU {w k op n cp:Int} {V:List Vr} {args:List bQ} (p:1≤w∧w≤8) (h:dz w V k (.mk op n cp args)=true):
 (∀e∈args,dz w V k e=true)∧((op=0∧args=[]∧0≤n∧n<2^w.toNat)∨(op=1∧0≤n∧n<V.length∧0≤cp∧cp<k∧((args=[]∧¬ 1<al V n)∨(∃a,args=[a])∧1<al V n))∨(op=12∧∃a,args=[a])∨(op=15∧∃a b c,args=[a,b,c])∨
  (((2≤op∧op≤11)∨op=13∨op=14)∧∃a b,args=[a,b])):=by
 rw [dz,aqJ]at h;refine ⟨iU.1 h.2,?_⟩;have d:=h.1;rw [vJ p,aqJ,aqS]at d;obtain ⟨d,h2⟩:=d;unfold lU at d;unfold ux at h2;by_cases o:op=0
 ·rw [if_pos o]at d h2
  simp at h2;exact .inl ⟨o,are (by omega),h2.1,h2.2.1⟩
 rw [if_neg o]at d h2;by_cases f:op=1
 ·rw [if_pos f]at h2
  simp at h2;by_cases g:0≤n∧n<V.length
  ·rw [if_pos ⟨f,g⟩]at d
   refine .inr (.inl ⟨f,g.1,g.2,h2.1,h2.2,?_⟩);by_cases i:1<al V n
   ·rw [if_pos i]at d
    exact .inr ⟨aro.1 (by omega),i⟩
   ·rw [if_neg i]at d
    exact .inl ⟨are (by omega),i⟩
  ·rw [if_neg (fun q=>g q.2),if_neg (by omega),if_neg (by omega),if_neg (by omega)]at d
   omega
 rw [if_neg (fun q=>f q.1)]at d;by_cases m:(2≤op∧op≤11)∨op=13∨op=14
 ·rw [if_pos m]at d
  exact .inr (.inr (.inr (.inr ⟨m,N7 (by omega)⟩)))
 rw [if_neg m]at d;by_cases l:op=12
 ·rw [if_pos l]at d
  exact .inr (.inr (.inl ⟨l,aro.1 (by omega)⟩))
 rw [if_neg l]at d;by_cases j:op=15
 ·rw [if_pos j]at d
  exact .inr (.inr (.inr (.inl ⟨j,GM (by omega)⟩)))
 rw [if_neg j]at d;omega
theorem kn {w:Int} {V:List Vr} {S:List (List Int)} (j:aA w V=true) (y:Od w V S):∀e,dz w V S.length e=true→0≤bF w V S e∧bF w V S e<2^w.toNat:=kG fun op n m args ih u=>by
 have f:1≤w∧w≤8:=⟨(aP j).1,(aP j).2.1⟩
 have z:=jH f;obtain ⟨d,g⟩:=sU f u;rcases g with⟨rfl,rfl,k,h2⟩|⟨rfl,k,h2,C,B,_⟩|⟨rfl,a,rfl⟩|⟨rfl,a,b,c,rfl⟩|⟨A,a,b,rfl⟩
 ·rw [bF,if_pos rfl];exact ⟨k,h2⟩
 ·rw [bF,if_neg (by omega),if_pos rfl]
  obtain ⟨s,l⟩:∃s,S[m.toNat]?=some s:=⟨_,aqG (by omega)⟩
  have t:=y s (aqL l);have g:=vQ j ⟨k,h2⟩ (fZ (de w V S args) 0);obtain ⟨x,_,r,p,o⟩:=lY f t (i:=bZ V n+fZ (de w V S args) 0%al V n) (by omega);have:storeAt S m=s:=by simp [storeAt,l]
  rw [this,o];exact ⟨r,p⟩
 ·rw [bF,if_neg (by omega),if_neg (by omega),if_pos rfl]
  have:=ih a (by simp) (d a (by simp));simp only [de,fZ,aqF,Option.getD_some];omega
 ·rw [bF,if_neg (by omega),if_neg (by omega),if_neg (by omega),if_pos rfl]
  have h:=ih b (by simp) (d b (by simp));have g:=ih c (by simp) (d c (by simp));by_cases q:fZ (de w V S [a,b,c]) 0=0
  ·rw [if_pos q];exact g
  ·rw [if_neg q];exact h
 ·rw [bF,if_neg (by omega),if_neg (by omega),if_neg (by omega),if_neg (by omega)]
  have v:=ih a (by simp) (d a (by simp));have h:=ih b (by simp) (d b (by simp));simp only [de,fZ,aqF,List.getElem?_cons_succ,Option.getD_some];exact xW f v h
def gO (H:AH) (v:Value) (S:List (List Int)):Prop:=∃rows,Rows H 1 v rows∧fg (fun r s=>∃u,r=[u]∧fb H u s) rows S
theorem fg.get {α β:Type} {C:α→β→Prop}:∀{l:List α} {m:List β} {i:Nat} {y:β},fg C l m→m[i]?=some y→∃x,l[i]?=some x∧C x y
 |_,_,i,y,.nil,h=>by simp at h
 |_,_,0,y,.cons a b,h=>by simp at h;subst h;exact ⟨_,rfl,a⟩
 |_,_,i+1,y,.cons a b,h=>by obtain ⟨x,c,h2⟩:=fg.get b (by simpa using h);exact ⟨x,by simpa using c,h2⟩
theorem fg.imp {α β:Type} {C D:α→β→Prop} (h:∀a b,C a b→D a b):∀{l:List α} {m:List β},fg C l m→fg D l m
 |_,_,.nil=>.nil
 |_,_,.cons a b=>.cons (h _ _ a) (fg.imp h b)
theorem gO.sub {H H':AH} (X:Sub H H') {v:Value} {S:List (List Int)} (h:gO H v S):gO H' v S:=by
 obtain ⟨rows,a,h2⟩:=h;exact ⟨rows,a.sub X,h2.imp fun _ _ ⟨u,e,k⟩=>⟨u,e,k.sub X⟩⟩
theorem gO.at {H:AH} {v:Value} {S:List (List Int)} (h:gO H v S) {i:Nat} {s:List Int} (hi:S[i]?=some s):∃b o c a d,v= .slice (some ⟨b,o,none⟩) S.length c∧H.ld ⟨b,o+i,none⟩=some (.slice a s.length d)∧fb H (.slice a s.length d) s:=by
 obtain ⟨rows,l,h2⟩:=h;obtain ⟨r,g,u,rfl,f⟩:=h2.get hi;obtain ⟨b,o,c,e,k⟩:=l.at g;obtain ⟨a,d,m⟩:=f.len;rw [h2.length]at e;have:=aK k (j:=0) rfl;rw [m]at this f;exact ⟨b,o,c,a,d,e,by simpa using this,f⟩
theorem gO.len {H:AH} {v:Value} {S:List (List Int)} (h:gO H v S):∃a c,v= .slice a S.length c:=by
 obtain ⟨rows,b,h2⟩:=h;obtain ⟨a,c,e⟩:=b.len;rw [h2.length]at e;exact ⟨a,c,e⟩
open Go
end
section
open Go
def Ev.row (e:Ev):List Value:=[.int .i64 e.kind,.int .i64 e.at_,.int .i64 e.val]
def dB (l:List Ev):List (List Value):=l.map Ev.row
theorem tZ (l m:List Ev):dB (l++m)=dB l++dB m:=by simp [dB]
theorem jU (l:List Ev):(dB l).length=l.length:=by simp [dB]
theorem ko {w:Int} {V:List Vr} {S:List (List Int)} {l:List bQ} (h:∀e∈l,((pO w V S e).length:Int)≤av e):((fy w V S l).length:Int)≤ar l:=by
 induction l with
 |nil=>simp [fy,ar]
 |cons x l ih=>
  rw [fy,ar,aqP];have b:=h x (by simp);have h2:=ih fun e a=>h e (by simp [a])
  omega
theorem eW {w:Int} {V:List Vr} {S:List (List Int)}:∀e,((pO w V S e).length:Int)≤av e:=kG fun op n b args ih=>by
 have a:=ko (w:=w) (V:=V) (S:=S) ih;rw [pO,av,aqP];split
 ·simp;omega
 ·simp;omega
theorem GU {w:Int} {V:List Vr} {S:List (List Int)} {l:List bQ} {i:Nat} {y:bQ} (h:l[i]?=some y):fy w V S (l.take (i+1))=fy w V S (l.take i)++pO w V S y:=by
 induction l generalizing i with
 |nil=>simp at h
 |cons x l ih=>
  cases i with
  |zero=>simp at h;subst h;simp [fy]
  |succ i=>simp only [List.take_succ_cons,fy];rw [ih (by simpa using h),aq5]
theorem x7 {w:Int} {V:List Vr} {S:List (List Int)} (l:List bQ) (i:Nat):((fy w V S (l.take i)).length:Int)≤ar l:=by
 have:=ko (w:=w) (V:=V) (S:=S) (l:=l.take i) fun e _=>eW e
 have:=bO l i;omega
open Go
abbrev wU:=Int×bh
def eD:List bh→Int→List wU
 |[],_=>[]
 | .mk op n args aB aE::ss,k=>(k,.mk op n args aB aE)::eD ss (k+1+aC aB+aC aE)
theorem nM.sub:∀{G H:AH} (X:Sub G H) {c:List Value} {e:bh},nM G c e→nM H c e:=by
 intro G H X
 have w:∀(N:Nat) (e:bQ) (c:List Value),SizeOf.sizeOf e<N→oO G c e→oO H c e:=by
  intro N
  induction N with
  |zero=>intro e c h;omega
  |succ N ih=>
   intro e c i h
   cases h with| @mk op n O v rows args m k j t s r=>
   refine .mk m k j t (s.sub X) ?_
   have:∀(rows:List (List Value)) (l:List bQ),(∀y∈l,SizeOf.sizeOf y<N)→fY G rows l→fY H rows l:=by
    intro rows l
    induction l generalizing rows with
    |nil=>intro _ h;cases h;exact .nil
    |cons x l f=>intro g h;cases h with|cons a b=>exact .cons (ih x _ (g x (by simp)) a) (f _ (fun y d=>g y (by simp [d])) b)
   exact this rows args (fun y d=>by have:=arb d;simp at i;omega) r
 have o:∀(rows:List (List Value)) (l:List bQ),fY G rows l→fY H rows l:=by
  intro rows l
  induction l generalizing rows with
  |nil=>intro h;cases h;exact .nil
  |cons x l f=>intro h;cases h with|cons a b=>exact .cons (w _ x _ (aqV _) a) (f _ b)
 have u:∀(N:Nat) (e:bh) (c:List Value),SizeOf.sizeOf e<N→nM G c e→nM H c e:=by
  intro N
  induction N with
  |zero=>intro e c h;omega
  |succ N ih=>
   intro e c i h
   cases h with| @mk op n I E F L rt K args J M m k j q p D h2 C B A z=>
   have key:∀(rows:List (List Value)) (l:List bh),(∀y∈l,SizeOf.sizeOf y<N)→gN G rows l→gN H rows l:=by
    intro rows l
    induction l generalizing rows with
    |nil=>intro _ h;cases h;exact .nil
    |cons x l f=>intro g h;cases h with|cons a b=>exact .cons (ih x _ (g x (by simp)) a) (f _ (fun y d=>g y (by simp [d])) b)
   refine .mk m k j q p (D.sub X) (o _ _ h2) (C.sub X) (key _ _ (fun y d=>?_) B) (A.sub X) (key _ _ (fun y d=>?_) z)
   ·have:=arb d;simp at i;omega
   ·have:=arb d;simp at i;omega
 exact fun{c e} h=>u _ e c (aqV _) h
theorem gN.sub {G H:AH} (X:Sub G H):∀{rows:List (List Value)} {l:List bh},gN G rows l→gN H rows l
 |_,_,.nil=>.nil
 |_,_,.cons a b=>.cons (a.sub X) (gN.sub X b)
end
section
open Go
noncomputable def part (H:AH) (n:Nat) (S:Nat→Prop):AH:=H.tY ((List.range H.nx).filter fun b=>@decide (b<n∨S b) (Classical.propDecidable _))
theorem jj {H:AH} {n:Nat} {S:Nat→Prop} {b:Nat} {x:pP}:(part H n S).get b=some x↔H.get b=some x∧n≤b∧¬ S b:=by
 unfold part;rw [sQ];have a:b∈((List.range H.nx).filter fun b=>@decide (b<n∨S b) (Classical.propDecidable _))↔b<H.nx∧(b<n∨S b):=by rw [List.mem_filter,List.mem_range,@aqS _ (Classical.propDecidable _)]
 constructor
 ·intro h
  split at h
  ·cases h
  ·rename_i q
   rw [a]at q;have c:=AH.aS h;exact ⟨h,Nat.le_of_not_lt fun k=>q ⟨c,.inl k⟩,fun k=>q ⟨c,.inr k⟩⟩
 ·rintro ⟨h,e,d⟩
  rw [if_neg]
  ·exact h
  ·rw [a]
   rintro ⟨_,q|q⟩
   ·omega
   ·exact d q
theorem oY (H:AH) (n:Nat) (S:Nat→Prop):(part H n S).n0=H.n0:=vN _ _
theorem vR (H:AH) (n:Nat) (S:Nat→Prop):(part H n S).nx=H.nx:=vO _ _
theorem BM (H:AH) (n:Nat) (S:Nat→Prop):Sub (part H n S) H:=GI _ _
theorem eu {H H':AH} {n m:Nat} {S S':Nat→Prop} (e:H'.n0=H.n0) (d:H.nx≤H'.nx) (h:∀b x,H.get b=some x→n≤b→¬ S b→H'.get b=some x∧m≤b∧¬ S' b):Sub (part H n S) (part H' m S'):=
 ⟨by rw [oY,oY,e],by rw [vR,vR];exact d,fun b x k=>jj.2 (let⟨a,f,c⟩:=jj.1 k;h b x a f c)⟩
theorem dK.part {H:AH} {sz n:Nat} {v:Value} {rows:List (List Value)} {S:Nat→Prop} (h:dK H sz v rows) (hs:∀b,aR v b→n≤b∧¬ S b):dK (part H n S) sz v rows:=by
 refine ⟨?_,h.len⟩;rcases h.is with⟨rfl,rfl⟩|⟨b,rfl,c,a⟩
 ·exact .inl ⟨rfl,rfl⟩
 ·have:=hs b ((bl _ _ _ _ _).2 rfl)
  exact .inr ⟨b,rfl,by rw [oY];exact c,jj.2 ⟨a,this.1,this.2⟩⟩
theorem dK.sub {G H:AH} (X:Sub G H) {sz:Nat} {v:Value} {rows:List (List Value)} (h:dK G sz v rows):dK H sz v rows:=by
 refine ⟨?_,h.len⟩;rcases h.is with⟨rfl,rfl⟩|⟨b,rfl,c,a⟩
 ·exact .inl ⟨rfl,rfl⟩
 ·exact .inr ⟨b,rfl,by rw [X.n0];exact c,X.get _ _ a⟩
abbrev zf:Nat→Prop:=fun _=>False
theorem oO.sub {G H:AH} (X:Sub G H):∀{c:List Value} {e:bQ},oO G c e→oO H c e:=by
 have r:∀(N:Nat) (e:bQ) (c:List Value),SizeOf.sizeOf e<N→oO G c e→oO H c e:=by
  intro N
  induction N with
  |zero=>intro e c h;omega
  |succ N ih=>
   intro e c q h
   cases h with| @mk op n s v rows args k j i p o m=>
   refine .mk k j i p (o.sub X) ?_
   have:∀(rows:List (List Value)) (l:List bQ),(∀y∈l,SizeOf.sizeOf y<N)→fY G rows l→fY H rows l:=by
    intro rows l
    induction l generalizing rows with
    |nil=>intro _ h;cases h;exact .nil
    |cons x l g=>intro f h;cases h with|cons a b=>exact .cons (ih x _ (f x (by simp)) a) (g _ (fun y d=>f y (by simp [d])) b)
   exact this rows args (fun y d=>by have:=arb d;simp at q;omega) m
 exact fun{c e} h=>r _ e c (aqV _) h
theorem fY.sub {G H:AH} (X:Sub G H):∀{rows:List (List Value)} {l:List bQ},fY G rows l→fY H rows l
 |_,_,.nil=>.nil
 |_,_,.cons a b=>.cons (a.sub X) (fY.sub X b)
theorem fY.snoc {H:AH}:∀{rows:List (List Value)} {l:List bQ} {r:List Value} {y:bQ},fY H rows l→oO H r y→fY H (rows++[r]) (l++[y])
 |_,_,_,_,.nil,h=>.cons h .nil
 |_,_,_,_,.cons a b,h=>.cons a (fY.snoc b h)
theorem mO {α:Type} {l:List α} {i:Nat} {y:α} (h:l[i]?=some y):l.take (i+1)=l.take i++[y]:=by rw [aq1,h];rfl
theorem jk:∀l:List bQ,(l.length:Int)≤ar l
 |[]=>by simp [ar]
 |x::l=>by have:=ec x;have:=jk l;simp [ar];omega
theorem sV:∀(N:Nat) (l:List bQ) (A:Value) (rows:List (List Value)) (H:AH),SizeOf.sizeOf l<N→H.n0≤H.nx→Rows H 4 A rows→fY H rows l→l.length≤2^40→ar l≤2^40→
 Ca E O 140 [A] H (fun x H'=>∃rs,dK H' 4 x rs∧fY (part H' H.nx (aR x)) rs l∧Ext H H'∧∀b,aR x b→H.nx≤b):=by
 intro N
 induction N with
 |zero=>intro l A rows H h;omega
 |succ N ih=>
  intro l A rows H hN hw hr hl hlen wV;refine Ca.aW (F:=Kt) rfl rfl rfl ?_;obtain ⟨p0,c0,P⟩:=hr.len;rw [hl.length]at P;simp (maxSteps:=9^7)-implicitDefEqProofs+contextual [-X.ev,Kt,P];refine cm (fun k I H'=>Ext H H'∧∃(i:Nat) (z:Value) (rs:List (List Value)),i+k=l.length∧I.get 6=A∧I.get 3=z∧I.get 7= .int .i64 l.length∧I.get 8= .int .i64 i∧dK H' 4 z rs∧rs.length=i∧fY (part H' H.nx (aR z)) rs (l.take i)∧(∀b,aR z b→H.nx≤b)) ?_ l.length ⟨Ext.refl _,0,.slice none 0 0,[],by simp,by simp [P],by simp,by simp [P],by simp,dK.nil _ _,rfl,by simpa using fY.nil,fun b a=>absurd a (dL _ _ _)⟩;rintro k I f ⟨u,i,z,rs,hi,f6,f3,f7,f8,U,zJ,aH,fL⟩;have D:=u.wf hw;by_cases h:i<l.length
  ·obtain ⟨y,M⟩:∃y,l[i]?=some y:=⟨_,aqG h⟩
   obtain ⟨op,n,d,args⟩:=y;obtain ⟨b,o,c',va,r,cx,bL,rfl,mG⟩:=fY.row (hr.ext u) (hl.ext u) M;simp only [bQ.op,bQ.n,bQ.cp]at bL mG;have QN:=f6;rw [cx]at QN;have oV:=arb (aqL M);have W:=fw M;have ht2:=bO l (i+1);have ht3:=bO l i;rw [av]at W;have hla:=jk args
   cases mG with| @mk _ _ _ _ ra _ i1 i2 i3 BE FG Z=>
   obtain ⟨p,B,e,aeD,VJ,q,C⟩:=dZ (H:=f) D (z:=4) (c:=[.int .i64 0,.int .i64 0,.int .i64 0,.slice none 0 0]) (vs:=[.int .i64 op,.int .i64 n,.int .i64 d,va]) rfl;have q0:p.ld ⟨f.nx,0,none⟩=some (.int .i64 op):=C 0 _ rfl;have q1:p.ld ⟨f.nx,1,none⟩=some (.int .i64 n):=C 1 _ rfl;have q2:p.ld ⟨f.nx,2,none⟩=some (.int .i64 d):=C 2 _ rfl;have q3:p.ld ⟨f.nx,3,none⟩=some va:=C 3 _ rfl;clear C;replace q:p.ldn ⟨f.nx,0,none⟩ 4=some [.int .i64 op,.int .i64 n,.int .i64 d,va]:=q;have jh:=e.wf D
   have g2:p.get f.nx=some (.cells 4 [.int .i64 op,.int .i64 n,.int .i64 d,va]):=by
    obtain ⟨H2',s2,_,_,_,g⟩:=iK D (z:=4) (c:=[.int .i64 0,.int .i64 0,.int .i64 0,.slice none 0 0]) (vs:=[.int .i64 op,.int .i64 n,.int .i64 d,va]) rfl;rw [B]at s2;cases s2;exact g
   have lt2:=AH.aS g2;simp (maxSteps:=9^7)-implicitDefEqProofs+contextual [-X.ev,QN,f3,f7,f8,h,bL,B,q3];apply ah
   ·(simp-implicitDefEqProofs [-X.ev];rfl)
   refine (ih args va ra p (by simp at oV;omega) jh (FG.ext e) (Z.ext e) (by omega) (by omega)).mono ?_;rintro x0 H3 ⟨m,o3,e3,j,k3⟩;obtain ⟨t,s,hx⟩:=o3.shape;subst hx;have pN:=j.wf jh;have g3:=j.get g2;obtain ⟨J,s4,w,y9,K,g4⟩:=bR g3 (by rw [j.n0,e.n0];exact D) (k:=3) (vs:=[.slice t m.length s]) (by simp);have ie:aJ [.int .i64 op,.int .i64 n,.int .i64 d,va] 3 [.slice t m.length s]=[.int .i64 op,.int .i64 n,.int .i64 d,.slice t m.length s]:=rfl;rw [ie]at g4;have qO:=w.wf pN;have h04:J.n0≤f.nx:=by rw [K,j.n0,e.n0];exact D
   have l4:J.ldn ⟨f.nx,0,none⟩ 4=some [.int .i64 op,.int .i64 n,.int .i64 d,.slice t m.length s]:=by rw [bH g4 h04 (by simp)];rfl
   have R:∀b,aR z b→b<f.nx:=fun b a=>U.lt a
   have T:dK J 4 z rs:=(U.ext (e.trans j)).mod w (fun b a q=>by have:=R b a;omega);have wT:=vM (sz:=4) (z:=[.int .i64 0,.int .i64 0,.int .i64 0,.slice none 0 0]) (H:=J) (v:=.agg #[.int .i64 op,.int .i64 n,.int .i64 d,.slice t m.length s]) rfl rfl rfl;simp only [gw]at wT
   obtain ⟨H5,G⟩:∃H5,J.alloc (.cells 4 [.int .i64 op,.int .i64 n,.int .i64 d,.slice t m.length s])=H5:=⟨_,rfl⟩
   obtain ⟨z',H6,Wb,o6,Q,L,c1,c2,c3,c4,c5,c6⟩:=ji (bytes:=48) qO T (r:=[.int .i64 op,.int .i64 n,.int .i64 d,.slice t m.length s]) rfl G (by omega) (by omega);rw [G]at wT;have hX:Ext H H6:=((u.trans (e.trans j)).mod w (fun b a=>by have:=u.nx;omega)).mod Q fL;have n12:=e.nx;have n23:=j.nx;have DK:=u.nx;simp (maxSteps:=9^7)-implicitDefEqProofs+contextual [-X.ev,QN,f3,f7,f8,s4,l4,wT,Wb];rw [ai (n:=(i:Int)+1) ⟨by omega,by omega⟩];refine ⟨k- 1,by omega,hX,i+1,by omega,cx.symm,by omega,_,o6,by simp [zJ],?_,fun q hq=>by have:=L q hq;omega⟩;rw [mO M];refine fY.snoc (aH.sub (eu (c1.trans (K.trans (j.n0.trans e.n0))) (by omega) fun b y a Y V=>?_)) (.mk i1 i2 i3 BE (rows:=m) (Rows.sub (eu (n:=p.nx) (S:=zf) (c1.trans K) (by omega) fun b y a Y V=>?_) (o3.part (fun b a=>⟨k3 b a,fun q=>q⟩)).rows) (e3.sub (eu (c1.trans K) (by omega) fun b y a Y V=>?_)))
   ·have lK:=AH.aS a
    refine ⟨Q.get (fun q=>V q) (w.get (fun q=>by omega) (j.get (e.get a))),Y,fun q=>by have:=L b q;omega⟩
   ·have lK:=AH.aS a
    refine ⟨Q.get (fun q=>by have:=R b q;omega) (w.get (fun q=>by omega) a),by omega,fun q=>by have:=L b q;omega⟩
   ·have lK:=AH.aS a
    refine ⟨Q.get (fun q=>by have:=R b q;omega) (w.get (fun q=>by omega) a),by omega,fun q=>by have:=L b q;omega⟩
  ·rw [aqN (by omega)]at aH
   simp (maxSteps:=9^7)-implicitDefEqProofs+contextual [-X.ev,f6,f3,f7,f8,h,u];exact ⟨rs,U,aH,fL⟩
open Go
def Fit (H:AH) (v:Value):Prop:=∃a n c,v= .slice a n c∧n≤c∧(0<n→∃b o,a=some ⟨b,o,none⟩∧H.kD b 5=true)
theorem vT {H:AH} {b z k:Nat} {c:List Value} (h:H.get b=some (.cells z c)) (a:k≤z):H.kD b k=true:=by simp [AH.kD,h,a]
theorem dK.fit {H:AH} {v:Value} {rows:List (List Value)} (h:dK H 5 v rows):Fit H v:=by
 rcases h.is with⟨rfl,_⟩|⟨b,rfl,_,a⟩
 ·exact ⟨_,_,_,rfl,aqK _,fun h=>absurd h (by omega)⟩
 ·exact ⟨_,_,_,rfl,aqK _,fun _=>⟨_,_,rfl,vT a (aqK _)⟩⟩
theorem Fit.sub {G H:AH} (X:Sub G H) {v:Value} (h:Fit G v):Fit H v:=by
 obtain ⟨a,n,c,e,g,h2⟩:=h;refine ⟨a,n,c,e,g,fun h=>?_⟩;obtain ⟨b,o,i,d⟩:=h2 h;refine ⟨b,o,i,?_⟩;unfold AH.kD at d⊢;split at d
 ·rename_i f;rw [X.get _ _ f];exact d
 ·cases d
mutual
inductive zg (H:AH):List Value→bh→Prop where
 |mk {op n:Int} {va vt ve:Value} {ra rt re:List (List Value)} {args:List bQ} {aB aE:List bh}:jR op→jR n→args.length<2^60→aB.length<2^60→aE.length<2^60→
  Rows H 4 va ra→fY H ra args→Rows H 5 vt rt→eE H rt aB→Fit H vt→Rows H 5 ve re→eE H re aE→Fit H ve→zg H [.int .i64 op,.int .i64 n,va,vt,ve] (.mk op n args aB aE)
inductive eE (H:AH):List (List Value)→List bh→Prop where
 |nil:eE H [] []
 |cons {r:List Value} {e:bh} {rs:List (List Value)} {es:List bh}:zg H r e→eE H rs es→eE H (r::rs) (e::es)
end
mutual
theorem zg.toC {H:AH} {c:List Value} {e:bh}:zg H c e→nM H c e
 | .mk a b c d e g h rt lt _ f le _=>.mk a b c d e g h rt (eE.Wc lt) f (eE.Wc le)
theorem eE.Wc {H:AH} {c:List (List Value)} {e:List bh}:eE H c e→gN H c e
 | .nil=>.nil
 | .cons a b=>.cons (zg.toC a) (eE.Wc b)
end
mutual
theorem zg.sub {G H:AH} (X:Sub G H) {c:List Value} {e:bh}:zg G c e→zg H c e
 | .mk a b c d e g h rt lt i f le j=>.mk a b c d e (g.sub X) (fY.sub X h) (rt.sub X) (eE.sub X lt) (i.sub X) (f.sub X) (eE.sub X le) (j.sub X)
theorem eE.sub {G H:AH} (X:Sub G H) {c:List (List Value)} {e:List bh}:eE G c e→eE H c e
 | .nil=>.nil
 | .cons a b=>.cons (zg.sub X a) (eE.sub X b)
end
theorem eE.length {H:AH}:∀{c:List (List Value)} {e:List bh},eE H c e→c.length=e.length:=fun h=>h.Wc.length
theorem eE.snoc {H:AH}:∀{rows:List (List Value)} {l:List bh} {r:List Value} {y:bh},eE H rows l→zg H r y→eE H (rows++[r]) (l++[y])
 |_,_,_,_,.nil,h=>.cons h .nil
 |_,_,_,_,.cons a b,h=>.cons a (eE.snoc b h)
theorem zg.len {H:AH} {c:List Value} {s:bh} (h:zg H c s):c.length=5:=by cases h;rfl
abbrev zS:List Value:=[.int .i64 0,.int .i64 0,.slice none 0 0,.slice none 0 0,.slice none 0 0]
theorem ef:∀l:List bh,(l.length:Int)≤au l
 |[]=>by simp [au]
 |x::l=>by have:=lV x;have:=ef l;simp [au];omega
theorem x8 {H1 a:AH} {n m:Nat} {z:Value} {rs:List (List Value)} {o:List bh} {cs:List Value} {s:bh} (x:H1.n0≤H1.nx) (X:Ext H1 a) (F:H1.nx≤m) (h:n≤H1.nx) (l:dK H1 5 z rs) (B:eE (part H1 n (aR z)) rs o) (i:zg (part a m zf) cs s) (c:rs.length≤2^40):
 ∃d H4 f,ng 1 5 zS a [(0,5,.agg cs.toArray)]=some (.slice (some ⟨a.nx,0,none⟩) 1 1,H4)∧bm 5 88 H4 z (.slice (some ⟨a.nx,0,none⟩) 1 1)=some (d,f)∧dK f 5 d (rs++[cs])∧eE (part f n (aR d)) (rs++[cs]) (o++[s])∧Mod (aR z) a f∧∀b,aR d b→a.nx≤b:=by
 have w:=X.wf x;have j:=vM (sz:=5) (z:=zS) (H:=a) (v:=.agg cs.toArray) (by simpa using i.len) rfl rfl;simp only [gw]at j
 obtain ⟨H4,e⟩:∃H4,a.alloc (.cells 5 cs)=H4:=⟨_,rfl⟩
 obtain ⟨d,D,C,u,k,g,r,L,K,J,I,G⟩:=ji (bytes:=88) w (l.ext X) i.len e (by omega) (by omega);rw [e]at j;have t:∀b,aR z b→b<H1.nx:=fun b c=>l.lt c
 have E:=X.nx;refine ⟨d,H4,D,j,C,u,eE.snoc (B.sub (eu (r.trans X.n0) (by omega) fun b y c h p=>?_)) (i.sub (eu r (by omega) fun b y c h p=>?_)),k,g⟩
 ·have A:=AH.aS c
  exact ⟨k.get (fun q=>p q) (X.get c),h,fun q=>by have:=g b q;omega⟩
 ·have A:=AH.aS c
  exact ⟨k.get (fun q=>by have:=t b q;omega) c,by omega,fun q=>by have:=g b q;omega⟩
theorem DO:∀(N:Nat) (s:bh) (c:List Value) (H:AH),SizeOf.sizeOf s<N→H.n0≤H.nx→nM H c s→bc s≤2^40→
 Ca E O 104 [.agg c.toArray] H (fun x H'=>∃cs,x= .agg cs.toArray∧zg (part H' H.nx zf) cs s∧Ext H H'):=by
 intro N
 induction N with
 |zero=>intro s c H h;omega
 |succ N ih=>
  intro s c H hN M hs wV
  cases hs with| @mk op n va vt ve ra rt re args D I i1 i2 i3 i4 i5 h1 h2 h3 h4 h5 h6=>
  refine Ca.aW (F:=Kj) rfl rfl rfl ?_;rw [bc]at wV;have na:=a6 args;have nt:=cz D;have ne:=cz I;have la:=jk args;have lt:=ef D;have le:=ef I;obtain ⟨p1,q1,wS⟩:=h3.len;rw [h4.length]at wS;obtain ⟨p2,q2,tV⟩:=h5.len;rw [h6.length]at tV;have gB:=cq H (.cells 5 [.int .i64 op,.int .i64 n,va,vt,ve]);have X1:=Ext.alloc H (.cells 5 [.int .i64 op,.int .i64 n,va,vt,ve]);have d0:(H.alloc (.cells 5 [.int .i64 op,.int .i64 n,va,vt,ve])).ld ⟨H.nx,0,none⟩=some (.int .i64 op):=aj M rfl;have d1:(H.alloc (.cells 5 [.int .i64 op,.int .i64 n,va,vt,ve])).ld ⟨H.nx,1,none⟩=some (.int .i64 n):=aj M rfl;have d2:(H.alloc (.cells 5 [.int .i64 op,.int .i64 n,va,vt,ve])).ld ⟨H.nx,2,none⟩=some va:=aj M rfl;have d3:(H.alloc (.cells 5 [.int .i64 op,.int .i64 n,va,vt,ve])).ld ⟨H.nx,3,none⟩=some vt:=aj M rfl;have d4:(H.alloc (.cells 5 [.int .i64 op,.int .i64 n,va,vt,ve])).ld ⟨H.nx,4,none⟩=some ve:=aj M rfl;have d:(H.alloc (.cells 5 [.int .i64 op,.int .i64 n,va,vt,ve])).ldn ⟨H.nx,0,none⟩ 5=some [.int .i64 op,.int .i64 n,va,vt,ve]:=bj M 5 rfl;generalize cF:H.alloc (.cells 5 [.int .i64 op,.int .i64 n,va,vt,ve])=H1 at X1 d0 d1 d2 d3 d4 d;have bD:=X1.wf M;rw [cF]at gB;have X2:=Ext.alloc H1 (.cells 5 zS);have gR:=cq H1 (.cells 5 zS)
  obtain ⟨H2,j0⟩:∃H2,H1.alloc (.cells 5 zS)=H2:=⟨_,rfl⟩
  rw [j0]at X2 gR;have jS:=X2.wf bD;have kC:=X1.trans X2;have ltB:=AH.aS gB;have ltR:=AH.aS gR;have d22:=X2.ld d2;have n1:=X1.nx;have n2:=X2.nx;simp at hN;simp (maxSteps:=9^7)-implicitDefEqProofs+contextual [-X.ev,Kj,cF,j0,d22];apply ah
  ·(simp-implicitDefEqProofs [-X.ev];rfl)
  refine (sV _ args va ra H2 (aqV _) jS (h1.ext kC) (h2.ext kC) (by omega) (by omega)).mono ?_;rintro x H3 ⟨t,oa,ea,X3,ka⟩;obtain ⟨p,m,hx⟩:=oa.shape;subst hx;have pN:=X3.wf jS;have n3:=X3.nx;obtain ⟨H4,s4,M4,y9,nN,Tz⟩:=bR (X3.get (X2.get gB)) (by rw [X3.n0,X2.n0,X1.n0];exact M) (k:=2) (vs:=[.slice p t.length m]) (by simp);have ie:aJ [.int .i64 op,.int .i64 n,va,vt,ve] 2 [.slice p t.length m]=[.int .i64 op,.int .i64 n,.slice p t.length m,vt,ve]:=rfl;rw [ie]at Tz;have qO:=M4.wf pN;have rF:Ext H H4:=(kC.trans X3).mod M4 (fun b a=>by omega);have gR4:=M4.get (fun q=>by omega) (X3.get gR);have B0:H4.n0≤H.nx:=by rw [rF.n0];exact M
  have e3:=aG Tz B0 (k:=3) (v:=vt) rfl;have SW:=e3;rw [wS]at SW;simp (maxSteps:=9^7)-implicitDefEqProofs+contextual [-X.ev,s4,SW];refine cm (fun k g H'=>Ext H4 H'∧∃(i:Nat) (z:Value) (rs:List (List Value)),i+k=D.length∧g.get 1= .pointer (some ⟨H.nx,0,none⟩)∧g.get 2= .pointer (some ⟨H1.nx,0,none⟩)∧g.get 3=z∧g.get 4= .slice none 0 0∧g.get 14=vt∧g.get 15= .int .i64 D.length∧g.get 16= .int .i64 i∧dK H' 5 z rs∧rs.length=i∧eE (part H' H4.nx (aR z)) rs (D.take i)∧(∀b,aR z b→H4.nx≤b)) ?_ D.length ⟨Ext.refl _,0,.slice none 0 0,[],by simp,by simp,by simp,by simp,by simp,by simp [wS],by simp,by simp,dK.nil _ _,rfl,by simpa using eE.nil,fun b a=>absurd a (dL _ _ _)⟩;rintro k g l ⟨A,i,z,rs,hi,f1,Y,U,T,f14,f15,f16,ow,zJ,aH,fL⟩;have qP:=A.wf qO;have GJ:=rF.trans A;by_cases h:i<D.length
  ·obtain ⟨y,L⟩:∃y,D[i]?=some y:=⟨_,aqG h⟩
   obtain ⟨u,w,jI,oZ,pd⟩:=y;obtain ⟨b,o,c',pf,pg,ph,We,Wf,Wg,cx,bL,_,_,_,_,_,j1,j2,j3,j4,j5,g1,g2,g3,g4,g5,g6⟩:=gN.row (h3.ext GJ) (gN.ext GJ h4) L;have EB:nM l [.int .i64 u,.int .i64 w,pf,pg,ph] (.mk u w jI oZ pd):=.mk j1 j2 j3 j4 j5 g1 g2 g3 g4 g5 g6;have oV:=arb (aqL L);have t1:=dX L;have t2:=a8 D (i+1);have t3:=a8 D i;have Z:=f14;rw [cx]at Z;obtain ⟨f,Lk,e,QB,QC,q,tX⟩:=dZ (H:=l) qP (z:=5) (c:=[.int .i64 0,.int .i64 0,.slice none 0 0,.slice none 0 0,.slice none 0 0]) (vs:=[.int .i64 u,.int .i64 w,pf,pg,ph]) rfl;have q0:f.ld ⟨l.nx,0,none⟩=some (.int .i64 u):=tX 0 _ rfl;have q1:f.ld ⟨l.nx,1,none⟩=some (.int .i64 w):=tX 1 _ rfl;have q2:f.ld ⟨l.nx,2,none⟩=some pf:=tX 2 _ rfl;have q3:f.ld ⟨l.nx,3,none⟩=some pg:=tX 3 _ rfl;have q4:f.ld ⟨l.nx,4,none⟩=some ph:=tX 4 _ rfl;clear tX;replace q:f.ldn ⟨l.nx,0,none⟩ 5=some [.int .i64 u,.int .i64 w,pf,pg,ph]:=q;have Gw:=e.wf qP;simp (maxSteps:=9^7)-implicitDefEqProofs+contextual [-X.ev,Z,U,f15,f16,h,bL,Lk,q];apply ah
   ·(simp-implicitDefEqProofs [-X.ev];rfl)
   refine (ih _ _ f (by omega) Gw (nM.ext e EB) (by omega)).mono ?_;rintro x P ⟨cs,rfl,hk,J⟩;obtain ⟨z',H8,H9,b8,a9,o9,s9,M9,k9⟩:=x8 qP (e.trans J) e.nx A.nx ow aH hk (by omega);have n6:=e.nx;have n7:=J.nx;have n5:=A.nx;simp (maxSteps:=9^7)-implicitDefEqProofs+contextual [-X.ev,Z,U,f15,f16,b8,a9];rw [ai (n:=(i:Int)+1) ⟨by omega,by omega⟩];exact ⟨k- 1,by omega,((A.trans e).trans J).mod M9 fL,i+1,by omega,f1,Y,T,cx.symm,by omega,_,o9,by simp [zJ],by rw [mO L];exact s9,fun q hq=>by have:=k9 q hq;omega⟩
  rw [aqN (by omega)]at aH;have gB5:=A.get Tz;have B5:l.n0≤H.nx:=by rw [A.n0];exact B0
  have e4:=aG gB5 B5 (k:=4) (v:=ve) rfl;rw [tV]at e4;obtain ⟨C,B,hz⟩:=ow.shape;have n5:=A.nx;have Z:=f14;rw [wS]at Z;simp (maxSteps:=9^7)-implicitDefEqProofs+contextual [-X.ev,f1,Y,U,T,Z,f15,f16,h,e4];refine cm (fun k g H'=>Ext l H'∧∃(j:Nat) (z2:Value) (r:List (List Value)),j+k=I.length∧g.get 1= .pointer (some ⟨H.nx,0,none⟩)∧g.get 2= .pointer (some ⟨H1.nx,0,none⟩)∧g.get 3=z∧g.get 4=z2∧g.get 27=ve∧g.get 28= .int .i64 I.length∧g.get 29= .int .i64 j∧dK H' 5 z2 r∧r.length=j∧eE (part H' l.nx (aR z2)) r (I.take j)∧(∀b,aR z2 b→l.nx≤b)) ?_ I.length ⟨Ext.refl _,0,.slice none 0 0,[],by simp,by simp [f1],by simp [Y],by simp [U],by simp [T],by simp [tV],by simp,by simp,dK.nil _ _,rfl,by simpa using eE.nil,fun b a=>absurd a (dL _ _ _)⟩;clear f1 Y U T f14 Z f15 f16 g;rintro k g f ⟨e,j,z2,r,hj,f1,Y,U,T,f27,f28,f29,K,ae7,oW,QP⟩;have DF:=e.wf qP;have X06:=GJ.trans e;by_cases h':j<I.length
  ·obtain ⟨y,L⟩:∃y,I[j]?=some y:=⟨_,aqG h'⟩
   obtain ⟨u,w,jI,oZ,pd⟩:=y;obtain ⟨b,o,c',pf,pg,ph,We,Wf,Wg,cx,bL,_,_,_,_,_,j1,j2,j3,j4,j5,g1,g2,g3,g4,g5,g6⟩:=gN.row (h5.ext X06) (gN.ext X06 h6) L;have EB:nM f [.int .i64 u,.int .i64 w,pf,pg,ph] (.mk u w jI oZ pd):=.mk j1 j2 j3 j4 j5 g1 g2 g3 g4 g5 g6;have oV:=arb (aqL L);have t1:=dX L;have t2:=a8 I (j+1);have t3:=a8 I j;have DP:=f27;rw [cx]at DP;obtain ⟨P,sH7,J,amT,amU,q,TA⟩:=dZ (H:=f) DF (z:=5) (c:=[.int .i64 0,.int .i64 0,.slice none 0 0,.slice none 0 0,.slice none 0 0]) (vs:=[.int .i64 u,.int .i64 w,pf,pg,ph]) rfl;have q0:P.ld ⟨f.nx,0,none⟩=some (.int .i64 u):=TA 0 _ rfl;have q1:P.ld ⟨f.nx,1,none⟩=some (.int .i64 w):=TA 1 _ rfl;have q2:P.ld ⟨f.nx,2,none⟩=some pf:=TA 2 _ rfl;have q3:P.ld ⟨f.nx,3,none⟩=some pg:=TA 3 _ rfl;have q4:P.ld ⟨f.nx,4,none⟩=some ph:=TA 4 _ rfl;clear TA;replace q:P.ldn ⟨f.nx,0,none⟩ 5=some [.int .i64 u,.int .i64 w,pf,pg,ph]:=q;have ae9:=J.wf DF;simp (maxSteps:=9^7)-implicitDefEqProofs+contextual [-X.ev,DP,T,f28,f29,h',bL,sH7,q];apply ah
   ·(simp-implicitDefEqProofs [-X.ev];rfl)
   refine (ih _ _ P (by omega) ae9 (nM.ext J EB) (by omega)).mono ?_;rintro x H8 ⟨cs,rfl,hk,X8⟩;obtain ⟨z',Ha,Hb,b8,a9,o9,s9,M9,k9⟩:=x8 DF (J.trans X8) J.nx e.nx K oW hk (by omega);have n6:=e.nx;have n7:=J.nx;have n8:=X8.nx;simp (maxSteps:=9^7)-implicitDefEqProofs+contextual [-X.ev,DP,T,f28,f29,b8,a9];rw [ai (n:=(j:Int)+1) ⟨by omega,by omega⟩];exact ⟨k- 1,by omega,((e.trans J).trans X8).mod M9 QP,j+1,by omega,f1,Y,U,cx.symm,by omega,_,o9,by simp [ae7],by rw [mO L];exact s9,fun q hq=>by have:=k9 q hq;omega⟩
  rw [aqN (by omega)]at oW;obtain ⟨R,Q,hz2⟩:=K.shape;have n6:=e.nx;have gB6:=e.get gB5;have gR6:=e.get (A.get gR4);have B6:f.n0≤H.nx:=by rw [e.n0];exact B5
  subst hz hz2;obtain ⟨P,s7,M7,nx7,DL,Wh⟩:=bR gB6 B6 (k:=3) (vs:=[.slice C rs.length B]) (by simp);have afa:aJ [.int .i64 op,.int .i64 n,.slice p t.length m,vt,ve] 3 [.slice C rs.length B]=[.int .i64 op,.int .i64 n,.slice p t.length m,.slice C rs.length B,ve]:=rfl;rw [afa]at Wh;obtain ⟨H8,s8,M8,Tx,BL,Wi⟩:=bR Wh (by rw [DL];exact B6) (k:=4) (vs:=[.slice R r.length Q]) (by simp);have QQ:aJ [.int .i64 op,.int .i64 n,.slice p t.length m,.slice C rs.length B,ve] 4 [.slice R r.length Q]=[.int .i64 op,.int .i64 n,.slice p t.length m,.slice C rs.length B,.slice R r.length Q]:=rfl;rw [QQ]at Wi;have l8:H8.ldn ⟨H.nx,0,none⟩ 5=some [.int .i64 op,.int .i64 n,.slice p t.length m,.slice C rs.length B,.slice R r.length Q]:=by rw [bH Wi (by rw [BL,DL];exact B6) (by simp)];rfl
  have gR8:=M8.get (fun q=>by omega) (M7.get (fun q=>by omega) gR6);obtain ⟨H9,s9,M9,Wa,Ob,Wj⟩:=bR gR8 (by rw [BL,DL];omega) (k:=0) (vs:=[.int .i64 op,.int .i64 n,.slice p t.length m,.slice C rs.length B,.slice R r.length Q]) (by simp);have QR:aJ zS 0 [.int .i64 op,.int .i64 n,.slice p t.length m,.slice C rs.length B,.slice R r.length Q]=[.int .i64 op,.int .i64 n,.slice p t.length m,.slice C rs.length B,.slice R r.length Q]:=rfl;rw [QR]at Wj;have l9:H9.ldn ⟨H1.nx,0,none⟩ 5=some [.int .i64 op,.int .i64 n,.slice p t.length m,.slice C rs.length B,.slice R r.length Q]:=by rw [bH Wj (by rw [Ob,BL,DL];omega) (by simp)];rfl
  have DP:=f27;rw [tV]at DP;simp (maxSteps:=9^7)-implicitDefEqProofs+contextual [-X.ev,f1,Y,U,T,DP,f28,f29,h',s7,s8,l8,s9,l9]
  have key:∀b x,H.nx≤b→b≠H.nx→b≠H1.nx→f.get b=some x→H9.get b=some x∧H.nx≤b∧¬ zf b:=fun b x a h1 h2 hg=>⟨M9.get h2 (M8.get h1 (M7.get h1 hg)),a,fun q=>q⟩
  have e09:H9.n0=f.n0:=Ob.trans (BL.trans DL);have xa9:Sub (part H3 H2.nx zf) (part H9 H.nx zf):=eu (by rw [e09,e.n0,A.n0,nN]) (by omega) fun b x a hn _=>key b x (by omega) (by omega) (by omega) (e.get (A.get (M4.get (fun q=>by omega) a)))
  have W:Sub (part l H4.nx zf) (part H9 H.nx zf):=eu (by rw [e09,e.n0]) (by omega) fun b x a hn _=>key b x (by omega) (by omega) (by omega) (e.get a)
  have V:Sub (part f l.nx zf) (part H9 H.nx zf):=eu e09 (by omega) fun b x a hn _=>key b x (by omega) (by omega) (by omega) a
  have un:∀(G:AH) (k:Nat) (S:Nat→Prop),Sub (part G k S) (part G k zf):=fun G k S=>eu rfl (aqK _) fun b x a hn _=>⟨a,hn,fun q=>q⟩
  refine ⟨.mk i1 i2 i3 i4 i5 (dK.part (n:=H2.nx) (S:=zf) oa (fun b a=>⟨ka b a,fun q=>q⟩)|>.sub xa9).rows (ea.sub ((un _ _ _).trans xa9)) (dK.part (n:=H4.nx) (S:=zf) ow (fun b a=>⟨fL b a,fun q=>q⟩)|>.sub W).rows (aH.sub ((un _ _ _).trans W)) (dK.part (n:=H4.nx) (S:=zf) ow (fun b a=>⟨fL b a,fun q=>q⟩)|>.sub W).fit (dK.part (n:=l.nx) (S:=zf) K (fun b a=>⟨QP b a,fun q=>q⟩)|>.sub V).rows (oW.sub ((un _ _ _).trans V)) (dK.part (n:=l.nx) (S:=zf) K (fun b a=>⟨QP b a,fun q=>q⟩)|>.sub V).fit,?_⟩;exact (((X06.mod M7 (fun b a=>by omega)).mod M8 (fun b a=>by omega)).mod M9 (fun b a=>by omega))
end
section
open Go
structure fu (H:AH) (sz:Nat) (v:Value) (rows:List (List Value)):Prop where
 is:(v= .slice none 0 0∧rows=[])∨∃b c junk,v= .slice (some ⟨b,0,none⟩) rows.length c∧H.n0≤b∧H.get b=some (.cells sz (rows.flatten++junk))∧rows.length*sz+junk.length=c*sz∧rows.length≤c
 len:∀r∈rows,r.length=sz
theorem dK.QS {H:AH} {sz:Nat} {v:Value} {rows:List (List Value)} (h:dK H sz v rows):fu H sz v rows:=by
 refine ⟨?_,h.len⟩;rcases h.is with⟨rfl,rfl⟩|⟨b,rfl,c,a⟩
 ·exact .inl ⟨rfl,rfl⟩
 ·exact .inr ⟨b,_,[],rfl,c,by simpa using a,by simp,aqK _⟩
theorem fu.lt {H:AH} {sz b:Nat} {v:Value} {rows:List (List Value)} (h:fu H sz v rows) (a:aR v b):b<H.nx:=by
 rcases h.is with⟨rfl,_⟩|⟨e,c,j,rfl,_,d,_⟩
 ·exact absurd a (dL _ _ _)
 ·rw [(bl _ _ _ _ _).1 a];exact AH.aS d
theorem fu.shape {H:AH} {sz:Nat} {v:Value} {rows:List (List Value)} (h:fu H sz v rows):∃a c,v= .slice a rows.length c:=by
 rcases h.is with⟨rfl,rfl⟩|⟨b,c,j,rfl,_⟩
 ·exact ⟨_,_,rfl⟩
 ·exact ⟨_,_,rfl⟩
theorem fu.mod {S:Nat→Prop} {H H':AH} {sz:Nat} {v:Value} {rows:List (List Value)} (h:fu H sz v rows) (M:Mod S H H') (hs:∀b,aR v b→¬ S b):fu H' sz v rows:=by
 refine ⟨?_,h.len⟩;rcases h.is with⟨rfl,rfl⟩|⟨b,c,j,rfl,e,a,d,h2⟩
 ·exact .inl ⟨rfl,rfl⟩
 ·exact .inr ⟨b,c,j,rfl,by rw [M.n0];exact e,M.get (hs b ((bl _ _ _ _ _).2 rfl)) a,d,h2⟩
theorem fu.ext {H H':AH} {sz:Nat} {v:Value} {rows:List (List Value)} (h:fu H sz v rows) (X:Ext H H'):fu H' sz v rows:=h.mod (Mod.bT (S:=fun _=>False) X) (by simp)
theorem fu.rows {H:AH} {sz:Nat} {v:Value} {rows:List (List Value)} (h:fu H sz v rows):Rows H sz v rows:=by
 rcases h.is with⟨rfl,rfl⟩|⟨b,c,j,rfl,d,a,f,h2⟩
 ·exact ⟨_,_,rfl,by simp⟩
 ·refine ⟨_,_,rfl,fun i r hi=>⟨b,0,rfl,?_⟩⟩
  obtain ⟨e,g⟩:=iL h.len hi;rw [bH a d (by simp only [aqP];omega)];rw [Nat.zero_add,List.drop_append_of_le_length (by omega),List.take_append_of_le_length (by rw [List.length_drop];omega)];rw [e]
theorem qe (a b c d:List Value) (h:b.length=c.length):aJ (a++(b++d)) a.length c=a++(c++d):=by
 induction a with
 |nil=>
  have:aJ (b++d) 0 c=c++(b++d).drop c.length:=by cases (b++d)<;>rfl
  rw [List.nil_append,List.length_nil,this,←h,List.drop_left];rfl
 |cons x a ih=>simp only [List.cons_append,List.length_cons,aJ,ih]
theorem fu.push {H H1:AH} {sz bytes:Nat} {s:Value} {rows:List (List Value)} {r:List Value} (u:H.n0≤H.nx) (hs:fu H sz s rows) (N:0<sz) (n:r.length=sz) (B:H.alloc (.cells sz r)=H1) (j:(rows.length+1)*bytes≤2^47) (w:rows.length+1<2^62):
 ∃f H',bm sz bytes H1 s (.slice (some ⟨H.nx,0,none⟩) 1 1)=some (f,H')∧fu H' sz f (rows++[r])∧Mod (aR s) H H'∧(∀b,aR f b→aR s b∨H.nx≤b)∧H'.n0=H.n0∧H.nx≤H'.nx∧H1.nx≤H'.nx:=by
 rcases hs.is with⟨rfl,rfl⟩|⟨b,c,d,rfl,y,v,z,O⟩
 ·obtain ⟨f,H',a,o,M,k,m,l,wf,D,C,t⟩:=ji (bytes:=bytes) u (dK.nil H sz) n B j w
  exact ⟨f,H',a,o.QS,M,fun b j=>.inr (k b j),m,l,t⟩
 subst B;have X:=Ext.alloc H (.cells sz r);have i:=X.get v
 have J:∀q∈rows++[r],q.length=sz:=by
  intro q p;rcases aq0.1 p with h|h
  ·exact hs.len q h
  ·simp at h;subst h;exact n
 have I:pQ (H.alloc (.cells sz r)) sz (.slice (some ⟨H.nx,0,none⟩) 1 1)=some r:=by
  have:=rD u sz r;rw [n]at this;simp [pQ,nb,this,n]
 have F:(H.alloc (.cells sz r)).kD b sz=true:=vT i (aqK _);have K:=cg hs.len;by_cases room:rows.length+1≤c
 ·have A:sz≤d.length:=by
   have:(rows.length+1)*sz≤c*sz:=Nat.mul_le_mul_right _ room;rw [Nat.succ_mul]at this;omega
  obtain ⟨H',st,M,l,m,g⟩:=bR i (by exact y) (k:=rows.length*sz) (vs:=r) (by simp only [aqP];omega);refine ⟨.slice (some ⟨b,0,none⟩) (rows.length+1) c,H',?_,⟨.inr ⟨b,c,d.drop sz,by simp,by rw [m];exact y,?_,?_,by simpa using room⟩,J⟩,(Mod.bT X).trans (M.mono fun x _ G=>(bl _ _ _ _ _).2 G),fun q p=>.inl ?_,m.trans X.n0,by rw [l];exact X.nx,by rw [l];exact aqK _⟩
  ·simp [bm,mZ,I,j,w,room,F,st]
  ·rw [g]
   have e:=qe rows.flatten (d.take sz) r (d.drop sz) (by rw [List.length_take,n];omega);rw [List.take_append_drop,K]at e;rw [e];simp
  ·simp only [aqP,List.length_drop,List.length_singleton,Nat.succ_mul];omega
  ·rw [bl]at p⊢;exact p
 ·have L:c=rows.length:=by omega
  subst L;have A:d=[]:=are (by omega);subst A;rw [List.append_nil]at v i
  have E:dK H sz (.slice (some ⟨b,0,none⟩) rows.length rows.length) rows:=⟨.inr ⟨b,rfl,y,v⟩,hs.len⟩
  obtain ⟨f,H',a,o,M,k,m,l,wf,D,C,t⟩:=ji (bytes:=bytes) u E n rfl j w;exact ⟨f,H',a,o.QS,M,fun b j=>.inr (k b j),m,l,t⟩
theorem fu.last {H:AH} {sz:Nat} {v:Value} {rows:List (List Value)} {r:List Value} (h:fu H sz v (rows++[r])):∃b c,v= .slice (some ⟨b,0,none⟩) (rows.length+1) c∧rows.length+1≤c∧H.n0≤b∧b<H.nx∧H.kD b sz=true∧H.ldn ⟨b,rows.length*sz,none⟩ sz=some r∧
 (∀(j:Nat) (x:Value),j<sz→∃H',H.st ⟨b,rows.length*sz+j,none⟩ [x]=some H'∧fu H' sz v (rows++[r.set j x])∧Mod (fun q=>q=b) H H'∧H'.nx=H.nx∧H'.n0=H.n0)∧fu H sz (.slice (some ⟨b,0,none⟩) rows.length c) rows:=by
 rcases h.is with⟨_,e⟩|⟨b,c,a,rfl,m,l,d,p⟩
 ·simp at e
 have n:∀q∈rows,q.length=sz:=fun q f=>h.len q (by simp [f])
 have u:=h.len r (by simp);have y:=cg n;simp only [aqP,List.length_singleton]at d p;refine ⟨b,c,by simp,p,m,AH.aS l,vT l (aqK _),?_,fun j x B=>?_,⟨.inr ⟨b,c,r++a,rfl,m,by simpa using l,by rw [Nat.succ_mul]at d;simp only [aqP];omega,by omega⟩,n⟩⟩
 ·obtain ⟨D,o,C,e,w⟩:=h.rows.at (i:=rows.length) (r:=r) (by simp)
  cases e
  simpa using w
 ·obtain ⟨H',st,M,t,s,g⟩:=bR l m (k:=rows.length*sz+j) (vs:=[x]) (by rw [aqP,cg h.len];simp only [aqP,List.length_singleton,Nat.succ_mul];omega)
  refine ⟨H',st,⟨.inr ⟨b,c,a,by simp,by rw [s];exact m,?_,by simpa using d,by simpa using p⟩,?_⟩,M,t,s⟩
  ·rw [g]
   have e:r=r.take j++([r[j]'(by omega)]++r.drop (j+1)):=by
    rw [←aq5];simp
   have A:r.set j x=r.take j++([x]++r.drop (j+1)):=by rw [List.set_eq_take_append_cons_drop,if_pos (by omega)];rfl
   have:=qe (rows.flatten++r.take j) [r[j]'(by omega)] [x] (r.drop (j+1)++a) rfl;rw [aqP,List.length_take,y,Nat.min_eq_left (by omega)]at this
   have z:(rows++[r]).flatten++a=rows.flatten++r.take j++([r[j]'(by omega)]++(r.drop (j+1)++a)):=by
    simp only [List.flatten_append,List.flatten_cons,List.flatten_nil,List.append_nil,aq5];congr 1
    conv=>lhs;rw [e]
    simp only [aq5]
   rw [z,this];simp only [List.flatten_append,List.flatten_cons,List.flatten_nil,List.append_nil,aq5,A]
  ·intro q f
   rcases aq0.1 f with f|f
   ·exact n q f
   ·simp at f;subst f;simpa using u
theorem BN:∀(N:Nat) (s:bh) (c:List Value) (H:AH),SizeOf.sizeOf s<N→H.n0≤H.nx→nM H c s→bc s<2^60→
 Ca E O 159 [.agg c.toArray] H (fun x H'=>x= .int .i64 (bu s)∧Ext H H'):=by
 intro N
 induction N with
 |zero=>intro s c H h;omega
 |succ N ih=>
  intro s c H hN v hs wV
  cases hs with| @mk op n va vt ve ra rt re args a f i1 i2 i3 i4 i5 h1 h2 h3 h4 h5 h6=>
  refine Ca.aW (F:=a159) rfl rfl rfl ?_;rw [bc]at wV;have na:=a6 args;have nt:=cz a;have ne:=cz f;obtain ⟨p1,q1,M⟩:=h3.len;rw [h4.length]at M;obtain ⟨p2,q2,P⟩:=h5.len;rw [h6.length]at P;have X1:=Ext.alloc H (.cells 5 [.int .i64 op,.int .i64 n,va,vt,ve]);have d0:(H.alloc (.cells 5 [.int .i64 op,.int .i64 n,va,vt,ve])).ld ⟨H.nx,0,none⟩=some (.int .i64 op):=aj v rfl;have d1:(H.alloc (.cells 5 [.int .i64 op,.int .i64 n,va,vt,ve])).ld ⟨H.nx,1,none⟩=some (.int .i64 n):=aj v rfl;have d2:(H.alloc (.cells 5 [.int .i64 op,.int .i64 n,va,vt,ve])).ld ⟨H.nx,2,none⟩=some va:=aj v rfl;have d3:(H.alloc (.cells 5 [.int .i64 op,.int .i64 n,va,vt,ve])).ld ⟨H.nx,3,none⟩=some vt:=aj v rfl;have d4:(H.alloc (.cells 5 [.int .i64 op,.int .i64 n,va,vt,ve])).ld ⟨H.nx,4,none⟩=some ve:=aj v rfl;have d:(H.alloc (.cells 5 [.int .i64 op,.int .i64 n,va,vt,ve])).ldn ⟨H.nx,0,none⟩ 5=some [.int .i64 op,.int .i64 n,va,vt,ve]:=bj v 5 rfl;generalize cF:H.alloc (.cells 5 [.int .i64 op,.int .i64 n,va,vt,ve])=H1 at X1 d0 d1 d2 d3 d4 d;have bD:=X1.wf v;have K:=d3;rw [M]at K;simp at hN;simp (maxSteps:=9^7)-implicitDefEqProofs+contextual [-X.ev,a159,cF,K];refine cm (fun k m H'=>Ext H1 H'∧∃i:Nat,i+k=a.length∧m.get 1= .pointer (some ⟨H.nx,0,none⟩)∧m.get 9=vt∧m.get 10= .int .i64 a.length∧m.get 11= .int .i64 i∧m.get 3= .int .i64 (1+aC (a.take i))) ?_ a.length ⟨Ext.refl _,0,by simp,by simp,by simp [M],by simp,by simp,by simp [aC]⟩;rintro k m t ⟨R,i,hi,f1,Q,f10,f11,p⟩;have jS:=R.wf bD;have kC:=X1.trans R;have bt:=bf a;have be:=bf f;by_cases h:i<a.length
  ·obtain ⟨y,r⟩:∃y,a[i]?=some y:=⟨_,aqG h⟩
   have oV:=arb (aqL r);have t1:=dX r;have t2:=a8 a (i+1);have t3:=a8 a i;have u1:=jG r;have u2:=dq a i;have u3:=dq a (i+1);obtain ⟨g,l,I,D,G⟩:=y;obtain ⟨b,o,c',pf,pg,ph,We,Wf,Wg,J,bL,_,_,_,_,_,Z,Y,W,V,U,g1,g2,g3,g4,g5,g6⟩:=gN.row (h3.ext kC) (gN.ext kC h4) r;have EB:nM t [.int .i64 g,.int .i64 l,pf,pg,ph] (.mk g l I D G):=.mk Z Y W V U g1 g2 g3 g4 g5 g6;have w:=Q;rw [J]at w;obtain ⟨e,Ez,A,Gt,Gu,q,C⟩:=dZ (H:=t) jS (z:=5) (c:=[.int .i64 0,.int .i64 0,.slice none 0 0,.slice none 0 0,.slice none 0 0]) (vs:=[.int .i64 g,.int .i64 l,pf,pg,ph]) rfl;have q0:e.ld ⟨t.nx,0,none⟩=some (.int .i64 g):=C 0 _ rfl;have q1:e.ld ⟨t.nx,1,none⟩=some (.int .i64 l):=C 1 _ rfl;have q2:e.ld ⟨t.nx,2,none⟩=some pf:=C 2 _ rfl;have q3:e.ld ⟨t.nx,3,none⟩=some pg:=C 3 _ rfl;have q4:e.ld ⟨t.nx,4,none⟩=some ph:=C 4 _ rfl;clear C;replace q:e.ldn ⟨t.nx,0,none⟩ 5=some [.int .i64 g,.int .i64 l,pf,pg,ph]:=q;have xQ:=A.wf jS;have S:IntKind.i64.wrap (1+aC (a.take i)+bu (.mk g l I D G))=1+aC (a.take (i+1)):=by rw [ai ⟨by omega,by omega⟩];omega
   simp (maxSteps:=9^7)-implicitDefEqProofs+contextual [-X.ev,w,p,f10,f11,h,bL,Ez,q];apply ah
   ·(simp-implicitDefEqProofs [-X.ev];rfl)
   refine (ih _ _ e (by omega) xQ (nM.ext A EB) (by omega)).mono ?_;rintro x u ⟨rfl,L⟩;simp (maxSteps:=9^7)-implicitDefEqProofs+contextual [-X.ev,w,p,f10,f11,S];rw [ai (n:=(i:Int)+1) ⟨by omega,by omega⟩];exact ⟨k- 1,by omega,(R.trans A).trans L,i+1,by omega,f1,J.symm,by simp,rfl⟩
  rw [aqN (by omega)]at p;have e4:=R.ld d4;rw [P]at e4;rw [M]at Q;simp (maxSteps:=9^7)-implicitDefEqProofs+contextual [-X.ev,f1,Q,p,f10,f11,h,e4];refine cm (fun k m H'=>Ext t H'∧∃j:Nat,j+k=f.length∧m.get 21=ve∧m.get 22= .int .i64 f.length∧m.get 23= .int .i64 j∧m.get 3= .int .i64 (1+aC a+aC (f.take j))) ?_ f.length ⟨Ext.refl _,0,by simp,by simp [P],by simp,by simp,by simp [aC,p]⟩;clear f1 Q f10 f11 p m;rintro k m e ⟨A,j,hj,f21,f22,f23,p⟩;have pN:=A.wf jS;have jw:=kC.trans A;by_cases h':j<f.length
  ·obtain ⟨y,r⟩:∃y,f[j]?=some y:=⟨_,aqG h'⟩
   have oV:=arb (aqL r);have t1:=dX r;have t2:=a8 f (j+1);have t3:=a8 f j;have u1:=jG r;have u2:=dq f j;have u3:=dq f (j+1);obtain ⟨g,l,I,D,G⟩:=y;obtain ⟨b,o,c',pf,pg,ph,We,Wf,Wg,J,bL,_,_,_,_,_,Z,Y,W,V,U,g1,g2,g3,g4,g5,g6⟩:=gN.row (h5.ext jw) (gN.ext jw h6) r;have EB:nM e [.int .i64 g,.int .i64 l,pf,pg,ph] (.mk g l I D G):=.mk Z Y W V U g1 g2 g3 g4 g5 g6;have QT:=f21;rw [J]at QT;obtain ⟨u,T,L,ae0,ae1,q,B⟩:=dZ (H:=e) pN (z:=5) (c:=[.int .i64 0,.int .i64 0,.slice none 0 0,.slice none 0 0,.slice none 0 0]) (vs:=[.int .i64 g,.int .i64 l,pf,pg,ph]) rfl;have q0:u.ld ⟨e.nx,0,none⟩=some (.int .i64 g):=B 0 _ rfl;have q1:u.ld ⟨e.nx,1,none⟩=some (.int .i64 l):=B 1 _ rfl;have q2:u.ld ⟨e.nx,2,none⟩=some pf:=B 2 _ rfl;have q3:u.ld ⟨e.nx,3,none⟩=some pg:=B 3 _ rfl;have q4:u.ld ⟨e.nx,4,none⟩=some ph:=B 4 _ rfl;clear B;replace q:u.ldn ⟨e.nx,0,none⟩ 5=some [.int .i64 g,.int .i64 l,pf,pg,ph]:=q;have VZ:=L.wf pN;have S:IntKind.i64.wrap (1+aC a+aC (f.take j)+bu (.mk g l I D G))=1+aC a+aC (f.take (j+1)):=by rw [ai ⟨by omega,by omega⟩];omega
   simp (maxSteps:=9^7)-implicitDefEqProofs+contextual [-X.ev,QT,p,f22,f23,h',bL,T,q];apply ah
   ·(simp-implicitDefEqProofs [-X.ev];rfl)
   refine (ih _ _ u (by omega) VZ (nM.ext L EB) (by omega)).mono ?_;rintro x H5 ⟨rfl,X5⟩;simp (maxSteps:=9^7)-implicitDefEqProofs+contextual [-X.ev,QT,p,f22,f23,S];rw [ai (n:=(j:Int)+1) ⟨by omega,by omega⟩];exact ⟨k- 1,by omega,(A.trans L).trans X5,j+1,by omega,J.symm,by simp,rfl⟩
  rw [aqN (by omega)]at p;rw [P]at f21;simp (maxSteps:=9^7)-implicitDefEqProofs+contextual [-X.ev,f21,p,f22,f23,h',bu];exact jw
open Go
theorem DQ {l:List bh} {s:Value} {rows:List (List Value)} {H:AH} (Y:H.n0≤H.nx) (K:Rows H 5 s rows) (M:gN H rows l) (L:l.length<2^40) (wV:au l<2^60):
 Ca E O 146 [s] H (fun x H'=>x= .int .i64 (aC l)∧Ext H H'):=by
 refine Ca.aW (F:=a146) rfl rfl rfl ?_;obtain ⟨p0,c0,p⟩:=K.len;rw [M.length]at p;simp (maxSteps:=9^7)-implicitDefEqProofs+contextual [-X.ev,a146,p];refine cm (fun k j H'=>Ext H H'∧∃i:Nat,i+k=l.length∧j.get 6=s∧j.get 7= .int .i64 l.length∧j.get 8= .int .i64 i∧j.get 3= .int .i64 (aC (l.take i))) ?_ l.length ⟨Ext.refl _,0,by simp,by simp [p],by simp,by simp,by simp [aC]⟩;rintro k j a ⟨m,i,hi,A,v,u,r⟩;have I:=m.wf Y;have bt:=bf l;by_cases h:i<l.length
 ·obtain ⟨y,t⟩:∃y,l[i]?=some y:=⟨_,aqG h⟩
  have t1:=dX t;have t2:=a8 l (i+1);have t3:=a8 l i;have u1:=jG t;have u2:=dq l i;have u3:=dq l (i+1);obtain ⟨e,f,G,C,D⟩:=y;obtain ⟨b,o,c',pf,pg,ph,We,Wf,Wg,J,Z,_,_,_,_,_,U,T,S,R,Q,g1,g2,g3,g4,g5,g6⟩:=gN.row (K.ext m) (gN.ext m M) t;have V:nM a [.int .i64 e,.int .i64 f,pf,pg,ph] (.mk e f G C D):=.mk U T S R Q g1 g2 g3 g4 g5 g6;have w:=A;rw [J]at w;obtain ⟨d,P,B,Gt,Gu,q,g⟩:=dZ (H:=a) I (z:=5) (c:=[.int .i64 0,.int .i64 0,.slice none 0 0,.slice none 0 0,.slice none 0 0]) (vs:=[.int .i64 e,.int .i64 f,pf,pg,ph]) rfl;have q0:d.ld ⟨a.nx,0,none⟩=some (.int .i64 e):=g 0 _ rfl;have q1:d.ld ⟨a.nx,1,none⟩=some (.int .i64 f):=g 1 _ rfl;have q2:d.ld ⟨a.nx,2,none⟩=some pf:=g 2 _ rfl;have q3:d.ld ⟨a.nx,3,none⟩=some pg:=g 3 _ rfl;have q4:d.ld ⟨a.nx,4,none⟩=some ph:=g 4 _ rfl;clear g;replace q:d.ldn ⟨a.nx,0,none⟩ 5=some [.int .i64 e,.int .i64 f,pf,pg,ph]:=q;have W:=B.wf I;have N:IntKind.i64.wrap (aC (l.take i)+bu (.mk e f G C D))=aC (l.take (i+1)):=by rw [ai ⟨by omega,by omega⟩];omega
  simp (maxSteps:=9^7)-implicitDefEqProofs+contextual [-X.ev,w,r,v,u,h,Z,P,q];apply ah
  ·(simp-implicitDefEqProofs [-X.ev];rfl)
  refine (BN _ _ _ d (aqV _) W (nM.ext B V) (by omega)).mono ?_;rintro x H4 ⟨rfl,X4⟩;simp (maxSteps:=9^7)-implicitDefEqProofs+contextual [-X.ev,w,r,v,u,N];rw [ai (n:=(i:Int)+1) ⟨by omega,by omega⟩];exact ⟨k- 1,by omega,(m.trans B).trans X4,i+1,by omega,J.symm,by simp,rfl⟩
 rw [aqN (by omega)]at r;rw [p]at A;simp (maxSteps:=9^7)-implicitDefEqProofs+contextual [-X.ev,A,r,v,u,h];exact m
theorem Lx {H:AH} {m:Nat} {d:Value} {rest:List Value} {rows:List (List Value)} {a:Option Addr} {n c:Nat} {k:Int} (L:H.n0≤H.nx) (i:H.get m=some (.cells 14 (d::rest))) (A:H.n0≤m) (o:fu H 2 d rows) (f:¬ aR d m) (g:rows.length≤2^40):
 Ca E O 105 [.pointer (some ⟨m,0,none⟩),.slice a n c,.int .i64 k] H (fun x H'=>∃e,H'.get m=some (.cells 14 (e::rest))∧fu H' 2 e (if n=0 then rows else rows++[[.slice a n c,.int .i64 k]])∧Mod (fun b=>b=m∨aR d b) H H'∧∀b,aR e b→aR d b∨H.nx≤b):=by
 refine Ca.aW (F:=a105) rfl rfl rfl ?_;by_cases u:n=0
 ·subst u
  simp (maxSteps:=9^7)-implicitDefEqProofs+contextual [-X.ev,a105];exact ⟨d,i,o,Mod.refl _ _,fun b g=>.inl g⟩
 ·have N:0<n:=by omega
  have s:=aG i A (k:=0) (v:=d) rfl;have l:=vM (sz:=2) (z:=[.slice none 0 0,.int .i64 0]) (H:=H) (v:=.agg #[.slice a n c,.int .i64 k]) rfl rfl rfl;simp only [gw]at l;have X:=Ext.alloc H (.cells 2 [.slice a n c,.int .i64 k])
  obtain ⟨H2,y⟩:∃H2,H.alloc (.cells 2 [.slice a n c,.int .i64 k])=H2:=⟨_,rfl⟩
  obtain ⟨e,H3,R,p,D,t,J,W,I⟩:=o.push (bytes:=32) L (by omega) (r:=[.slice a n c,.int .i64 k]) rfl y (by omega) (by omega);rw [y]at l X;have S:=D.get f i;obtain ⟨Z,G,C,V,Y,B⟩:=bR S (by rw [J];exact A) (k:=0) (vs:=[e]) (by simp);have M:aJ (d::rest) 0 [e]=e::rest:=by simp [aJ]
  rw [M]at B;obtain ⟨U,T,w⟩:=p.shape;rw [aqP,List.length_singleton]at w;subst w;have K:=X.ld s;have Q:eS [.slice none 0 0,.int .i64 0] [(0,1,.slice a n c),(1,1,.int .i64 k)]=some (.agg #[.slice a n c,.int .i64 k]):=rfl;simp (maxSteps:=9^7)-implicitDefEqProofs+contextual [-X.ev,a105,N,s,Q,l,R,G]
  have P:∀b,aR (.slice U (rows.length+1) T) b→¬ b=m:=by
   intro b g q;subst q;rcases t b g with h|h
   ·exact f h
   ·have:=AH.aS i;omega
  refine ⟨_,B,by rw [if_neg u];exact p.mod C P,(D.mono fun x _ j=>.inr j).trans (C.mono fun x _ j=>.inl j),t⟩
theorem Ly {G H:AH} {m:Nat} {s f:Value} {rest:List Value} {rows rs:List (List Value)} {cs:List Value} {k:Int} (o:H.n0≤H.nx) (gm:H.get m=some (.cells 14 (s::rest))) (h0:H.n0≤m) (L:fu H 2 s (rows++[[f,.int .i64 k]])) (hb:rows.length≤2^40) (X:Sub G H) (T:Rows G 5 f (cs::rs)):
 Ca E O 106 [.pointer (some ⟨m,0,none⟩)] H (fun x H'=>x= .tuple #[.agg cs.toArray,.int .i64 k,.bool true]∧Ext H H'):=by
 refine Ca.aW (F:=Dp) rfl rfl rfl ?_;obtain ⟨b,c,rfl,hc,xR,mH,hz,Y,_,_⟩:=L.last;have R:=aG gm h0 (k:=0) (v:=.slice (some ⟨b,0,none⟩) (rows.length+1) c) rfl;have a:=Ext.alloc H (.cells 5 zS);have B:=cq H (.cells 5 zS)
 obtain ⟨H1,p⟩:∃H1,H.alloc (.cells 5 zS)=H1:=⟨_,rfl⟩
 rw [p]at a B;have g:=a.wf o;have n:=a.ld R;have A:=a.ldn Y;obtain ⟨H2,t,e,P,d,D⟩:=iK g (z:=2) (c:=[.slice none 0 0,.int .i64 0]) (vs:=[f,.int .i64 k]) rfl;have jS:=e.wf g;have u:=aG D (by rw [d];exact g) (k:=0) (v:=f) rfl;have K:=aG D (by rw [d];exact g) (k:=1) (v:=.int .i64 k) rfl;obtain ⟨b5,M,c5,j,y⟩:=((T.sub X).ext (a.trans e)).at (i:=0) (r:=cs) rfl;rw [List.length_cons]at j;have q:=e.get B;have l:cs.length=5:=(db y).2;obtain ⟨H3,J,M3,N,w,C⟩:=bR q (by rw [d,a.n0];exact o) (k:=0) (vs:=cs) (by simp [l]);have S:aJ zS 0 cs=cs:=gG _ _ (by rw [l];rfl);rw [S]at C;have Q:H3.ldn ⟨H.nx,0,none⟩ 5=some cs:=by rw [bH C (by rw [w,d,a.n0];exact o) (by omega)];simp [aqN (Nat.le_of_eq l)]
 rw [j]at u;rw [j]at t;have I:IntKind.i64.wrap (rows.length:Int)=(rows.length:Int):=ai ⟨by omega,by omega⟩;have n1:=a.nx;have n2:=e.nx;have W:H2.ldn ⟨b5,M,none⟩ 5=some cs:=by simpa using y
 have U:¬ ((rows.length:Int)+1=0):=by omega
 have e1:H1.nx=H.nx+1:=by rw [←p];rfl
 have Z:Nat.beq H1.nx H.nx=false:=ark.2 fun h=>by have:=Nat.eq_of_beq_eq_true h;omega
 have V:(rows.length:Int)<(rows.length:Int)+1:=by omega
 simp only [j]at A;simp (maxSteps:=9^7)-implicitDefEqProofs+contextual [-X.ev,Dp,p,n,U,V,I,A,t,u,K,W,J,Q,bq,aM,aN,a.n0,d,w,P,N,l,AH.oD,AH.dR,By,cK,Z];exact (a.trans e).mod M3 (fun b hb=>by omega)
theorem GW {H:AH} {m:Nat} {b:Value} {rest:List Value} (e:H.n0≤H.nx) (p:H.get m=some (.cells 14 (b::rest))) (o:H.n0≤m) (h:fu H 2 b []):
 Ca E O 106 [.pointer (some ⟨m,0,none⟩)] H (fun x H'=>x= .tuple #[.agg zS.toArray,.int .i64 0,.bool false]∧Ext H H'):=by
 refine Ca.aW (F:=Dp) rfl rfl rfl ?_;obtain ⟨s,r,rfl⟩:=h.shape;have l:=aG p o (k:=0) (v:=.slice s 0 r) rfl;obtain ⟨u,d,t,w,i,q⟩:=iK e (z:=5) (c:=zS) (vs:=zS) rfl;have g:=Ext.alloc H (.cells 5 zS)
 obtain ⟨H1,f⟩:∃H1,H.alloc (.cells 5 zS)=H1:=⟨_,rfl⟩
 rw [f]at g d;have a:=g.ld l;have j:u.ldn ⟨H.nx,0,none⟩ 5=some zS:=by rw [bH q (by rw [i];exact e) (by simp)];rfl
 have n:eS zS []=some (.agg zS.toArray):=rfl;simp (maxSteps:=9^7)-implicitDefEqProofs+contextual [-X.ev,Dp,f,a,n,d,j,t]
theorem afi {G H:AH} (X:Sub G H) {f:Value} {cs:List Value} {rs:List (List Value)} (q:Rows G 5 f (cs::rs)) (u:Fit G f):∃a c,bS 5 H f (some (.int .i64 1)) none none=some (.slice a rs.length c)∧Rows G 5 (.slice a rs.length c) rs∧Fit G (.slice a rs.length c):=by
 obtain ⟨a,n,c,rfl,l,m⟩:=u;obtain ⟨B,z,e,k⟩:=q.is;cases e;obtain ⟨b,o,v,d⟩:=m (by simp);subst v
 have g:H.kD b 5=true:=by
  unfold AH.kD at d⊢;split at d
  ·rename_i t;rw [X.get _ _ t];exact d
  ·cases d
 simp only [List.length_cons]at l;by_cases j:c=1
 ·subst j
  have p:rs=[]:=are (by omega);subst p;exact ⟨some ⟨b,o,some 1⟩,0,rfl,⟨_,_,rfl,by simp⟩,⟨_,_,_,rfl,aqK _,fun h=>absurd h (by simp)⟩⟩
 ·refine ⟨some ⟨b,o+5,none⟩,c- 1,?_,⟨_,_,rfl,fun i r hi=>?_⟩,⟨_,_,_,rfl,by omega,fun _=>⟨b,o+5,rfl,d⟩⟩⟩
  ·have x:¬ c=1:=j
   have w:(1:Int)≤(rs.length:Int)+1:=by omega
   have h2:1≤c:=by omega
   simp [bS,bz,ij,x,w,l,g];rfl
  ·obtain ⟨A,y,e,s⟩:=k (i+1) r (by simpa using hi)
   cases e;refine ⟨b,o+5,rfl,?_⟩;rw [show o+5+i*5=o+(i+1)*5 by omega];exact s
theorem lZ:∀s:bh,1≤bu s
 | .mk op n args a b=>by have:=bf a;have:=bf b;rw [bu];omega
def x9 (rows rs:List (List Value)) (r:List Value):List (List Value):=if rs.length=0 then rows else rows++[r]
theorem Lz {G H:AH} {m:Nat} {h vl:Value} {rest:List Value} {rows rs:List (List Value)} {cs:List Value} {s:bh} {k:Int} (hw:H.n0≤H.nx) (gm:H.get m=some (.cells 14 (h::rest))) (Y:H.n0≤m) (ow:fu H 2 h (rows++[[vl,.int .i64 k]])) (P:¬ aR h m) (hb:rows.length≤2^40) (X:Sub G H) (hS:∀b,(b=m∨aR h b)→G.get b=none) (hr:Rows G 5 vl (cs::rs)) (hf:Fit G vl) (hs:nM G cs s) (wV:bc s<2^60) (zJ:rs.length<2^60)
 (hk:0≤k∧k≤2^40) (GY:bu s≤2^40):
 Ca E O 143 [.pointer (some ⟨m,0,none⟩)] H (fun x H'=>∃I,H'.get m=some (.cells 14 (I::rest))∧(∃D,Rows G 5 D rs∧Fit G D∧fu H' 2 I (x9 rows rs [D,.int .i64 (k+bu s)]))∧Mod (fun b=>b=m∨aR h b) H H'∧∀b,aR I b→aR h b):=by
 refine Ca.aW (F:=a143) rfl rfl rfl ?_;obtain ⟨b,c,rfl,hc,xR,mH,hz,hl,gv,_⟩:=ow.last;have g:b≠m:=fun q=>P ((bl _ _ _ _ _).2 q.symm)
 have l0:=aG gm Y (k:=0) (v:=.slice (some ⟨b,0,none⟩) (rows.length+1) c) rfl;obtain ⟨b5,o5,c5,Q,Tq⟩:=(hr.sub X).at (i:=0) (r:=cs) rfl;rw [List.length_cons]at Q;have QU:H.ldn ⟨b5,o5,none⟩ 5=some cs:=by simpa using Tq
 have w1:IntKind.i64.wrap (rows.length:Int)=(rows.length:Int):=ai ⟨by omega,by omega⟩;have cN:(rows.length:Int)<(rows.length:Int)+1:=by omega
 have J:H.ld ⟨b,rows.length*2,none⟩=some vl:=by simpa using aK hl (j:=0) rfl
 have q1:H.ld ⟨b,rows.length*2+1,none⟩=some (.int .i64 k):=aK hl (j:=1) rfl;rw [Q]at J;have T:nM H cs s:=nM.sub X hs;have NS:G.get m=none:=hS m (.inl rfl);simp (maxSteps:=9^7)-implicitDefEqProofs+contextual [-X.ev,a143,l0,w1,cN,J,q1,QU,bq,aM,aN];apply ah
 ·(simp-implicitDefEqProofs [-X.ev];rfl)
 refine (BN _ s cs H (aqV _) hw T wV).mono ?_;rintro x H1 ⟨rfl,a⟩;have lu:=a.wf hw;have ct:=lZ s;have gm1:=a.get gm;have w2:IntKind.i64.wrap (k+bu s)=k+bu s:=ai ⟨by omega,by omega⟩;obtain ⟨y,c',e,_,lK,am0,hz1,EF,S,_⟩:=(ow.ext a).last;cases e;obtain ⟨H2,s2,M,M2,wR,N⟩:=S 1 (.int .i64 (k+bu s)) (by omega);replace M:fu H2 2 (.slice (some ⟨b,0,none⟩) (rows.length+1) c) (rows++[[vl,.int .i64 (k+bu s)]]):=M;have VK:=M2.get (fun q=>g q.symm) gm1;have kC:Sub G H2:=(X.QF a).mod M2 (fun q d=>hS q (.inr ((bl _ _ _ _ _).2 d)));obtain ⟨C,B,W,Es,u⟩:=afi kC hr hf;obtain ⟨y,c',e,_,iP,am1,hz2,Bv,R,_⟩:=M.last;cases e;have K:H2.ld ⟨b,rows.length*2,none⟩=some vl:=by simpa using aK Bv (j:=0) rfl
 obtain ⟨H3,s3,A,M3,rG,mJ⟩:=R 0 (.slice C rs.length B) (by omega);replace A:fu H3 2 (.slice (some ⟨b,0,none⟩) (rows.length+1) c) (rows++[[.slice C rs.length B,.int .i64 (k+bu s)]]):=A;have Z:=M3.get (fun q=>g q.symm) VK;obtain ⟨y,c',e,hc3,tN,am2,hz3,V,am4,L⟩:=A.last;cases e;have p3:H3.ld ⟨b,rows.length*2,none⟩=some (.slice C rs.length B):=by simpa using aK V (j:=0) rfl
 have o:H2.st ⟨b,rows.length*2,none⟩ [.slice C rs.length B]=some H3:=s3;rw [Q]at K W;have p:=a.ld J;have w:H3.n0=H.n0:=mJ.trans (N.trans a.n0);have z:Mod (fun y=>y=m∨aR (.slice (some ⟨b,0,none⟩) (rows.length+1) c) y) H H3:=(Mod.bT a).trans ((M2.mono fun x _ t=>.inr ((bl _ _ _ _ _).2 t)).trans (M3.mono fun x _ t=>.inr ((bl _ _ _ _ _).2 t)));have f:=bo.1 q1;have Wn:=a.ldn f;have l:=a.nx;have n:=a.n0;by_cases EG:(rs.length:Int)=0
 ·obtain ⟨H4,s4,M4,y9,nN,g4⟩:=bR Z (by rw [w];exact Y) (k:=0) (vs:=[.slice (some ⟨b,0,none⟩) rows.length c]) (by simp)
  have ie:aJ (.slice (some ⟨b,0,none⟩) (rows.length+1) c::rest) 0 [.slice (some ⟨b,0,none⟩) rows.length c]= .slice (some ⟨b,0,none⟩) rows.length c::rest:=by simp [aJ]
  rw [ie]at g4;have l3:=aG Z (by rw [w];exact Y) (k:=0) (v:=.slice (some ⟨b,0,none⟩) (rows.length+1) c) rfl
  have vU:bS 2 H3 (.slice (some ⟨b,0,none⟩) (rows.length+1) c) none (some (.int .i64 rows.length)) none=some (.slice (some ⟨b,0,none⟩) rows.length c):=by
   have h1:¬ c=0:=by omega
   have h2:rows.length≤c:=by omega
   have h3:(rows.length:Int)≤(c:Int):=by omega
   simp [bS,bz,ij,h1,h2,h3];rfl
  simp (maxSteps:=9^7)-implicitDefEqProofs+contextual [-X.ev,p,w2,s2,K,W,o,p3,l3,w1,vU,s4,EG,f,Wn,l,n,N,wR,bq,aM,aN];refine ⟨⟨nN.symm,by omega⟩,_,g4,⟨_,Es,u,?_⟩,z.trans (M4.mono fun x _ t=>.inl t),fun q d=>?_⟩
  ·rw [x9,if_pos (by omega)]
   exact L.mod M4 (fun q d e=>g (by rw [bl]at d;omega))
  ·rw [bl]at d⊢;exact d
 ·have U:¬ rs=[]:=fun q=>EG (by rw [q];rfl)
  simp (maxSteps:=9^7)-implicitDefEqProofs+contextual [-X.ev,p,w2,s2,K,W,o,p3,U,f,Wn,l,n,N,wR,bq,aM,aN];refine ⟨_,Z,⟨_,Es,u,?_⟩,z,fun q d=>d⟩;rw [x9,if_neg (by omega)];exact A
end
section
open Go
def GZ (v:Value):Prop:=∃a n c,v= .slice a n c∧n≤c
theorem dK.cap {H:AH} {sz:Nat} {v:Value} {rows:List (List Value)} (h:dK H sz v rows):GZ v:=by
 rcases h.is with⟨rfl,_⟩|⟨b,rfl,_⟩
 ·exact ⟨_,_,_,rfl,aqK _⟩
 ·exact ⟨_,_,_,rfl,aqK _⟩
theorem Mod.then {R d:Nat→Prop} {H H1 H2:AH} (h:Mod R H H1) (k:Mod d H1 H2) (hs:∀b,b<H.nx→d b→R b):Mod R H H2:=
 ⟨k.n0.trans h.n0,aq2 h.nx k.nx,fun b a c=>(k.old b (aq3 a h.nx) fun q=>c (hs b a q)).trans (h.old b a c)⟩
theorem dh.sub {G H:AH} (X:Sub G H) {v:Value} {l:List Vr} (h:dh G v l):dh H v l:=Rows.sub X h
theorem sW {V:List Vr} {i:Nat} {y:Vr} (a:V[i]?=some y):bZ V ((i+1:Nat):Int)=IntKind.i64.wrap (bZ V (i:Int)+y.cells):=by
 simp only [bZ,Int.toNat_natCast];rw [aq1];simp [cT,a,List.foldl_append]
theorem QV {H:AH} {d:Value} {V:List Vr} {n:Int} (g:dh H d V) (j:GZ d) (i:0≤n∧n<V.length):∃a c f,d= .slice a V.length c∧bS 3 H d none (some (.int .i64 n)) none=some (.slice a n.toNat f):=by
 obtain ⟨a,m,c,rfl,p⟩:=j;obtain ⟨q,f,e⟩:=g.len;cases e;refine ⟨a,c,c,rfl,?_⟩;have l:¬ c=0:=by omega
 have h2:n≤(c:Int):=by omega
 have k:n.toNat≤c:=by omega
 obtain ⟨y,h⟩:∃y,V[0]?=some y:=⟨_,aqG (by omega)⟩
 obtain ⟨b,o,f,e,_⟩:=g.at h;cases e;simp [bS,bz,ij,l,h2,k,i.1];rfl
theorem uA {w k n:Int} {vv:Value} {V:List Vr} {H:AH} (f:H.n0≤H.nx) (t:dh H vv V) (L:GZ vv) (hl:V.length≤2^40) (J:0≤n∧n<V.length):
 Ca E O 176 [.agg #[.int .i64 w,vv,.int .i64 k],.int .i64 n] H (fun x H'=>x= .int .i64 (bZ V n)∧Ext H H'):=by
 obtain ⟨e,rfl⟩:∃m:Nat,n=m:=⟨n.toNat,by omega⟩
 refine Ca.aW (F:=Ky) rfl rfl rfl ?_;obtain ⟨a,c,Z,s,yd⟩:=QV t L J;have p:=Ext.alloc H (.cells 3 [.int .i64 w,vv,.int .i64 k]);have Y:(H.alloc (.cells 3 [.int .i64 w,vv,.int .i64 k])).ld ⟨H.nx,0,none⟩=some (.int .i64 w):=aj f rfl;have v:(H.alloc (.cells 3 [.int .i64 w,vv,.int .i64 k])).ld ⟨H.nx,1,none⟩=some vv:=aj f rfl;have W:(H.alloc (.cells 3 [.int .i64 w,vv,.int .i64 k])).ld ⟨H.nx,2,none⟩=some (.int .i64 k):=aj f rfl;have d:(H.alloc (.cells 3 [.int .i64 w,vv,.int .i64 k])).ldn ⟨H.nx,0,none⟩ 3=some [.int .i64 w,vv,.int .i64 k]:=bj f 3 rfl;generalize U:H.alloc (.cells 3 [.int .i64 w,vv,.int .i64 k])=H1 at p Y v W d;have S:=p.wf f;obtain ⟨a1,c1,A,G,u⟩:=QV (t.ext p) L J;rw [s]at G;cases G;rw [s]at v u;rw [Int.toNat_natCast]at u;simp (maxSteps:=9^7)-implicitDefEqProofs+contextual [-X.ev,Ky,U,v,u];refine cm (fun k g H'=>Ext H1 H'∧∃i:Nat,i+k=e∧g.get 11= .slice a e A∧g.get 12= .int .i64 e∧g.get 13= .int .i64 i∧g.get 5= .int .i64 (bZ V (i:Int))) ?_ e ⟨Ext.refl _,0,by simp,by simp,by simp,by simp,by simp [bZ,cT]⟩;rintro k g j ⟨B,i,hi,f11,f12,f13,M⟩;have D:=B.wf S;have P:=p.trans B;by_cases h:i<e
 ·obtain ⟨y,C⟩:∃y,V[i]?=some y:=⟨_,aqG (by omega)⟩
  obtain ⟨b,o,Z,I,K,_,_,_⟩:=(t.ext P).at C;rw [s]at I;cases I;simp only [Vr.row]at K;obtain ⟨r,Q,N,Gt,Gu,q,l⟩:=dZ (H:=j) D (z:=3) (c:=[.string ⟨#[]⟩,.int .i64 0,.int .i64 0]) (vs:=[.string y.name,.int .i64 y.level,.int .i64 y.cells]) rfl;have q0:r.ld ⟨j.nx,0,none⟩=some (.string y.name):=l 0 _ rfl;have q1:r.ld ⟨j.nx,1,none⟩=some (.int .i64 y.level):=l 1 _ rfl;have R:r.ld ⟨j.nx,2,none⟩=some (.int .i64 y.cells):=l 2 _ rfl;clear l;replace q:r.ldn ⟨j.nx,0,none⟩ 3=some [.string y.name,.int .i64 y.level,.int .i64 y.cells]:=q;have xQ:=N.wf D;have T:(i:Int)<(e:Int):=by omega
  have hk:k- 1<k:=by omega
  simp (maxSteps:=9^7)-implicitDefEqProofs+contextual [-X.ev,f11,f12,f13,M,h,K,Q,R];rw [ai (n:=(i:Int)+1) ⟨by omega,by omega⟩];exact ⟨k- 1,by omega,B.trans N,i+1,by omega,by simp,by rw [sW C]⟩
 ·simp (maxSteps:=9^7)-implicitDefEqProofs+contextual [-X.ev,f11,f12,f13,M,h]
  refine ⟨?_,P⟩;rw [show(i:Int)=e by omega]
structure Wu (G:AH) (f:Nat) (first cap:Array Value) (I:List Ev→(Nat→Prop)→AH→Prop):Prop where
 call:∀{nO:List Ev} {R:Nat→Prop} {H:AH} {n i:Int},H.n0≤H.nx→I nO R H→Sub G H→(∀b,R b→G.get b=none)→nO.length<2^40→
  Ca E O f (first.toList++ .int .i64 n:: .int .i64 i::cap.toList) H (fun x H'=>∃R',I (nO++[⟨1,n,i⟩]) R' H'∧Mod R H H'∧∀b,R' b→R b∨H.nx≤b)
 mod:∀{nO:List Ev} {R T:Nat→Prop} {H H':AH},I nO R H→Mod T H H'→(∀b,T b→¬ R b)→I nO R H'
 lt:∀{nO:List Ev} {R:Nat→Prop} {H:AH},I nO R H→∀b,R b→b<H.nx
theorem Wu.ext {G:AH} {f:Nat} {first cap:Array Value} {I:List Ev→(Nat→Prop)→AH→Prop} (h:Wu G f first cap I) {a:List Ev} {R:Nat→Prop} {H H':AH} (i:I a R H) (X:Ext H H'):I a R H':=h.mod i (Mod.bT (S:=fun _=>False) X) (by simp)
def G4 (l:List Int):List Value:=[.int .i64 (fZ l 0),.int .i64 (fZ l 1),.int .i64 (fZ l 2)]
theorem G5 {w:Int} {V:List Vr} {S:List (List Int)} {l:List bQ} {i:Nat} {y:bQ} (e:l.length≤3) (d:l[i]?=some y):aJ (G4 (de w V S (l.take i))) i [.int .i64 (bF w V S y)]=G4 (de w V S (l.take (i+1))):=by
 match l,i,e,d with
 |[a],0,_,d=>simp at d;subst d;rfl
 |[a,b],0,_,d=>simp at d;subst d;rfl
 |[a,b],1,_,d=>simp at d;subst d;rfl
 |[a,b,c],0,_,d=>simp at d;subst d;rfl
 |[a,b,c],1,_,d=>simp at d;subst d;rfl
 |[a,b,c],2,_,d=>simp at d;subst d;rfl
theorem G6 {G:AH} {w:Int} {vv vS:Value} {V:List Vr} {S:List (List Int)} {f:Nat} {first cap:Array Value} {I:List Ev→(Nat→Prop)→AH→Prop} (hV:aA w V=true) (hS:Od w V S) (hv:dh G vv V) (gU:GZ vv) (gv:gO G vS S) (sX:Wu G f first cap I):
 ∀(N:Nat) (e:bQ) (c:List Value) (H:AH) (L:List Ev) (R:Nat→Prop),SizeOf.sizeOf e<N→H.n0≤H.nx→Sub G H→I L R H→(∀b,R b→G.get b=none)→oO G c e→dz w V S.length e=true→(L.length:Int)+av e≤2^40→
 Ca E O 168 [.agg #[.int .i64 w,vv,.int .i64 S.length],vS,.agg c.toArray,.func (.func f) first cap] H (fun x H'=>x= .int .i64 (bF w V S e)∧∃W,I (L++pO w V S e) W H'∧Mod R H H'∧∀b,W b→R b∨H.nx≤b):=by
 have fR:1≤w∧w≤8:=⟨(aP hV).1,(aP hV).2.1⟩
 have hp:=jH fR;have hVl:=(aP hV).2.2.2;intro N
 induction N with
 |zero=>intro e c H L R h;omega
 |succ N ih=>
  intro e c H L R hN U X hI Og he hf wV
  cases he with| @mk op n cp va rows args i1 i2 i3 hlen hr hl=>
  refine Ca.aW (F:=a168) rfl rfl rfl ?_;obtain ⟨aH,hc⟩:=sU fR hf
  have V5:args.length≤3:=by
   rcases hc with⟨_,rfl,_⟩|⟨_,_,_,_,_,⟨rfl,_⟩|⟨⟨a,rfl⟩,_⟩⟩|⟨_,a,rfl⟩|⟨_,a,b,c,rfl⟩|⟨_,a,b,rfl⟩<;>simp
  have wd:∀y∈args,0≤bF w V S y∧bF w V S y<2^w.toNat:=fun y B=>kn hV hS y (aH y B)
  rw [av]at wV;obtain ⟨p0,c0,gg⟩:=hr.len;rw [hl.length]at gg;have g1:=cq H (.cells 3 [.int .i64 w,vv,.int .i64 S.length]);have X1:=Ext.alloc H (.cells 3 [.int .i64 w,vv,.int .i64 S.length]);have d0:(H.alloc (.cells 3 [.int .i64 w,vv,.int .i64 S.length])).ld ⟨H.nx,0,none⟩=some (.int .i64 w):=aj U rfl;have d1:(H.alloc (.cells 3 [.int .i64 w,vv,.int .i64 S.length])).ld ⟨H.nx,1,none⟩=some vv:=aj U rfl;have d2:(H.alloc (.cells 3 [.int .i64 w,vv,.int .i64 S.length])).ld ⟨H.nx,2,none⟩=some (.int .i64 S.length):=aj U rfl;have d:(H.alloc (.cells 3 [.int .i64 w,vv,.int .i64 S.length])).ldn ⟨H.nx,0,none⟩ 3=some [.int .i64 w,vv,.int .i64 S.length]:=bj U 3 rfl;generalize cF:H.alloc (.cells 3 [.int .i64 w,vv,.int .i64 S.length])=t at X1 d0 d1 d2 d;have bD:=X1.wf U;rw [cF]at g1;have g2:=cq t (.cells 4 [.int .i64 op,.int .i64 n,.int .i64 cp,va]);have nE1:t.nx=H.nx+1:=by rw [←cF];rfl
  have X2:=Ext.alloc t (.cells 4 [.int .i64 op,.int .i64 n,.int .i64 cp,va]);have A:(t.alloc (.cells 4 [.int .i64 op,.int .i64 n,.int .i64 cp,va])).ld ⟨t.nx,0,none⟩=some (.int .i64 op):=aj bD rfl;have e1:(t.alloc (.cells 4 [.int .i64 op,.int .i64 n,.int .i64 cp,va])).ld ⟨t.nx,1,none⟩=some (.int .i64 n):=aj bD rfl;have e2:(t.alloc (.cells 4 [.int .i64 op,.int .i64 n,.int .i64 cp,va])).ld ⟨t.nx,2,none⟩=some (.int .i64 cp):=aj bD rfl;have e3:(t.alloc (.cells 4 [.int .i64 op,.int .i64 n,.int .i64 cp,va])).ld ⟨t.nx,3,none⟩=some va:=aj bD rfl;have e:(t.alloc (.cells 4 [.int .i64 op,.int .i64 n,.int .i64 cp,va])).ldn ⟨t.nx,0,none⟩ 4=some [.int .i64 op,.int .i64 n,.int .i64 cp,va]:=bj bD 4 rfl;generalize j0:t.alloc (.cells 4 [.int .i64 op,.int .i64 n,.int .i64 cp,va])=H2 at X2 A e1 e2 e3 e;have jh:=X2.wf bD;rw [j0]at g2;have nE2:H2.nx=H.nx+2:=by rw [←j0];show t.nx+1=_;omega
  have X3:=Ext.alloc H2 (.cells 3 [.int .i64 0,.int .i64 0,.int .i64 0]);have g3:=cq H2 (.cells 3 [.int .i64 0,.int .i64 0,.int .i64 0])
  obtain ⟨H3,LA⟩:∃H3,H2.alloc (.cells 3 [.int .i64 0,.int .i64 0,.int .i64 0])=H3:=⟨_,rfl⟩
  rw [LA]at X3 g3;have nE3:H3.nx=H.nx+3:=by rw [←LA];show H2.nx+1=_;omega
  have D3:=X3.ld e3;rw [gg]at D3;have jw:=X1.trans (X2.trans X3);have g1':=X3.get (X2.get g1);have g2':=X3.get g2;rw [nE1]at g2' D3;rw [nE2]at g3;have Wv:=sX.lt hI;simp (maxSteps:=9^7)-implicitDefEqProofs+contextual [-X.ev,a168,cF,j0,LA,nE1,nE2,D3]
  refine cm (fun k J H'=>Mod R H H'∧H3.nx≤H'.nx∧H'.get H.nx=some (.cells 3 [.int .i64 w,vv,.int .i64 S.length])∧H'.get (H.nx+1)=some (.cells 4 [.int .i64 op,.int .i64 n,.int .i64 cp,va])∧∃(i:Nat) (W:Nat→Prop),i+k=args.length∧H'.get (H.nx+2)=some (.cells 3 (G4 (de w V S (args.take i))))∧I (L++fy w V S (args.take i)) W H'∧(∀b,W b→R b∨H3.nx≤b)∧
   J.get 1=vS∧J.get 3= .func (.func f) first cap∧J.get 4= .pointer (some ⟨H.nx,0,none⟩)∧J.get 6= .pointer (some ⟨H.nx+1,0,none⟩)∧J.get 9= .pointer (some ⟨H.nx+2,0,none⟩)∧J.get 18=va∧J.get 19= .int .i64 args.length∧J.get 20= .int .i64 i) ?_ args.length ⟨Mod.bT jw,aqK _,g1',g2',0,R,by simp,by simpa [de,G4,fZ]using g3,by simpa [fy]using sX.ext hI jw,fun b p=>.inl p,by simp,by simp,by simp,by simp,by simp,by simp [gg],by simp,by simp⟩
  rintro k J H4 ⟨M4,y9,k1,k2,i,R4,hi,k3,D,QW,f1,f3,f4,K,f9,f18,f19,f20⟩;have Z:=M4.wf U;have nN:=M4.n0;have M:Sub G H4:=X.mod M4 Og;have Gnx:=X.nx
  have QX:∀b,R4 b→G.get b=none:=fun b p=>by
   rcases QW b p with h|h
   ·exact Og b h
   ·exact AH.rU (by omega)
  have QY:∀b,R4 b→b<H.nx∨H.nx+3≤b:=fun b p=>by
   rcases QW b p with h|h
   ·exact .inl (Wv b h)
   ·omega
  have tl:=x7 (w:=w) (V:=V) (S:=S) args i;by_cases h:i<args.length
  ·obtain ⟨y,B⟩:∃y,args[i]?=some y:=⟨_,aqG h⟩
   have t1:=fw B;have t2:=bO args (i+1);have iu:=kf (op:=op) (n:=n) (cp:=cp) B;obtain ⟨b,o,c',vy,r,cx,bL,rfl,mG⟩:=fY.row (hr.sub M) (fY.sub M hl) B;obtain ⟨b',o',Jp,vy',r',Ww,Wx,rfl,afr⟩:=fY.row hr hl B;rw [cx]at Ww;cases Ww
   have hvy:vy'=vy:=by
    have:=M.ldn Wx;rw [bL]at this;cases this;rfl
   subst hvy;have QZ:=f18;rw [cx]at QZ;obtain ⟨H5,sH5,g,am8,am9,q,Wy⟩:=dZ (H:=H4) Z (z:=4) (c:=[.int .i64 0,.int .i64 0,.int .i64 0,.slice none 0 0]) (vs:=[.int .i64 y.op,.int .i64 y.n,.int .i64 y.cp,vy']) rfl;have q0:H5.ld ⟨H4.nx,0,none⟩=some (.int .i64 y.op):=Wy 0 _ rfl;have q1:H5.ld ⟨H4.nx,1,none⟩=some (.int .i64 y.n):=Wy 1 _ rfl;have q2:H5.ld ⟨H4.nx,2,none⟩=some (.int .i64 y.cp):=Wy 2 _ rfl;have q3:H5.ld ⟨H4.nx,3,none⟩=some vy':=Wy 3 _ rfl;clear Wy;replace q:H5.ldn ⟨H4.nx,0,none⟩ 4=some [.int .i64 y.op,.int .i64 y.n,.int .i64 y.cp,vy']:=q;have Wz:=g.wf Z;have kk1:=g.get k1;have l1:H5.ldn ⟨H.nx,0,none⟩ 3=some [.int .i64 w,vv,.int .i64 S.length]:=by rw [bH kk1 (by rw [g.n0,nN];exact U) (by simp)];rfl
   have n5:=g.nx
   have evl:((L++fy w V S (args.take i)).length:Int)+av y≤2^40:=by
    have u:=bO args i;have u2:=ko (w:=w) (V:=V) (S:=S) (l:=args.take i) (fun e _=>eW e);rw [aqP];omega
   simp (maxSteps:=9^7)-implicitDefEqProofs+contextual [-X.ev,f1,f3,f4,QZ,f19,f20,h,bL,sH5,q,l1];apply ah
   ·(simp-implicitDefEqProofs [-X.ev];rfl)
   refine (ih y _ H5 _ R4 (by omega) Wz (M.QF g) (sX.ext D g) QX afr (aH y (aqL B)) evl).mono ?_;rintro x H6 ⟨rfl,R6,hI6,M6,hR6⟩;have DF:=M6.wf Wz;have n6:=M6.nx;have T:∀j,j<3→¬ R4 (H.nx+j):=fun j hj q=>by have:=QY _ q;omega
   have j1:=M6.get (T 0 (by omega)) kk1;have j2:=M6.get (T 1 (by omega)) (g.get k2);have j3:=M6.get (T 2 (by omega)) (g.get k3);have Lu:H6.n0=H.n0:=M6.n0.trans (g.n0.trans nN);obtain ⟨H7,s7,M7,nx7,DL,g7⟩:=bR j3 (by rw [Lu];omega) (k:=i) (vs:=[.int .i64 (bF w V S y)]) (by simp [G4];omega);rw [G5 V5 B]at g7;have hi3:(i:Int)<3:=by omega
   simp (maxSteps:=9^7)-implicitDefEqProofs+contextual [-X.ev,f1,f3,f4,f9,QZ,f19,f20,s7,hi3];rw [ai (n:=(i:Int)+1) ⟨by omega,by omega⟩];refine ⟨k- 1,by omega,((M4.trans (Mod.bT g)).then M6 (fun b p q=>?_)).then M7 (fun b p q=>by omega),by omega,M7.get (by omega) j1,M7.get (by omega) j2,i+1,by omega,g7,R6,?_,fun b p=>?_,K,cx.symm,by simp⟩
   ·rcases QW b q with h|h
    ·exact h
    ·omega
   ·rw [GU B,←aq5]
    exact sX.mod hI6 M7 (fun b p q=>by
     rcases hR6 b q with h|h
     ·have:=QY b h;omega
     ·omega)
   ·rcases hR6 b p with h|h
    ·exact QW b h
    ·right;omega
  have hti:args.take i=args:=aqN (by omega);rw [hti]at k3 D;have B0:H4.n0≤H.nx:=by rw [nN];exact U
  have u0:=aG k1 B0 (k:=0) (v:=.int .i64 w) rfl;have u1:=aG k1 B0 (k:=1) (v:=vv) rfl;have un:H4.ldn ⟨H.nx,0,none⟩ 3=some [.int .i64 w,vv,.int .i64 S.length]:=by rw [bH k1 B0 (by simp)];rfl
  have Q:=aG k2 (by omega) (k:=0) (v:=.int .i64 op) rfl;have v1:=aG k2 (by omega) (k:=1) (v:=.int .i64 n) rfl;have v2:=aG k2 (by omega) (k:=2) (v:=.int .i64 cp) rfl;have v3:=aG k2 (by omega) (k:=3) (v:=va) rfl;have P:=aG k3 (by omega) (k:=0) (v:=.int .i64 (fZ (de w V S args) 0)) rfl;have x1:=aG k3 (by omega) (k:=1) (v:=.int .i64 (fZ (de w V S args) 1)) rfl;have x2:=aG k3 (by omega) (k:=2) (v:=.int .i64 (fZ (de w V S args) 2)) rfl;rw [gg]at f18 v3
  have fin:∀{H':AH},(¬ (op=1∧args≠[]))→Ext H4 H'→∃W,I (L++pO w V S (.mk op n cp args)) W H'∧Mod R H H'∧∀b,W b→R b∨H.nx≤b:=fun qF XX=>by
   refine ⟨R4,?_,M4.trans (Mod.bT XX),fun b p=>(QW b p).imp id (fun q=>by omega)⟩;rw [pO,if_neg qF,List.append_nil];exact sX.ext D XX
  rcases hc with⟨rfl,rfl,h1,h2⟩|⟨rfl,h1,h2,h3,h4,iC⟩|⟨rfl,y0,rfl⟩|⟨rfl,y0,y1,y2,rfl⟩|⟨ho,y0,y1,rfl⟩
  ·have:=fin (H':=H4) (by omega) (Ext.refl _)
   have m:¬ (i:Int)<0:=by omega
   simp (maxSteps:=9^7)-implicitDefEqProofs+contextual [-X.ev,f18,f19,f20,m,K,Q,v1,bF];exact this
  ·obtain ⟨s,C⟩:∃s,S[cp.toNat]?=some s:=⟨_,aqG (by omega)⟩
   have aft:=hS s (aqL C);have hsa:storeAt S cp=s:=by simp [storeAt,C]
   have uB:=vQ hV ⟨h1,h2⟩ (fZ (de w V S args) 0);obtain ⟨x,hx,JM,A9,Oe⟩:=lY fR aft (i:=bZ V n+fZ (de w V S args) 0%al V n) (by omega)
   have m:bZ V n+fZ (de w V S args) 0%al V n<(s.length:Int):=by
    have:=(aqM.1 hx).1;omega
   have cpS:cp<S.length:=by omega
   rcases iC with⟨rfl,hcn⟩|⟨⟨y,rfl⟩,hcn⟩
   ·have Bb:¬ (i:Int)<0:=by omega
    obtain ⟨b,o,c',a',Jp,ui,eQ,xX⟩:=(gv.sub M).at C;obtain ⟨b3,o3,c3,Nv,G7⟩:=xX.at hx;cases Nv;have A:fZ (de w V S []) 0=0:=rfl;rw [A]at uB m G7 Oe;simp only [Int.zero_emod,Int.add_zero]at uB m G7 Oe;have WA:=bo.1 v2;have HN:=bo.1 eQ;have ww:IntKind.i64.wrap (bZ V n)=bZ V n:=ai ⟨by omega,by omega⟩
    have tV:bF w V S (.mk 1 n cp [])=x:=by
     rw [bF,if_neg (by omega),if_pos rfl,hsa,A,Int.zero_emod,Int.add_zero,Oe]
    rw [ui]at f1;simp (maxSteps:=9^7)-implicitDefEqProofs+contextual [-X.ev,f1,f18,f19,f20,Bb,f4,K,Q,v1,v2,v3,un,eQ,h3,cpS];apply ah
    ·(simp-implicitDefEqProofs [-X.ev];rfl)
    refine (uA Z (dh.sub M hv) gU (by omega) ⟨h1,h2⟩).mono ?_;rintro x' H5 ⟨rfl,g⟩;have g1:0≤bZ V n:=by omega
    have afu:=fin (H':=H5) (by simp) g;have afv:=g.ld G7;have afw:=g.ldn WA;have HN5:=g.ldn HN;have Oh:=g.nx;have JA:=g.n0;simp (maxSteps:=9^7)-implicitDefEqProofs+contextual [-X.ev,ww,bq,aM,aN,WA,HN,afw,HN5,g1,m,afv,tV,Oh,JA];exact afu
   ·have Bb:¬ (i:Int)<1:=by simp at h;omega
    obtain ⟨yv,G8⟩:∃yv,V[n.toNat]?=some yv:=⟨_,aqG (by omega)⟩
    have LC:al V n=yv.cells:=by simp [al,G8]
    obtain ⟨b,o,c',lh,_,_,_,Al⟩:=(dh.sub M hv).at G8;have TE:=wd y (by simp);have A:fZ (de w V S [y]) 0=bF w V S y:=rfl;rw [A]at uB m hx Oe P;rw [LC]at uB m hx Oe hcn;have rn:=Ah (b:=yv.cells) TE.1;rw [if_neg (by omega)]at rn;have u1':=u1;rw [lh]at u1'
    have bd:((L++fy w V S [y]).length:Int)<2^40:=by
     have u2:=ko (w:=w) (V:=V) (S:=S) (l:=[y]) (fun e _=>eW e);rw [aqP];omega
    simp (maxSteps:=9^7)-implicitDefEqProofs+contextual [-X.ev,f18,f19,f20,Bb,f3,f4,K,f9,Q,v1,v3,P,u1',h1,h2,Al,rn,bq,aM,aN];apply kh
    ·(simp-implicitDefEqProofs [-X.ev,-Value.func.injEq,f3];rfl)
    ·(simp-implicitDefEqProofs [-X.ev,f3];rfl)
    refine (sX.call (n:=n) (i:=bF w V S y%yv.cells) Z D M QX (by omega)).mono ?_;rintro x' H5 ⟨R5,hI5,Y,hR5⟩;have qP:=Y.wf Z;have SG5:Sub G H5:=M.mod Y QX;have T:∀j,j<3→¬ R4 (H.nx+j):=fun j hj q=>by have:=QY _ q;omega
    have vv1:=Y.ld (T 1 (by omega)) v1;have vv2:=Y.ld (T 1 (by omega)) v2;have vv0:=Y.ld (T 1 (by omega)) Q;have unn:=Y.ldn (T 0 (by omega)) un;obtain ⟨b5,o5,c5,a',Jp,ui,eQ,xX⟩:=(gv.sub SG5).at C;obtain ⟨b3,o3,c3,Nv,G7⟩:=xX.at hx;cases Nv;have WA:=bo.1 vv2;have HN:=bo.1 eQ;have ww:IntKind.i64.wrap (bZ V n+bF w V S y%yv.cells)=bZ V n+bF w V S y%yv.cells:=ai ⟨by omega,by omega⟩
    have tV:bF w V S (.mk 1 n cp [y])=x:=by
     rw [bF,if_neg (by omega),if_pos rfl,hsa,A,LC,Oe]
    have afx:pO w V S (.mk 1 n cp [y])=fy w V S [y]++[⟨1,n,bF w V S y%yv.cells⟩]:=by rw [pO,if_pos ⟨rfl,by simp⟩,A,LC]
    rw [ui]at f1;simp (maxSteps:=9^7)-implicitDefEqProofs+contextual [-X.ev,f1,f4,K,vv0,vv1,vv2,unn,eQ,h3,cpS];apply ah
    ·(simp-implicitDefEqProofs [-X.ev];rfl)
    refine (uA qP (dh.sub SG5 hv) gU (by omega) ⟨h1,h2⟩).mono ?_;rintro x' H6 ⟨rfl,X6⟩;have g1:0≤bZ V n+bF w V S y%yv.cells:=by omega
    have afy:=X6.ld G7;have afz:=X6.ldn WA;have HN6:=X6.ldn HN;have x6x:=X6.nx;have WB:=X6.n0;have N4:=Y.nx;simp (maxSteps:=9^7)-implicitDefEqProofs+contextual [-X.ev,ww,bq,aM,aN,WA,HN,afz,HN6,g1,m,afy,tV,x6x,WB];rw [afx,←aq5];refine ⟨R5,sX.ext hI5 X6,(M4.then Y (fun b p q=>?_)).trans (Mod.bT X6),fun b p=>?_⟩
    ·rcases QW b q with h|h
     ·exact h
     ·omega
    ·rcases hR5 b p with h|h
     ·exact (QW b h).imp id (fun q=>by omega)
     ·right;omega
  ·have TE:=wd y0 (by simp)
   have A:fZ (de w V S [y0]) 0=bF w V S y0:=rfl;rw [A]at P;have m:¬ (i:Int)<1:=by simp at h;omega
   simp (maxSteps:=9^7)-implicitDefEqProofs+contextual [-X.ev,f18,f19,f20,m,K,f4,f9,Q,u0,P];apply ah
   ·(simp-implicitDefEqProofs [-X.ev];rfl)
   refine (Ls Z fR TE).mono ?_;rintro x H5 ⟨rfl,g⟩;have:=fin (H':=H5) (by omega) g;simp (maxSteps:=9^7)-implicitDefEqProofs+contextual [-X.ev];refine ⟨?_,this⟩;rw [bF,if_neg (by omega),if_neg (by omega),if_pos rfl];rfl
  ·have:=fin (H':=H4) (by omega) (Ext.refl _)
   have m:¬ (i:Int)<3:=by simp at h;omega
   by_cases q:fZ (de w V S [y0,y1,y2]) 0=0
   ·simp (maxSteps:=9^7)-implicitDefEqProofs+contextual [-X.ev,f18,f19,f20,m,K,f9,Q,P,x2,q]
    refine ⟨?_,this⟩;rw [bF,if_neg (by omega),if_neg (by omega),if_neg (by omega),if_pos rfl,if_pos q]
   ·simp (maxSteps:=9^7)-implicitDefEqProofs+contextual [-X.ev,f18,f19,f20,m,K,f9,Q,P,x1,q]
    refine ⟨?_,this⟩;rw [bF,if_neg (by omega),if_neg (by omega),if_neg (by omega),if_pos rfl,if_neg q]
  ·have m0:¬ op=0:=by omega
   have m1:¬ op=1:=by omega
   have m12:¬ op=12:=by omega
   have m15:¬ op=15:=by omega
   have A:fZ (de w V S [y0,y1]) 0=bF w V S y0:=rfl;have e1:fZ (de w V S [y0,y1]) 1=bF w V S y1:=rfl;rw [A]at P;rw [e1]at x1;have m:¬ (i:Int)<2:=by simp at h;omega
   simp (maxSteps:=9^7)-implicitDefEqProofs+contextual [-X.ev,f18,f19,f20,m,K,f4,f9,Q,u0,P,x1,m0,m1,m12,m15];apply ah
   ·(simp-implicitDefEqProofs [-X.ev];rfl)
   refine (QL Z ho fR (wd y0 (by simp)) (wd y1 (by simp))).mono ?_;rintro x H5 ⟨rfl,g⟩;have:=fin (H':=H5) (by omega) g;simp (maxSteps:=9^7)-implicitDefEqProofs+contextual [-X.ev];refine ⟨?_,this⟩;rw [bF,if_neg m0,if_neg m1,if_neg m12,if_neg m15,A,e1]
open Go
structure MV where
 vf:Value
 w:Int
 vv:Value
 vb:Value
 fuel:Int
 vp:Value
 en:Int
 vs:Value
 vo:Value
 vt:Value
 cost:Int
 used:Int
 wh:Int
 ended:Bool
abbrev MV.rest (v:MV):List Value:=[.int .i64 v.w,v.vv,v.vb,.int .i64 v.fuel,v.vp,.int .i64 v.en,v.vs,v.vo,v.vt,.int .i64 v.cost,.int .i64 v.used,.int .i64 v.wh,.bool v.ended]
abbrev MV.cells (v:MV):List Value:=v.vf::v.rest
def Am (o:Int×Int):List Value:=[.int .i64 o.1,.int .i64 o.2]
def cY (l:List (Int×Int)):List (List Value):=l.map Am
theorem sY (l m:List (Int×Int)):cY (l++m)=cY l++cY m:=by simp [cY]
theorem jl (l:List (Int×Int)):(cY l).length=l.length:=by simp [cY]
def Mf (m:Nat) (v:MV) (b:Nat):Prop:=b=m∨aR v.vf b∨aR v.vs b∨aR v.vo b∨aR v.vt b
structure MH (G H:AH) (m:Nat) (v:MV) (rows:List (List Value)) (store:List Int) (outs:List (Int×Int)) (trace:List Ev):Prop where
 get:H.get m=some (.cells 14 v.cells)
 n0:H.n0≤m
 sub:Sub G H
 wf:H.n0≤H.nx
 fr:fu H 2 v.vf rows
 st:dK H 1 v.vs (bg store)
 ou:dK H 2 v.vo (cY outs)
 tr:dK H 3 v.vt (dB trace)
 d1:¬ aR v.vf m∧¬ aR v.vs m∧¬ aR v.vo m∧¬ aR v.vt m
 d2:∀b,aR v.vf b→¬ aR v.vs b∧¬ aR v.vo b∧¬ aR v.vt b
 d3:∀b,aR v.vs b→¬ aR v.vo b∧¬ aR v.vt b
 d4:∀b,aR v.vo b→¬ aR v.vt b
 out:∀b,Mf m v b→G.get b=none
theorem MH.lt {G H:AH} {m:Nat} {v:MV} {rows:List (List Value)} {store:List Int} {outs:List (Int×Int)} {trace:List Ev} (h:MH G H m v rows store outs trace) {b:Nat} (a:Mf m v b):b<H.nx:=by
 rcases a with rfl|a|a|a|a
 ·exact AH.aS h.get
 ·exact h.fr.lt a
 ·exact h.st.lt a
 ·exact h.ou.lt a
 ·exact h.tr.lt a
theorem MH.mod {G H H':AH} {m:Nat} {v:MV} {rows:List (List Value)} {store:List Int} {outs:List (Int×Int)} {trace:List Ev} {T:Nat→Prop} (h:MH G H m v rows store outs trace) (M:Mod T H H') (c:∀b,T b→¬ Mf m v b) (d:∀b,T b→G.get b=none):MH G H' m v rows store outs trace where
 get:=M.get (fun q=>c m q (.inl rfl)) h.get
 n0:=by rw [M.n0];exact h.n0
 sub:=h.sub.mod M d
 wf:=M.wf h.wf
 fr:=h.fr.mod M fun b a q=>c b q (.inr (.inl a))
 st:=h.st.mod M fun b a q=>c b q (.inr (.inr (.inl a)))
 ou:=h.ou.mod M fun b a q=>c b q (.inr (.inr (.inr (.inl a))))
 tr:=h.tr.mod M fun b a q=>c b q (.inr (.inr (.inr (.inr a))))
 d1:=h.d1
 d2:=h.d2
 d3:=h.d3
 d4:=h.d4
 out:=h.out
theorem MH.ext {G H H':AH} {m:Nat} {v:MV} {rows:List (List Value)} {store:List Int} {outs:List (Int×Int)} {trace:List Ev} (h:MH G H m v rows store outs trace) (X:Ext H H'):MH G H' m v rows store outs trace:=h.mod (Mod.bT (S:=fun _=>False) X) (by simp) (by simp)
theorem MH.vV {G H H':AH} {m:Nat} {v:MV} {rows:List (List Value)} {store:List Int} {outs:List (Int×Int)} {trace d:List Ev} {vt:Value} {cost:Int} (h:MH G H m v rows store outs trace) (M:Mod (fun b=>b=m∨aR v.vt b) H H') (g:H'.get m=some (.cells 14 ({v with vt:=vt,cost:=cost}:MV).cells)) (o:dK H' 3 vt (dB d)) (c:∀b,aR vt b→aR v.vt b∨H.nx≤b):MH G H' m {v with vt:=vt,cost:=cost} rows store outs d where
 get:=g
 n0:=by rw [M.n0];exact h.n0
 sub:=h.sub.mod M fun b a=>h.out b (by rcases a with q|q;exact .inl q;exact .inr (.inr (.inr (.inr q))))
 wf:=M.wf h.wf
 fr:=h.fr.mod M fun b a q=>by rcases q with rfl|q;exact h.d1.1 a;exact (h.d2 b a).2.2 q
 st:=h.st.mod M fun b a q=>by rcases q with rfl|q;exact h.d1.2.1 a;exact (h.d3 b a).2 q
 ou:=h.ou.mod M fun b a q=>by rcases q with rfl|q;exact h.d1.2.2.1 a;exact h.d4 b a q
 tr:=o
 d1:=⟨h.d1.1,h.d1.2.1,h.d1.2.2.1,fun q=>by rcases c m q with q|q;exact h.d1.2.2.2 q;have:=h.lt (.inl rfl);omega⟩
 d2:=fun b a=>⟨(h.d2 b a).1,(h.d2 b a).2.1,fun q=>by rcases c b q with q|q;exact (h.d2 b a).2.2 q;have:=h.lt (.inr (.inl a));omega⟩
 d3:=fun b a=>⟨(h.d3 b a).1,fun q=>by rcases c b q with q|q;exact (h.d3 b a).2 q;have:=h.lt (.inr (.inr (.inl a)));omega⟩
 d4:=fun b a q=>by rcases c b q with q|q;exact h.d4 b a q;have:=h.lt (.inr (.inr (.inr (.inl a))));omega
 out:=fun b a=>by
  rcases a with q|q|q|q|q
  ·exact h.out b (.inl q)
  ·exact h.out b (.inr (.inl q))
  ·exact h.out b (.inr (.inr (.inl q)))
  ·exact h.out b (.inr (.inr (.inr (.inl q))))
  ·rcases c b q with q|q
   ·exact h.out b (.inr (.inr (.inr (.inr q))))
   ·exact AH.rU (aq2 h.sub.nx q)
theorem tell {H:AH} {m:Nat} {v:MV} {trace:List Ev} (e:Ev) (F:H.n0≤H.nx) (g:H.get m=some (.cells 14 v.cells)) (J:H.n0≤m) (o:dK H 3 v.vt (dB trace)) (G:¬ aR v.vt m) (s:trace.length≤2^41):
 ∃H1 a c H2 d,ng 1 3 [.int .i64 0,.int .i64 0,.int .i64 0] H [(0,3,.agg #[.int .i64 e.kind,.int .i64 e.at_,.int .i64 e.val])]=some (.slice (some ⟨H.nx,0,none⟩) 1 1,H1)∧bm 3 24 H1 v.vt (.slice (some ⟨H.nx,0,none⟩) 1 1)=some (.slice a (trace.length+1) c,H2)∧H2.st ⟨m,9,none⟩ [.slice a (trace.length+1) c]=some d∧
  d.get m=some (.cells 14 ({v with vt:=.slice a (trace.length+1) c}:MV).cells)∧dK d 3 (.slice a (trace.length+1) c) (dB (trace++[e]))∧Mod (fun b=>b=m∨aR v.vt b) H d∧(∀b,aR (.slice a (trace.length+1) c) b→H.nx≤b)∧H1.n0=H.n0∧H.nx≤H1.nx∧Ext H H1∧H2.n0=H.n0∧H1.nx≤H2.nx∧d.n0=H.n0∧d.nx=H2.nx∧Mod (aR v.vt) H H2:=by
 have i:=vM (sz:=3) (z:=[.int .i64 0,.int .i64 0,.int .i64 0]) (H:=H) (v:=.agg #[.int .i64 e.kind,.int .i64 e.at_,.int .i64 e.val]) rfl rfl rfl;simp only [gw]at i;have X:=Ext.alloc H (.cells 3 [.int .i64 e.kind,.int .i64 e.at_,.int .i64 e.val])
 obtain ⟨H1,t⟩:∃H1,H.alloc (.cells 3 [.int .i64 e.kind,.int .i64 e.at_,.int .i64 e.val])=H1:=⟨_,rfl⟩
 obtain ⟨M,H2,I,l,j,n,f,N,w,E,C,B⟩:=ji (bytes:=24) F o (r:=[.int .i64 e.kind,.int .i64 e.at_,.int .i64 e.val]) rfl t (by rw [jU];omega) (by rw [jU];omega);rw [t]at i X;obtain ⟨a,c,p⟩:=l.shape;rw [aqP,List.length_singleton,jU]at p;subst p;have L:=j.get G g;obtain ⟨d,y,u,A,D,K⟩:=bR L (by rw [f];exact J) (k:=9) (vs:=[.slice a (trace.length+1) c]) (by simp);refine ⟨H1,a,c,H2,d,i,I,y,K,?_,(j.mono fun x _ h=>.inr h).trans (u.mono fun x _ h=>.inl h),n,E,C,X,f,B,D.trans f,A,j⟩;rw [tZ];exact l.mod u fun b s q=>by have:=n b s;have:=AH.aS g;omega
def WC (m:Nat) (v:MV) (tr0:List Ev) (nO:List Ev) (R:Nat→Prop) (H:AH):Prop:=∃vt,R=(fun b=>b=m∨aR vt b)∧H.get m=some (.cells 14 ({v with vt:=vt}:MV).cells)∧H.n0≤m∧dK H 3 vt (dB (tr0++nO))∧¬ aR vt m
theorem Q5 {G:AH} {m B:Nat} {v:MV} {f:List Ev} (C:G.ld ⟨B,0,none⟩=some (.pointer (some ⟨m,0,none⟩))) (y:f.length≤2^40):Wu G 158 #[] #[.pointer (some ⟨B,0,none⟩)] (WC m v f)where
 call:=by
  rintro E R H n i P ⟨vt,rfl,g,e,o,j⟩ X S hl;refine Ca.aW (F:=Kx) rfl rfl rfl ?_;have w:=X.ld C;obtain ⟨Z,a,c,Y,H3,d,z,x,D,s,V,r,N,K,U,L,t,u,I,W⟩:=tell (v:={v with vt:=vt}) ⟨1,n,i⟩ P g e o j (by rw [aqP];omega);simp only [aqP]at z x D s r;have l:=(X.mod W (fun b d=>S b (.inr d))).ldn (bo.1 C);have J:Z.nx≤Y.nx:=t;have O:=aG g e (k:=9) (v:=vt) rfl;have Q:eS [.int .i64 0,.int .i64 0,.int .i64 0] [(0,1,.int .i64 1),(1,1,.int .i64 n),(2,1,.int .i64 i)]=some (.agg #[.int .i64 1,.int .i64 n,.int .i64 i]):=rfl;have h:=bo.1 w;have p:=U.ldn h;simp (maxSteps:=9^7)-implicitDefEqProofs+contextual [-X.ev,Kx,w,O,Q,d,z,x,h,p,l,N,K,L,t,u,I,bq,aM,aN];exact ⟨_,⟨_,rfl,D,by rw [u];exact e,by simpa [aq5]using s,fun q=>by have:=r m q;have:=AH.aS g;omega⟩,V,fun b d=>d.imp (fun q=>.inl q) (fun q=>r b q)⟩
 mod:=by
  rintro E R T H H' ⟨vt,rfl,g,e,o,j⟩ M A;exact ⟨vt,rfl,M.get (fun q=>A m q (.inl rfl)) g,by rw [M.n0];exact e,o.mod M (fun b d q=>A b q (.inr d)),j⟩
 lt:=by
  rintro E R H ⟨vt,rfl,g,e,o,j⟩ b d;rcases d with rfl|d
  ·exact AH.aS g
  ·exact o.lt d
end
end Go.Proofs.YtppcmpmnglaleaaGreatDoor.A
