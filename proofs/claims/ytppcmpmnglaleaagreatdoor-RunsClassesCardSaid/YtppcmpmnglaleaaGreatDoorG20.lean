/- Texts that stand one behind the other: Pm6, Pm7, Pm8, Pm9, Pm10, Pm11, Pm12. -/
import Derived.Test.YtppcmpmnglaleaaGreatDoorG19
set_option linter.unusedVariables false
set_option linter.unusedSimpArgs false
namespace Go.Proofs.YtppcmpmnglaleaaGreatDoor.A
namespace P
open Go Go.RowKit
variable{C:Cx} {W:Nat→Prop}
theorem Eh {k:Value}:∀{es:List (Value×PV)} {ys:List (Value×Value)} {r:Option PV},es.map (·.1)=ys.map (·.1)→dA C (es.map (·.2)) (ys.map (·.2))→sD k es=some r→(r=none∧ic k ys=some none)∨∃p v,r=some p∧ic k ys=some (some v)∧RV C p v
 |[],ys,r,h,_,e=>by
  cases ys with
  |nil=>cases e;exact .inl ⟨rfl,rfl⟩
  |cons=>simp at h
 |(n,p)::es,ys,r,h,g,e=>by
  cases ys with
  |nil=>simp at h
  |cons y ys=>
   obtain ⟨m,v⟩:=y;simp only [List.map_cons,List.cons.injEq]at h;obtain ⟨rfl,h⟩:=h;simp only [List.map_cons]at g
   cases g with|cons l j=>
   simp only [sD]at e;split at e
   ·rename_i d
    cases e;exact .inr ⟨p,v,rfl,by simp [ic,d],l⟩
   ·rename_i d
    rcases Eh h j e with⟨a,b⟩|⟨i,f,a,b,c⟩
    ·exact .inl ⟨a,by simp [ic,d,b]⟩
    ·exact .inr ⟨i,f,a,by simp [ic,d,b],c⟩
   ·cases e
theorem Kj {k:Value} {p:PV} {v:Value} (i:RV C p v):∀{es fs:List (Value×PV)} {ys:List (Value×Value)},es.map (·.1)=ys.map (·.1)→dA C (es.map (·.2)) (ys.map (·.2))→vR k p es=some fs→∃d,mQ k v ys=some d∧fs.map (·.1)=d.map (·.1)∧dA C (fs.map (·.2)) (d.map (·.2))
 |[],fs,ys,h,_,e=>by
  cases ys with
  |nil=>cases e;exact ⟨[(k,v)],rfl,rfl,.cons i .nil⟩
  |cons=>simp at h
 |(n,q)::es,fs,ys,h,g,e=>by
  cases ys with
  |nil=>simp at h
  |cons y ys=>
   obtain ⟨r,m⟩:=y;simp only [List.map_cons,List.cons.injEq]at h;obtain ⟨rfl,h⟩:=h;simp only [List.map_cons]at g
   cases g with|cons o l=>
   simp only [vR]at e;split at e
   ·rename_i f
    cases e;exact ⟨(k,v)::ys,by simp [mQ,f],by simp [h],.cons i l⟩
   ·rename_i f
    cases j:vR k p es with
    |none=>simp [j]at e
    |some s=>
     simp only [j,Option.map_some,avh]at e;subst e;obtain ⟨d,a,b,c⟩:=Kj i h l j;exact ⟨(n,m)::d,by simp [mQ,f,a],by simp [b],.cons o c⟩
   ·cases e
theorem Kk {b:Nat} {x:Value} {es:List (Value×PV)} (h:RV C (.mp b) x) (e:C.h[b]?=some (.map es)):x= .map (some (C.φ b)):=by
 cases h with|mp _ c a=>exact a ⟨es,e⟩
theorem Pm (S:eK C) {kk:Nat} {z:Value} {p q r:PV} {x y:Value} {ok:Bool} (h:RV C p x) (g:RV C q y) (k:Af kk z C.h p q ok=some r):∃w,jH kk z C.H x y ok=some w∧RV C r w:=by
 have i:∃w,(bif ok then Value.tuple #[z,.bool false]else z)=w∧RV C (bif ok then .hZ [yS z,.v (.bool false)]else yS z) w:=by
  refine ⟨_,rfl,?_⟩;cases ok
  ·exact Cp z
  ·exact .hZ (xs:=[z,.bool false]) (.cons (Cp z) (.cons (.v _) .nil))
 obtain ⟨l,m,n⟩:=i;unfold Af at k;split at k
 ·cases h;cases g
  split at k
  case isFalse=>cases k
  rename_i c;cases k;exact ⟨l,by simp [jH,c,←m],n⟩
 ·rename_i b B
  cases g;split at k
  case h_2=>cases k
  rename_i es o;split at k
  case isFalse=>cases k
  rename_i c;rw [Kk h o];obtain ⟨A,s,u,t,j,_⟩:=S.Ae _ _ o;have d:decide (C.H.n0≤C.φ b)=true:=by simp [j]
  cases f:sD y es with
  |none=>simp [f]at k
  |some q=>
   rcases Eh u t f with⟨rfl,e⟩|⟨p,v,rfl,e,a⟩
   ·simp only [f,avh]at k
    subst k;exact ⟨l,by simp [jH,s,c,j,e,←m],n⟩
   ·simp only [f,avh]at k
    subst k;refine ⟨(bif ok then Value.tuple #[v,.bool true]else v),by simp [jH,s,c,j,e],?_⟩;cases ok
    ·exact a
    ·exact .hZ (xs:=[v,.bool true]) (.cons a (.cons (.v _) .nil))
 ·cases k
theorem Vb (S:eK C) {kk:Nat} {p q r:PV} {x y z:Value} {i:PH} (h:RV C p x) (g:RV C q y) (f:RV C r z) (k:Gs kk C.h p q r=some i) (t:∀b,p= .mp b→W b):∃H',sN kk C.H x y z=some H'∧eK ⟨C.F,H',C.φ,i⟩∧dR C.h.length W C ⟨C.F,H',C.φ,i⟩:=by
 unfold Gs at k;split at k
 ·rename_i b D
  cases g;split at k
  case h_2=>cases k
  rename_i es d;split at k
  case isFalse=>cases k
  rename_i j;rw [Kk h d];obtain ⟨w,o,n,l,m,_⟩:=S.Ae _ _ d
  cases e:vR y r es with
  |none=>simp [e]at k
  |some E=>
   simp only [e,Option.map_some,avh]at k;subst k;obtain ⟨v,a,u,c⟩:=Kj f n l e;obtain ⟨A,B⟩:=S.akj (t _ rfl) d u c;refine ⟨_,?_,A,B⟩;obtain ⟨cs,s⟩:=avS.1 j.2;simp [sN,o,j.1,m,a,(jY f s).2]
 ·cases k
theorem Kl (S:eK C) (W:Nat→Prop) {z:Nat} {cs:List PV} {vs:List Value} (h:dA C cs vs):qI C W (some (.pointer (some ⟨C.H.nx,0,none⟩),C.H.alloc (.cells z vs))) (.ref C.h.length 0 cs.length) (C.h++[.cells z cs]):=by
 obtain ⟨A,B⟩:=S.new (P:=.cells z cs) (B:=.cells z vs) W (.inl ⟨_,_,_,rfl,rfl,h⟩);refine ⟨_,_,_,rfl,.ref rfl (by simp) ?_ (fun _=>by simp [iT]),A,B⟩;intro c b a;rw [show(C.h++[PB.cells z cs])[C.h.length]?=_ from mf _ _]at a;cases a;exact avk _
theorem Ei (S:eK C) (W:Nat→Prop) {sz len:Nat} {cs:List PV} {vs:List Value} (h:dA C cs vs) (b:cs.length=len*sz) (g:0<sz):qI C W (some (.slice (some ⟨C.H.nx,0,none⟩) len len,C.H.alloc (.cells sz vs))) (.sl sz C.h.length 0 len len) (C.h++[.cells sz cs]):=by
 obtain ⟨A,B⟩:=S.new (P:=.cells sz cs) (B:=.cells sz vs) W (.inl ⟨_,_,_,rfl,rfl,h⟩);refine ⟨_,_,_,rfl,.sl ⟨_,_,rfl⟩ (by simp) ?_ (fun _=>?_),A,B⟩
 ·intro f d a
  rw [show(C.h++[PB.cells sz cs])[C.h.length]?=_ from mf _ _]at a;cases a;simp [b]
 ·by_cases c:len=0
  ·subst c;exact .inl ⟨rfl,rfl,_,rfl,by rintro e ⟨⟩;rfl⟩
  ·exact .inr ⟨by omega,by simp [iT]⟩
theorem Km:∀{ps:List PV} {l xs:List Value},U5 ps=some l→dA C ps xs→xs=l
 |[],l,xs,h,g=>by cases g;cases h;rfl
 |p::ps,l,xs,h,g=>by
  cases g with|cons b a=>
  cases p with
  |v x=>
   cases b;simp only [U5]at h
   cases h2:U5 ps with
   |none=>simp [h2]at h
   |some m=>
    simp only [h2,Option.map_some,avh]at h;rw [←h,Km h2 a]
  |_=>simp [U5]at h
theorem Ej {cs ds:List PV} {xs ys:List Value} (h:dA C cs xs) (g:dA C ds ys):∀{offs:List (Nat×Nat)} {b:Bool},Gt cs ds offs=some b→eM xs ys offs=some b
 |[],b,e=>e
 |(o,kk)::l,b,e=>by
  simp only [Gt]at e;split at e
  case h_2=>cases e
  rename_i a m k h2;obtain ⟨x,i,rx⟩:=h.get k;obtain ⟨y,f,d⟩:=g.get h2;cases rx;cases d;split at e
  case isFalse=>cases e
  rename_i j;simp only [eM,i,f,j,cond_true];split at e
  ·rename_i c;rw [c];exact Ej h g e
  ·rename_i c;rw [c];exact e
  ·cases e
theorem RQ {f:Value→List Value→Option Value} {p r:PV} {x:Value} {ps:List PV} {xs:List Value} (h:RV C p x) (g:dA C ps xs) (k:pmx f p ps=some r):∃y,f x xs=some y∧RV C r y:=by
 unfold pmx at k;split at k
 ·rename_i c b e
  cases h;rw [Km e g]
  cases a:f x b with
  |none=>simp [a]at k
  |some y=>simp only [a,Option.map_some,avh]at k;subst k;exact ⟨y,rfl,.v _⟩
 ·cases k
def up (r:Option (Value×AH)):Option (j7×AH):=r.map fun q=>(.v q.1,q.2)
theorem Pn (o n:Nat) (c:Bool) (vs:List Value) (H:AH):HF (.HE o n c) vs H=(XE (.HE o n c) vs).map fun v=>(v,H):=by
 match vs with
 |[]=>rfl
 |[a]=>cases a<;>rfl
 |a::b::l=>cases a<;>rfl
theorem Po (len n:Nat) (d:Bool) (vs:List Value) (H:AH):HF (.L4 len n d) vs H=(XE (.L4 len n d) vs).map fun v=>(v,H):=by
 match vs with
 |[]=>rfl
 |[a]=>cases a<;>rfl
 |[a,b]=>
  cases a<;>first|rfl|skip
  cases b<;>first|rfl|skip
  simp only [HF,XE];split<;>rfl
 |a::b::c::l=>cases a<;>first|rfl|(cases b<;>rfl)
theorem Ek {C:Cx} {ps:List PV} {vs:List Value} {n:Nat} {c:Bool} {q:PV} (h:dA C ps vs) (e:Ag ps n c=some q):∃y,rV vs n c=some y∧RV C q y:=by
 unfold Ag at e;split at e
 case isFalse=>cases e
 rename_i f;have d:vs.length=n:=by rw [←h.length];exact f
 unfold rV;rw [nb,decide_eq_true d,cond_true]
 cases c with
 |true=>
  simp only [cond_true,avh]at e;subst e;exact ⟨_,rfl,.agg h⟩
 |false=>
  simp only [cond_false]at e⊢;split at e
  ·cases e
   cases h with|cons a b=>
   cases b;exact ⟨_,rfl,a⟩
  ·cases e
theorem eC {C:Cx} (S:eK C) {p:PV} {h':PH} {r:Option PV} {r':Option Value} {a:Option (j7×AH)} (f:a=r'.map fun v=>(.v v,C.H)) (k:(r.map fun v=>(v,C.h))=some (p,h')) (e:∀q,r=some q→∃y,r'=some y∧RV C q y):∃b,a=up b∧qI C W b p h':=by
 cases c:r with
 |none=>simp [c]at k
 |some q=>
  simp only [c,Option.map_some,avh,avo]at k;obtain ⟨rfl,rfl⟩:=k;obtain ⟨y,d,g⟩:=e q c;refine ⟨some (y,C.H),by rw [f,d];rfl,qI.val S g rfl⟩
theorem Vc {H:AH} {b:X→Value} {sz:Nat} {x i:X}:aB (.ia sz x i) b H=(Rh sz (b x) (b i)).map fun v=>(.v v,H):=by
 simp only [aB]
 cases b x with
 |slice a len c=>
  cases a with
  |none=>rfl
  |some a=>
   cases b i<;>first
    |rfl
    |(simp only [Rh];split<;>first|rfl|(cases a.spot.isNone<;>rfl))
 |_=>rfl
theorem Pp {H:AH} {b:X→Value} {len sz:Nat} {x i:X}:aB (.rW len sz x i) b H=(zB len sz (b x) (b i)).map fun v=>(.v v,H):=by
 simp only [aB]
 cases b x with
 |pointer a=>
  cases a with
  |none=>rfl
  |some a=>
   cases b i<;>first
    |rfl
    |(simp only [zB];split<;>first|rfl|(cases a.spot.isNone<;>rfl))
 |_=>rfl
theorem IL {H:AH} {a:X→Value} {x i:X}:aB (.ix x i) a H=(Hk (a x) (a i)).map fun v=>(.v v,H):=by
 simp only [aB]
 cases a x with
 |string s=>
  cases a i<;>first
   |rfl
   |(simp only [Hk];rename_i n;cases s[n.toNat]?<;>(split<;>rfl))
 |_=>rfl
theorem Kn {H:AH} {a:X→Value} {kk:Nat} {z:Value} {x c:X} {ok:Bool}:aB (.look kk z x c ok) a H=(jH kk z H (a x) (a c) ok).map fun v=>(.v v,H):=by
 simp only [aB,jH]
 cases a x with
 |map r=>
  cases r with
  |none=>dsimp only;cases cU kk (a c)<;>rfl
  |some r=>
   dsimp only
   cases H.get r with
   |none=>rfl
   |some b=>
    cases b with
    |cells=>rfl
    |map es=>
     dsimp only;cases cU kk (a c)&&decide (H.n0≤r)
     ·rfl
     ·cases ic (a c) es with
      |none=>rfl
      |some q=>cases q<;>rfl
 |_=>rfl
theorem Pq {H:AH} {c:X→Value} {neg:Bool} {offs:List (Nat×Nat)} {x y:X}:aB (.eqs neg offs x y) c H=(Of neg offs (c x) (c y)).map fun v=>(.v v,H):=by
 simp only [aB]
 cases c x<;>cases c y<;>first
  |rfl
  |(simp only [Of];rename_i a b;cases eM a.toList b.toList offs<;>rfl)
theorem Vd {C:Cx} (S:eK C) {o:cW} {G:X→PV} {u:X→Value} {p:PV} {h':PH} (h:∀x,RV C (G x) (u x)) (k:pop o G C.h=some (p,h')):∃b,aB o u C.H=up b∧qI C (· ∈xU o G) b p h':=by
 cases o with
 |mv x=>cases k;exact ⟨some (u x,C.H),rfl,qI.val S (h x) rfl⟩
 |pick c a b=>
  refine eC S (r':=zA (u c) (u a) (u b)) (by simp only [aB];cases u c<;>rfl) k fun q j=> ?_
  have I:=h c;revert j I;generalize G c=pc;intro j I
  cases pc<;>first
   |(cases j;done)
   |skip
  rename_i w
  cases w<;>first
   |(cases j;done)
   |skip
  rename_i t;cases j;rw [I.sy];refine ⟨_,rfl, ?_⟩;cases t
  · exact h b
  · exact h a
 |alloc z=>
  cases k;refine ⟨some (.pointer (some ⟨C.H.nx,0,none⟩),C.H.alloc (.cells z.length z)),rfl, ?_⟩;have:=Kl S (· ∈xU (.alloc z) G) (z:=z.length) (dA.lits z);rw [List.length_map]at this;exact this
 |box x=>
  simp only [pop,Pf]at k;split at k
  case h_2=>cases k
  rename_i cs I;cases k;obtain ⟨a,b⟩:=jY (h x) I;refine ⟨some (.pointer (some ⟨C.H.nx,0,none⟩),C.H.alloc (.cells (aZ (u x)).length (aZ (u x)))),by simp [aB,b,up], ?_⟩;rw [←a.length];exact Kl S _ a
 |build z ps=>
  cases R:qH (z.map .v) (ps.map fun p=>(p.1,p.2.1,G p.2.2))with
  |none=>simp [pop,R]at k
  |some d=>
   simp only [pop,R,Option.map_some,avh,avo]at k;obtain ⟨rfl,rfl⟩:=k;obtain ⟨Q,e,g⟩:=Ed (Pg.of h ps) (dA.lits z) R;exact ⟨some (.agg Q.toArray,C.H),by simp [aB,e,up],qI.val S (.agg g) rfl⟩
 |bsl len sz z ps=>
  simp only [pop,Pd]at k;split at k
  case h_2=>cases k
  rename_i d R;split at k
  case isFalse=>cases k
  rename_i I;cases k;obtain ⟨Q,e,g⟩:=Ed (Pg.of h ps) (dA.lits z) R;exact ⟨some (.slice (some ⟨C.H.nx,0,none⟩) len len,C.H.alloc (.cells sz Q)),by simp [aB,e,up],Ei S _ g I.1 I.2⟩
 |ld x=>exact eC S (r':=Xd C.H (u x)) (by
   simp only [aB]
   cases u x with
   |pointer a=>cases a<;>rfl
   |_=>rfl) k fun q j=>RP S (h x) j
 |ldn n x=>exact eC S (r':=vK n C.H (u x)) (by
   simp only [aB]
   cases u x with
   |pointer a=>
    cases a with
    |none=>rfl
    |some a=>simp only [vK];cases C.H.ldn a n<;>rfl
   |_=>rfl) k fun q j=>Cq S (h x) j
 |st n x v=>
  cases J:U4 n C.h (G x) (G v)with
  |none=>simp [pop,J]at k
  |some h2=>
   simp only [pop,J,Option.map_some,avh,avo]at k;obtain ⟨rfl,rfl⟩:=k;obtain ⟨N,e,A,B⟩:=aa4 (W:=(· ∈xU (.st n x v) G)) S (h x) (h v) J (fun b o t e=>by simp [xU,e]);refine ⟨some (undef,N), ?_,undef,N,C.φ,rfl, .v _,A,B⟩
   have:aB (.st n x v) u C.H=(Ja n C.H (u x) (u v)).map fun N=>(.v undef,N):=by
    simp only [aB]
    cases u x with
    |pointer a=>
     cases a with
     |none=>rfl
     |some a=>simp only [Ja];cases (Nat.beq (aZ (u v)).length n&& !df (u v))<;>simp
    |_=>rfl
   rw [this,e];rfl
 |bB x=>
  refine eC S (r':=we (u x)) (by
   simp only [aB]
   cases u x with
   |pointer a=>cases a<;>rfl
   |_=>rfl) k fun q j=> ?_
  obtain ⟨a,b⟩:=Pj (h x) j;exact ⟨_,a,b⟩
 |bin op x y=>
  refine eC S (r':=cl op (u x) (u y)) rfl k fun q j=> ?_
  have D:=h x;have K:=h y;unfold Kc at j;split at j
  · rename_i a b E M
    rw [E]at D;rw [M]at K;rw [D.sy,K.sy]
    cases F:cl op a b with
    |none=>simp [F]at j
    |some w=>simp only [F,Option.map_some,avh]at j;subst j;exact ⟨w,rfl, .v _⟩
  · cases j
 |eqk kk neg x y=>
  cases J:O8 C.h kk (G x) (G y)with
  |none=>simp [pop,J]at k
  |some b=>
   simp only [pop,J,Option.map_some,avh,avo]at k;obtain ⟨rfl,rfl⟩:=k;exact ⟨some (.bool (bif neg then !b else b),C.H),by simp only [aB];rw [Ph (h x) (h y) J];rfl,qI.val S (.v _) rfl⟩
 |un op x=>
  refine eC S (r':=HD op (u x)) rfl k fun q j=> ?_
  have D:=h x;unfold pun at j;split at j
  · rename_i a E
    rw [E]at D;rw [D.sy]
    cases F:HD op a with
    |none=>simp [F]at j
    |some w=>simp only [F,Option.map_some,avh]at j;subst j;exact ⟨w,rfl, .v _⟩
  · cases j
 |mJ kk x=>
  refine eC S (r':=Jd kk (u x)) (by simp only [aB];cases u x<;>rfl) k fun q j=> ?_
  have D:=h x;unfold O9 at j;split at j
  · rename_i V n E
    rw [E]at D;rw [D.sy];cases j;exact ⟨_,rfl, .v _⟩
  · cases j
 |HG x=>
  refine eC S (r':=Zl (u x)) (by simp only [aB];cases u x<;>rfl) k fun q j=> ?_
  have D:=h x;unfold Pa at j;split at j
  · rename_i V n E
    rw [E]at D;rw [D.sy];cases j;exact ⟨_,rfl, .v _⟩
  · cases j
 |mkf f first cap=>cases k;exact ⟨some (.func (.func f) (first.map u).toArray (cap.map u).toArray,C.H),rfl,qI.val S (.fn (dA.of h first) (dA.of h cap)) rfl⟩
 |mkmap=>
  cases k;obtain ⟨A,B⟩:=S.new (P:= .map []) (B:= .map []) (· ∈xU .mkmap G) (.inr ⟨[],[],rfl,rfl,rfl, .nil⟩);exact ⟨some (.map (some C.H.nx),C.H.alloc (.map [])),rfl,_,_,_,rfl, .mp rfl (by simp) (fun _=>by simp [iT]),A,B⟩
 |mksl sz bytes z x=>
  have D:=h x;simp only [pop]at k;unfold Kf at k;split at k
  · rename_i V n E
    rw [E]at D;split at k
    case isFalse=>cases k
    rename_i I;cases k;refine ⟨some (.slice (some ⟨C.H.nx,0,none⟩) n.toNat n.toNat,C.H.alloc (.cells sz (List.replicate n.toNat z).flatten)), ?_,Ei S _ ((dA.lits z).aa1 _) ?_ I.2.2.2.2⟩
    · have d3:decide ((bytes:Int)*n≤2^47)=true:=decide_eq_true I.2.2.1
      simp only [aB,D.sy,decide_eq_true I.1,decide_eq_true I.2.1,d3,Bool.and_self,cond_true];rfl
    · have Y:=I.2.2.2.1
      clear I D E
      induction n.toNat with
      |zero=>simp
      |succ m ih=>simp only [List.replicate_succ,List.flatten_cons,avp,List.length_map,ih,Nat.succ_mul];omega
  · cases k
 |sl sz x lo hi mx=>exact ⟨_,by simp only [aB,up,Option.map_map];rfl,aa9 S h (h x) k⟩
 |fa off x=>
  refine eC S (r':=Rg off (u x)) ?_ k fun q j=>aa6 (h x) j
  simp only [aB]
  cases u x with
  |pointer a=>
   cases a with
   |none=>rfl
   |some a=>simp only [Rg];cases a.spot.isNone<;>rfl
  |_=>rfl
 |ia sz x i=>exact eC S Vc k fun q j=>aa7 (h x) (h i) j
 |rW len sz x i=>exact eC S Pp k fun q j=>U8 (h x) (h i) j
 |ix x i=>
  refine eC S IL k fun q j=> ?_
  have D:=h x;have K:=h i;unfold pix at j;split at j
  · rename_i a b E M
    rw [E]at D;rw [M]at K;rw [D.sy,K.sy]
    cases F:Hk a b with
    |none=>simp [F]at j
    |some w=>simp only [F,Option.map_some,avh]at j;subst j;exact ⟨w,rfl, .v _⟩
  · cases j
 |look kk z x L ok=>exact eC S Kn k fun q j=>Pm S (h x) (h L) j
 |pq kk x L v=>
  cases J:Gs kk C.h (G x) (G L) (G v)with
  |none=>simp [pop,J]at k
  |some h2=>
   simp only [pop,J,Option.map_some,avh,avo]at k;obtain ⟨rfl,rfl⟩:=k;obtain ⟨N,e,A,B⟩:=Vb (W:=(· ∈xU (.pq kk x L v) G)) S (h x) (h L) (h v) J (fun b e=>by simp [xU,e]);refine ⟨some (undef,N), ?_,undef,N,C.φ,rfl, .v _,A,B⟩
   have:aB (.pq kk x L v) u C.H=(sN kk C.H (u x) (u L) (u v)).map fun N=>(.v undef,N):=by
    simp only [aB,sN]
    cases u x with
    |map r=>
     cases r with
     |none=>rfl
     |some r=>
      dsimp only
      cases C.H.get r with
      |none=>rfl
      |some b=>
       cases b with
       |cells=>rfl
       |map es=>
        dsimp only;cases (cU kk (u L)&&decide (C.H.n0≤r)&& !df (u v))
        · rfl
        · simp only [cond_true]
          cases mQ (u L) (u v) es<;>rfl
    |_=>rfl
   rw [this,e];rfl
 |ext x i=>
  refine eC S (r':=zC (u x) i) (by
   simp only [aB]
   cases u x with
   |tuple vs=>simp only [zC];cases vs.toList[i]?<;>rfl
   |_=>rfl) k fun q j=> ?_
  have D:=h x;unfold Pb at j;split at j
  · rename_i ps i' E
    rw [E]at D;revert D;generalize u x=y;intro D
    cases D with|hZ g=>
    obtain ⟨z,Y,gz⟩:=g.get j;exact ⟨z,by simpa [zC]using Y,gz⟩
  · cases j
 |xt Z l=>
  have O:=dA.of h l
  cases Z with
  |bad=>simp only [pop,U6]at k;cases k
  |pY=>simp only [pop,U6]at k;cases k
  |HE o n T=>
   refine eC S (r':=XE (.HE o n T) (l.map u)) (by simp only [aB,Pn,Option.map_map];rfl) k fun q j=> ?_
   unfold U6 at j;split at j
   case h_2=>cases ‹XK.HE o n T=XK.L4 _ _ _›
   case h_3=>cases j
   rename_i o' n' U cs E M;cases E;rw [M]at O;generalize l.map u=Q at O
   cases O with|cons a b=>
   cases b
   cases a with|agg g=>
   obtain ⟨v,e,r⟩:=Ek ((g.drop o).take n) j;exact ⟨v,e,r⟩
  |L4 len n T=>
   refine eC S (r':=XE (.L4 len n T) (l.map u)) (by simp only [aB,Po,Option.map_map];rfl) k fun q j=> ?_
   unfold U6 at j;split at j
   case h_1=>cases ‹XK.L4 len n T=XK.HE _ _ _›
   case h_3=>cases j
   rename_i asY n' U cs ki i E M;cases E;rw [M]at O;generalize l.map u=Q at O
   cases O with|cons a b=>
   cases b with|cons b c=>
   cases c;cases b
   cases a with|agg g=>
   split at j
   · rename_i hi
     obtain ⟨v,e,r⟩:=Ek ((g.drop (i.toNat*n)).take n) j;refine ⟨v, ?_,r⟩;simp only [XE,if_pos hi];exact e
   · cases j
 |call f «as»=>cases k
 |callv x «as»=>cases k
 |app sz bytes s x=>exact ⟨_,rfl,U9 S (h s) (h x) k (fun sz b o n c e=>by simp [xU,e])⟩
 |copy sz d s=>exact ⟨_,rfl,Pk S (h d) (h s) k (fun sz b o n c e=>by simp [xU,e])⟩
 |lens x=>
  refine eC S (r':=uj (u x)) (by simp only [aB];cases u x<;>rfl) k fun q j=> ?_
  have D:=h x;unfold Ke at j;split at j
  · rename_i a E
    rw [E]at D;rw [D.sy]
    cases F:uj a with
    |none=>simp [F]at j
    |some w=>simp only [F,Option.map_some,avh]at j;subst j;exact ⟨w,rfl, .v _⟩
  · cases j
 |fh x=>
  refine eC S (r':=uk (u x)) (by simp only [aB];cases u x<;>rfl) k fun q j=> ?_
  have D:=h x;unfold Eb at j;split at j
  · rename_i a E
    rw [E]at D;rw [D.sy]
    cases F:uk a with
    |none=>simp [F]at j
    |some w=>simp only [F,Option.map_some,avh]at j;subst j;exact ⟨w,rfl, .v _⟩
  · rename_i sz b o n c E
    rw [E]at D;cases j;revert D;generalize u x=y;intro D
    cases D with|sl hn _ _ _=>
    obtain ⟨_,_,rfl⟩:=hn;exact ⟨_,rfl, .v _⟩
  · rename_i sz rows E
    rw [E]at D;cases j;revert D;generalize u x=y;intro D
    cases D with|fs g=>
    cases g;exact ⟨_,rfl, .v _⟩
  · cases j
 |SE t x=>cases k;exact ⟨some (.iface t (u x),C.H),rfl,qI.val S (.rG (h x)) rfl⟩
 |mxl x l=>exact eC S (r':=L0 (u x) (l.map u)) rfl k fun q j=>RQ (h x) (dA.of h l) j
 |mnl x l=>exact eC S (r':=QG (u x) (l.map u)) rfl k fun q j=>RQ (h x) (dA.of h l) j
 |eqs neg offs x y=>
  refine eC S Pq k fun q j=> ?_
  have D:=h x;have K:=h y;unfold Pe at j;split at j
  · rename_i cs ds E M
    rw [E]at D;rw [M]at K;revert D K;generalize u x=a;generalize u y=b;intro D K
    cases D with|agg gx=>
    cases K with|agg gy=>
    cases F:Gt cs ds offs with
    |none=>simp [F]at j
    |some w=>
     simp only [F,Option.map_some,avh]at j;subst j;exact ⟨_,by simp only [Of,List.toList_toArray];rw [Ej gx gy F];rfl, .v _⟩
  · cases j
end P
namespace P
open Go Go.RowKit
structure PF where
 g:Nat→PV
def PF.get (f:PF) (n:Nat):PV:=f.g n
def PF.put (f:PF) (n:Nat) (p:PV):PF:=⟨fun m=>if m=n then p else f.g m⟩
def PF.aT (f:PF) (d:Option Nat) (p:PV):PF:=match d with|some n=>f.put n p|none=>f
def PF.of (l:List PV):PF:=⟨fun n=>l.getD n .any⟩
theorem PF.bZ (f:PF) (n m:Nat) (p:PV):(f.put n p).get m=if m=n then p else f.get m:=rfl
theorem PF.fN (l:List PV) (n:Nat):(PF.of l).get n=l.getD n .any:=rfl
def fX (f:PF):X→PV
 | .t n=>f.get n
 | .k v=>yS v
 | .f n=>.fn n [] []
def oJ (C:Cx) (fr:PF) (af:Fr):Prop:=∀t,RV C (fr.get t) (af.get t)
theorem oJ.ev {C:Cx} {a:PF} {b:Fr} (h:oJ C a b):∀x,RV C (fX a x) (X.ev b x)
 | .t n=>h n
 | .k v=>Cp v
 | .f n=>.fn (xs:=[]) (ys:=[]) .nil .nil
theorem oJ.put {C:Cx} {a:PF} {b:Fr} (h:oJ C a b) {p:PV} {x:Value} (k:RV C p x) (n:Nat):oJ C (a.put n p) (b.put n x):=by
 intro t;rw [PF.bZ,Fr.bZ];split
 ·exact k
 ·exact h t
theorem oJ.aT {C:Cx} {a:PF} {b:Fr} (h:oJ C a b) {p:PV} {x:Value} (k:RV C p x) (d:Option Nat):oJ C (a.aT d p) (b.aT d x):=by
 cases d with
 |none=>exact h
 |some n=>exact h.put k n
theorem oJ.step {W:Nat→Prop} {C D:Cx} {a:PF} {af:Fr} (h:oJ C a af) (T:dR C.h.length W C D):oJ D a af:=fun t=>(h t).step T
theorem oJ.of {C:Cx} {ps:List PV} {xs:List Value} (h:dA C ps xs):oJ C (PF.of ps) (Fr.of xs):=by
 intro t;rw [PF.fN,Fr.fN];rw [List.getD_eq_getElem?_getD,List.getD_eq_getElem?_getD]
 cases e:ps[t]? with
 |none=>exact .any _
 |some p=>
  obtain ⟨x,a,r⟩:=h.get e;rw [a];exact r
def Ve:PV→Bool
 | .v x=>O6 x
 | .ref _ _ _| .sl _ _ _ _ _| .mp _| .fs _ _| .fp _=>true
 |_=>false
def Kq (o:AO) (fr:PF):Bool:=match o.g with
 |none=>true
 |some (t,b)=>match fr.get t with| .v x=>fv b x|_=>true
def Gv (n:Nat) (p:PV) (h:PH) (W:List Nat):Bool:=match p with
 | .ref b o t=>match h[b]? with
   |some (.cells _ cs)=>decide (cs.length=t)&&decide (o+n≤t)&&decide (0<t)&& !W.contains b&&((cs.drop o).take n).all Ve
   |_=>false
 | .fp cells=>decide (n≤cells.length)&&(cells.take n).all Ve
 |_=>false
def Vf (o:cW) (fr:PF) (h:PH) (W:List Nat):Bool:=match o with
 | .ld x=>Gv 1 (fX fr x) h W
 | .ldn n x=>Gv n (fX fr x) h W
 |_=>false
def Pr (b:Nat) (h:PH) (W:List Nat):Bool:=!W.contains b&&(match h[b]? with
 |some (.cells _ (c::cs))=>Ve c&&cs.all Ve
 |some (.map [])=>true
 |_=>false)
def Aj (o:cW) (fr:PF) (h:PH):Option (Option Nat):=match o with
 | .st _ x _| .ld x| .ldn _ x=>match fX fr x with
   | .ref b _ t=>if dk h b=some t∧0<t then some (some b)else none
   | .fp _=>some none
   |_=>none
 | .look _ _ x _ _=>match fX fr x with
   | .mp b=>match h[b]? with|some (.map _)=>some (some b)|_=>none
   |_=>none
 | .sl _ x _ _ _=>match fX fr x with
   | .sl sz b o n c=>if fG h (.sl sz b o n c)=true∧0<c∧0<sz then some (some b)else none
   |_=>none
 |_=>none
def xW:Option (Option Nat)→Option (Option Nat)→Bool
 |some (some b),some (some c)=>!Nat.beq b c
 |some none,some (some _)=>true
 |_,_=>false
def pck (k p q:Nat):Option AO→Option (PF×PH×List Nat)→Option (PF×PH×List Nat)→Option AO→Option (PF×PH×List Nat)→Option (PF×PH×List Nat)→Bool
 |some op,some (fp,hp,_),some (_,hp',_),some oq,some (fq,hq,_),some (_,_,W)=>
  decide (p<q)&&(!Kq op fp|| !Kq oq fq||(match k with
   |0=>Vf op.o fp hp W
   |1=>!op.o.bj&&Pr hp.length hp' W
   |_=>xW (Aj op.o fp hp) (Aj oq.o fq hq)))
 |_,_,_,_,_,_=>false
def okP (l:List AO) (ck:List (Nat×Nat×Nat)) (acc:List (PF×PH×List Nat)):Bool:=
 ck.all fun c=>pck c.1 c.2.1 c.2.2 (nth l c.2.1) (nth acc.reverse c.2.1) (nth acc.reverse (c.2.1+1)) (nth l c.2.2) (nth acc.reverse c.2.2) (nth acc.reverse (c.2.2+1))
inductive pO (l0:List AO):List (PF×PH×List Nat)→List (Fr×AH)→Cx→List Nat→Prop
 |one {C:Cx} {fr:PF} {af:Fr}:eK C→oJ C fr af→pO l0 [(fr,C.h,[])] [(af,C.H)] C []
 |cons {C D:Cx} {acc:List (PF×PH×List Nat)} {fH:List (Fr×AH)} {fr:PF} {af:Fr} {V W:List Nat}:pO l0 acc fH C W→dR 0 (· ∈V) C D→eK D→oJ D fr af→(∀o,nth l0 (acc.length- 1)=some o→o.o.bj=false→D.H.nx≤C.H.nx+1)→pO l0 ((fr,D.h,V++W)::acc) ((af,D.H)::fH) D (V++W)
theorem pO.length {d:List AO} {W:List Nat} {acc:List (PF×PH×List Nat)} {c:List (Fr×AH)} {C:Cx} (h:pO d acc c C W):acc.length=c.length∧0<acc.length:=by
 induction h with
 |one a b=>exact ⟨rfl,Nat.one_pos⟩
 |cons _ T S R e ih=>simp [ih.1]
theorem uR {α:Type} (l:List α) (x:α) (i:Nat):nth (l++[x]) i=if i<l.length then nth l i else if i=l.length then some x else none:=by
 rw [wg,wg];split
 ·rw [avt (by assumption)]
 ·rw [avx (by omega)]
  split
  ·rename_i h;subst h;simp
  ·rw [avV (by simp;omega)]
theorem pO.fam {l:List AO} {W:List Nat} {acc:List (PF×PH×List Nat)} {k:List (Fr×AH)} {D:Cx} (h:pO l acc k D W):∃(cs:Nat→Cx) («as»:Nat→Fr),
 (∀i s,nth acc.reverse i=some s→(cs i).h=s.2.1∧nth k.reverse i=some («as» i,(cs i).H)∧eK (cs i)∧oJ (cs i) s.1 («as» i))∧
 (∀i j s,i≤j→nth acc.reverse j=some s→dR 0 (· ∈s.2.2) (cs i) (cs j))∧
 (∀i o,i+1<acc.length→nth l i=some o→o.o.bj=false→(cs (i+1)).H.nx≤(cs i).H.nx+1)∧cs (acc.length- 1)=D∧∀i,i<acc.length→dR 0 (· ∈W) (cs i) D:=by
 induction h with
 | @one C y g a b=>
  refine ⟨fun _=>C,fun _=>g,fun i s e=>?_,fun _ _ _ _ _=>dR.refl _ _ _,fun i o hi=>by simp at hi,rfl,fun _ _=>dR.refl _ _ _⟩
  cases i with
  |zero=>simp only [List.reverse_singleton,Zq,avh]at e;subst e;exact ⟨rfl,rfl,a,b⟩
  |succ i=>simp [nth]at e
 | @cons C D acc k y g V W H0 T S R r ih=>
  obtain ⟨cs,«as»,x,h2,w,v,u⟩:=ih;have t:=H0.length;have n:∀i,i<acc.length→dR 0 (· ∈V++W) (cs i) D:=fun i hi=>(u i hi).trans T (avI _) (fun _ q=>List.mem_append_right _ q) (fun _ q=>List.mem_append_left _ q)
  refine ⟨fun i=>if i<acc.length then cs i else D,fun i=>if i<acc.length then «as» i else g,fun i s e=>?_,fun i j s f e=>?_,fun i o hi m p=>?_,by simp,fun i hi=>?_⟩
  ·rw [List.reverse_cons,uR,List.length_reverse]at e
   rw [List.reverse_cons,uR,List.length_reverse,←t.1];split at e
   ·rename_i hi
    simp only [if_pos hi];exact x i s e
   ·rename_i hi
    split at e
    case isFalse=>cases e
    rename_i c;cases e;simp only [if_neg hi,if_pos c];exact ⟨trivial,trivial,S,R⟩
  ·rw [List.reverse_cons,uR,List.length_reverse]at e
   split at e
   ·rename_i d
    simp only [if_pos d,if_pos (show i<acc.length by omega)];exact h2 i j s f e
   ·rename_i d
    split at e
    case isFalse=>cases e
    cases e;simp only [if_neg d];by_cases hi:i<acc.length
    ·simp only [if_pos hi];exact n i hi
    ·simp only [if_neg hi];exact dR.refl _ _ _
  ·simp only [List.length_cons]at hi
   by_cases c:i+1<acc.length
   ·simp only [if_pos c,if_pos (show i<acc.length by omega)]
    exact w i o c m p
   ·simp only [if_neg c,if_pos (show i<acc.length by omega)]
    have e:i=acc.length- 1:=by omega
    have:=r o (by rw [←e];exact m) p;rw [e,v];exact this
  ·by_cases c:i<acc.length
   ·simp only [if_pos c];exact n i c
   ·simp only [if_neg c];exact dR.refl _ _ _
theorem Vh {α:Type} {l:List α} {i:Nat} {x:α} (h:nth l i=some x):i<l.length:=by
 rw [wg]at h;exact (avm.1 h).1
theorem Kr {x:Value} (h:O6 x=true):dK x x=true:=by
 cases x<;>first
  |(simp [O6]at h;done)
  |simp [dK]
theorem Vi {C:Cx} {p:PV} {x:Value} (h:RV C p x) (k:Ve p=true):dK x x=true:=by
 apply Kr
 cases p with
 |v y=>cases h;exact k
 |ref=>cases h;assumption
 |sl=>cases h with|sl a _ _ _=>exact a.sm
 |mp=>cases h;assumption
 |fs=>cases h with|fs q=>cases q;rfl
 |fp=>cases h;rfl
 |_=>cases k
theorem xX {C:Cx}:∀{ps:List PV} {xs:List Value},dA C ps xs→ps.all Ve=true→fI xs xs=true
 |_,_,.nil,_=>rfl
 |_,_,.cons a b,h=>by
  simp only [List.all_cons,avj]at h;simp only [fI,avj];exact ⟨Vi a h.1,xX b h.2⟩
theorem Ks {C:Cx} {a:PF} {c:Fr} (h:oJ C a c) {o:AO} (k:o.wanted c=true):Kq o a=true:=by
 obtain ⟨g,d,p⟩:=o
 cases g with
 |none=>rfl
 |some q=>
  obtain ⟨t,b⟩:=q;simp only [Kq];have:=h t;split
  ·rename_i x e
   rw [e]at this;rw [nT,this.sy]at k;exact k
  ·rfl
theorem Kt {C:Cx} (S:eK C) {W:List Nat} {b:Nat} (hs:aY C.h b) (d:b∉W):¬ im C (· ∈W) (C.φ b):=by
 rintro ⟨f,c,a,e⟩;exact d (S.inj _ _ a hs e▸c)
theorem Ku {C D:Cx} {W:List Nat} (S:eK C) (T:dR 0 (· ∈W) C D) {n:Nat} {p:PV} {x:Value} (h:RV C p x) (k:Gv n p C.h W=true):
 ∃a l,x= .pointer (some a)∧C.H.ldn a n=some l∧sameAt D.H (a,l)=true:=by
 cases p with
 |ref b o t=>
  simp only [Gv]at k;split at k
  case h_2=>cases k
  rename_i z cs r;simp only [avj,avs,Bool.not_eq_true',List.contains_eq_mem,decide_eq_false_iff_not]at k;obtain ⟨⟨⟨⟨s,U⟩,R⟩,F⟩,E⟩:=k;obtain ⟨c,I,f,M⟩:=S.cells (t:=t) r (by omega);have V:=f.length;have G:=uO h (t:=t) (by unfold dk;rw [r];simp [s]);have d:C.H.ldn ⟨C.φ b,o,none⟩ n=some ((c.drop o).take n):=b9 I M (by omega);have u:=cz r (by intro e;subst e;simp at s;omega);have L:=T.out _ (S.lt u) (Kt S u F);refine ⟨_,_,G,d,?_⟩;rw [zD,fP L T.n0,show((c.drop o).take n).length=n by simp;omega,d];exact xX ((f.drop o).take n) E
 |fp cells=>
  simp only [Gv,avj,avs]at k;have N:=h
  cases h with| @fp _ b o c J d K=>
  have A:C.H.ldn ⟨b,o,none⟩ n=some (c.take n):=by
   have:=Cq S N (n:=n) (q:=.agg (cells.take n)) (by simp [xS,k.1]);obtain ⟨y,m,X⟩:=this;simp only [TV]at m
   cases i:C.H.ldn ⟨b,o,none⟩ n with
   |none=>rw [i]at m;cases m
   |some l=>
    have O:l=c.take n:=by
     have P:∀(j:Nat) (v:Value),l[j]?=some v→(c.take n)[j]?=some v:=by
      intro j v g;have Y:=(dM i).2;have Z:=(avm.1 g).1;have Q:=aQ i g;have f:j<c.length:=by have:=(dM d).2;omega
      have B:=aQ d (j:=j) (avg f);rw [Q]at B;rw [avP,if_pos (by omega),avg f];exact B.symm
     have w:l.length=(c.take n).length:=by
      have:=(dM i).2;have:=(dM d).2;simp;omega
     apply List.ext_getElem?;intro j;by_cases g:j<l.length
     ·rw [P j _ (avg g),avg g]
     ·rw [avV (by omega),avV (by omega)]
    rw [O]
  refine ⟨⟨b,o,none⟩,c.take n,rfl,A,?_⟩;rw [zD,fP (T.fz _ J).2 T.n0,show(c.take n).length=n by have:=(dM d).2;simp;omega,A];exact xX (K.take n).sy k.2
 |_=>cases k
theorem Vj {C D:Cx} {W:List Nat} (S:eK C) (T:dR 0 (· ∈W) C D) {o:AO} {f:PF} {i:Fr} (h:oJ C f i) (k:Vf o.o f C.h W=true):∃x,fB o i C.H=some x∧sameAt D.H x=true:=by
 obtain ⟨g,d,p⟩:=o
 cases p<;>first
  |(cases k;done)
  |skip
 ·obtain ⟨a,l,e,c,b⟩:=Ku S T (h.ev _) k
  exact ⟨(a,l),by simp only [fB,e,c];rfl,b⟩
 ·obtain ⟨a,l,e,c,b⟩:=Ku S T (h.ev _) k
  exact ⟨(a,l),by simp only [fB,e,c];rfl,b⟩
theorem Kv {z:Nat} {vs:List Value} (h:fI vs vs=true):oP (some (.cells z vs)) (some (.cells z vs))=true:=by simp [oP,h,nb]
theorem Kw {C X D:Cx} {V W:List Nat} (S:eK C) (g:eK X) (T:dR 0 (· ∈V) C X) (p:dR 0 (· ∈W) X D) (s:X.H.nx≤C.H.nx+1) (k:Pr C.h.length X.h W=true):oP (X.H.get C.H.nx) (D.H.get C.H.nx)=true:=by
 simp only [Pr,avj,Bool.not_eq_true',List.contains_eq_mem,decide_eq_false_iff_not]at k;obtain ⟨m,i⟩:=k
 have key:∀(d:aY X.h C.h.length),X.φ C.h.length=C.H.nx∧D.H.get C.H.nx=X.H.get C.H.nx:=by
  intro d
  have e:X.φ C.h.length=C.H.nx:=by
   rcases T.loc _ d with q|⟨q,_⟩
   ·have:=g.lt d;omega
   ·exact absurd (aW q) (Nat.lt_irrefl _)
  refine ⟨e,?_⟩;have:=p.out _ (g.lt d) (Kt g d m);rwa [e]at this
 split at i
 ·rename_i z c cs f
  obtain ⟨a,b⟩:=key (cz f (by simp));obtain ⟨r,j,n,_⟩:=g.cells (t:=0) f (by simp);rw [b,←a,j];exact Kv (xX n (by simpa using i))
 ·rename_i f
  obtain ⟨a,b⟩:=key (fx f);obtain ⟨l,j,o,_⟩:=g.Ae _ _ f;rw [b,←a,j]
  cases l with
  |nil=>rfl
  |cons=>simp at o
 ·cases i
theorem ti {C:Cx} (S:eK C) {o:AO} {m:PF} {l:Fr} (h:oJ C m l) {r:Option Nat} (k:Aj o.o m C.h=some r):∃a,dz o l=some a∧((∃b,r=some b∧aY C.h b∧a=C.φ b)∨(r=none∧C.F a)):=by
 have go:∀x:X,(match fX m x with| .ref b _ t=>if dk C.h b=some t∧0<t then some (some b)else none| .fp _=>some none|_=>none)=some r→
  ∃a,(match x.ev l with| .pointer (some a)=>some a.block|_=>none)=some a∧((∃b,r=some b∧aY C.h b∧a=C.φ b)∨(r=none∧C.F a)):=by
  intro x k;have f:=h.ev x;split at k
  ·rename_i b o t e
   rw [e]at f;split at k
   case isFalse=>cases k
   rename_i j;cases k;rw [uO f j.1];refine ⟨_,rfl,.inl ⟨b,rfl,?_,rfl⟩⟩;have:=j.1;unfold dk at this;split at this
   ·rename_i z cs i
    cases this;exact cz i (List.length_pos_iff.1 j.2)
   ·cases this
  ·rename_i c e
   rw [e]at f;cases k;revert f;generalize x.ev l=y;intro f;cases f with|fp u _ _=>exact ⟨_,rfl,.inr ⟨rfl,u⟩⟩
  ·cases k
 obtain ⟨g,d,p⟩:=o
 cases p<;>first
  |(cases k;done)
  |exact go _ k
  |skip
 ·rename_i sz x lo hi mx
  simp only [Aj]at k;have f:=h.ev x;split at k
  case h_2=>cases k
  rename_i v b o n c e;rw [e]at f;split at k
  case isFalse=>cases k
  rename_i s;cases k;obtain ⟨z,cs,i,j⟩:=Ah s.1;rcases uP f i j.symm with⟨q,_⟩|⟨_,q⟩
  ·omega
  ·refine ⟨C.φ b,by simp only [dz,q];rfl,.inl ⟨b,rfl,cz i ?_,rfl⟩⟩
   intro e;subst e;have:=Nat.mul_pos (show 0<o+c by omega) s.2.2;simp at j;omega
 ·rename_i kk z x w ok
  simp only [Aj]at k;have f:=h.ev x;split at k
  case h_2=>cases k
  rename_i b e;rw [e]at f;split at k
  case h_2=>cases k
  rename_i es i;cases k;exact ⟨C.φ b,by simp only [dz,Kk f i],.inl ⟨b,rfl,fx i,rfl⟩⟩
theorem Kx {C D:Cx} {W:Nat→Prop} (S:eK C) (p:eK D) (T:dR 0 W C D) {o q:AO} {s r:PF} {u t:Fr} (h:oJ C s u) (g:oJ D r t) (k:xW (Aj o.o s C.h) (Aj q.o r D.h)=true):
 (match dz o u,dz q t with|some b,some b'=>!Nat.beq b b'|_,_=>true)=true:=by
 unfold xW at k;split at k
 ·rename_i b c n m
  obtain ⟨x,l,j⟩:=ti S h n;obtain ⟨y,i,f⟩:=ti p g m;rcases j with⟨A,e,d,rfl⟩|⟨e,_⟩<;>cases e;rcases f with⟨z,e,a,rfl⟩|⟨e,_⟩<;>cases e;rw [l,i];simp only [nb,Bool.not_eq_true',decide_eq_false_iff_not]at k⊢;intro e;rcases T.loc _ a with q|⟨q,w⟩
  ·have:=S.lt d;omega
  ·exact k (S.inj _ _ d q (e.trans w))
 ·rename_i c n m
  obtain ⟨x,l,j⟩:=ti S h n;obtain ⟨y,i,f⟩:=ti p g m;rcases j with⟨A,e,d,rfl⟩|⟨e,v⟩<;>cases e;rcases f with⟨z,e,a,rfl⟩|⟨e,_⟩<;>cases e;rw [l,i];simp only [nb,Bool.not_eq_true',decide_eq_false_iff_not];intro e;exact (p.old a).2 (e▸(T.fz _ v).1)
 ·cases k
theorem Vl {f:List AO} {W:List Nat} {acc:List (PF×PH×List Nat)} {w:List (Fr×AH)} {D:Cx} (h:pO f acc w D W) {k p q:Nat}
 (e:pck k p q (nth f p) (nth acc.reverse p) (nth acc.reverse (p+1)) (nth f q) (nth acc.reverse q) (nth acc.reverse (q+1))=true):lr f w.reverse (k,p,q)=true:=by
 unfold pck at e;split at e
 case h_2=>cases e
 rename_i op Y V Wp L I O F X T Z K H W' v N u M t g;simp only [avj,avs]at e;obtain ⟨U,e⟩:=e;obtain ⟨cs,«as»,a,h2,J,_⟩:=h.fam;obtain ⟨d,E,m,l⟩:=a _ _ N;obtain ⟨n,A,z,S⟩:=a _ _ u;obtain ⟨s,C,B,r⟩:=a _ _ t;obtain ⟨R,y,Q,P⟩:=a _ _ g;have G:=Vh g;rw [List.length_reverse]at G;simp only [lr,v,E,A,M,C,y];by_cases j:op.wanted («as» p)=true
 case neg=>simp [j]
 by_cases i:F.wanted («as» q)=true
 case neg=>simp [i]
 have c:=Ks l j;have b:=Ks r i;simp only at c b d s n;rw [c,b]at e;simp only [Bool.not_true,Bool.false_or]at e;rw [j,i];simp only [Bool.not_true,Bool.false_or]
 match k with
 |0=>
  simp only at e⊢;rw [←d]at e;obtain ⟨x,a,h2⟩:=Vj (o:=op) m (h2 p (q+1) _ (by omega) g) l e;rw [a];exact h2
 |1=>
  simp only [avj,Bool.not_eq_true']at e⊢;rw [←d,←n]at e;exact Kw m z (h2 p (p+1) _ (by omega) u) (h2 (p+1) (q+1) _ (by omega) g) (J p op (by omega) v e.1) e.2
 |k+2=>
  simp only at e⊢;rw [←d,←s]at e;exact Kx m B (h2 p q _ (by omega) t) l r e
theorem pO.chn {e:List AO} {W:List Nat} {acc:List (PF×PH×List Nat)} {d:List (Fr×AH)} {D:Cx} (h:pO e acc d D W):chain d.reverse=true:=by
 have snoc:∀(l:List (Fr×AH)) (a b:Fr×AH),chain (l++[a])=true→a.2.n0=b.2.n0→a.2.nx≤b.2.nx→chain (l++[a]++[b])=true:=by
  intro l
  induction l with
  |nil=>intro a b _ c h2;simp [A.chain,c,h2]
  |cons x l ih=>
   intro a b h c h2
   cases l with
   |nil=>simp only [List.cons_append,List.nil_append,A.chain,Bool.and_true,avj]at h⊢;refine ⟨h,?_⟩;simp [c,h2]
   |cons y l=>
    simp only [List.cons_append,A.chain,avj]at h⊢;exact ⟨h.1,by simpa using ih a b h.2 c h2⟩
 induction h with
 |one=>rfl
 | @cons C D acc d g i V W H0 T S R f ih=>
  cases H0 with
  |one=>simp [A.chain,T.n0,T.nx]
  |cons=>
   simp only [List.reverse_cons]at ih⊢;exact snoc _ _ _ ih T.n0.symm T.nx
theorem Ky {a:List AO} {W:List Nat} {acc:List (PF×PH×List Nat)} {b:List (Fr×AH)} {D:Cx} (h:pO a acc b D W) {ck:List (Nat×Nat×Nat)} (e:okP a ck acc=true):vF a ck b=true:=by
 unfold vF;rw [avj];refine ⟨h.chn,?_⟩;unfold okP at e;rw [avw]at e⊢;rintro ⟨k,p,q⟩ c;exact Vl h (e _ c)
open Go Go.RowKit
theorem rH {H H':AH} {a:Addr} {vs:List Value} (h:H.st a vs=some H'):H'.nx=H.nx:=by
 unfold AH.st at h;split at h
 ·obtain ⟨_,h⟩:=aE h
  cases h;rfl
 ·cases h
theorem Vm {o:cW} {m:X→Value} {H:AH} {b:Option (Value×AH)} {x:Value} {H':AH} (e:aB o m H=up b) (n:b=some (x,H')):H'.nx≤H.nx+1:=by
 subst n;simp only [up,Option.map_some]at e
 have app:∀{sz bytes:Nat} {s y z:Value} {H':AH},bL sz bytes H s y=some (z,H')→H'.nx≤H.nx+1:=by
  intro sz bytes s y z H' h;unfold bL at h;split at h
  case h_2=>cases h
  split at h
  ·obtain ⟨_,h⟩:=aE h;cases h;omega
  ·split at h
   ·cases h
   ·obtain ⟨_,h⟩:=aE h
    split at h
    ·split at h
     ·obtain ⟨_,h⟩:=aE h
      rename_i a _ _;obtain ⟨l,h2,f⟩:=avq.1 h;cases f;have:=rH h2;omega
     ·cases h
    ·split at h
     ·obtain ⟨_,h⟩:=aE h;cases h;exact avk _
     ·split at h
      ·obtain ⟨_,h⟩:=aE h
       obtain ⟨l,h2,f⟩:=avq.1 h;cases f;exact avk _
      ·cases h
 have g:∀{sz:Nat} {s y z:Value} {H':AH},lq sz H s y=some (z,H')→H'.nx≤H.nx+1:=by
  intro sz s y z H' h;unfold lq at h;split at h
  case h_2=>cases h
  obtain ⟨c,d,h⟩:=avr.1 h;split at h
  ·simp only [Bool.cond_eq_ite]at h
   split at h
   ·cases h;exact avH _
   ·obtain ⟨l,h2,f⟩:=avq.1 h
    cases f;have:=rH h2;omega
  ·cases h;exact avH _
 have i:∀{k:XK} {j:List Value} {z:Value} {H':AH},HF k j H=some (z,H')→H'.nx≤H.nx+1:=by
  intro k j z H' h;unfold HF at h;split at h
  ·obtain ⟨_,_,e⟩:=avq.1 h;cases e;exact avH _
  ·split at h
   ·obtain ⟨_,_,e⟩:=avq.1 h;cases e;exact avH _
   ·cases h
  ·cases h;exact avk _
  ·cases h
 cases o<;>simp only [aB]at e
 all_goals first
  |(simp only [avh,avo,j7.v.injEq,reduceCtorEq,false_and]at e;done)
  |skip
 all_goals first
  |(simp only [avh,avo]at e;obtain ⟨_,rfl⟩:=e;first|exact avH _|exact avk _)
  |(obtain ⟨r,d,h2⟩:=avq.1 e;simp only [avo]at h2;obtain ⟨_,rfl⟩:=h2;first|exact avH _|exact avk _)
  |skip
 all_goals first
  |(obtain ⟨r,d,h2⟩:=avq.1 e;simp only [avo]at h2;obtain ⟨_,rfl⟩:=h2;exact i d)
  |skip
 all_goals try simp only [Bool.cond_eq_ite]at e
 all_goals try(repeat' split at e)
 all_goals first
  |(cases e;done)
  |(simp only [avh,avo]at e;obtain ⟨_,rfl⟩:=e;first|exact avH _|exact avk _)
  |(obtain ⟨r,d,h2⟩:=avq.1 e;simp only [avo]at h2;obtain ⟨_,rfl⟩:=h2;first|exact avH _|(have:=rH d;omega)|exact app d|exact g d|exact i d)
  |skip
inductive Kp where
 |seq (c:AC)
 |aX (i:Nat)
 |lp (I:Nat→PF→PH→Prop) (k:Nat)
inductive Mp where
 |pl
 |d0
 |dr (l0:List AO) (ck:List (Nat×Nat×Nat)) (acc:List (PF×PH×List Nat)) (W:List Nat)
def Mp.up:Mp→List Nat→PF→PH→Mp
 | .pl,_,_,_=>.pl
 | .d0,_,_,_=>.d0
 | .dr l0 ck acc W,V,fr,h=>.dr l0 ck ((fr,h,V++W)::acc) (V++W)
inductive Cf where
 |code (c:AC) (ks:List Kp)
 |ops (m:Mp) (l:List AO) (ks:List Kp)
 |done (ex:Ex) (ks:List Kp)
def Gw (E:Env) (O:kG) (f:Nat) (args:List PV) (h:PH) (W:Nat→Prop) (R:PV→PH→Prop):Prop:=
 ∀F H φ vs,eK ⟨F,H,φ,h⟩→dA ⟨F,H,φ,h⟩ args vs→Ca E O f vs H (fun x H'=>∃r h' F' ei,R r h'∧RV ⟨F',H',ei,h'⟩ r x∧eK ⟨F',H',ei,h'⟩∧dR h.length W ⟨F,H,φ,h⟩ ⟨F',H',ei,h'⟩)
abbrev qZ:Nat→Prop:=fun _=>True
abbrev fM (E:Env) (O:kG) (f:Nat) (args:List PV) (h:PH) (R:PV→PH→Prop):Prop:=Gw E O f args h qZ R
def Gh (n:Nat) (fr:PF) (h:PH) (gv:PF) (h2:PH):Prop:=
 ∀F H φ af,eK ⟨F,H,φ,h⟩→oJ ⟨F,H,φ,h⟩ fr af→∃F' ei,eK ⟨F',H,ei,h2⟩∧oJ ⟨F',H,ei,h2⟩ gv af∧∀C0:Cx,C0.h.length=n→dR n qZ C0 ⟨F,H,φ,h⟩→dR n qZ C0 ⟨F',H,ei,h2⟩
theorem Gh.refl (n:Nat) (a:PF) (h:PH):Gh n a h a h:=fun F H b c S R=>⟨F,b,S,R,fun _ _ k=>k⟩
variable(E:Env) (O:kG) (n:Nat) (Q:Ex→PF→PH→Prop)
inductive PK:Cf→PF→PH→Prop where
 |skip {ks:List Kp} {fr:PF} {h:PH}:PK (.done .normal ks) fr h→PK (.code .skip ks) fr h
 |ret {ks:List Kp} {fr:PF} {h:PH}:PK (.done .ret ks) fr h→PK (.code .ret ks) fr h
 |exit {i:Nat} {ks:List Kp} {fr:PF} {h:PH}:PK (.done (.exit i) ks) fr h→PK (.code (.exit i) ks) fr h
 |bC {l:List AO} {ks:List Kp} {fr:PF} {h:PH}:PK (.ops .pl l ks) fr h→PK (.code (.bC l) ks) fr h
 |bz {l:List AO} {c:Nat×Nat×Nat} {ck:List (Nat×Nat×Nat)} {ks:List Kp} {fr:PF} {h:PH}:PK (.ops (.dr l (c::ck) [(fr,h,[])] []) l ks) fr h→PK (.code (.bz l (c::ck)) ks) fr h
 |El {l:List AO} {ks:List Kp} {fr:PF} {h:PH}:PK (.ops .d0 l ks) fr h→PK (.code (.bz l []) ks) fr h
 |seq {a b:AC} {ks:List Kp} {fr:PF} {h:PH}:PK (.code a (.seq b::ks)) fr h→PK (.code (.seq a b) ks) fr h
 |block {i:Nat} {a:AC} {ks:List Kp} {fr:PF} {h:PH}:PK (.code a (.aX i::ks)) fr h→PK (.code (.block i a) ks) fr h
 |cond {x:X} {a b:AC} {t:Bool} {ks:List Kp} {fr:PF} {h:PH}:fX fr x= .v (.bool t)→PK (.code (bif t then a else b) ks) fr h→PK (.code (.cond x a b) ks) fr h
 |loop {a:AC} {ks:List Kp} {fr gv:PF} {h h2:PH} (I:Nat→PF→PH→Prop) (k:Nat):(∀k fr h,I k fr h→PK (.code a (.lp I k::ks)) fr h)→Gh n fr h gv h2→I k gv h2→PK (.code (.loop a) ks) fr h
 |Pt {ks:List Kp} {fr:PF} {h:PH}:PK (.done .normal ks) fr h→PK (.ops .pl [] ks) fr h
 |Em {ks:List Kp} {fr:PF} {h:PH}:PK (.done .normal ks) fr h→PK (.ops .d0 [] ks) fr h
 |Ak {l0:List AO} {ck:List (Nat×Nat×Nat)} {acc:List (PF×PH×List Nat)} {W:List Nat} {ks:List Kp} {fr:PF} {h:PH}:okP l0 ck acc=true→PK (.done .normal ks) fr h→PK (.ops (.dr l0 ck acc W) [] ks) fr h
 |op {m:Mp} {d:Option Nat} {p:cW} {l:List AO} {ks:List Kp} {fr:PF} {h h':PH} {v:PV}:pop p (fX fr) h=some (v,h')→PK (.ops (m.up (xU p (fX fr)) (fr.aT d v) h') l ks) (fr.aT d v) h'→PK (.ops m (⟨none,d,p⟩::l) ks) fr h
 |gon {m:Mp} {t:Nat} {b:Bool} {x:Value} {d:Option Nat} {p:cW} {l:List AO} {ks:List Kp} {fr:PF} {h:PH}:fr.get t= .v x→fv b x=true→PK (.ops m (⟨none,d,p⟩::l) ks) fr h→PK (.ops m (⟨some (t,b),d,p⟩::l) ks) fr h
 |Kz {m:Mp} {t:Nat} {b:Bool} {x:Value} {d:Option Nat} {p:cW} {l:List AO} {ks:List Kp} {fr:PF} {h:PH}:fr.get t= .v x→fv b x=false→PK (.ops (m.up [] (fr.aT d (.v undef)) h) l ks) (fr.aT d (.v undef)) h→PK (.ops m (⟨some (t,b),d,p⟩::l) ks) fr h
 |call {m:Mp} {f:Nat} {«as»:List X} {d:Option Nat} {l:List AO} {ks:List Kp} {fr:PF} {h:PH} {W:List Nat} {R:PV→PH→Prop}:Gw E O f («as».map (fX fr)) h (· ∈W) R→(∀r h',R r h'→PK (.ops (m.up W (fr.aT d r) h') l ks) (fr.aT d r) h')→PK (.ops m (⟨none,d,.call f «as»⟩::l) ks) fr h
 |callv {m:Mp} {f:Nat} {x:X} {first cap:List PV} {«as»:List X} {d:Option Nat} {l:List AO} {ks:List Kp} {fr:PF} {h:PH} {W:List Nat} {R:PV→PH→Prop}:fX fr x= .fn f first cap→Gw E O f (first++«as».map (fX fr)++cap) h (· ∈W) R→(∀r h',R r h'→PK (.ops (m.up W (fr.aT d r) h') l ks) (fr.aT d r) h')→PK (.ops m (⟨none,d,.callv x «as»⟩::l) ks) fr h
 |Pu {ex:Ex} {fr:PF} {h:PH}:Q ex fr h→PK (.done ex []) fr h
 |dns {b:AC} {ks:List Kp} {fr:PF} {h:PH}:PK (.code b ks) fr h→PK (.done .normal (.seq b::ks)) fr h
 |dnb {i:Nat} {ks:List Kp} {fr:PF} {h:PH}:PK (.done .normal ks) fr h→PK (.done .normal (.aX i::ks)) fr h
 |dnl {I:Nat→PF→PH→Prop} {k j:Nat} {ks:List Kp} {fr gv:PF} {h h2:PH}:j<k→Gh n fr h gv h2→I j gv h2→PK (.done .normal (.lp I k::ks)) fr h
 |des {i:Nat} {b:AC} {ks:List Kp} {fr:PF} {h:PH}:PK (.done (.exit i) ks) fr h→PK (.done (.exit i) (.seq b::ks)) fr h
 |KA {i:Nat} {ks:List Kp} {fr:PF} {h:PH}:PK (.done .normal ks) fr h→PK (.done (.exit i) (.aX i::ks)) fr h
 |Pv {i j:Nat} {ks:List Kp} {fr:PF} {h:PH}:j≠i→PK (.done (.exit j) ks) fr h→PK (.done (.exit j) (.aX i::ks)) fr h
 |del {I:Nat→PF→PH→Prop} {k i:Nat} {ks:List Kp} {fr:PF} {h:PH}:PK (.done (.exit i) ks) fr h→PK (.done (.exit i) (.lp I k::ks)) fr h
 |Pw {k:Kp} {ks:List Kp} {fr:PF} {h:PH}:PK (.done .ret ks) fr h→PK (.done .ret (k::ks)) fr h
variable{E O n Q}
def Live (C0:Cx) (C:Cx):Prop:=eK C∧dR C0.h.length qZ C0 C
theorem Live.step {C0 C D:Cx} (h:Live C0 C) {W:Nat→Prop} (S:eK D) (T:dR C.h.length W C D):Live C0 D:=
 ⟨S,h.2.trans (T.mono (h.2.len (avk _)) (fun _ _=>trivial) fun _=>avC (h.2.len (avk _)) (T.len (avk _))) (avk _) (fun _ h=>h) fun _ h=>h⟩
def UP (E:Env) (O:kG) (C0:Cx) (Q:Ex→PF→PH→Prop):Ex→List Kp→Fr→AH→Prop
 |ex,[],af,H=>∃fr F φ h,Q ex fr h∧Live C0 ⟨F,H,φ,h⟩∧oJ ⟨F,H,φ,h⟩ fr af
 | .normal,.seq b::ks,af,H=>Wp E O b af H (fun ex tj H'=>UP E O C0 Q ex ks tj H')
 | .normal,.aX _::ks,af,H=>UP E O C0 Q .normal ks af H
 | .normal,.lp I k::ks,af,H=>∃j,j<k∧∃fr F φ h,I j fr h∧Live C0 ⟨F,H,φ,h⟩∧oJ ⟨F,H,φ,h⟩ fr af
 | .exit j,.seq _::ks,af,H=>UP E O C0 Q (.exit j) ks af H
 | .exit j,.aX i::ks,af,H=>if j=i then UP E O C0 Q .normal ks af H else UP E O C0 Q (.exit j) ks af H
 | .exit j,.lp _ _::ks,af,H=>UP E O C0 Q (.exit j) ks af H
 | .ret,_::ks,af,H=>UP E O C0 Q .ret ks af H
def XG (l1 l:List AO):Prop:=l1=l∨∃g d p t,l=⟨none,d,p⟩::t∧l1=⟨g,d,p⟩::t
theorem XG.head {a t:List AO} {g:Option (Nat×Bool)} {d:Option Nat} {p:cW} (h:XG a (⟨g,d,p⟩::t)):∃b,a=⟨b,d,p⟩::t:=by
 rcases h with rfl|⟨b,i,f,c,e,rfl⟩
 ·exact ⟨_,rfl⟩
 ·cases e;exact ⟨_,rfl⟩
def RR (E:Env) (O:kG) (C0:Cx) (Q:Ex→PF→PH→Prop) (cf:Cf) (fr:PF) (h:PH):Prop:=∀F H φ af,Live C0 ⟨F,H,φ,h⟩→oJ ⟨F,H,φ,h⟩ fr af→match cf with
 | .code c ks=>Wp E O c af H (fun ex tj H'=>UP E O C0 Q ex ks tj H')
 | .ops .pl l ks=>Wo E O l af H (fun tj H'=>UP E O C0 Q .normal ks tj H')
 | .ops .d0 l ks=>∀l0 acc fH W,pO l0 acc fH ⟨F,H,φ,h⟩ W→XG (l0.drop (acc.length- 1)) l→Wt E O l af H (fun ss=>vF l0 [] (ss.reverse++fH)=true∧UP E O C0 Q .normal ks (ie (af,H) ss).1 (ie (af,H) ss).2)
 | .ops (.dr l0 ck acc W) l ks=>∀fH,pO l0 acc fH ⟨F,H,φ,h⟩ W→XG (l0.drop (acc.length- 1)) l→Wt E O l af H (fun ss=>vF l0 ck (ss.reverse++fH)=true∧UP E O C0 Q .normal ks (ie (af,H) ss).1 (ie (af,H) ss).2)
 | .done ex ks=>UP E O C0 Q ex ks af H
theorem RR.step {C0:Cx} {m:Mp} {g:Option (Nat×Bool)} {d:Option Nat} {p:cW} {l:List AO} {J:List Kp} {K:PF} {h:PH} (one:∀F H φ v,Live C0 ⟨F,H,φ,h⟩→oJ ⟨F,H,φ,h⟩ K v→sL E O ⟨g,d,p⟩ v H (fun f H'=>∃t s r i V,Live C0 ⟨s,H',r,i⟩∧oJ ⟨s,H',r,i⟩ t f∧dR 0 (· ∈V) ⟨F,H,φ,h⟩ ⟨s,H',r,i⟩∧(p.bj=false→H'.nx≤H.nx+1)∧RR E O C0 Q (.ops (m.up V t i) l J) t i)):
 RR E O C0 Q (.ops m (⟨g,d,p⟩::l) J) K h:=by
 intro F H φ v L R
 have mono:∀{M Q2:Fr→AH→Prop},(∀a b,M a b→Q2 a b)→sL E O ⟨g,d,p⟩ v H M→sL E O ⟨g,d,p⟩ v H Q2:=fun k ⟨a,b,c,e,q⟩=>⟨a,b,c,e,k _ _ q⟩
 cases m with
 |pl=>
  refine Wo.cons (mono ?_ (one F H φ v L R));rintro f H' ⟨t,s,r,i,V,x,w,_,_,k⟩;exact k s H' r f x w
 |d0=>
  intro u acc B W C j;rw [kc];refine mono ?_ (one F H φ v L R);rintro f H' ⟨t,s,r,i,V,x,w,T,D,k⟩;have N:=C.length.2
  have y:pO u ((t,i,V++W)::acc) ((f,H')::B) ⟨s,H',r,i⟩ (V++W):=
   .cons C T x.1 w (fun o z I=>by
    obtain ⟨A,j⟩:=j.head
    have:u[acc.length- 1]?=some ⟨A,d,p⟩:=by
     have:=congrArg List.head? j
     simpa [List.head?_drop]using this
    rw [wg,this]at z;cases z
    exact D I)
  have G:XG (u.drop (((t,i,V++W)::acc).length- 1)) l:=by
   obtain ⟨A,j⟩:=j.head;left;simp only [List.length_cons,Nat.add_sub_cancel];rw [show acc.length=acc.length- 1+1 by omega,←List.drop_drop,j];rfl
  have:=k s H' r f x w u _ ((f,H')::B) _ y G;refine (fun⟨a,b,e,q⟩=>⟨a,b,e,?_⟩:Wt E O l f H' _→Wt E O l f H' _) this
  simpa [ie]using q
 |dr u P acc W=>
  intro B C j;rw [kc];refine mono ?_ (one F H φ v L R);rintro f H' ⟨t,s,r,i,V,x,w,T,D,k⟩;have N:=C.length.2
  have y:pO u ((t,i,V++W)::acc) ((f,H')::B) ⟨s,H',r,i⟩ (V++W):=
   .cons C T x.1 w (fun o z I=>by
    obtain ⟨A,j⟩:=j.head
    have:u[acc.length- 1]?=some ⟨A,d,p⟩:=by
     have:=congrArg List.head? j
     simpa [List.head?_drop]using this
    rw [wg,this]at z;cases z
    exact D I)
  have G:XG (u.drop (((t,i,V++W)::acc).length- 1)) l:=by
   obtain ⟨A,j⟩:=j.head;left;simp only [List.length_cons,Nat.add_sub_cancel];rw [show acc.length=acc.length- 1+1 by omega,←List.drop_drop,j];rfl
  have:=k s H' r f x w ((f,H')::B) y G;refine (fun⟨a,b,e,q⟩=>⟨a,b,e,?_⟩:Wt E O l f H' _→Wt E O l f H' _) this
  simpa [ie]using q
theorem PK.sound {C0:Cx} (M:n=C0.h.length):∀{cf:Cf} {u:PF} {h:PH},PK E O n Q cf u h→RR E O C0 Q cf u h:=by
 intro cf u h k
 induction k with
 |skip _ ih=>exact fun F H s o L R=>Wp.skip (ih F H s o L R)
 |ret _ ih=>exact fun F H s o L R=>Wp.ret (ih F H s o L R)
 |exit _ ih=>exact fun F H s o L R=>Wp.exit (ih F H s o L R)
 |bC _ ih=>exact fun F H s o L R=>Wp.bC (ih F H s o L R)
 | @bz l c ck z u h _ ih=>
  intro F H s o L R;have:=ih F H s o L R [(o,H)] (.one L.1 R) (.inl rfl);refine Wp.bz ?_;obtain ⟨a,ss,e,C,h2⟩:=this;unfold vF at C;simp only [List.reverse_append,List.reverse_cons,List.reverse_nil,List.nil_append,List.reverse_reverse,List.cons_append,avj]at C;exact ⟨a,ss,e,C,h2⟩
 | @El l z u h _ ih=>
  intro F H s o L R;have:=ih F H s o L R l _ [(o,H)] _ (.one L.1 R) (.inl rfl);refine Wp.bz ?_;obtain ⟨a,ss,e,C,h2⟩:=this;unfold vF at C;simp only [List.reverse_append,List.reverse_cons,List.reverse_nil,List.nil_append,List.reverse_reverse,List.cons_append,avj]at C;exact ⟨a,ss,e,C,h2⟩
 | @seq a b z u h _ ih=>
  intro F H s o L R;refine Wp.seq ((ih F H s o L R).mono ?_);intro ex cq V q;cases ex<;>exact q
 | @block i a z u h _ ih=>
  intro F H s o L R;refine Wp.block ((ih F H s o L R).mono ?_);intro ex cq V q;cases ex<;>exact q
 | @cond x a b t z u h e _ ih=>
  intro F H s o L R;have w:=R.ev x;rw [e]at w
  exact Wp.cond w.sy (by
   have:=ih F H s o L R
   cases t<;>exact this)
 | @loop a z u gv h h2 I k _ g P ih=>
  intro F H s o L R;obtain ⟨F',N,S',A,T'⟩:=g F H s o L.1 R;refine Wp.loop (fun k o H=>∃u F s h,I k u h∧Live C0 ⟨F,H,s,h⟩∧oJ ⟨F,H,s,h⟩ u o) ?_ k ⟨gv,F',N,h2,P,⟨S',M▸T' C0 M.symm (M▸L.2)⟩,A⟩;rintro k o H ⟨u,F,s,h,P,L,R⟩;refine (ih k u h P F H s o L R).mono ?_;intro ex tj V q;cases ex<;>exact q
 |Pt _ ih=>exact fun F H s o L R=>Wo.nil (ih F H s o L R)
 |Em _ ih=>exact fun F H s o L R Y acc U W K B=>Wt.nil ⟨by have:=Ky K (ck:=[]) rfl;simpa using this,ih F H s o L R⟩
 | @Ak Y ck acc W z u h ok _ ih=>
  intro F H s o L R U K B;exact Wt.nil ⟨by simpa using Ky K ok,ih F H s o L R⟩
 | @op m d p l z u h G v e _ ih=>
  refine RR.step fun F H s o L R=>?_
  obtain ⟨b,Z,x,V,N,rfl,w,S,T⟩:=Vd L.1 (R.ev) e;refine sL.val rfl Z ?_;exact ⟨_,F,N,G,_,L.step S T,(R.step T).aT w d,T.mono (avI _) (fun _ h=>h) (fun _=>avI _),fun _=>Vm Z rfl,ih⟩
 | @gon m t b x d p l z u h e hw _ ih=>
  have eqv:∀{o:Fr} {H:AH} {Q:Fr→AH→Prop},AO.wanted ⟨some (t,b),d,p⟩ o=true→sL E O ⟨none,d,p⟩ o H Q→sL E O ⟨some (t,b),d,p⟩ o H Q:=by
   intro o H Q C h2;rw [ik _ _ _ _ C];rwa [ik _ _ _ _ rfl]at h2
  intro F H s o L R;have w:=R t;rw [e]at w;have D:AO.wanted ⟨some (t,b),d,p⟩ o=true:=by rw [nT,w.sy];exact hw
  have:=ih F H s o L R
  cases m with
  |pl=>
   refine Wo.cons (eqv D ?_);exact (jn _ _ _ _ _).1 this
  |d0=>
   intro Y acc U W K B;rw [kc];obtain ⟨g',B⟩:=B.head;exact eqv D ((kc _ _ _ _ _).1 (this Y acc U W K (.inr ⟨g',d,p,l,rfl,B⟩)))
  |dr Y ck acc W=>
   intro U K B;rw [kc];obtain ⟨g',B⟩:=B.head;exact eqv D ((kc _ _ _ _ _).1 (this U K (.inr ⟨g',d,p,l,rfl,B⟩)))
 | @Kz m t b x d p l z u h e hw _ ih=>
  refine RR.step fun F H s o L R=>?_
  have w:=R t;rw [e]at w;refine sL.off (by rw [nT,w.sy];exact hw) ?_;exact ⟨_,F,s,h,[],L,R.aT (.v _) d,dR.refl _ _ _,fun _=>avH _,ih⟩
 | @call m f «as» d l z u h W R hc _ ih=>
  refine RR.step fun F H s o L A=>?_
  refine sL.call rfl rfl ?_;refine (hc F H s _ L.1 (dA.of A.ev «as»)).mono ?_;rintro x V ⟨r,G,F2,nK,hR,w,S2,J⟩;exact ⟨_,F2,nK,G,W,L.step S2 J,(A.step J).aT w d,J.mono (avI _) (fun _ h=>h) (fun _=>avI _),(fun q=>by cases q),ih r G hR⟩
 | @callv m f x first cap «as» d l z u h W R hf hc _ ih=>
  refine RR.step fun F H s o L A=>?_
  have w:=A.ev x;rw [hf]at w;revert w;generalize hy:X.ev o x=y;intro w
  cases w with| @fn _ _ _ xs ys ha Z=>
  refine sL.call rfl (f:=f) («as»:=xs++«as».map (X.ev o)++ys) (H1:=H) (by simp only [aB,hy]) ?_;refine (hc F H s _ L.1 ((ha.append (dA.of A.ev «as»)).append Z)).mono ?_;rintro x V ⟨r,G,F2,nK,hR,w,S2,J⟩;exact ⟨_,F2,nK,G,W,L.step S2 J,(A.step J).aT w d,J.mono (avI _) (fun _ h=>h) (fun _=>avI _),(fun q=>by cases q),ih r G hR⟩
 | @Pu ex u h q=>
  intro F H s o L R;simp only [UP];exact ⟨u,F,s,h,q,L,R⟩
 |dns _ ih=>exact fun F H s o L R=>ih F H s o L R
 |dnb _ ih=>exact fun F H s o L R=>ih F H s o L R
 | @dnl I k j z u gv h h2 hj g P=>
  intro F H s o L R;obtain ⟨F',N,S',A,T'⟩:=g F H s o L.1 R;exact ⟨j,hj,gv,F',N,h2,P,⟨S',M▸T' C0 M.symm (M▸L.2)⟩,A⟩
 |des _ ih=>exact fun F H s o L R=>ih F H s o L R
 | @KA i z u h _ ih=>
  intro F H s o L R;show(if i=i then _ else _);rw [if_pos rfl];exact ih F H s o L R
 | @Pv i j z u h hj _ ih=>
  intro F H s o L R;show(if j=i then _ else _);rw [if_neg hj];exact ih F H s o L R
 |del _ ih=>exact fun F H s o L R=>ih F H s o L R
 | @Pw k z u h _ ih=>
  intro F H s o L R;cases k<;>exact ih F H s o L R
end P
namespace P
open Go Go.RowKit
section
variable{E:Env} {O:kG} {n:Nat} {Q:Ex→PF→PH→Prop} {ks:List Kp} {fr:PF} {h:PH}
theorem Gw.mono {f:Nat} {args:List PV} {W:Nat→Prop} {R R':PV→PH→Prop} (k:Gw E O f args h W R) (i:∀r c,R r c→R' r c):Gw E O f args h W R':=fun F H e g S j=>
 (k F H e g S j).mono fun x m ⟨r,c,l,d,a,b⟩=>⟨r,c,l,d,i _ _ a,b⟩
def xY.get (fr:PF) (h:PH):RS→Option PV
 | .tmp t=>some (fr.get t)
 | .cell t _=>RN h (fr.get t)
 | .cells t n=>xS n h (fr.get t)
def xY.all (fr:PF) (h:PH):List RS→Option (List PV)
 |[]=>some []
 |r::l=>match xY.get fr h r,xY.all fr h l with|some v,some vs=>some (v::vs)|_,_=>none
def nw:List PV→PV
 |[v]=>v
 |vs=>.hZ vs
def En (n:Nat) (r:PV) (h:PH) (r2:PV) (h2:PH):Prop:=
 ∀F H φ x,eK ⟨F,H,φ,h⟩→RV ⟨F,H,φ,h⟩ r x→∃F' ei,eK ⟨F',H,ei,h2⟩∧RV ⟨F',H,ei,h2⟩ r2 x∧∀C0:Cx,C0.h.length=n→dR n qZ C0 ⟨F,H,φ,h⟩→dR n qZ C0 ⟨F',H,ei,h2⟩
def Vo (n:Nat) (res:List RS) (R:PV→PH→Prop):Ex→PF→PH→Prop
 | .exit _,_,_=>False
 |_,fr,h=>∃vs,xY.all fr h res=some vs∧∃r2 h2,En n (nw vs) h r2 h2∧R r2 h2
theorem RT {C:Cx} (S:eK C) {fr:PF} {d:Fr} (R:oJ C fr d):∀{res:List RS} {ps:List PV},xY.all fr C.h res=some ps→∃xs,RS.all d C.H res=some xs∧dA C ps xs
 |[],ps,e=>by cases e;exact ⟨[],rfl,.nil⟩
 |r::l,ps,e=>by
  simp only [xY.all]at e;split at e
  case h_2=>cases e
  rename_i p q g h2;cases e;obtain ⟨xs,o,k⟩:=RT S R h2
  obtain ⟨x,j,i⟩:∃x,RS.get d C.H r=some x∧RV C p x:=by
   cases r with
   |tmp t=>cases g;exact ⟨_,rfl,R t⟩
   |cell t _=>
    obtain ⟨y,b,f⟩:=RP S (R t) g;refine ⟨y,?_,f⟩;simp only [RS.get]
    cases c:d.get t with
    |pointer a=>rw [c]at b;cases a<;>exact b
    |_=>rw [c]at b;cases b
   |cells t m=>
    obtain ⟨y,b,f⟩:=Cq S (R t) g;refine ⟨y,?_,f⟩;simp only [RS.get]
    cases c:d.get t with
    |pointer a=>rw [c]at b;cases a<;>exact b
    |_=>rw [c]at b;cases b
  exact ⟨x::xs,by simp only [RS.all,o,j],.cons i k⟩
theorem Vp {C:Cx} {ps:List PV} {xs:List Value} (h:dA C ps xs):RV C (nw ps) (rX xs):=by
 cases h with
 |nil=>exact .hZ (xs:=[]) .nil
 |cons a b=>
  cases b with
  |nil=>exact a
  |cons b c=>exact .hZ (xs:=_::_::_) (.cons a (.cons b c))
theorem fM.body {f:Nat} {F:AF} {args:List PV} {R:PV→PH→Prop} (y:O f=none) (A:E f=some F) (z:args.length=F.np) (k:PK E O h.length (Vo h.length F.res R) (.code F.body []) (PF.of args) h):fM E O f args h R:=by
 intro Fz H c a S u;refine Ca.body y A (by rw [←u.length,z]) ?_
 have L:Live ⟨Fz,H,c,h⟩ ⟨Fz,H,c,h⟩:=⟨S,dR.refl _ _ _⟩
 refine (k.sound (C0:=⟨Fz,H,c,h⟩) rfl Fz H c (Fr.of a) L (oJ.of u)).mono ?_;intro ex B m q;simp only [UP]at q;obtain ⟨fr,M,K,t,q,p,I⟩:=q
 have key:∀a,xY.all fr t F.res=some a→∀b h2,En h.length (nw a) t b h2→R b h2→∃j,RS.all B m F.res=some j∧∃r l s o,R r l∧RV ⟨s,m,o,l⟩ r (rX j)∧eK ⟨s,m,o,l⟩∧dR h.length qZ ⟨Fz,H,c,h⟩ ⟨s,m,o,l⟩:=by
  intro a e b h2 g d;obtain ⟨j,x,w⟩:=RT p.1 I e;obtain ⟨J,v,D,G,C⟩:=g _ _ _ _ p.1 (Vp w);exact ⟨j,x,b,h2,J,v,d,G,D,C _ rfl p.2⟩
 cases ex with
 |exit i=>exact q.elim
 |normal=>obtain ⟨a,e,b,h2,g,d⟩:=q;exact key a e b h2 g d
 |ret=>obtain ⟨a,e,b,h2,g,d⟩:=q;exact key a e b h2 g d
@[simp]theorem abd (f:PF) (a b:Nat) (p:PV):(f.put a p).get b=if b=a then p else f.get b:=rfl
@[simp]theorem aet (l:List PV) (a:Nat):(PF.of l).get a=l.getD a .any:=rfl
@[simp]theorem akt (f:PF) (a:Nat) (p:PV):f.aT (some a) p=f.put a p:=rfl
@[simp]theorem aku (f:PF) (p:PV):f.aT none p=f:=rfl
@[simp]theorem an2 (f:PF) (a:Nat):fX f (.t a)=f.get a:=rfl
@[simp]theorem an3 (f:PF) (v:Value):fX f (.k v)=yS v:=rfl
@[simp]theorem an4 (f:PF) (a:Nat):fX f (.f a)= .fn a [] []:=rfl
@[simp]theorem aeu (k:IntKind) (a:Int):yS (.int k a)= .v (.int k a):=rfl
@[simp]theorem abe (a:Bool):yS (.bool a)= .v (.bool a):=rfl
@[simp]theorem aev (a:ByteArray):yS (.string a)= .v (.string a):=rfl
@[simp]theorem akv (a:Option Addr) (b c:Nat):yS (.slice a b c)= .v (.slice a b c):=rfl
@[simp]theorem aew (a:Option Addr):yS (.pointer a)= .v (.pointer a):=rfl
@[simp]theorem aex (a:Option Nat):yS (.map a)= .v (.map a):=rfl
@[simp]theorem akw:yS .nilFunc= .v .nilFunc:=rfl
@[simp]theorem akx:yS .nilIface= .v .nilIface:=rfl
@[simp]theorem aey (a:Array Value):yS (.agg a)= .agg (a.toList.map .v):=rfl
@[simp]theorem aky (V:List Nat) (fr:PF) (h:PH):Mp.up .pl V fr h= .pl:=rfl
@[simp]theorem akz (V:List Nat) (fr:PF) (h:PH):Mp.up .d0 V fr h= .d0:=rfl
@[simp]theorem akA (a:List AO) (ck:List (Nat×Nat×Nat)) (acc:List (PF×PH×List Nat)) (W V:List Nat) (fr:PF) (h:PH):Mp.up (.dr a ck acc W) V fr h= .dr a ck ((fr,h,V++W)::acc) (V++W):=rfl
@[simp]theorem aez:PK E O n Q (.code .skip ks) fr h↔PK E O n Q (.done .normal ks) fr h:=⟨fun k=>by cases k;assumption,.skip⟩
@[simp]theorem akB:PK E O n Q (.code .ret ks) fr h↔PK E O n Q (.done .ret ks) fr h:=⟨fun k=>by cases k;assumption,.ret⟩
@[simp]theorem aeA (i:Nat):PK E O n Q (.code (.exit i) ks) fr h↔PK E O n Q (.done (.exit i) ks) fr h:=⟨fun k=>by cases k;assumption,.exit⟩
@[simp]theorem akC (l:List AO):PK E O n Q (.code (.bC l) ks) fr h↔PK E O n Q (.ops .pl l ks) fr h:=⟨fun k=>by cases k;assumption,.bC⟩
@[simp]theorem aeB (l:List AO) (c:Nat×Nat×Nat) (ck:List (Nat×Nat×Nat)):PK E O n Q (.code (.bz l (c::ck)) ks) fr h↔PK E O n Q (.ops (.dr l (c::ck) [(fr,h,[])] []) l ks) fr h:=⟨fun k=>by cases k;assumption,.bz⟩
@[simp]theorem abf (l:List AO):PK E O n Q (.code (.bz l []) ks) fr h↔PK E O n Q (.ops .d0 l ks) fr h:=⟨fun k=>by cases k;assumption,.El⟩
@[simp]theorem akD (a b:AC):PK E O n Q (.code (.seq a b) ks) fr h↔PK E O n Q (.code a (.seq b::ks)) fr h:=⟨fun k=>by cases k;assumption,.seq⟩
@[simp]theorem abg (i:Nat) (a:AC):PK E O n Q (.code (.block i a) ks) fr h↔PK E O n Q (.code a (.aX i::ks)) fr h:=⟨fun k=>by cases k;assumption,.block⟩
def PC (E:Env) (O:kG) (n:Nat) (Q:Ex→PF→PH→Prop) (p:PV) (a b:AC) (ks:List Kp) (fr:PF) (h:PH):Prop:=∃t,p= .v (.bool t)∧PK E O n Q (.code (bif t then a else b) ks) fr h
@[simp]theorem aeC (x:X) (a b:AC):PK E O n Q (.code (.cond x a b) ks) fr h↔PC E O n Q (fX fr x) a b ks fr h:=⟨fun k=>by cases k with|cond e q=>exact ⟨_,e,q⟩,fun⟨t,e,q⟩=>.cond e q⟩
@[simp]theorem as3 (t:Bool) (a b:AC):PC E O n Q (.v (.bool t)) a b ks fr h↔br (t=true) (PK E O n Q (.code a ks) fr h) (PK E O n Q (.code b ks) fr h):=by
 unfold PC;cases t
 ·simp only [reduceCtorEq,TU]
  exact ⟨fun⟨t,e,q⟩=>by cases e;exact q,fun q=>⟨_,rfl,q⟩⟩
 ·simp only [TT]
  exact ⟨fun⟨t,e,q⟩=>by cases e;exact q,fun q=>⟨_,rfl,q⟩⟩
@[simp]theorem akE (ex:Ex):PK E O n Q (.done ex []) fr h↔Q ex fr h:=⟨fun k=>by cases k;assumption,.Pu⟩
@[simp]theorem an5 (b:AC):PK E O n Q (.done .normal (.seq b::ks)) fr h↔PK E O n Q (.code b ks) fr h:=⟨fun k=>by cases k;assumption,.dns⟩
@[simp]theorem an6 (i:Nat):PK E O n Q (.done .normal (.aX i::ks)) fr h↔PK E O n Q (.done .normal ks) fr h:=⟨fun k=>by cases k;assumption,.dnb⟩
@[simp]theorem an7 (i:Nat) (b:AC):PK E O n Q (.done (.exit i) (.seq b::ks)) fr h↔PK E O n Q (.done (.exit i) ks) fr h:=⟨fun k=>by cases k;assumption,.des⟩
@[simp]theorem akF (i:Nat):PK E O n Q (.done (.exit i) (.aX i::ks)) fr h↔PK E O n Q (.done .normal ks) fr h:=⟨fun k=>by cases k with|KA q=>exact q|Pv q=>exact absurd rfl q,.KA⟩
@[simp]theorem an8 (i k:Nat) (I:Nat→PF→PH→Prop):PK E O n Q (.done (.exit i) (.lp I k::ks)) fr h↔PK E O n Q (.done (.exit i) ks) fr h:=⟨fun k=>by cases k;assumption,.del⟩
@[simp]theorem as4 (k:Kp):PK E O n Q (.done .ret (k::ks)) fr h↔PK E O n Q (.done .ret ks) fr h:=⟨fun k=>by cases k;assumption,.Pw⟩
def Vq (n:Nat) (I:Nat→PF→PH→Prop) (k:Nat) (fr:PF) (h:PH):Prop:=∃j,j<k∧∃gv h2,Gh n fr h gv h2∧I j gv h2
@[simp]theorem an9 (I:Nat→PF→PH→Prop) (k:Nat):PK E O n Q (.done .normal (.lp I k::ks)) fr h↔Vq n I k fr h:=
 ⟨fun q=>by cases q with|dnl a b c=>exact ⟨_,a,_,_,b,c⟩,fun⟨_,a,_,_,b,c⟩=>.dnl a b c⟩
theorem Vq.ofG {I:Nat→PF→PH→Prop} {k j:Nat} {a:PF} {h2:PH} (b:j<k) (g:Gh n fr h a h2) (c:I j a h2):Vq n I k fr h:=⟨j,b,a,h2,g,c⟩
def KB (I:Nat→PF→PH→Prop) (N:Nat):Nat→PF→PH→Prop:=fun k fr h=>k≤N∧I (N- k) fr h
theorem Vq.for {I:Nat→PF→PH→Prop} {N i:Nat} (hi:i<N) (a:I (i+1) fr h):Vq n (KB I N) (N- i) fr h:=
 ⟨N- (i+1),by omega,fr,h,Gh.refl _ _ _,by omega,by rw [show N- (N- (i+1))=i+1 by omega];exact a⟩
theorem Vq.ny {I:Nat→PF→PH→Prop} {N i:Nat} {a:PF} {h2:PH} (hi:i<N) (g:Gh n fr h a h2) (b:I (i+1) a h2):Vq n (KB I N) (N- i) fr h:=
 ⟨N- (i+1),by omega,a,h2,g,by omega,by rw [show N- (N- (i+1))=i+1 by omega];exact b⟩
theorem uS {a:AC} {b:PF} {h2:PH} (I:Nat→PF→PH→Prop) (k:Nat) (g:Gh n fr h b h2) (c:I k b h2) (step:∀k fr h,I k fr h→PK E O n Q (.code a (.lp I k::ks)) fr h):PK E O n Q (.code (.loop a) ks) fr h:=.loop I k step g c
theorem dV {a:AC} {c:PF} {h2:PH} (I:Nat→PF→PH→Prop) (N:Nat) (g:Gh n fr h c h2) (d:I 0 c h2) (step:∀i fr h,i≤N→I i fr h→PK E O n Q (.code a (.lp (KB I N) (N- i)::ks)) fr h):PK E O n Q (.code (.loop a) ks) fr h:=
 uS (KB I N) N g ⟨avk _,by rw [Nat.sub_self];exact d⟩ fun k fr h b=>by
  have:=step (N- k) fr h (by omega) b.2;rwa [show N- (N- k)=k by have:=b.1;omega]at this
theorem pP {a:AC} (I:Nat→PF→PH→Prop) (N:Nat) (b:I 0 fr h) (step:∀i fr h,i≤N→I i fr h→PK E O n Q (.code a (.lp (KB I N) (N- i)::ks)) fr h):PK E O n Q (.code (.loop a) ks) fr h:=dV I N (Gh.refl _ _ _) b step
@[simp]theorem akG (res:List RS) (R:PV→PH→Prop):Vo n res R .normal fr h=∃vs,xY.all fr h res=some vs∧∃a h2,En n (nw vs) h a h2∧R a h2:=rfl
@[simp]theorem akH (res:List RS) (R:PV→PH→Prop):Vo n res R .ret fr h=∃vs,xY.all fr h res=some vs∧∃a h2,En n (nw vs) h a h2∧R a h2:=rfl
variable{m:Mp} {l:List AO} {d:Option Nat}
@[simp]theorem akI:PK E O n Q (.ops .pl [] ks) fr h↔PK E O n Q (.done .normal ks) fr h:=⟨fun k=>by cases k;assumption,.Pt⟩
@[simp]theorem aeD:PK E O n Q (.ops .d0 [] ks) fr h↔PK E O n Q (.done .normal ks) fr h:=⟨fun k=>by cases k;assumption,.Em⟩
@[simp]theorem aeE (c:List AO) (ck:List (Nat×Nat×Nat)) (acc:List (PF×PH×List Nat)) (W:List Nat):PK E O n Q (.ops (.dr c ck acc W) [] ks) fr h↔okP c ck acc=true∧PK E O n Q (.done .normal ks) fr h:=⟨fun k=>by cases k with|Ak a b=>exact ⟨a,b⟩,fun⟨a,b⟩=>.Ak a b⟩
def PG (E:Env) (O:kG) (n:Nat) (Q:Ex→PF→PH→Prop) (g:PV) (b:Bool) (m:Mp) (d:Option Nat) (p:cW) (l:List AO) (ks:List Kp) (fr:PF) (h:PH):Prop:=∃x,g= .v x∧br (fv b x=true) (PK E O n Q (.ops m (⟨none,d,p⟩::l) ks) fr h) (PK E O n Q (.ops (m.up [] (fr.aT d (.v undef)) h) l ks) (fr.aT d (.v undef)) h)
@[simp]theorem as5 (t:Nat) (b:Bool) (p:cW):PK E O n Q (.ops m (⟨some (t,b),d,p⟩::l) ks) fr h↔PG E O n Q (fr.get t) b m d p l ks fr h:=by
 constructor
 ·intro k
  cases k with
  |gon e w q=>exact ⟨_,e,fun _=>q,fun k=>absurd w k⟩
  |Kz e w q=>exact ⟨_,e,fun k=>(Bool.noConfusion (w.symm.trans k)),fun _=>q⟩
 ·rintro ⟨x,e,q⟩
  cases w:fv b x with
  |true=>exact .gon e w (q.1 w)
  |false=>exact .Kz e w (q.2 (by simp [w]))
@[simp]theorem as6 (t:Bool) (p:cW):PG E O n Q (.v (.bool t)) true m d p l ks fr h↔br (t=true) (PK E O n Q (.ops m (⟨none,d,p⟩::l) ks) fr h) (PK E O n Q (.ops (m.up [] (fr.aT d (.v undef)) h) l ks) (fr.aT d (.v undef)) h):=by
 unfold PG;exact ⟨fun⟨x,e,q⟩=>by cases e;simpa using q,fun q=>⟨_,rfl,by simpa using q⟩⟩
@[simp]theorem as7 (t:Bool) (p:cW):PG E O n Q (.v (.bool t)) false m d p l ks fr h↔br (t=true) (PK E O n Q (.ops (m.up [] (fr.aT d (.v undef)) h) l ks) (fr.aT d (.v undef)) h) (PK E O n Q (.ops m (⟨none,d,p⟩::l) ks) fr h):=by
 unfold PG;refine ⟨fun⟨x,e,q⟩=>?_,fun q=>⟨_,rfl,?_⟩⟩
 ·cases e;cases t<;>simpa using q
 ·cases t<;>simpa using q
@[simp]theorem as8 (b:Bool) (p:cW):PG E O n Q (.v undef) b m d p l ks fr h↔PK E O n Q (.ops (m.up [] (fr.aT d (.v undef)) h) l ks) (fr.aT d (.v undef)) h:=by
 unfold PG;refine ⟨fun⟨x,e,q⟩=>?_,fun q=>⟨_,rfl,by simpa using q⟩⟩;cases e;simpa using q
def PO (E:Env) (O:kG) (n:Nat) (Q:Ex→PF→PH→Prop) (r:Option (PV×PH)) (V:List Nat) (d:Option Nat) (m:Mp) (l:List AO) (ks:List Kp) (fr:PF):Prop:=∃v h',r=some (v,h')∧PK E O n Q (.ops (m.up V (fr.aT d v) h') l ks) (fr.aT d v) h'
@[simp]theorem abi (v:PV) (h':PH) (V:List Nat):PO E O n Q (some (v,h')) V d m l ks fr↔PK E O n Q (.ops (m.up V (fr.aT d v) h') l ks) (fr.aT d v) h':=⟨fun⟨_,_,e,q⟩=>by cases e;exact q,fun q=>⟨_,_,rfl,q⟩⟩
@[simp]theorem as9 (V:List Nat):PO E O n Q none V d m l ks fr↔False:=⟨fun⟨_,_,e,_⟩=>(by cases e),False.elim⟩
def P1 (E:Env) (O:kG) (n:Nat) (Q:Ex→PF→PH→Prop) (r:Option PV) (d:Option Nat) (m:Mp) (l:List AO) (ks:List Kp) (fr:PF) (h:PH):Prop:=∃v,r=some v∧PK E O n Q (.ops (m.up [] (fr.aT d v) h) l ks) (fr.aT d v) h
@[simp]theorem ata (v:PV):P1 E O n Q (some v) d m l ks fr h↔PK E O n Q (.ops (m.up [] (fr.aT d v) h) l ks) (fr.aT d v) h:=⟨fun⟨_,e,q⟩=>by cases e;exact q,fun q=>⟨_,rfl,q⟩⟩
@[simp]theorem atb:P1 E O n Q none d m l ks fr h↔False:=⟨fun⟨_,e,_⟩=>(by cases e),False.elim⟩
@[simp]theorem aoa (c:Prop) [Decidable c] (r:Option PV):P1 E O n Q (if c then r else none) d m l ks fr h↔c∧P1 E O n Q r d m l ks fr h:=by by_cases h:c<;>simp [h]
def PS (E:Env) (O:kG) (n:Nat) (Q:Ex→PF→PH→Prop) (r:Option PH) (V:List Nat) (d:Option Nat) (m:Mp) (l:List AO) (ks:List Kp) (fr:PF):Prop:=∃h',r=some h'∧PK E O n Q (.ops (m.up V (fr.aT d (.v undef)) h') l ks) (fr.aT d (.v undef)) h'
@[simp]theorem atc (h':PH) (V:List Nat):PS E O n Q (some h') V d m l ks fr↔PK E O n Q (.ops (m.up V (fr.aT d (.v undef)) h') l ks) (fr.aT d (.v undef)) h':=⟨fun⟨_,e,q⟩=>by cases e;exact q,fun q=>⟨_,rfl,q⟩⟩
@[simp]theorem atd (V:List Nat):PS E O n Q none V d m l ks fr↔False:=⟨fun⟨_,e,_⟩=>(by cases e),False.elim⟩
@[simp]theorem aob (c:Prop) [Decidable c] (r:Option PH) (V:List Nat):PS E O n Q (if c then r else none) V d m l ks fr↔c∧PS E O n Q r V d m l ks fr:=by by_cases h:c<;>simp [h]
theorem pf {p:cW} (a:p.bj=false):PK E O n Q (.ops m (⟨none,d,p⟩::l) ks) fr h↔PO E O n Q (pop p (fX fr) h) (xU p (fX fr)) d m l ks fr:=by
 constructor
 ·intro k
  cases k with
  |op e q=>exact ⟨_,_,e,q⟩
  |call=>cases a
  |callv=>cases a
 ·exact fun⟨_,_,e,q⟩=>.op e q
theorem Vs (r:Option PV):PO E O n Q (r.map fun v=>(v,h)) [] d m l ks fr↔P1 E O n Q r d m l ks fr h:=by cases r<;>simp
theorem Eo (r:Option PH) (V:List Nat):PO E O n Q (r.map fun a=>(.v undef,a)) V d m l ks fr↔PS E O n Q r V d m l ks fr:=by cases r<;>simp
theorem oK {p:cW} {r:Option PV} (a:p.bj=false) (e:pop p (fX fr) h=r.map fun v=>(v,h)) (w:xU p (fX fr)=[]):PK E O n Q (.ops m (⟨none,d,p⟩::l) ks) fr h↔P1 E O n Q r d m l ks fr h:=by rw [pf a,e,w,Vs]
@[simp]theorem aoc (x:X):PK E O n Q (.ops m (⟨none,d,.mv x⟩::l) ks) fr h↔PK E O n Q (.ops (m.up [] (fr.aT d (fX fr x)) h) l ks) (fr.aT d (fX fr x)) h:=by rw [pf rfl];simp [pop,xU]
@[simp]theorem aeF (c a b:X):PK E O n Q (.ops m (⟨none,d,.pick c a b⟩::l) ks) fr h↔P1 E O n Q (Kb (fX fr c) (fX fr a) (fX fr b)) d m l ks fr h:=oK rfl rfl rfl
@[simp]theorem abj (z:List Value):PK E O n Q (.ops m (⟨none,d,.alloc z⟩::l) ks) fr h↔PK E O n Q (.ops (m.up [] (fr.aT d (.ref h.length 0 z.length)) (h++[.cells z.length (z.map .v)])) l ks) (fr.aT d (.ref h.length 0 z.length)) (h++[.cells z.length (z.map .v)]):=by rw [pf rfl];simp [pop,xU]
@[simp]theorem akJ (x:X):PK E O n Q (.ops m (⟨none,d,.box x⟩::l) ks) fr h↔PO E O n Q (Pf h (fX fr x)) [] d m l ks fr:=pf rfl
@[simp]theorem abk (z:List Value) (ps:List (Nat×Nat×X)):PK E O n Q (.ops m (⟨none,d,.build z ps⟩::l) ks) fr h↔P1 E O n Q ((qH (z.map .v) (ps.map fun p=>(p.1,p.2.1,fX fr p.2.2))).map .agg) d m l ks fr h:=oK rfl (by simp [pop,Option.map_map];rfl) rfl
@[simp]theorem akK (len sz:Nat) (z:List Value) (ps:List (Nat×Nat×X)):PK E O n Q (.ops m (⟨none,d,.bsl len sz z ps⟩::l) ks) fr h↔PO E O n Q (Pd len sz z h (ps.map fun p=>(p.1,p.2.1,fX fr p.2.2))) [] d m l ks fr:=pf rfl
@[simp]theorem aod (x:X):PK E O n Q (.ops m (⟨none,d,.ld x⟩::l) ks) fr h↔P1 E O n Q (RN h (fX fr x)) d m l ks fr h:=oK rfl rfl rfl
@[simp]theorem akL (k:Nat) (x:X):PK E O n Q (.ops m (⟨none,d,.ldn k x⟩::l) ks) fr h↔P1 E O n Q (xS k h (fX fr x)) d m l ks fr h:=oK rfl rfl rfl
@[simp]theorem aoe (k:Nat) (x v:X):PK E O n Q (.ops m (⟨none,d,.st k x v⟩::l) ks) fr h↔PS E O n Q (U4 k h (fX fr x) (fX fr v)) (xU (.st k x v) (fX fr)) d m l ks fr:=by rw [pf rfl];exact Eo _ _
@[simp]theorem akM (op:BinOp) (x y:X):PK E O n Q (.ops m (⟨none,d,.bin op x y⟩::l) ks) fr h↔P1 E O n Q (Kc op (fX fr x) (fX fr y)) d m l ks fr h:=oK rfl rfl rfl
@[simp]theorem aof (op:UnOp) (x:X):PK E O n Q (.ops m (⟨none,d,.un op x⟩::l) ks) fr h↔P1 E O n Q (pun op (fX fr x)) d m l ks fr h:=oK rfl rfl rfl
@[simp]theorem akN (k:IntKind) (x:X):PK E O n Q (.ops m (⟨none,d,.mJ k x⟩::l) ks) fr h↔P1 E O n Q (O9 k (fX fr x)) d m l ks fr h:=oK rfl rfl rfl
@[simp]theorem akO (x:X):PK E O n Q (.ops m (⟨none,d,.HG x⟩::l) ks) fr h↔P1 E O n Q (Pa (fX fr x)) d m l ks fr h:=oK rfl rfl rfl
@[simp]theorem abl:PK E O n Q (.ops m (⟨none,d,.mkmap⟩::l) ks) fr h↔PK E O n Q (.ops (m.up [] (fr.aT d (.mp h.length)) (h++[.map []])) l ks) (fr.aT d (.mp h.length)) (h++[.map []]):=by rw [pf rfl];simp [pop,xU]
@[simp]theorem aog (sz:Nat) (x:X) (lo hi mx:Option X):PK E O n Q (.ops m (⟨none,d,.sl sz x lo hi mx⟩::l) ks) fr h↔PO E O n Q (RO sz h (fX fr x) (lo.map (fX fr)) (hi.map (fX fr)) (mx.map (fX fr))) [] d m l ks fr:=pf rfl
@[simp]theorem aoh (off:Nat) (x:X):PK E O n Q (.ops m (⟨none,d,.fa off x⟩::l) ks) fr h↔P1 E O n Q (XD h off (fX fr x)) d m l ks fr h:=oK rfl rfl rfl
@[simp]theorem aoi (sz:Nat) (x i:X):PK E O n Q (.ops m (⟨none,d,.ia sz x i⟩::l) ks) fr h↔P1 E O n Q (pia h sz (fX fr x) (fX fr i)) d m l ks fr h:=oK rfl rfl rfl
@[simp]theorem akP (len sz:Nat) (x i:X):PK E O n Q (.ops m (⟨none,d,.rW len sz x i⟩::l) ks) fr h↔P1 E O n Q (Kd h len sz (fX fr x) (fX fr i)) d m l ks fr h:=oK rfl rfl rfl
@[simp]theorem aeG (kk:Nat) (z:Value) (x k:X) (ok:Bool):PK E O n Q (.ops m (⟨none,d,.look kk z x k ok⟩::l) ks) fr h↔P1 E O n Q (Af kk z h (fX fr x) (fX fr k) ok) d m l ks fr h:=oK rfl rfl rfl
@[simp]theorem akQ (kk:Nat) (x k v:X):PK E O n Q (.ops m (⟨none,d,.pq kk x k v⟩::l) ks) fr h↔PS E O n Q (Gs kk h (fX fr x) (fX fr k) (fX fr v)) (xU (.pq kk x k v) (fX fr)) d m l ks fr:=by rw [pf rfl];exact Eo _ _
@[simp]theorem akR (x:X) (i:Nat):PK E O n Q (.ops m (⟨none,d,.ext x i⟩::l) ks) fr h↔P1 E O n Q (Pb (fX fr x) i) d m l ks fr h:=oK rfl rfl rfl
@[simp]theorem akS (sz bytes:Nat) (s x:X):PK E O n Q (.ops m (⟨none,d,.app sz bytes s x⟩::l) ks) fr h↔PO E O n Q (sR sz bytes h (fX fr s) (fX fr x)) (xU (.app sz bytes s x) (fX fr)) d m l ks fr:=pf rfl
@[simp]theorem aeH (x:X):PK E O n Q (.ops m (⟨none,d,.fh x⟩::l) ks) fr h↔P1 E O n Q (Eb h (fX fr x)) d m l ks fr h:=oK rfl rfl rfl
@[simp]theorem akT (neg:Bool) (offs:List (Nat×Nat)) (x y:X):PK E O n Q (.ops m (⟨none,d,.eqs neg offs x y⟩::l) ks) fr h↔P1 E O n Q (Pe neg offs (fX fr x) (fX fr y)) d m l ks fr h:=oK rfl rfl rfl
@[simp]theorem aoj (k:XK) (xs:List X):PK E O n Q (.ops m (⟨none,d,.xt k xs⟩::l) ks) fr h↔P1 E O n Q (U6 k (xs.map (fX fr))) d m l ks fr h:=oK rfl rfl rfl
theorem kv {f:Nat} {«as»:List X} {args:List PV} {W:List Nat} (b:«as».map (fX fr)=args) (k:Gw E O f args h (· ∈W) (fun r a=>PK E O n Q (.ops (m.up W (fr.aT d r) a) l ks) (fr.aT d r) a)):PK E O n Q (.ops m (⟨none,d,.call f «as»⟩::l) ks) fr h:=
 .call (b▸k) fun _ _ q=>q
end
theorem KC {sz bytes b n k:Nat} {h:PH} {x:PV} {cs new:List PV} (a:h[b]?=some (.cells sz cs)) (c:n*sz=cs.length) (r:0<sz) (o:oI x=some k) (g:eB h sz k x=some new) (m:new.length=k*sz) (j:fG h x=true) (p:(n+k)*bytes≤2^47) (q:n+k<2^62):
 sR sz bytes h (.sl sz b 0 n n) x=some (.sl sz b 0 (n+k) (n+k),h.set b (.cells sz (cs++new))):=by
 have l:=(avm.1 a).1;unfold sR;rw [o];simp only;by_cases f:k=0
 ·subst f
  have:new=[]:=avJ.1 (by simpa using m);subst this
  have e:h.set b (.cells sz cs)=h:=by
   apply List.ext_getElem?;intro i;rw [List.getElem?_set];by_cases hi:b=i
   ·subst hi;rw [if_pos rfl,if_pos l,a]
   ·rw [if_neg hi]
  simp [j,a,c,e]
 ·rw [if_neg f,g]
  simp only [a];rw [if_pos ⟨trivial,trivial,r,by simpa using c,avk _,p,q⟩];by_cases d:n=0
  ·subst d
   have:cs=[]:=avJ.1 (by simpa using c.symm);subst this;simp
  ·rw [if_neg d,if_neg (by omega),if_pos trivial,avn (by omega)]
theorem Al {sz bytes k:Nat} {h:PH} {x:PV} {new:List PV} (e:0<sz) (b:oI x=some k) (a:eB h sz k x=some new) (f:0<k) (c:k*bytes≤2^47) (d:k<2^62):
 sR sz bytes h (.v (.slice none 0 0)) x=some (.sl sz h.length 0 k k,h++[.cells sz new]):=by
 unfold sR;rw [b];simp only;rw [if_neg (by omega),a];simp only;rw [if_pos ⟨e,c,d⟩]
theorem cj {E:Env} {O:kG} {n:Nat} {Q:Ex→PF→PH→Prop} {a:List Kp} {fr:PF} {m:Mp} {l:List AO} {d:Option Nat} {V:List Nat} {sz bytes b j k:Nat} {h:PH} {x:PV} {cs new:List PV} (p:h[b]?=some (.cells sz cs)) (i:oI x=some k) (c:eB h sz k x=some new) (f:j*sz=cs.length) (r:0<sz) (g:new.length=k*sz) (e:fG h x=true) (o:(j+k)*bytes≤2^47) (q:j+k<2^62)
 (next:PK E O n Q (.ops (m.up V (fr.aT d (.sl sz b 0 (j+k) (j+k))) (h.set b (.cells sz (cs++new)))) l a) (fr.aT d (.sl sz b 0 (j+k) (j+k))) (h.set b (.cells sz (cs++new)))):PO E O n Q (sR sz bytes h (.sl sz b 0 j j) x) V d m l a fr:=by
 rw [KC p f r i c g e o q];exact (abi _ _ _).2 next
attribute [simp] Ag U6 Kb RN xS U4 Ea Kc O7 O8 xT pun O9 Pa XD dk pia Kd pix Pb Ke oI Eb Af Gs Pc RO eB Ec Kf Pd U5 pmx Gt Pe Pf eg qH vQ xU fG sD vR xY.all xY.get nw
end P
namespace P
open Go Go.RowKit
def add (F:Nat→Prop) (h:PH) (φ:Nat→Nat) (A:Nat→Prop):Nat→Prop:=fun y=>F y∨∃b,A b∧aY h b∧φ b=y
def Vz (A:Nat→Prop) (h:PH) (p q:PV):Prop:=∀F H φ x,eK ⟨F,H,φ,h⟩→RV ⟨F,H,φ,h⟩ p x→RF (add F h φ A) H q x
def Ep (A:Nat→Prop) (h:PH):List PV→List PV→Prop
 |[],[]=>True
 |p::ps,q::qs=>Vz A h p q∧Ep A h ps qs
 |_,_=>False
def Vg (A:Nat→Prop) (σ:Nat→Nat) (h bs:PH) (p q:PV):Prop:=∀F H φ x,eK ⟨F,H,φ,h⟩→RV ⟨F,H,φ,h⟩ p x→RV ⟨add F h φ A,H,fun i=>φ (σ i),bs⟩ q x
def mC (A:Nat→Prop) (σ:Nat→Nat) (h bs:PH):List PV→List PV→Prop
 |[],[]=>True
 |p::ps,q::qs=>Vg A σ h bs p q∧mC A σ h bs ps qs
 |_,_=>False
variable{A:Nat→Prop} {σ:Nat→Nat} {h bs:PH}
theorem Ep.ok:∀{ps c:List PV},Ep A h ps c→∀{F H φ xs},eK ⟨F,H,φ,h⟩→dA ⟨F,H,φ,h⟩ ps xs→ju (add F h φ A) H c xs
 |[],[],_,F,H,φ,_,S,.nil=>.nil
 |p::ps,q::c,⟨a,b⟩,F,H,φ,_,S,.cons r s=>.cons (a F H φ _ S r) (Ep.ok b S s)
theorem mC.ok:∀{ps c:List PV},mC A σ h bs ps c→∀{F H φ xs},eK ⟨F,H,φ,h⟩→dA ⟨F,H,φ,h⟩ ps xs→dA ⟨add F h φ A,H,fun i=>φ (σ i),bs⟩ c xs
 |[],[],_,F,H,φ,_,S,.nil=>.nil
 |p::ps,q::c,⟨a,b⟩,F,H,φ,_,S,.cons r s=>.cons (a F H φ _ S r) (mC.ok b S s)
theorem KD {F:Nat→Prop} {H:AH} {φ:Nat→Nat} (x:Nat) (a:F x):add F h φ A x∧H.get x=H.get x:=⟨.inl a,rfl⟩
theorem Vt (x:Value):Vz A h (.v x) (.v x):=fun F H a y S R=>by cases R;exact .v _
theorem KE (sz:Nat) (rows:List (List PV)):Vz A h (.fs sz rows) (.fs sz rows):=fun F H a y S R=>by cases R with|fs q=>exact q.mono rfl KD
theorem KF (sz:Nat):Vz A h (.v (.slice none 0 0)) (.fs sz []):=fun F H b y S R=>by
 cases R;exact .fs (rows:=[]) (rs:=[]) ⟨_,_,rfl,by simp⟩ (avI _) (fun d a=>by cases a) .nil
theorem lR.of_flat {F:Nat→Prop} {H:AH} {sz:Nat}:∀{rows:List (List PV)} {ys:List Value},ju F H rows.flatten ys→(∀r∈rows,r.length=sz)→∃rs,lR F H rows rs∧rs.flatten=ys∧∀r∈rs,r.length=sz
 |[],ys,h,_=>by cases h;exact ⟨[],.nil,rfl,by simp⟩
 |r::rows,ys,h,e=>by
  rw [List.flatten_cons]at h;have f:ju F H r (ys.take sz):=by have:=h.take r.length;rwa [List.take_left,e r (by simp)]at this
  have h2:ju F H rows.flatten (ys.drop sz):=by have:=h.drop r.length;rwa [List.drop_left,e r (by simp)]at this
  obtain ⟨rs,a,b,c⟩:=lR.of_flat h2 fun q d=>e q (by simp [d])
  refine ⟨ys.take sz::rs,.cons f a,by rw [List.flatten_cons,b,List.take_append_drop],fun q d=>?_⟩;rcases avy.1 d with rfl|d
  ·rw [←f.length,e r (by simp)]
  ·exact c q d
theorem Am {sz b o n c z:Nat} {cs:List PV} {rows:List (List PV)} (C:A b) (a:h[b]?=some (.cells z cs)) (j:(o+c)*sz=cs.length) (f:0<sz) (u:sz≤z) (B:n≤c) (k:rows.length=n) (y:∀r∈rows,r.length=sz) (v:Ep A h ((cs.drop (o*sz)).take (n*sz)) rows.flatten):Vz A h (.sl sz b o n c) (.fs sz rows):=fun F H K x S R=>by
 rcases uP R a j with⟨rfl,rfl,d,rfl,Q⟩|⟨T,rfl⟩
 ·obtain rfl:rows=[]:=avJ.1 k
  exact .fs (rows:=[]) (rs:=[]) ⟨_,_,rfl,by simp⟩ (avI _) (fun e m=>⟨.inr rfl,.inl rfl⟩) .nil
 ·have p:cs≠[]:=by
   rintro rfl;have:=Nat.mul_pos (show 0<o+c by omega) f;simp at j;omega
  obtain ⟨L,l,g,D⟩:=S.cells (t:=0) a (List.length_pos_iff.2 p);have N:=g.length;obtain ⟨rs,q,J,I⟩:=lR.of_flat (v.ok S ((g.drop (o*sz)).take (n*sz))) y;have w:=q.length;have G:(o+c)*sz=o*sz+c*sz:=Nat.add_mul ..;rw [←k];refine .fs (rs:=rs) ⟨_,_,by rw [w],fun i r hi=>⟨_,_,rfl,?_⟩⟩ (by omega) (fun e m=>?_) q
  ·obtain ⟨E,U⟩:=jO I hi
   have P:=(avm.1 hi).1;have s:(i+1)*sz≤n*sz:=Nat.mul_le_mul_right _ (by omega);have M:n*sz≤c*sz:=Nat.mul_le_mul_right _ B;rw [Nat.succ_mul]at s;rw [b9 l D (by omega),←E,J,List.drop_take,List.drop_drop,List.take_take,Nat.min_eq_left (by omega)]
  ·cases m
   refine ⟨.inl rfl,?_⟩;by_cases O:n=0
   ·left;omega
   ·right
    refine ⟨.inr ⟨b,C,cz a p,rfl⟩,?_⟩;unfold AH.lS;rw [l];simp [u]
theorem oL {p q:PV} (k:Vz A h p q):Vg A σ h bs p q:=fun F H a x S R=>(k F H a x S R).sy (C:=⟨_,_,_,_⟩)
theorem KG (p:PV):Vg A σ h bs p .any:=fun F H a x S R=>.any x
@[simp]theorem aeI (p:PV):Vg A σ h bs p .any↔True:=⟨fun _=>trivial,fun _=>KG p⟩
@[simp]theorem akU (x:Value):Vg A σ h bs (.v x) (.v x)↔True:=⟨fun _=>trivial,fun _=>oL (Vt x)⟩
@[simp]theorem KJ (sz:Nat) (rows:List (List PV)):Vg A σ h bs (.fs sz rows) (.fs sz rows)↔True:=⟨fun _=>trivial,fun _=>oL (KE sz rows)⟩
@[simp]theorem Vu (sz:Nat):Vg A σ h bs (.v (.slice none 0 0)) (.fs sz [])↔True:=⟨fun _=>trivial,fun _=>oL (KF sz)⟩
@[simp]theorem aok (x:Value):Vz A h (.v x) (.v x)↔True:=⟨fun _=>trivial,fun _=>Vt x⟩
@[simp]theorem akV (sz:Nat) (rows:List (List PV)):Vz A h (.fs sz rows) (.fs sz rows)↔True:=⟨fun _=>trivial,fun _=>KE sz rows⟩
@[simp]theorem aeJ (sz:Nat):Vz A h (.v (.slice none 0 0)) (.fs sz [])↔True:=⟨fun _=>trivial,fun _=>KF sz⟩
@[simp]theorem aeK:Ep A h [] []↔True:=Iff.rfl
@[simp]theorem abm (p q:PV) (ps qs:List PV):Ep A h (p::ps) (q::qs)↔Vz A h p q∧Ep A h ps qs:=Iff.rfl
@[simp]theorem aeL:mC A σ h bs [] []↔True:=Iff.rfl
@[simp]theorem KM (p q:PV) (ps qs:List PV):mC A σ h bs (p::ps) (q::qs)↔Vg A σ h bs p q∧mC A σ h bs ps qs:=Iff.rfl
@[simp]theorem abn (cells:List PV):Vg A σ h bs (.fp cells) (.fp cells)↔True:=⟨fun _=>trivial,fun _ F H d x S R=>by
 cases R with|fp a b c=>exact .fp (.inl a) b (c.mono rfl KD)⟩
theorem KN {ps a:List PV} (k:mC A σ h bs ps a):Vg A σ h bs (.agg ps) (.agg a):=fun F H b x S R=>by cases R with|agg r=>exact .agg (k.ok S r)
theorem Cs {ps a:List PV} (k:mC A σ h bs ps a):Vg A σ h bs (.hZ ps) (.hZ a):=fun F H b x S R=>by cases R with|hZ r=>exact .hZ (k.ok S r)
theorem abo {f:Nat} {ps b ps' a:List PV} (k:mC A σ h bs ps b) (d:mC A σ h bs ps' a):Vg A σ h bs (.fn f ps ps') (.fn f b a):=fun F H e x S R=>by cases R with|fn r c=>exact .fn (k.ok S r) (d.ok S c)
theorem Vv {t:Nat} {p q:PV} (k:Vg A σ h bs p q):Vg A σ h bs (.rG t p) (.rG t q):=fun F H a x S R=>by cases R with|rG r=>exact .rG (k F H a _ S r)
theorem mg {h:PH} {b T t:Nat} (e:dk h b=some T):At h b t↔T=t:=by
 unfold dk at e;split at e
 ·rename_i z cs a
  cases e;constructor
  ·rintro ⟨c,d,e,rfl⟩;rw [a]at e;cases e;rfl
  ·rintro rfl;exact ⟨z,cs,a,rfl⟩
 ·cases e
theorem mi {h:PH} {b T t:Nat} (e:dk h b=some T):Le h b t↔t≤T:=by
 unfold dk at e;split at e
 ·rename_i z cs a
  cases e;exact ⟨fun k=>k z cs a,fun k c d e=>by rw [a]at e;cases e;exact k⟩
 ·cases e
theorem xZ {h:PH} {b T:Nat} (e:dk h b=some T):b<h.length:=by
 unfold dk at e;split at e
 ·rename_i z cs a;exact (avm.1 a).1
 ·cases e
theorem Vw {b i o t T:Nat} (c:dk h b=some T) (h2:dk bs i=some T) (hs:σ i=b):Vg A σ h bs (.ref b o t) (.ref i o t):=fun F H f x S R=>by
 cases R with|ref a g d e=>
 subst hs;refine .ref a (xZ h2) ((mi h2).2 ((mi c).1 d)) fun k=>?_
 exact e ((mg c).2 ((mg h2).1 k))
theorem RU {b i sz o n c T:Nat} (d:dk h b=some T) (h2:dk bs i=some T) (hs:σ i=b):Vg A σ h bs (.sl sz b o n c) (.sl sz i o n c):=fun F H g x S R=>by
 cases R with|sl a j e f=>
 subst hs;refine .sl a (xZ h2) ((mi h2).2 ((mi d).1 e)) fun k=>?_
 exact f ((mg d).2 ((mg h2).1 k))
theorem Er {sz i z:Nat} (h2:bs[i]?=some (.cells z [])):Vg A σ h bs (.v (.slice none 0 0)) (.sl sz i 0 0 0):=fun F H a x S R=>by
 cases R;have e:dk bs i=some 0:=by unfold dk;rw [h2];rfl
 exact .sl ⟨_,_,rfl⟩ (xZ e) ((mi e).2 (by simp)) fun _=>.inl ⟨rfl,rfl,none,rfl,by simp⟩
theorem abp {b i:Nat} {es es':List (Value×PV)} (d:h[b]?=some (.map es)) (h2:bs[i]?=some (.map es')) (hs:σ i=b):Vg A σ h bs (.mp b) (.mp i):=fun F H e x S R=>by
 cases R with|mp a f c=>
 subst hs;refine .mp a ((avm.1 h2).1) fun k=>?_
 exact c ⟨es,d⟩
def pg (A:Nat→Prop) (σ:Nat→Nat) (h bs:PH) (o:Option PB):PB→Prop
 | .cells z qs=>qs=[]∨∃ps,o=some (.cells z ps)∧mC A σ h bs ps qs
 | .map fs=>∃es,o=some (.map es)∧es.map (·.1)=fs.map (·.1)∧mC A σ h bs (es.map (·.2)) (fs.map (·.2))
 | .dead=>True
structure iU (A:Nat→Prop) (σ:Nat→Nat) (h bs:PH):Prop where
 aX:∀i P,bs[i]?=some P→pg A σ h bs h[σ i]? P
 inj:∀i j,i<bs.length→j<bs.length→aY bs i→aY bs j→σ i=σ j→i=j
 off:∀i,i<bs.length→aY bs i→¬ A (σ i)
theorem mC.length:∀{ps a:List PV},mC A σ h bs ps a→ps.length=a.length
 |[],[],_=>rfl
 |_::_,_::_,⟨_,b⟩=>by simp [mC.length b]
theorem iU.aY (K:iU A σ h bs) {i:Nat} (s:P.aY bs i):P.aY h (σ i):=by
 rcases lL s with⟨es,e⟩|⟨z,cs,e,b⟩
 ·obtain ⟨d,a,_⟩:=K.aX i _ e
  exact fx a
 ·rcases K.aX i _ e with q|⟨ps,a,c⟩
  ·exact absurd q b
  ·exact cz a (by rintro rfl;have:=c.length;exact b (avJ.1 this.symm))
theorem iU.ok (K:iU A σ h bs) {F:Nat→Prop} {H:AH} {φ:Nat→Nat} (S:eK ⟨F,H,φ,h⟩):eK ⟨add F h φ A,H,fun i=>φ (σ i),bs⟩where
 wf:=S.wf
 fz:=fun x l=>by
  rcases l with l|⟨b,_,f,rfl⟩
  ·exact S.fz x l
  ·exact S.lt f
 inj:=fun i j s t e=>K.inj i j (aW s) (aW t) s t (S.inj _ _ (K.aY s) (K.aY t) e)
 aX:=fun i z y e m=>by
  have s:=cz e m;rcases K.aX i _ e with q|⟨ps,p,k⟩
  ·exact absurd q m
  obtain ⟨u,a,b,c,d⟩:=S.aX (σ i) z ps p (by rintro rfl;have:=k.length;exact m (avJ.1 this.symm));refine ⟨u,a,k.ok S b,c,?_⟩;rintro (q|⟨w,n,f,o⟩)
  ·exact d q
  ·exact K.off i (aW s) s (S.inj _ _ f (K.aY s) o▸n)
 Ae:=fun i B e=>by
  have s:=fx e;obtain ⟨es,p,v,k⟩:=K.aX i _ e;obtain ⟨r,a,b,c,d,g⟩:=S.Ae (σ i) es p;refine ⟨r,a,v.symm.trans b,k.ok S c,d,?_⟩;rintro (q|⟨w,n,f,o⟩)
  ·exact g q
  ·exact K.off i (aW s) s (S.inj _ _ f (K.aY s) o▸n)
theorem iU.none (A:Nat→Prop) (σ:Nat→Nat) (h:PH):iU A σ h []:=⟨fun i P e=>by simp at e,fun i j hi=>by simp at hi,fun i hi=>by simp at hi⟩
mutual
def sh (k:Nat):PV→PV
 | .ref b o t=>.ref (b+k) o t
 | .sl sz b o n c=>.sl sz (b+k) o n c
 | .mp b=>.mp (b+k)
 | .agg cs=>.agg (Bk k cs)
 | .hZ cs=>.hZ (Bk k cs)
 | .fn f a b=>.fn f (Bk k a) (Bk k b)
 | .rG t p=>.rG t (sh k p)
 | .v x=>.v x
 | .fs sz rows=>.fs sz rows
 | .fp cells=>.fp cells
 | .any=>.any
def Bk (k:Nat):List PV→List PV
 |[]=>[]
 |p::ps=>sh k p::Bk k ps
end
def uT (k:Nat):PB→PB
 | .cells z cs=>.cells z (Bk k cs)
 | .map es=>.map (es.map fun e=>(e.1,sh k e.2))
 | .dead=>.dead
theorem kz (k:Nat):∀l:List PV,(Bk k l).length=l.length
 |[]=>rfl
 |_::l=>by simp [Bk,kz k l]
theorem Es (k:Nat):∀es:List (Value×PV),(es.map fun e=>(e.1,sh k e.2)).map (·.2)=Bk k (es.map (·.2))
 |[]=>rfl
 |_::l=>by simp only [List.map_cons,Bk,Es k l]
theorem qJ {h bs:PH} (b:Nat):(h++bs.map (uT h.length))[b+h.length]?=(bs[b]?).map (uT h.length):=by
 rw [avx (by omega),Nat.add_sub_cancel,avK]
theorem KO {h bs:PH} {b t:Nat}:At (h++bs.map (uT h.length)) (b+h.length) t↔At bs b t:=by
 unfold At;rw [qJ];constructor
 ·rintro ⟨z,cs,e,rfl⟩
  obtain ⟨P,a,e⟩:=avq.1 e
  cases P with
  |cells d c=>cases e;exact ⟨_,c,a,(kz _ _).symm⟩
  |_=>cases e
 ·rintro ⟨z,cs,e,rfl⟩
  exact ⟨z,Bk h.length cs,by rw [e];rfl,kz _ _⟩
theorem RW {h bs:PH} {b t:Nat}:Le (h++bs.map (uT h.length)) (b+h.length) t↔Le bs b t:=by
 unfold Le;rw [qJ];constructor
 ·intro k z cs e
  have:=k z (Bk h.length cs) (by rw [e];rfl);rwa [kz]at this
 ·intro k z cs e
  obtain ⟨P,a,e⟩:=avq.1 e
  cases P with
  |cells d c=>cases e;rw [kz];exact k _ c a
  |_=>cases e
theorem An {h bs:PH} {b:Nat}:dh (h++bs.map (uT h.length)) (b+h.length)↔dh bs b:=by
 unfold dh;rw [qJ];constructor
 ·rintro ⟨es,e⟩
  obtain ⟨P,c,e⟩:=avq.1 e
  cases P with
  |map a=>exact ⟨a,c⟩
  |_=>cases e
 ·rintro ⟨es,e⟩
  exact ⟨_,by rw [e];rfl⟩
theorem KP {h bs:PH} {b:Nat}:aY (h++bs.map (uT h.length)) (b+h.length)↔aY bs b:=by
 unfold aY;simp only [An,KO]
def join (h:PH) (φ ψ:Nat→Nat):Nat→Nat:=fun b=>if b<h.length then φ b else ψ (b- h.length)
theorem tk (h:PH) (φ ψ:Nat→Nat) (b:Nat):join h φ ψ (b+h.length)=ψ b:=by
 unfold join;rw [if_neg (by omega),Nat.add_sub_cancel]
theorem x7 {h:PH} {φ ψ:Nat→Nat} {b:Nat} (a:b<h.length):join h φ ψ b=φ b:=if_pos a
theorem KQ {h bs:PH} {b:Nat} (a:b<bs.length):b+h.length<(h++bs.map (uT h.length)).length:=by
 rw [avp,List.length_map];omega
mutual
theorem Eu {F:Nat→Prop} {H:AH} {φ ψ:Nat→Nat} {h bs:PH}:∀{p:PV} {x:Value},RV ⟨F,H,ψ,bs⟩ p x→RV ⟨F,H,join h φ ψ,h++bs.map (uT h.length)⟩ (sh h.length p) x
 |_,_, .v x=> .v x
 |_,_, .ref a d f e=> .ref a (KQ d) (RW.2 f) fun k=>by
  have:=e (KO.1 k)
  simpa [tk]using this
 |_,_, .sl a d f e=> .sl a (KQ d) (RW.2 f) fun k=>by
  have:=e (KO.1 k)
  simpa [tk]using this
 |_,_, .mp a d e=> .mp a (KQ d) fun k=>by
  have:=e (An.1 k)
  simpa [tk]using this
 |_,_, .fs k=> .fs k
 |_,_, .fp a b c=> .fp a b c
 |_,_, .agg k=> .agg (pQ k)
 |_,_, .hZ k=> .hZ (pQ k)
 |_,_, .fn a b=> .fn (pQ a) (pQ b)
 |_,_, .rG a=> .rG (Eu a)
 |_,_, .any x=> .any x
theorem pQ {F:Nat→Prop} {H:AH} {φ ψ:Nat→Nat} {h bs:PH}:∀{p:List PV} {x:List Value},dA ⟨F,H,ψ,bs⟩ p x→dA ⟨F,H,join h φ ψ,h++bs.map (uT h.length)⟩ (Bk h.length p) x
 |_,_, .nil=> .nil
 |_,_, .cons a b=> .cons (Eu a) (pQ b)
end
end P
namespace P
open Go Go.RowKit
variable{E:Env} {O:kG}
def bR (h:PH):List Nat→PH
 |[]=>h
 |b::L=>bR (h.set b .dead) L
theorem iA:∀(L:List Nat) (h:PH),(bR h L).length=h.length
 |[],h=>rfl
 |b::L,h=>by rw [bR,iA L];simp
theorem lM:∀(L:List Nat) (h:PH) (c:Nat),(bR h L)[c]?=if c∈L∧c<h.length then some .dead else h[c]?
 |[],h,c=>by simp [bR]
 |b::L,h,c=>by
  rw [bR,lM L];by_cases d:c<h.length
  ·by_cases a:c∈L
   ·simp [a,d]
   ·by_cases h2:c=b
    ·subst h2;simp [a,d]
    ·rw [if_neg (fun q=>a q.1),if_neg (fun q=>(avy.1 q.1).elim h2 a),fW h2]
  ·rw [if_neg (by simp;omega),if_neg (by simp;omega),avV (by simp;omega),avV (by omega)]
theorem kA {h:PH} {L:List Nat} {b:Nat} (s:aY (bR h L) b):aY h b∧b∉L:=by
 have d:=aW s;rw [iA]at d;have e:=lM L h b;by_cases a:b∈L
 ·rw [if_pos ⟨a,d⟩]at e
  rcases lL s with⟨es,c⟩|⟨z,cs,c,_⟩<;>rw [e]at c<;>cases c
 ·rw [if_neg (fun q=>a q.1)]at e
  exact ⟨(dC e).1 s,a⟩
theorem wB {F:Nat→Prop} {H:AH} {φ:Nat→Nat} {h:PH} (S:eK ⟨F,H,φ,h⟩) (L:List Nat):eK ⟨add F h φ (· ∈L),H,φ,bR h L⟩∧dR h.length (fun _=>False) ⟨F,H,φ,h⟩ ⟨add F h φ (· ∈L),H,φ,bR h L⟩:=by
 have same:∀b,b∉L→(bR h L)[b]?=h[b]?:=fun b f=>by rw [lM,if_neg (fun q=>f q.1)]
 have dead:∀b,b∈L→b<h.length→(bR h L)[b]?=some .dead:=fun b f g=>by rw [lM,if_pos ⟨f,g⟩]
 have T:dR h.length (fun _=>False) ⟨F,H,φ,h⟩ ⟨add F h φ (· ∈L),H,φ,bR h L⟩:={
  n0:=rfl
  nx:=avk _
  fz:=fun x i=>⟨.inl i,rfl⟩
  fo:=fun x i hi n=>by
   rcases n with n|⟨b,_,s,rfl⟩
   ·exact n
   ·exact absurd ⟨b,trivial,s,rfl⟩ hi
  out:=fun _ _ _=>rfl
  loc:=fun b f=>.inr ⟨(kA f).1,rfl⟩
  len:=fun k=>by rw [iA];exact k
  le:=fun b _ g t v=>by
   by_cases f:b∈L
   ·intro z cs e;rw [dead b f g]at e;cases e
   ·exact (sB (same b f)).2 v
  vP:=fun b _ g t _ j=>by
   by_cases f:b∈L
   ·obtain ⟨z,cs,e,_⟩:=j;rw [dead b f g]at e;cases e
   ·exact ⟨(sA (same b f)).1 j,rfl⟩
  wz:=fun b _ g j=>by
   by_cases f:b∈L
   ·obtain ⟨es,e⟩:=j;rw [dead b f g]at e;cases e
   ·exact ⟨(fV (same b f)).1 j,rfl⟩}
 have o:∀b,aY h b→b∉L→¬ add F h φ (· ∈L) (φ b):=by
  rintro b s f (q|⟨l,w,m,e⟩)
  ·exact (S.old s).2 q
  ·exact f (S.inj _ _ m s e▸w)
 refine ⟨⟨S.wf,fun x i=>?_,fun b l s m e=>S.inj _ _ (kA s).1 (kA m).1 e,fun b z cs e p=>?_,fun b es e=>?_⟩,T⟩
 ·rcases i with i|⟨b,_,s,rfl⟩
  ·exact S.fz x i
  ·exact S.lt s
 ·obtain ⟨s,f⟩:=kA (cz e p)
  rw [show(bR h L)[b]?=_ from same b f]at e;obtain ⟨u,a,l,c,_⟩:=S.aX b z cs e p;exact ⟨u,a,l.step T,c,o b s f⟩
 ·obtain ⟨s,f⟩:=kA (fx e)
  rw [show(bR h L)[b]?=_ from same b f]at e;obtain ⟨r,a,l,c,d,_⟩:=S.Ae b es e;exact ⟨r,a,l,c.step T,d,o b s f⟩
theorem Ew {F p:Nat→Prop} {H H':AH} {φ ψ:Nat→Nat} {h f:PH} {W:Nat→Prop} (S:eK ⟨F,H,φ,h⟩) (v:eK ⟨p,H',ψ,f⟩) (T:dR 0 qZ ⟨F,H,φ,[]⟩ ⟨p,H',ψ,f⟩):
 eK ⟨p,H',join h φ ψ,h++f.map (uT h.length)⟩∧dR h.length W ⟨F,H,φ,h⟩ ⟨p,H',join h φ ψ,h++f.map (uT h.length)⟩:=by
 have M:∀{V:Nat→Prop} {x:Nat},¬ im ⟨F,H,φ,[]⟩ V x:=by
  rintro V x ⟨b,_,s,_⟩;have:=aW s;simp at this
 have same:∀x,x<H.nx→H'.get x=H.get x:=fun x m=>T.out x m M
 have fo:∀x,x<H.nx→p x→F x:=fun x m B=>T.fo x m M B
 have lo:∀{b},b<h.length→(h++f.map (uT h.length))[b]?=h[b]?:=fun d=>avt d
 have new:∀b,aY f b→H.nx≤ψ b:=fun b s=>by
  rcases T.loc b s with q|⟨q,_⟩
  ·exact q
  ·have:=aW q;simp at this
 have split:∀b,aY (h++f.map (uT h.length)) b→(b<h.length∧aY h b∧join h φ ψ b=φ b)∨∃c,b=c+h.length∧aY f c∧join h φ ψ b=ψ c:=by
  intro b s;by_cases d:b<h.length
  ·exact .inl ⟨d,(dC (lo d)).1 s,x7 d⟩
  ·refine .inr ⟨b- h.length,by omega,?_,?_⟩
   ·rw [show b=(b- h.length)+h.length by omega]at s
    exact KP.1 s
   ·rw [show b=(b- h.length)+h.length by omega,tk,Nat.add_sub_cancel]
 have K:dR h.length W ⟨F,H,φ,h⟩ ⟨p,H',join h φ ψ,h++f.map (uT h.length)⟩:={
  n0:=T.n0
  nx:=T.nx
  fz:=T.fz
  fo:=fun x m _ B=>fo x m B
  out:=fun x m _=>same x m
  loc:=fun b d=>by
   rcases split b d with⟨r,h2,a⟩|⟨c,rfl,h2,a⟩
   ·exact .inr ⟨h2,a⟩
   ·left;show _≤join h φ ψ _;rw [a];exact new c h2
  len:=fun _=>by simp
  le:=fun b d _ t Q=>(sB (lo d)).2 Q
  vP:=fun b d _ t _ D=>⟨(sA (lo d)).1 D,x7 d⟩
  wz:=fun b d _ D=>⟨(fV (lo d)).1 D,x7 d⟩}
 refine ⟨⟨v.wf,v.fz,fun b J s L e=>?_,fun b z cs e C=>?_,fun b es e=>?_⟩,K⟩
 ·dsimp only at e
  rcases split b s with⟨r,h2,a⟩|⟨c,rfl,h2,a⟩
  ·rcases split J L with⟨R,o,n⟩|⟨N,rfl,o,n⟩
   ·rw [a,n]at e;exact S.inj _ _ h2 o e
   ·rw [a,n]at e
    have X:φ b<H.nx:=S.lt h2;have:=new N o;omega
  ·rcases split J L with⟨R,o,n⟩|⟨N,rfl,o,n⟩
   ·rw [a,n]at e
    have X:φ J<H.nx:=S.lt o;have:=new c h2;omega
   ·rw [a,n]at e
    rw [v.inj _ _ h2 o e]
 ·rcases split b (cz e C)with⟨r,h2,a⟩|⟨c,rfl,h2,a⟩
  ·have g:=e
   rw [show(h++f.map (uT h.length))[b]?=_ from lo r]at g;obtain ⟨y,l,k,j,i⟩:=S.aX b z cs g C;dsimp only;rw [a];exact ⟨y,(same _ (S.lt h2)).trans l,k.step K,T.n0▸j,fun q=>i (fo _ (S.lt h2) q)⟩
  ·have g:=e
   rw [show(h++f.map (uT h.length))[c+h.length]?=_ from qJ c]at g;obtain ⟨P,G,u⟩:=avq.1 g
   cases P with
   |cells Y U=>
    cases u;obtain ⟨y,l,k,j,i⟩:=v.aX c _ U G (by rintro rfl;exact C rfl);dsimp only;rw [a];exact ⟨y,l,pQ k,j,i⟩
   |_=>cases u
 ·rcases split b (fx e)with⟨r,h2,a⟩|⟨c,rfl,h2,a⟩
  ·have g:=e
   rw [show(h++f.map (uT h.length))[b]?=_ from lo r]at g;obtain ⟨w,l,k,j,i,A⟩:=S.Ae b es g;dsimp only;rw [a];exact ⟨w,(same _ (S.lt h2)).trans l,k,j.step K,T.n0▸i,fun q=>A (fo _ (S.lt h2) q)⟩
  ·have g:=e
   rw [show(h++f.map (uT h.length))[c+h.length]?=_ from qJ c]at g;obtain ⟨P,G,u⟩:=avq.1 g
   cases P with
   |map I=>
    cases u;obtain ⟨w,l,k,j,i,A⟩:=v.Ae c I G;dsimp only;rw [a];refine ⟨w,l,?_,?_,i,A⟩
    ·rw [←k];simp [List.map_map,Function.comp_def]
    ·rw [Es];exact pQ j
   |_=>cases u
theorem fM.pure {f:Nat} {args d:List PV} {h:PH} (L:List Nat) {R:PV→PH→Prop} (k:fM E O f d [] R) (j:mC (· ∈L) id h [] args d):
 Gw E O f args h (· ∈[]) (fun r n=>∃a b,R a b∧r=sh h.length a∧n=bR h L++b.map (uT h.length)):=by
 intro F H φ i S u;obtain ⟨s,o⟩:=wB S L;have t:=(iU.none (· ∈L) id h).ok S;refine (k _ H _ i t (j.ok S u)).mono ?_;rintro x y ⟨a,b,v,w,m,l,p,T⟩;obtain ⟨g,e⟩:=Ew (W:=(· ∈[])) s p T;have c:=iA L h;rw [c]at g e;refine ⟨_,_,v,_,⟨a,b,m,rfl,rfl⟩,?_,g,(o.trans e (by exact avk _) (fun _ q=>q.elim) (fun _ q=>q))⟩;have:=Eu (φ:=φ) (h:=bR h L) l;rw [c]at this;exact this
mutual
def ph:PV→Bool
 | .v _=>true
 | .agg cs=>kB cs
 | .hZ cs=>kB cs
 | .rG _ p=>ph p
 |_=>false
def kB:List PV→Bool
 |[]=>true
 |p::ps=>ph p&&kB ps
end
mutual
theorem uU {C D:Cx}:∀{p:PV} {x:Value},ph p=true→RV C p x→RV D p x
 |_,_,_,.v x=>.v x
 |_,_,k,.agg r=>.agg (oy (by simpa [ph]using k) r)
 |_,_,k,.hZ r=>.hZ (oy (by simpa [ph]using k) r)
 |_,_,k,.rG r=>.rG (uU (by simpa [ph]using k) r)
theorem oy {C D:Cx}:∀{p:List PV} {x:List Value},kB p=true→dA C p x→dA D p x
 |_,_,_,.nil=>.nil
 |_,_,k,.cons a b=>by
  simp only [kB,avj]at k;exact .cons (uU k.1 a) (oy k.2 b)
end
theorem fM.flat {f:Nat} {args j:List PV} {h:PH} {R:PV→PH→Prop} (k:fM E O f j [] R) (q:mC qZ id h [] args j) (v:∀r d,R r d→ph r=true):
 Gw E O f args h (· ∈[]) (fun r w=>(∃d,R r d)∧w=h):=by
 intro F H a n S A;have y:=(iU.none qZ id h).ok S;refine (k _ H _ n y (q.ok S A)).mono ?_;rintro x m ⟨r,d,D,B,i,t,C,T⟩
 have p:∀{V:Nat→Prop} {x:Nat} {F:Nat→Prop} {a:Nat→Nat},¬ im ⟨F,H,a,[]⟩ V x:=by
  rintro V x F a ⟨b,_,s,_⟩;have:=aW s;simp at this
 have same:∀x,x<H.nx→m.get x=H.get x:=fun x c=>T.out x c p
 have l:dR h.length (· ∈[]) ⟨F,H,a,h⟩ ⟨F,m,a,h⟩:={
  n0:=T.n0
  nx:=T.nx
  fz:=fun x c=>⟨c,same x (S.fz x c)⟩
  fo:=fun _ _ _ h=>h
  out:=fun x c _=>same x c
  loc:=fun b u=>.inr ⟨u,rfl⟩
  len:=id
  le:=fun _ _ _ _ h=>h
  vP:=fun _ _ _ _ _ h=>⟨h,rfl⟩
  wz:=fun _ _ _ h=>⟨h,rfl⟩}
 have e:∀{P:PB},h[h.length]?≠some P:=by intro P;simp
 refine ⟨r,h,F,a,⟨⟨d,i⟩,rfl⟩,uU (v r d i) t,S.of l rfl h.length (fun _ _=>⟨rfl,rfl⟩) (fun b _ s=>same _ (S.lt s)) (fun b _ s o=>?_) (fun z cs g=>absurd g e) (fun es g=>absurd g e),l⟩;exact absurd (aW o) (Nat.lt_irrefl _)
def kC (A:Nat→Prop) (σ:Nat→Nat) (h bs:PH):Nat→PH→Prop
 |_,[]=>True
 |i,P::l=>pg A σ h bs h[σ i]? P∧kC A σ h bs (i+1) l
@[simp]theorem XH (A:Nat→Prop) (a:Nat→Nat) (h b:PH) (i:Nat):kC A a h b i []↔True:=Iff.rfl
@[simp]theorem VA (A:Nat→Prop) (a:Nat→Nat) (h b:PH) (i:Nat) (P:PB) (l:PH):kC A a h b i (P::l)↔pg A a h b h[a i]? P∧kC A a h b (i+1) l:=Iff.rfl
theorem kC.ok {A:Nat→Prop} {a:Nat→Nat} {h b:PH}:∀{l:PH} {i:Nat},kC A a h b i l→∀j P,l[j]?=some P→pg A a h b h[a (i+j)]? P
 |[],i,_,j,P,e=>by simp at e
 |Q::l,i,k,0,P,e=>by simp at e;subst e;exact k.1
 |Q::l,i,k,j+1,P,e=>by
  have:=kC.ok k.2 j P (by simpa using e);rwa [show i+1+j=i+(j+1) by omega]at this
theorem iU.id' {h bs:PH} (k:kC (fun _=>False) id h bs 0 bs):iU (fun _=>False) id h bs:=
 ⟨fun i P e=>by simpa using k.ok i P e,fun i j _ _ _ _ e=>e,fun _ _ _ q=>q⟩
theorem iU.at {A:Nat→Prop} {h bs:PH} (L:List Nat) (l:L.length=bs.length) (a:L.Nodup) (g:∀b∈L,¬ A b) (k:kC A (fun i=>L.getD i 0) h bs 0 bs):iU A (fun i=>L.getD i 0) h bs:=by
 refine ⟨fun i P e=>by simpa using k.ok i P e,fun i j hi c _ _ e=> ?_,fun i hi _=>g _ ?_⟩
 · rw [List.getD_eq_getElem?_getD,List.getD_eq_getElem?_getD,avg (by omega),avg (by omega)]at e
   have f:i<L.length:=by omega
   have d:j<L.length:=by omega
   simp only [Option.getD_some]at e
   have key:∀(L:List Nat),L.Nodup→∀(i j:Nat) (hi:i<L.length) (c:j<L.length),L[i]=L[j]→i=j:=by
    intro L
    induction L with
    |nil=>intro _ i j hi;simp at hi
    |cons x L ih=>
     intro a i j hi c e;rw [List.nodup_cons]at a
     cases i with
     |zero=>cases j with
      |zero=>rfl
      |succ j=>simp only [List.getElem_cons_zero,List.getElem_cons_succ]at e;exact absurd (e▸List.getElem_mem _) a.1
     |succ i=>cases j with
      |zero=>simp only [List.getElem_cons_zero,List.getElem_cons_succ]at e;exact absurd (e▸List.getElem_mem _) a.1
      |succ j=>
       simp only [List.getElem_cons_succ]at e;rw [ih a.2 i j (by simpa using hi) (by simpa using c) e]
   exact key L a i j f d e
 · rw [List.getD_eq_getElem?_getD,avg (by omega)]
   exact List.getElem_mem _
@[simp]theorem RX (A:Nat→Prop) (b:Nat→Nat) (h d:PH) (z c:Nat) (ps a:List PV):pg A b h d (some (.cells z ps)) (.cells c a)↔a=[]∨(z=c∧mC A b h d ps a):=by
 unfold pg;constructor
 ·rintro (q|⟨f,e,k⟩)
  ·exact .inl q
  ·cases e;exact .inr ⟨rfl,k⟩
 ·rintro (q|⟨rfl,k⟩)
  ·exact .inl q
  ·exact .inr ⟨_,rfl,k⟩
@[simp]theorem VB (A:Nat→Prop) (a:Nat→Nat) (h b:PH) (o:Option PB):pg A a h b o .dead↔True:=Iff.rfl
@[simp]theorem VC (A:Nat→Prop) (a:Nat→Nat) (h b:PH) (o:Option PB) (z:Nat):pg A a h b o (.cells z [])↔True:=⟨fun _=>trivial,fun _=>.inl rfl⟩
@[simp]theorem XI (A:Nat→Prop) (a:Nat→Nat) (h b:PH) (es fs:List (Value×PV)):pg A a h b (some (.map es)) (.map fs)↔es.map (·.1)=fs.map (·.1)∧mC A a h b (es.map (·.2)) (fs.map (·.2)):=by
 unfold pg;constructor
 ·rintro ⟨c,e,k⟩;cases e;exact k
 ·exact fun k=>⟨_,rfl,k⟩
def Ms:Option PB→Option PB→Prop
 |some (.cells _ cs),some (.cells _ dL)=>cs.length=dL.length
 |_,_=>False
@[simp]theorem aom (z b:Nat) (cs a:List PV):Ms (some (.cells z cs)) (some (.cells b a))↔cs.length=a.length:=Iff.rfl
theorem Ao {h g:PH} {A:Nat→Prop} {f:Nat→Nat} (K:iU A f h g) {F:Nat→Prop} {H:AH} {φ:Nat→Nat} {C0:Cx} (k:C0.h.length=0) (T:dR 0 qZ C0 ⟨F,H,φ,h⟩):dR 0 qZ C0 ⟨add F h φ A,H,fun i=>φ (f i),g⟩:=by
 have j:C0.h=[]:=avJ.1 k;have no:∀{b:Nat},¬ aY C0.h b:=fun s=>by have:=aW s;omega
 refine ⟨T.n0,T.nx,fun y c=>⟨.inl (T.fz y c).1,(T.fz y c).2⟩,fun y c hi d=>?_,T.out,fun b a=>?_,fun _=>avI _,fun b a=>absurd a (avG _),fun b a=>absurd a (avG _),fun b a=>absurd a (avG _)⟩
 ·rcases d with d|⟨b,_,s,e⟩
  ·exact T.fo y c hi d
  ·rcases T.loc b s with q|⟨q,_⟩
   ·dsimp only at q;omega
   ·exact absurd q no
 ·rcases T.loc _ (K.aY a)with q|⟨q,_⟩
  ·exact .inl q
  ·exact absurd q no
theorem uV {r b:PV} {h bs:PH} (A:Nat→Prop) (a:Nat→Nat) (K:iU A a h bs) (V:Vg A a h bs r b):En 0 r h b bs:=by
 intro F H c x S R;exact ⟨_,_,K.ok S,V F H c x S R,fun e d T=>Ao K d T⟩
theorem KR {n:Nat} {r u:PV} {h bs:PH} (i:Nat→Nat) (K:iU (fun _=>False) i h bs) (V:Vg (fun _=>False) i h bs r u) (A:n≤bs.length) (k:∀b,b<n→i b=b∧(dk bs b=none∨dk bs b=dk h b)∧(dh bs b→dh h b)) (h2:∀b,n≤b→b<bs.length→n≤i b) (B:∀b,b<n→∀t,Le h b t→Le bs b t):En n r h u bs:=by
 intro F H w x S R;refine ⟨_,_,K.ok S,V F H w x S R,fun G D T=>?_⟩
 have s:∀{h:PH} {b t:Nat},At h b t↔dk h b=some t:=by
  intro h b t;constructor
  ·rintro ⟨z,cs,e,rfl⟩;unfold dk;rw [e]
  ·intro e;exact (mg e).2 rfl
 refine ⟨T.n0,T.nx,fun y j=>⟨.inl (T.fz y j).1,(T.fz y j).2⟩,fun y j hi o=>?_,T.out,fun b a=>?_,fun _=>A,fun b a f t m=>B b a t (T.le b a f t m),fun b a f t m c=>?_,fun b a f c=>?_⟩
 ·rcases o with o|⟨b,q,_⟩
  ·exact T.fo y j hi o
  ·exact q.elim
 ·rcases T.loc _ (K.aY a)with q|⟨q,e⟩
  ·exact .inl q
  ·by_cases v:b<n
   ·rw [(k b v).1]at q e
    exact .inr ⟨q,by dsimp only;rw [(k b v).1];exact e⟩
   ·have:=h2 b (by omega) (aW a)
    have:=aW q;omega
 ·obtain ⟨p,g,_⟩:=k b a
  rw [s]at c
  have e:dk h b=some t:=by
   rcases g with g|g
   ·rw [g]at c;cases c
   ·rw [←g];exact c
  obtain ⟨l,d⟩:=T.vP b a f t m (s.2 e);exact ⟨l,by dsimp only at d⊢;rw [p];exact d⟩
 ·obtain ⟨p,_,C⟩:=k b a
  obtain ⟨l,d⟩:=T.wz b a f (C c);exact ⟨l,by dsimp only at d⊢;rw [p];exact d⟩
def cd (h bs:PH) (b:Nat):Prop:=bs[b]?=some .dead∨Ms h[b]? bs[b]?
theorem bU {n:Nat} {r m:PV} {h bs:PH} (L:List Nat) (D:L.length+n=bs.length) (a:L.Nodup) (k:∀b∈L,n≤b) (hs:∀b,b<n→cd h bs b) (K:kC (fun _=>False) (fun i=>if i<n then i else L.getD (i- n) 0) h bs 0 bs) (V:Vg (fun _=>False) (fun i=>if i<n then i else L.getD (i- n) 0) h bs r m):En n r h m bs:=by
 have getD:∀i,n≤i→i<bs.length→L[i- n]?=some (L.getD (i- n) 0):=fun i d h2=>by
  rw [List.getD_eq_getElem?_getD,avg (by omega)];rfl
 have y:iU (fun _=>False) (fun i=>if i<n then i else L.getD (i- n) 0) h bs:=by
  refine ⟨fun i P e=>by simpa using K.ok i P e,fun i j hi o _ _ e=> ?_,fun _ _ _ q=>q⟩;by_cases d:i<n
  · rw [if_pos d]at e
    by_cases h2:j<n
    · rwa [if_pos h2]at e
    · rw [if_neg h2]at e
      have:=k _ (avl (getD j (by omega) o));omega
  · rw [if_neg d]at e
    by_cases h2:j<n
    · rw [if_pos h2]at e
      have:=k _ (avl (getD i (by omega) hi));omega
    · rw [if_neg h2]at e
      have p:=getD i (by omega) hi;have w:=getD j (by omega) o;rw [e]at p
      have key:∀(L:List Nat),L.Nodup→∀(i j b:Nat),L[i]?=some b→L[j]?=some b→i=j:=by
       intro L
       induction L with
       |nil=>intro _ i j b e;simp at e
       |cons x L ih=>
        intro a i j b e g;rw [List.nodup_cons]at a
        cases i with
        |zero=>cases j with
         |zero=>rfl
         |succ j=>simp at e g;subst e;exact absurd (avl g) a.1
        |succ i=>cases j with
         |zero=>simp at e g;subst g;exact absurd (avl e) a.1
         |succ j=>rw [ih a.2 i j b (by simpa using e) (by simpa using g)]
      have:=key L a _ _ _ p w;omega
 refine KR _ y V (by omega) (fun b c=>⟨if_pos c, ?_, ?_⟩) (fun b d h2=> ?_) (fun b c t s=> ?_)
 · rcases hs b c with q|q
   · left;unfold dk;rw [q]
   · right
     unfold Ms at q;split at q
     · rename_i z cs C F l f
       unfold dk;rw [l,f];simp only [q]
     · exact q.elim
 · rintro ⟨es,e⟩
   rcases hs b c with q|q
   · rw [q]at e;cases e
   · rw [e]at q;unfold Ms at q;split at q
     · rename_i f;cases f
     · exact q.elim
 · rw [if_neg (by omega)]
   exact k _ (avl (getD b d h2))
 · intro z cs e
   rcases hs b c with q|q
   · rw [q]at e;cases e
   · rw [e]at q
     unfold Ms at q;split at q
     · rename_i B v A u l f
       cases f;have:=s _ _ l;omega
     · exact q.elim
theorem KS {n:Nat} {r k:PV} {h bs:PH} (K:iU (fun _=>False) id h bs) (V:Vg (fun _=>False) id h bs r k) (m:n≤bs.length) (hs:∀b,b<n→dk bs b=dk h b∧(dh bs b→dh h b)):En n r h k bs:=by
 intro F H l x S R;refine ⟨_,_,K.ok S,V F H l x S R,fun s p T=>?_⟩
 have j:∀{h:PH} {b t:Nat},At h b t↔dk h b=some t:=by
  intro h b t;constructor
  ·rintro ⟨z,cs,e,rfl⟩;unfold dk;rw [e]
  ·intro e;exact (mg e).2 rfl
 refine ⟨T.n0,T.nx,fun y d=>⟨.inl (T.fz y d).1,(T.fz y d).2⟩,fun y d hi g=>?_,T.out,fun b a=>T.loc b (K.aY a),fun _=>m,fun b a c t f=>?_,fun b a c t f i=>?_,fun b a c i=>T.wz b a c ((hs b a).2 i)⟩
 ·rcases g with g|⟨b,q,_⟩
  ·exact T.fo y d hi g
  ·exact q.elim
 ·intro z cs e
  have o:dk bs b=some cs.length:=by unfold dk;rw [show bs[b]?=_ from e]
  have:=T.le b a c t f;exact (mi ((hs b a).1▸o)).1 this
 ·exact T.vP b a c t f (j.2 ((hs b a).1▸j.1 i))
theorem Px {n m:Nat} {r:PV} {h:PH} (a:n≤m) (c:m≤h.length) (K:kC (fun _=>False) id h (h.take m) 0 (h.take m)) (V:Vg (fun _=>False) id h (h.take m) r r):En n r h r (h.take m):=by
 refine KS (iU.id' K) V (by simp;omega) fun b d=>?_
 have e:(h.take m)[b]?=h[b]?:=by rw [avP,if_pos (by omega)]
 exact ⟨by unfold dk;rw [e],fun q=>(fV e).1 q⟩
theorem bW {r a:PV} {h:PH} (V:Vg qZ id h [] r a):En 0 r h a []:=uV _ _ (iU.none _ _ _) V
theorem Py {sz b n:Nat} {h:PH} {cs a:List PV} (c:h[b]?=some (.cells sz cs)) (V:mC (· ≠b) (fun _=>b) h [.cells sz a] cs a):En 0 (.sl sz b 0 n n) h (.sl sz 0 0 n n) [.cells sz a]:=by
 have d:=V.length;have k:dk h b=some cs.length:=by unfold dk;rw [c]
 have g:dk [PB.cells sz a] 0=some cs.length:=by unfold dk;simp [d]
 refine uV (· ≠b) (fun _=>b) ⟨fun i P e=>?_,fun i j hi f _ _ _=>by simp at hi f;omega,fun i hi s=>by simp⟩ (RU k g rfl)
 cases i with
 |zero=>simp at e;subst e;exact .inr ⟨cs,c,V⟩
 |succ i=>simp at e
theorem Pz (sz:Nat) (h:PH):En 0 (.v (.slice none 0 0)) h (.sl sz 0 0 0 0) [.cells sz []]:=by
 refine uV (fun _=>False) id ⟨fun i P e=>?_,fun i j hi a _ _ _=>by simp at hi a;omega,fun i hi s=>by simp⟩ (Er rfl)
 cases i with
 |zero=>simp at e;subst e;exact .inl rfl
 |succ i=>simp at e
def PF.tm:List (Nat×PV)→PF
 |[]=>⟨fun _=>.any⟩
 |(t,p)::l=>⟨fun a=>if a=t then p else(PF.tm l).g a⟩
@[simp]theorem aeN (a:Nat):(PF.tm []).get a= .any:=rfl
@[simp]theorem Ap (t a:Nat) (p:PV) (l:List (Nat×PV)):(PF.tm ((t,p)::l)).get a=if a=t then p else(PF.tm l).get a:=rfl
def rI (A:Nat→Prop) (σ:Nat→Nat) (h bs:PH) (fr:PF):List (Nat×PV)→Prop
 |[]=>True
 |(t,p)::l=>Vg A σ h bs (fr.get t) p∧rI A σ h bs fr l
@[simp]theorem abq (A:Nat→Prop) (a:Nat→Nat) (h c:PH) (b:PF):rI A a h c b []↔True:=Iff.rfl
@[simp]theorem XJ (A:Nat→Prop) (a:Nat→Nat) (h c:PH) (b:PF) (t:Nat) (p:PV) (l:List (Nat×PV)):rI A a h c b ((t,p)::l)↔Vg A a h c (b.get t) p∧rI A a h c b l:=Iff.rfl
theorem rI.ok {A:Nat→Prop} {b:Nat→Nat} {h d:PH} {c:PF}:∀{l:List (Nat×PV)},rI A b h d c l→∀t,Vg A b h d (c.get t) ((PF.tm l).get t)
 |[],_,t=>KG _
 |(a,p)::l,k,t=>by
  rw [Ap];split
  ·rename_i e;subst e;exact k.1
  ·exact rI.ok k.2 t
theorem Ct {b:PF} {h h2:PH} (A:Nat→Prop) (a:Nat→Nat) (l:List (Nat×PV)) (K:iU A a h h2) (V:rI A a h h2 b l):Gh 0 b h (PF.tm l) h2:=by
 intro F H c e S R;exact ⟨_,_,K.ok S,fun t=>V.ok t F H c _ S (R t),fun f d T=>Ao K d T⟩
end P
namespace P
open Go Go.RowKit
mutual
def rJ:PV→Bool
 | .v _=>true
 | .fs _ _=>true
 | .fp _=>true
 | .agg cs=>dN cs
 | .hZ cs=>dN cs
 | .fn _ a b=>dN a&&dN b
 | .rG _ p=>rJ p
 |_=>false
def dN:List PV→Bool
 |[]=>true
 |p::ps=>rJ p&&dN ps
end
attribute [simp] sh Bk ph kB
@[simp]theorem aon (x:Value):rJ (.v x)=true↔True:=⟨fun _=>trivial,fun _=>rfl⟩
@[simp]theorem akW (sz:Nat) (rows:List (List PV)):rJ (.fs sz rows)=true↔True:=⟨fun _=>trivial,fun _=>rfl⟩
@[simp]theorem aeO (cs:List PV):rJ (.agg cs)=true↔dN cs=true:=by rw [rJ]
@[simp]theorem aeP (cs:List PV):rJ (.hZ cs)=true↔dN cs=true:=by rw [rJ]
@[simp]theorem aeQ (t:Nat) (p:PV):rJ (.rG t p)=true↔rJ p=true:=by rw [rJ]
@[simp]theorem akX:dN []=true↔True:=⟨fun _=>trivial,fun _=>rfl⟩
@[simp]theorem rK (p:PV) (ps:List PV):dN (p::ps)=true↔rJ p=true∧dN ps=true:=by rw [dN,avj]
theorem nz:∀l:List PV,dN l=l.all rJ
 |[]=>rfl
 |p::l=>by simp [dN,nz l]
theorem aj (a b:List PV):dN (a++b)=true↔dN a=true∧dN b=true:=by simp [nz]
theorem Aq {p:PV} (a:rJ p=true):∀{l:List PV} {k:Nat},dN l=true→dN (l.set k p)=true
 |[],k,_=>rfl
 |q::l,0,h=>by rw [rK]at h;exact (rK _ _).2 ⟨a,h.2⟩
 |q::l,k+1,h=>by rw [rK]at h;exact (rK _ _).2 ⟨h.1,Aq a h.2⟩
attribute [simp] Aq
mutual
theorem Cu (k:Nat):∀{p:PV},rJ p=true→sh k p=p
 | .v _,_=>rfl
 | .fs _ _,_=>rfl
 | .fp _,_=>rfl
 | .agg cs,h=>by rw [sh,jP k (by simpa using h)]
 | .hZ cs,h=>by rw [sh,jP k (by simpa using h)]
 | .fn f a b,h=>by
  simp only [rJ,avj]at h;rw [sh,jP k h.1,jP k h.2]
 | .rG t p,h=>by rw [sh,Cu k (by simpa using h)]
theorem jP (k:Nat):∀{l:List PV},dN l=true→Bk k l=l
 |[],_=>rfl
 |p::l,h=>by
  simp only [dN,avj]at h;rw [Bk,Cu k h.1,jP k h.2]
end
section
variable{A:Nat→Prop} {σ:Nat→Nat} {h bs:PH}
mutual
theorem uW:∀{p:PV},rJ p=true→Vg A σ h bs p p
 | .v _,_=>(akU _).2 trivial
 | .fs _ _,_=>(KJ _ _).2 trivial
 | .fp _,_=>(abn _).2 trivial
 | .agg cs,h=>KN (jQ (by simpa using h))
 | .hZ cs,h=>Cs (jQ (by simpa using h))
 | .fn f a b,h=>by
  simp only [rJ,avj]at h;exact abo (jQ h.1) (jQ h.2)
 | .rG t p,h=>Vv (uW (by simpa using h))
theorem jQ:∀{l:List PV},dN l=true→mC A σ h bs l l
 |[],_=>trivial
 |p::l,h=>by
  simp only [dN,avj]at h;exact ⟨uW h.1,jQ h.2⟩
end
@[simp]theorem abr {l:List PV} (k:dN l=true):mC A σ h bs l l↔True:=⟨fun _=>trivial,fun _=>jQ k⟩
@[simp]theorem aeR {p:PV} (k:rJ p=true):Vg A σ h bs p p↔True:=⟨fun _=>trivial,fun _=>uW k⟩
theorem Ey {b i:Nat} (k:Ms h[b]? bs[i]?):∃T,dk h b=some T∧dk bs i=some T:=by
 unfold Ms at k;split at k
 ·rename_i z cs d e c a
  exact ⟨cs.length,by unfold dk;rw [c],by unfold dk;rw [a,k]⟩
 ·exact k.elim
@[simp]theorem VD {b i sz o n c:Nat} (hs:σ i=b) (k:Ms h[b]? bs[i]?):Vg A σ h bs (.sl sz b o n c) (.sl sz i o n c)↔True:=⟨fun _=>trivial,fun _=>by
 obtain ⟨T,a,h2⟩:=Ey k
 exact RU a h2 hs⟩
@[simp]theorem aeS {b i o t:Nat} (hs:σ i=b) (k:Ms h[b]? bs[i]?):Vg A σ h bs (.ref b o t) (.ref i o t)↔True:=⟨fun _=>trivial,fun _=>by
 obtain ⟨T,a,h2⟩:=Ey k
 exact Vw a h2 hs⟩
def isVoid (bs:PH) (i:Nat):Bool:=match bs[i]? with
 |some (.cells _ [])=>true
 |_=>false
@[simp]theorem abt {sz i:Nat} (k:isVoid bs i=true):Vg A σ h bs (.v (.slice none 0 0)) (.sl sz i 0 0 0)↔True:=⟨fun _=>trivial,fun _=>by
 unfold isVoid at k;split at k
 ·rename_i z e;exact Er e
 ·cases k⟩
@[simp]theorem aeT (ps a:List PV) (k:mC A σ h bs ps a):Vg A σ h bs (.agg ps) (.agg a)↔True:=⟨fun _=>trivial,fun _=>KN k⟩
@[simp]theorem aeU (ps a:List PV) (k:mC A σ h bs ps a):Vg A σ h bs (.hZ ps) (.hZ a)↔True:=⟨fun _=>trivial,fun _=>Cs k⟩
def tn:PV→Bool
 | .v _=>true
 | .fs _ _=>true
 |_=>false
theorem VE {p:PV} (k:tn p=true):Vz A h p p:=by
 cases p<;>first
  |exact Vt _
  |exact KE _ _
  |cases k
theorem jR:∀{l:List PV},l.all tn=true→Ep A h l l
 |[],_=>trivial
 |p::l,k=>by
  simp only [List.all_cons,avj]at k;exact ⟨VE k.1,jR k.2⟩
theorem PA {p:PV} (k:tn p=true):rJ p=true:=by cases p<;>first|rfl|cases k
theorem qK {l:List PV} (k:l.all tn=true):dN l=true:=by
 rw [nz,avw]at*;exact fun p a=>PA (k p a)
end
section
variable{E:Env} {O:kG} {n:Nat} {Q:Ex→PF→PH→Prop} {ks:List Kp} {fr:PF} {h:PH} {m:Mp} {l:List AO} {d:Option Nat}
def Fz (E:Env) (O:kG) (f:Nat) (args:List PV) (r:PV):Prop:=fM E O f args [] (fun r' h'=>r'=r∧h'=[]∧rJ r=true)
def Fo (E:Env) (O:kG) (f:Nat) (args:List PV) (sz k:Nat) (cs:List PV):Prop:=fM E O f args [] (fun r' h'=>r'= .sl sz 0 0 k k∧h'=[.cells sz cs]∧dN cs=true∧cs.length=k*sz)
def PD (res:List RS) (r:PV):Ex→PF→PH→Prop
 | .exit _,_,_=>False
 |_,fr,h=>(xY.all fr h res).map nw=some r
@[simp]theorem akY (res:List RS) (r:PV):PD res r .normal fr h=((xY.all fr h res).map nw=some r):=rfl
@[simp]theorem akZ (res:List RS) (r:PV):PD res r .ret fr h=((xY.all fr h res).map nw=some r):=rfl
theorem PK.RY {Q i:Ex→PF→PH→Prop} (j:∀ex fr h,Q ex fr h→i ex fr h) {f:Cf} {fr:PF} {h:PH} (k:PK E O n Q f fr h):PK E O n i f fr h:=by
 induction k with
 |skip _ ih=>exact .skip ih
 |ret _ ih=>exact .ret ih
 |exit _ ih=>exact .exit ih
 |bC _ ih=>exact .bC ih
 |bz _ ih=>exact .bz ih
 |seq _ ih=>exact .seq ih
 |block _ ih=>exact .block ih
 |cond e _ ih=>exact .cond e ih
 |loop I k _ g o ih=>exact .loop I k ih g o
 |Pt _ ih=>exact .Pt ih
 |Ak e _ ih=>exact .Ak e ih
 |El _ ih=>exact .El ih
 |Em _ ih=>exact .Em ih
 |op e _ ih=>exact .op e ih
 |gon e w _ ih=>exact .gon e w ih
 |Kz e w _ ih=>exact .Kz e w ih
 |call c _ ih=>exact .call c ih
 |callv e c _ ih=>exact .callv e c ih
 |Pu q=>exact .Pu (j _ _ _ q)
 |dns _ ih=>exact .dns ih
 |dnb _ ih=>exact .dnb ih
 |dnl a b c=>exact .dnl a b c
 |des _ ih=>exact .des ih
 |KA _ ih=>exact .KA ih
 |Pv e _ ih=>exact .Pv e ih
 |del _ ih=>exact .del ih
 |Pw _ ih=>exact .Pw ih
theorem Fz.body {f:Nat} {F:AF} {args:List PV} {r:PV} (o:O f=none) (s:E f=some F) (p:args.length=F.np) (c:rJ r=true) (k:PK E O 0 (PD F.res r) (.code F.body []) (PF.of args) []):Fz E O f args r:=by
 refine fM.body o s p (PK.RY ?_ k);intro ex fr h q
 have:∀ex,PD F.res r ex fr h→(∀i,ex≠ .exit i)→∃a,xY.all fr h F.res=some a∧∃b h2,En 0 (nw a) h b h2∧b=r∧h2=[]∧rJ r=true:=by
  intro ex q j
  have g:(xY.all fr h F.res).map nw=some r:=by
   cases ex with
   |exit i=>exact absurd rfl (j i)
   |normal=>exact q
   |ret=>exact q
  obtain ⟨a,e,t⟩:=avq.1 g;exact ⟨a,e,r,[],by rw [t];exact bW (uW c),rfl,rfl,c⟩
 cases ex with
 |exit i=>exact q
 |normal=>exact this _ q (fun i=>by simp)
 |ret=>exact this _ q (fun i=>by simp)
def wC (h:PH) (sz k:Nat) (cs:List PV):PV→Prop
 | .sl iI b o n' c=>iI=sz∧o=0∧n'=k∧c=k∧h[b]?=some (.cells sz cs)
 | .v (.slice none 0 0)=>k=0∧cs=[]
 |_=>False
def VF (res:List RS) (sz k:Nat) (cs:List PV):Ex→PF→PH→Prop
 | .exit _,_,_=>False
 |_,fr,h=>∃vs,xY.all fr h res=some vs∧wC h sz k cs (nw vs)
@[simp]theorem ak0 (res:List RS) (sz k:Nat) (cs:List PV):VF res sz k cs .normal fr h=∃vs,xY.all fr h res=some vs∧wC h sz k cs (nw vs):=rfl
@[simp]theorem ak1 (res:List RS) (sz k:Nat) (cs:List PV):VF res sz k cs .ret fr h=∃vs,xY.all fr h res=some vs∧wC h sz k cs (nw vs):=rfl
theorem Fo.body {f:Nat} {F:AF} {args:List PV} {sz k:Nat} {cs:List PV} (g:O f=none) (r:E f=some F) (j:args.length=F.np) (c:dN cs=true) (s:cs.length=k*sz) (q:PK E O 0 (VF F.res sz k cs) (.code F.body []) (PF.of args) []):Fo E O f args sz k cs:=by
 refine fM.body g r j (PK.RY ?_ q);intro ex fr h q
 have key:∀a,wC h sz k cs (nw a)→∃b h2,En 0 (nw a) h b h2∧b= .sl sz 0 0 k k∧h2=[.cells sz cs]∧dN cs=true∧cs.length=k*sz:=by
  intro a o;refine ⟨_,_,?_,rfl,rfl,c,s⟩;revert o;generalize nw a=p;intro o;unfold wC at o;split at o
  ·obtain ⟨rfl,rfl,rfl,rfl,t⟩:=o
   exact Py t (jQ c)
  ·obtain ⟨rfl,rfl⟩:=o
   exact Pz _ _
  ·exact o.elim
 cases ex with
 |exit i=>exact q
 |normal=>obtain ⟨a,e,o⟩:=q;exact ⟨a,e,key a o⟩
 |ret=>obtain ⟨a,e,o⟩:=q;exact ⟨a,e,key a o⟩
theorem Fz.call {f:Nat} {args b:List PV} {r:PV} (k:Fz E O f b r) (L:List Nat) (e:mC (· ∈L) id h [] args b):Gw E O f args h (· ∈[]) (fun r' a=>r'=r∧a=bR h L):=
 (fM.pure L k e).mono (by
  rintro r' a ⟨g,i,⟨rfl,rfl,c⟩,rfl,rfl⟩
  exact ⟨Cu _ c,by simp⟩)
theorem aF {f:Nat} {«as»:List X} {args:List PV} {r:PV} (k:Fz E O f args r) (b:«as».map (fX fr)=args) (a:dN args=true) (next:PK E O n Q (.ops (m.up [] (fr.aT d r) h) l ks) (fr.aT d r) h):PK E O n Q (.ops m (⟨none,d,.call f «as»⟩::l) ks) fr h:=
 kv (W:=[]) b ((k.call [] (jQ a)).mono (by rintro c e ⟨rfl,rfl⟩;exact next))
theorem rL {f:Nat} {«as»:List X} {args:List PV} {r:PV} (L:List Nat) (k:Fz E O f args r) (a:mC (· ∈L) id h [] («as».map (fX fr)) args) (next:PK E O n Q (.ops (m.up [] (fr.aT d r) (bR h L)) l ks) (fr.aT d r) (bR h L)):PK E O n Q (.ops m (⟨none,d,.call f «as»⟩::l) ks) fr h:=
 kv (W:=[]) rfl ((k.call L a).mono (by rintro b c ⟨rfl,rfl⟩;exact next))
theorem rM {f:Nat} {«as»:List X} {args:List PV} {r:PV} (k:Fz E O f args r) (b:mC qZ id h [] («as».map (fX fr)) args) (c:ph r=true) (next:PK E O n Q (.ops (m.up [] (fr.aT d r) h) l ks) (fr.aT d r) h):PK E O n Q (.ops m (⟨none,d,.call f «as»⟩::l) ks) fr h:=
 kv (W:=[]) rfl ((fM.flat k b (by rintro a g ⟨rfl,_⟩;exact c)).mono (by rintro a e ⟨⟨_,rfl,_⟩,rfl⟩;exact next))
theorem Fo.call {f:Nat} {args b:List PV} {sz k:Nat} {cs:List PV} (q:Fo E O f b sz k cs) (L:List Nat) (e:mC (· ∈L) id h [] args b):Gw E O f args h (· ∈[]) (fun r' a=>r'= .sl sz h.length 0 k k∧a=bR h L++[.cells sz cs]):=
 (fM.pure L q e).mono (by
  rintro r' a ⟨g,i,⟨rfl,rfl,c,_⟩,rfl,rfl⟩
  exact ⟨by simp,by simp [uT,jP _ c]⟩)
theorem qL {f:Nat} {«as»:List X} {args:List PV} {sz k:Nat} {cs:List PV} (q:Fo E O f args sz k cs) (b:«as».map (fX fr)=args) (a:dN args=true) (next:PK E O n Q (.ops (m.up [] (fr.aT d (.sl sz h.length 0 k k)) (h++[.cells sz cs])) l ks) (fr.aT d (.sl sz h.length 0 k k)) (h++[.cells sz cs])):PK E O n Q (.ops m (⟨none,d,.call f «as»⟩::l) ks) fr h:=
 kv (W:=[]) b ((q.call [] (jQ a)).mono (by rintro c e ⟨rfl,rfl⟩;exact next))
theorem VG {f:Nat} {«as»:List X} {args:List PV} {sz k:Nat} {cs:List PV} (L:List Nat) (q:Fo E O f args sz k cs) (a:mC (· ∈L) id h [] («as».map (fX fr)) args) (next:PK E O n Q (.ops (m.up [] (fr.aT d (.sl sz h.length 0 k k)) (bR h L++[.cells sz cs])) l ks) (fr.aT d (.sl sz h.length 0 k k)) (bR h L++[.cells sz cs])):PK E O n Q (.ops m (⟨none,d,.call f «as»⟩::l) ks) fr h:=
 kv (W:=[]) rfl ((q.call L a).mono (by rintro b c ⟨rfl,rfl⟩;exact next))
end
@[simp]theorem ak2:IntKind.i64.wrap 0=0:=ai ⟨by omega,by omega⟩
@[simp]theorem ak3:IntKind.i64.wrap 1=1:=ai ⟨by omega,by omega⟩
abbrev pi (n:Int):PV:=.v (.int .i64 n)
abbrev pb (b:Bool):PV:=.v (.bool b)
abbrev ps (s:ByteArray):PV:=.v (.string s)
abbrev da:PV:=.v (.slice none 0 0)
def ir (l:List Int):List (List PV):=l.map fun n=>[pi n]
@[simp]theorem XL (l:List Int):(ir l).length=l.length:=by simp [ir]
theorem KT (l:List Int) (i:Nat):(ir l)[i]?=(l[i]?).map fun n=>[pi n]:=by simp [ir]
@[simp]theorem PE (l:List Int):(ir l).flatten=l.map pi:=by
 induction l with
 |nil=>rfl
 |cons a l ih=>simp_all [ir]
abbrev jh (l:List Int):PV:=.fs 1 (ir l)
theorem mj {A:Nat→Prop} {h:PH} {sz b n:Nat} {rows:List (List PV)} (j:A b) (f:h[b]?=some (.cells sz rows.flatten)) (g:0<sz) (c:rows.length=n) (a:∀r∈rows,r.length=sz) (d:Ep A h rows.flatten rows.flatten):Vz A h (.sl sz b 0 n n) (.fs sz rows):=by
 have e:rows.flatten.length=n*sz:=by
  rw [←c];clear f d c
  induction rows with
  |nil=>simp
  |cons r rows ih=>
   have:=a r (by simp);rw [List.flatten_cons,avp,ih (fun q i=>a q (by simp [i])),List.length_cons,Nat.succ_mul];omega
 exact Am j f (by rw [Nat.zero_add,e]) g (avk _) (avk _) c a (by rw [Nat.zero_mul,List.drop_zero,←e,List.take_length];exact d)
theorem x8 {A:Nat→Prop} {h:PH} {b:Nat} {l:List Int} (c:A b) (a:h[b]?=some (.cells 1 (l.map pi))):Vz A h (.sl 1 b 0 l.length l.length) (jh l):=
 mj c (by rw [PE];exact a) Nat.one_pos (by simp) (by simp [ir]) (jR (by simp [tn]))
@[simp]theorem ak4 {A:Nat→Prop} {a:Nat→Nat} {h e:PH} {b:Nat} {l:List Int} (d:A b) (c:h[b]?=some (.cells 1 (l.map pi))):Vg A a h e (.sl 1 b 0 l.length l.length) (.fs 1 (ir l))↔True:=⟨fun _=>trivial,fun _=>oL (x8 d c)⟩
attribute [simp] okP pck Kq Vf Gv Pr Aj xW Ve O6
attribute [simp] isVoid wC
end P
end Go.Proofs.YtppcmpmnglaleaaGreatDoor.A
