/- Texts that stand one behind the other: Pm8, Pm9, Pm10, Pm11, Pm12, Pm13, Pm14, Pm15, T1, T2, T3, T4, T5, T6, T7. -/
import Derived.Test.YtediokhgklkhnaaG12
set_option linter.unusedVariables false
set_option linter.unusedSimpArgs false
namespace Go.Proofs.Ytediokhgklkhnaa.A
namespace P
open Go Go.RowKit
theorem eN {H b:AH} {a:Addr} {vs:List Value} (h:H.st a vs=some b):b.nx=H.nx:=by
 unfold AH.st at h;split at h
 ·obtain ⟨_,h⟩:=ae h
  cases h;rfl
 ·cases h
theorem xM {o:aS} {m:X→Value} {H:AH} {b:Option (Value×AH)} {x:Value} {d:AH} (e:ar o m H=up b) (n:b=some (x,d)):d.nx≤H.nx+1:=by
 subst n;simp only [up,Option.map_some]at e
 have app:∀{sz bytes:Nat} {s y z:Value} {d:AH},aD sz bytes H s y=some (z,d)→d.nx≤H.nx+1:=by
  intro sz bytes s y z d h;unfold aD at h;split at h
  case h_2=>cases h
  split at h
  ·obtain ⟨_,h⟩:=ae h;cases h;omega
  ·split at h
   ·cases h
   ·obtain ⟨_,h⟩:=ae h
    split at h
    ·split at h
     ·obtain ⟨_,h⟩:=ae h
      rename_i a _ _;obtain ⟨i,h2,g⟩:=MS.1 h;cases g;have:=eN h2;omega
     ·cases h
    ·split at h
     ·obtain ⟨_,h⟩:=ae h;cases h;exact MM _
     ·split at h
      ·obtain ⟨_,h⟩:=ae h
       obtain ⟨i,h2,g⟩:=MS.1 h;cases g;exact MM _
      ·cases h
 have p:∀{sz:Nat} {s y z:Value} {d:AH},ee sz H s y=some (z,d)→d.nx≤H.nx+1:=by
  intro sz s y z d h;unfold ee at h;split at h
  case h_2=>cases h
  obtain ⟨c,f,h⟩:=MT.1 h;split at h
  ·simp only [Bool.cond_eq_ite]at h
   split at h
   ·cases h;exact Na _
   ·obtain ⟨i,h2,g⟩:=MS.1 h
    cases g;have:=eN h2;omega
  ·cases h;exact Na _
 have j:∀{k:XK} {l:List Value} {z:Value} {d:AH},jY k l H=some (z,d)→d.nx≤H.nx+1:=by
  intro k l z d h;unfold jY at h;split at h
  ·obtain ⟨_,_,e⟩:=MS.1 h;cases e;exact Na _
  ·split at h
   ·obtain ⟨_,_,e⟩:=MS.1 h;cases e;exact Na _
   ·cases h
  ·cases h;exact MM _
  ·cases h;exact Na _
  ·split at h
   ·cases h;exact Na _
   ·simp only [Bool.cond_eq_ite]at h
    split at h
    ·cases h;exact Na _
    ·obtain ⟨i,h2,g⟩:=MS.1 h
     cases g;have:=eN h2;omega
  ·cases h
 cases o<;>simp only [ar]at e
 all_goals first
  |(simp only [MH,MQ,db.v.injEq,reduceCtorEq,false_and]at e;done)
  |skip
 all_goals first
  |(simp only [MH,MQ]at e;obtain ⟨_,rfl⟩:=e;first|exact Na _|exact MM _)
  |(obtain ⟨r,f,h2⟩:=MS.1 e;simp only [MQ]at h2;obtain ⟨_,rfl⟩:=h2;first|exact Na _|exact MM _)
  |skip
 all_goals first
  |(obtain ⟨r,f,h2⟩:=MS.1 e;simp only [MQ]at h2;obtain ⟨_,rfl⟩:=h2;exact j f)
  |skip
 all_goals try simp only [Bool.cond_eq_ite]at e
 all_goals try(repeat' split at e)
 all_goals first
  |(cases e;done)
  |(simp only [MH,MQ]at e;obtain ⟨_,rfl⟩:=e;first|exact Na _|exact MM _)
  |(obtain ⟨r,f,h2⟩:=MS.1 e;simp only [MQ]at h2;obtain ⟨_,rfl⟩:=h2;first|exact Na _|(have:=eN f;omega)|exact app f|exact p f|exact j f)
  |skip
inductive Kp where
 |seq (c:AC)
 |bw (i:Nat)
 |lp (I:Nat→PF→PH→Prop) (k:Nat)
inductive Mp where
 |pl
 |d0
 |dr (l0:List AO) (ck:List (Nat×Nat×Nat)) (acc:List (PF×PH×List Nat)) (W:List Nat)
def Mp.up:Mp→List Nat→PF→PH→Mp
 | .pl,_,_,_=>.pl
 | .d0,_,_,_=>.d0
 | .dr l0 ck acc W,V,fr,h=>.dr l0 ck ((fr,h,V++W)::acc) (V++W)
inductive Cf where
 |code (c:AC) (ks:List Kp)
 |ops (m:Mp) (l:List AO) (ks:List Kp)
 |done (ex:Ex) (ks:List Kp)
def me (E:Env) (O:dD) (f:Nat) (args:List PV) (h:PH) (W:Nat→Prop) (R:PV→PH→Prop):Prop:=
 ∀F H φ vs,bA ⟨F,H,φ,h⟩→aT ⟨F,H,φ,h⟩ args vs→Ca E O f vs H (fun x H'=>∃r h' F' aZ,R r h'∧RV ⟨F',H',aZ,h'⟩ r x∧bA ⟨F',H',aZ,h'⟩∧bp h.length W ⟨F,H,φ,h⟩ ⟨F',H',aZ,h'⟩)
abbrev kC:Nat→Prop:=fun _=>True
abbrev e8 (E:Env) (O:dD) (f:Nat) (args:List PV) (h:PH) (R:PV→PH→Prop):Prop:=me E O f args h kC R
def Gh (n:Nat) (fr:PF) (h:PH) (cK:PF) (h2:PH):Prop:=
 ∀F H φ af,bA ⟨F,H,φ,h⟩→eS ⟨F,H,φ,h⟩ fr af→∃F' aZ,bA ⟨F',H,aZ,h2⟩∧eS ⟨F',H,aZ,h2⟩ cK af∧∀C0:Cx,C0.h.length=n→bp n kC C0 ⟨F,H,φ,h⟩→bp n kC C0 ⟨F',H,aZ,h2⟩
theorem Gh.refl (n:Nat) (a:PF) (h:PH):Gh n a h a h:=fun F H b c S R=>⟨F,b,S,R,fun _ _ k=>k⟩
variable(E:Env) (O:dD) (n:Nat) (Q:Ex→PF→PH→Prop)
inductive PK:Cf→PF→PH→Prop where
 |skip {ks:List Kp} {fr:PF} {h:PH}:PK (.done .normal ks) fr h→PK (.code .skip ks) fr h
 |ret {ks:List Kp} {fr:PF} {h:PH}:PK (.done .ret ks) fr h→PK (.code .ret ks) fr h
 |exit {i:Nat} {ks:List Kp} {fr:PF} {h:PH}:PK (.done (.exit i) ks) fr h→PK (.code (.exit i) ks) fr h
 |aB {l:List AO} {ks:List Kp} {fr:PF} {h:PH}:PK (.ops .pl l ks) fr h→PK (.code (.aB l) ks) fr h
 |ai {l:List AO} {c:Nat×Nat×Nat} {ck:List (Nat×Nat×Nat)} {ks:List Kp} {fr:PF} {h:PH}:PK (.ops (.dr l (c::ck) [(fr,h,[])] []) l ks) fr h→PK (.code (.ai l (c::ck)) ks) fr h
 |n6 {l:List AO} {ks:List Kp} {fr:PF} {h:PH}:PK (.ops .d0 l ks) fr h→PK (.code (.ai l []) ks) fr h
 |seq {a b:AC} {ks:List Kp} {fr:PF} {h:PH}:PK (.code a (.seq b::ks)) fr h→PK (.code (.seq a b) ks) fr h
 |block {i:Nat} {a:AC} {ks:List Kp} {fr:PF} {h:PH}:PK (.code a (.bw i::ks)) fr h→PK (.code (.block i a) ks) fr h
 |cond {x:X} {a b:AC} {t:Bool} {ks:List Kp} {fr:PF} {h:PH}:bL fr x= .v (.bool t)→PK (.code (bif t then a else b) ks) fr h→PK (.code (.cond x a b) ks) fr h
 |loop {a:AC} {ks:List Kp} {fr cK:PF} {h h2:PH} (I:Nat→PF→PH→Prop) (k:Nat):(∀k fr h,I k fr h→PK (.code a (.lp I k::ks)) fr h)→Gh n fr h cK h2→I k cK h2→PK (.code (.loop a) ks) fr h
 |uc {ks:List Kp} {fr:PF} {h:PH}:PK (.done .normal ks) fr h→PK (.ops .pl [] ks) fr h
 |n7 {ks:List Kp} {fr:PF} {h:PH}:PK (.done .normal ks) fr h→PK (.ops .d0 [] ks) fr h
 |lI {l0:List AO} {ck:List (Nat×Nat×Nat)} {acc:List (PF×PH×List Nat)} {W:List Nat} {ks:List Kp} {fr:PF} {h:PH}:AL l0 ck acc=true→PK (.done .normal ks) fr h→PK (.ops (.dr l0 ck acc W) [] ks) fr h
 |op {m:Mp} {d:Option Nat} {p:aS} {l:List AO} {ks:List Kp} {fr:PF} {h h':PH} {v:PV}:pop p (bL fr) h=some (v,h')→PK (.ops (m.up (jQ p (bL fr)) (fr.aq d v) h') l ks) (fr.aq d v) h'→PK (.ops m (⟨none,d,p⟩::l) ks) fr h
 |AM {m:Mp} {t:Nat} {b:Bool} {x:Value} {d:Option Nat} {p:aS} {l:List AO} {ks:List Kp} {fr:PF} {h:PH}:fr.get t= .v x→cS b x=true→PK (.ops m (⟨none,d,p⟩::l) ks) fr h→PK (.ops m (⟨some (t,b),d,p⟩::l) ks) fr h
 |rn {m:Mp} {t:Nat} {b:Bool} {x:Value} {d:Option Nat} {p:aS} {l:List AO} {ks:List Kp} {fr:PF} {h:PH}:fr.get t= .v x→cS b x=false→PK (.ops (m.up [] (fr.aq d (.v undef)) h) l ks) (fr.aq d (.v undef)) h→PK (.ops m (⟨some (t,b),d,p⟩::l) ks) fr h
 |call {m:Mp} {f:Nat} {«as»:List X} {d:Option Nat} {l:List AO} {ks:List Kp} {fr:PF} {h:PH} {W:List Nat} {R:PV→PH→Prop}:me E O f («as».map (bL fr)) h (· ∈W) R→(∀r h',R r h'→PK (.ops (m.up W (fr.aq d r) h') l ks) (fr.aq d r) h')→PK (.ops m (⟨none,d,.call f «as»⟩::l) ks) fr h
 |callv {m:Mp} {f:Nat} {x:X} {first cap:List PV} {«as»:List X} {d:Option Nat} {l:List AO} {ks:List Kp} {fr:PF} {h:PH} {W:List Nat} {R:PV→PH→Prop}:bL fr x= .fn f first cap→me E O f (first++«as».map (bL fr)++cap) h (· ∈W) R→(∀r h',R r h'→PK (.ops (m.up W (fr.aq d r) h') l ks) (fr.aq d r) h')→PK (.ops m (⟨none,d,.callv x «as»⟩::l) ks) fr h
 |ud {ex:Ex} {fr:PF} {h:PH}:Q ex fr h→PK (.done ex []) fr h
 |CM {b:AC} {ks:List Kp} {fr:PF} {h:PH}:PK (.code b ks) fr h→PK (.done .normal (.seq b::ks)) fr h
 |CN {i:Nat} {ks:List Kp} {fr:PF} {h:PH}:PK (.done .normal ks) fr h→PK (.done .normal (.bw i::ks)) fr h
 |AN {I:Nat→PF→PH→Prop} {k j:Nat} {ks:List Kp} {fr cK:PF} {h h2:PH}:j<k→Gh n fr h cK h2→I j cK h2→PK (.done .normal (.lp I k::ks)) fr h
 |CO {i:Nat} {b:AC} {ks:List Kp} {fr:PF} {h:PH}:PK (.done (.exit i) ks) fr h→PK (.done (.exit i) (.seq b::ks)) fr h
 |rp {i:Nat} {ks:List Kp} {fr:PF} {h:PH}:PK (.done .normal ks) fr h→PK (.done (.exit i) (.bw i::ks)) fr h
 |ue {i j:Nat} {ks:List Kp} {fr:PF} {h:PH}:j≠i→PK (.done (.exit j) ks) fr h→PK (.done (.exit j) (.bw i::ks)) fr h
 |del {I:Nat→PF→PH→Prop} {k i:Nat} {ks:List Kp} {fr:PF} {h:PH}:PK (.done (.exit i) ks) fr h→PK (.done (.exit i) (.lp I k::ks)) fr h
 |uf {k:Kp} {ks:List Kp} {fr:PF} {h:PH}:PK (.done .ret ks) fr h→PK (.done .ret (k::ks)) fr h
variable{E O n Q}
def Live (C0:Cx) (C:Cx):Prop:=bA C∧bp C0.h.length kC C0 C
theorem Live.step {C0 C D:Cx} (h:Live C0 C) {W:Nat→Prop} (S:bA D) (T:bp C.h.length W C D):Live C0 D:=
 ⟨S,h.2.trans (T.mono (h.2.len (MM _)) (fun _ _=>trivial) fun _=>M5 (h.2.len (MM _)) (T.len (MM _))) (MM _) (fun _ h=>h) fun _ h=>h⟩
def UP (E:Env) (O:dD) (C0:Cx) (Q:Ex→PF→PH→Prop):Ex→List Kp→Fr→AH→Prop
 |ex,[],af,H=>∃fr F φ h,Q ex fr h∧Live C0 ⟨F,H,φ,h⟩∧eS ⟨F,H,φ,h⟩ fr af
 | .normal,.seq b::ks,af,H=>Wp E O b af H (fun ex ij H'=>UP E O C0 Q ex ks ij H')
 | .normal,.bw _::ks,af,H=>UP E O C0 Q .normal ks af H
 | .normal,.lp I k::ks,af,H=>∃j,j<k∧∃fr F φ h,I j fr h∧Live C0 ⟨F,H,φ,h⟩∧eS ⟨F,H,φ,h⟩ fr af
 | .exit j,.seq _::ks,af,H=>UP E O C0 Q (.exit j) ks af H
 | .exit j,.bw i::ks,af,H=>if j=i then UP E O C0 Q .normal ks af H else UP E O C0 Q (.exit j) ks af H
 | .exit j,.lp _ _::ks,af,H=>UP E O C0 Q (.exit j) ks af H
 | .ret,_::ks,af,H=>UP E O C0 Q .ret ks af H
def yW (l1 l:List AO):Prop:=l1=l∨∃g d p t,l=⟨none,d,p⟩::t∧l1=⟨g,d,p⟩::t
theorem yW.head {a t:List AO} {g:Option (Nat×Bool)} {d:Option Nat} {p:aS} (h:yW a (⟨g,d,p⟩::t)):∃b,a=⟨b,d,p⟩::t:=by
 rcases h with rfl|⟨b,i,f,c,e,rfl⟩
 ·exact ⟨_,rfl⟩
 ·cases e;exact ⟨_,rfl⟩
def vt (E:Env) (O:dD) (C0:Cx) (Q:Ex→PF→PH→Prop) (cf:Cf) (fr:PF) (h:PH):Prop:=∀F H φ af,Live C0 ⟨F,H,φ,h⟩→eS ⟨F,H,φ,h⟩ fr af→match cf with
 | .code c ks=>Wp E O c af H (fun ex ij H'=>UP E O C0 Q ex ks ij H')
 | .ops .pl l ks=>Wo E O l af H (fun ij H'=>UP E O C0 Q .normal ks ij H')
 | .ops .d0 l ks=>∀l0 acc bB W,fA l0 acc bB ⟨F,H,φ,h⟩ W→yW (l0.drop (acc.length- 1)) l→Wt E O l af H (fun ss=>wL l0 [] (ss.reverse++bB)=true∧UP E O C0 Q .normal ks (cN (af,H) ss).1 (cN (af,H) ss).2)
 | .ops (.dr l0 ck acc W) l ks=>∀bB,fA l0 acc bB ⟨F,H,φ,h⟩ W→yW (l0.drop (acc.length- 1)) l→Wt E O l af H (fun ss=>wL l0 ck (ss.reverse++bB)=true∧UP E O C0 Q .normal ks (cN (af,H) ss).1 (cN (af,H) ss).2)
 | .done ex ks=>UP E O C0 Q ex ks af H
theorem vt.step {C0:Cx} {m:Mp} {g:Option (Nat×Bool)} {d:Option Nat} {p:aS} {l:List AO} {K:List Kp} {M:PF} {h:PH} (one:∀F H φ w,Live C0 ⟨F,H,φ,h⟩→eS ⟨F,H,φ,h⟩ M w→iT E O ⟨g,d,p⟩ w H (fun i f=>∃u t s j V,Live C0 ⟨t,f,s,j⟩∧eS ⟨t,f,s,j⟩ u i∧bp 0 (· ∈V) ⟨F,H,φ,h⟩ ⟨t,f,s,j⟩∧(p.an=false→f.nx≤H.nx+1)∧vt E O C0 Q (.ops (m.up V u j) l K) u j)):
 vt E O C0 Q (.ops m (⟨g,d,p⟩::l) K) M h:=by
 intro F H φ w L R
 have mono:∀{N Q2:Fr→AH→Prop},(∀a b,N a b→Q2 a b)→iT E O ⟨g,d,p⟩ w H N→iT E O ⟨g,d,p⟩ w H Q2:=fun k ⟨a,b,c,e,q⟩=>⟨a,b,c,e,k _ _ q⟩
 cases m with
 |pl=>
  refine Wo.cons (mono ?_ (one F H φ w L R));rintro i f ⟨u,t,s,j,V,y,x,_,_,k⟩;exact k t f s i y x
 |d0=>
  intro v acc B W C r;rw [cR];refine mono ?_ (one F H φ w L R);rintro i f ⟨u,t,s,j,V,y,x,T,D,k⟩;have P:=C.length.2
  have J:fA v ((u,j,V++W)::acc) ((i,f)::B) ⟨t,f,s,j⟩ (V++W):=
   .cons C T y.1 x (fun o z I=>by
    obtain ⟨A,r⟩:=r.head
    have:v[acc.length- 1]?=some ⟨A,d,p⟩:=by
     have:=congrArg List.head? r
     simpa [List.head?_drop]using this
    rw [jN,this]at z;cases z
    exact D I)
  have G:yW (v.drop (((u,j,V++W)::acc).length- 1)) l:=by
   obtain ⟨A,r⟩:=r.head;left;simp only [List.length_cons,Nat.add_sub_cancel];rw [show acc.length=acc.length- 1+1 by omega,←List.drop_drop,r];rfl
  have:=k t f s i y x v _ ((i,f)::B) _ J G;refine (fun⟨a,b,e,q⟩=>⟨a,b,e,?_⟩:Wt E O l i f _→Wt E O l i f _) this
  simpa [cN]using q
 |dr v S acc W=>
  intro B C r;rw [cR];refine mono ?_ (one F H φ w L R);rintro i f ⟨u,t,s,j,V,y,x,T,D,k⟩;have P:=C.length.2
  have J:fA v ((u,j,V++W)::acc) ((i,f)::B) ⟨t,f,s,j⟩ (V++W):=
   .cons C T y.1 x (fun o z I=>by
    obtain ⟨A,r⟩:=r.head
    have:v[acc.length- 1]?=some ⟨A,d,p⟩:=by
     have:=congrArg List.head? r
     simpa [List.head?_drop]using this
    rw [jN,this]at z;cases z
    exact D I)
  have G:yW (v.drop (((u,j,V++W)::acc).length- 1)) l:=by
   obtain ⟨A,r⟩:=r.head;left;simp only [List.length_cons,Nat.add_sub_cancel];rw [show acc.length=acc.length- 1+1 by omega,←List.drop_drop,r];rfl
  have:=k t f s i y x ((i,f)::B) J G;refine (fun⟨a,b,e,q⟩=>⟨a,b,e,?_⟩:Wt E O l i f _→Wt E O l i f _) this
  simpa [cN]using q
theorem PK.sound {C0:Cx} (K:n=C0.h.length):∀{cf:Cf} {u:PF} {h:PH},PK E O n Q cf u h→vt E O C0 Q cf u h:=by
 intro cf u h k
 induction k with
 |skip _ ih=>exact fun F H s o L R=>Wp.skip (ih F H s o L R)
 |ret _ ih=>exact fun F H s o L R=>Wp.ret (ih F H s o L R)
 |exit _ ih=>exact fun F H s o L R=>Wp.exit (ih F H s o L R)
 |aB _ ih=>exact fun F H s o L R=>Wp.aB (ih F H s o L R)
 | @ai l c ck z u h _ ih=>
  intro F H s o L R;have:=ih F H s o L R [(o,H)] (.one L.1 R) (.inl rfl);refine Wp.ai ?_;obtain ⟨a,ss,e,C,h2⟩:=this;unfold wL at C;simp only [List.reverse_append,List.reverse_cons,List.reverse_nil,List.nil_append,List.reverse_reverse,List.cons_append,MK]at C;exact ⟨a,ss,e,C,h2⟩
 | @n6 l z u h _ ih=>
  intro F H s o L R;have:=ih F H s o L R l _ [(o,H)] _ (.one L.1 R) (.inl rfl);refine Wp.ai ?_;obtain ⟨a,ss,e,C,h2⟩:=this;unfold wL at C;simp only [List.reverse_append,List.reverse_cons,List.reverse_nil,List.nil_append,List.reverse_reverse,List.cons_append,MK]at C;exact ⟨a,ss,e,C,h2⟩
 | @seq a b z u h _ ih=>
  intro F H s o L R;refine Wp.seq ((ih F H s o L R).mono ?_);intro ex aL U q;cases ex<;>exact q
 | @block i a z u h _ ih=>
  intro F H s o L R;refine Wp.block ((ih F H s o L R).mono ?_);intro ex aL U q;cases ex<;>exact q
 | @cond x a b t z u h e _ ih=>
  intro F H s o L R;have w:=R.ev x;rw [e]at w
  exact Wp.cond w.g9 (by
   have:=ih F H s o L R
   cases t<;>exact this)
 | @loop a z u cK h h2 I k _ g N ih=>
  intro F H s o L R;obtain ⟨F',M,S',A,T'⟩:=g F H s o L.1 R;refine Wp.loop (fun k o H=>∃u F s h,I k u h∧Live C0 ⟨F,H,s,h⟩∧eS ⟨F,H,s,h⟩ u o) ?_ k ⟨cK,F',M,h2,N,⟨S',K▸T' C0 K.symm (K▸L.2)⟩,A⟩;rintro k o H ⟨u,F,s,h,N,L,R⟩;refine (ih k u h N F H s o L R).mono ?_;intro ex ij U q;cases ex<;>exact q
 |uc _ ih=>exact fun F H s o L R=>Wo.nil (ih F H s o L R)
 |n7 _ ih=>exact fun F H s o L R V acc P W J B=>Wt.nil ⟨by have:=rm J (ck:=[]) rfl;simpa using this,ih F H s o L R⟩
 | @lI V ck acc W z u h ok _ ih=>
  intro F H s o L R P J B;exact Wt.nil ⟨by simpa using rm J ok,ih F H s o L R⟩
 | @op m d p l z u h D v e _ ih=>
  refine vt.step fun F H s o L R=>?_
  obtain ⟨b,Y,x,U,M,rfl,w,S,T⟩:=xF L.1 (R.ev) e;refine iT.val rfl Y ?_;exact ⟨_,F,M,D,_,L.step S T,(R.step T).aq w d,T.mono (Nb _) (fun _ h=>h) (fun _=>Nb _),fun _=>xM Y rfl,ih⟩
 | @AM m t b x d p l z u h e hw _ ih=>
  have eqv:∀{o:Fr} {H:AH} {Q:Fr→AH→Prop},AO.wanted ⟨some (t,b),d,p⟩ o=true→iT E O ⟨none,d,p⟩ o H Q→iT E O ⟨some (t,b),d,p⟩ o H Q:=by
   intro o H Q C h2;rw [km _ _ _ _ C];rwa [km _ _ _ _ rfl]at h2
  intro F H s o L R;have w:=R t;rw [e]at w;have Fw:AO.wanted ⟨some (t,b),d,p⟩ o=true:=by rw [gv,w.g9];exact hw
  have:=ih F H s o L R
  cases m with
  |pl=>
   refine Wo.cons (eqv Fw ?_);exact (lz _ _ _ _ _).1 this
  |d0=>
   intro V acc P W J B;rw [cR];obtain ⟨g',B⟩:=B.head;exact eqv Fw ((cR _ _ _ _ _).1 (this V acc P W J (.inr ⟨g',d,p,l,rfl,B⟩)))
  |dr V ck acc W=>
   intro P J B;rw [cR];obtain ⟨g',B⟩:=B.head;exact eqv Fw ((cR _ _ _ _ _).1 (this P J (.inr ⟨g',d,p,l,rfl,B⟩)))
 | @rn m t b x d p l z u h e hw _ ih=>
  refine vt.step fun F H s o L R=>?_
  have w:=R t;rw [e]at w;refine iT.off (by rw [gv,w.g9];exact hw) ?_;exact ⟨_,F,s,h,[],L,R.aq (.v _) d,bp.refl _ _ _,fun _=>Na _,ih⟩
 | @call m f «as» d l z u h W R hc _ ih=>
  refine vt.step fun F H s o L A=>?_
  refine iT.call rfl rfl ?_;refine (hc F H s _ L.1 (aT.of A.ev «as»)).mono ?_;rintro x U ⟨r,D,F2,Z,hR,w,S2,G⟩;exact ⟨_,F2,Z,D,W,L.step S2 G,(A.step G).aq w d,G.mono (Nb _) (fun _ h=>h) (fun _=>Nb _),(fun q=>by cases q),ih r D hR⟩
 | @callv m f x first cap «as» d l z u h W R hf hc _ ih=>
  refine vt.step fun F H s o L A=>?_
  have w:=A.ev x;rw [hf]at w;revert w;generalize hy:X.ev o x=y;intro w
  cases w with| @fn _ _ _ xs ys ha Y=>
  refine iT.call rfl (f:=f) («as»:=xs++«as».map (X.ev o)++ys) (H1:=H) (by simp only [ar,hy]) ?_;refine (hc F H s _ L.1 ((ha.append (aT.of A.ev «as»)).append Y)).mono ?_;rintro x U ⟨r,D,F2,Z,hR,w,S2,G⟩;exact ⟨_,F2,Z,D,W,L.step S2 G,(A.step G).aq w d,G.mono (Nb _) (fun _ h=>h) (fun _=>Nb _),(fun q=>by cases q),ih r D hR⟩
 | @ud ex u h q=>
  intro F H s o L R;simp only [UP];exact ⟨u,F,s,h,q,L,R⟩
 |CM _ ih=>exact fun F H s o L R=>ih F H s o L R
 |CN _ ih=>exact fun F H s o L R=>ih F H s o L R
 | @AN I k j z u cK h h2 hj g N=>
  intro F H s o L R;obtain ⟨F',M,S',A,T'⟩:=g F H s o L.1 R;exact ⟨j,hj,cK,F',M,h2,N,⟨S',K▸T' C0 K.symm (K▸L.2)⟩,A⟩
 |CO _ ih=>exact fun F H s o L R=>ih F H s o L R
 | @rp i z u h _ ih=>
  intro F H s o L R;show(if i=i then _ else _);rw [if_pos rfl];exact ih F H s o L R
 | @ue i j z u h hj _ ih=>
  intro F H s o L R;show(if j=i then _ else _);rw [if_neg hj];exact ih F H s o L R
 |del _ ih=>exact fun F H s o L R=>ih F H s o L R
 | @uf k z u h _ ih=>
  intro F H s o L R;cases k<;>exact ih F H s o L R
end P
namespace P
open Go Go.RowKit
section
variable{E:Env} {O:dD} {n:Nat} {Q:Ex→PF→PH→Prop} {ks:List Kp} {fr:PF} {h:PH}
theorem me.mono {f:Nat} {args:List PV} {W:Nat→Prop} {R R':PV→PH→Prop} (k:me E O f args h W R) (i:∀r c,R r c→R' r c):me E O f args h W R':=fun F H e g S j=>
 (k F H e g S j).mono fun x m ⟨r,c,l,d,a,b⟩=>⟨r,c,l,d,i _ _ a,b⟩
def kD.get (fr:PF) (h:PH):RS→Option PV
 | .tmp t=>some (fr.get t)
 | .cell t _=>vm h (fr.get t)
 | .cells t n=>kr n h (fr.get t)
def kD.all (fr:PF) (h:PH):List RS→Option (List PV)
 |[]=>some []
 |r::l=>match kD.get fr h r,kD.all fr h l with|some v,some vs=>some (v::vs)|_,_=>none
def ey:List PV→PV
 |[v]=>v
 |vs=>.dw vs
def kV (n:Nat) (r:PV) (h:PH) (r2:PV) (h2:PH):Prop:=
 ∀F H φ x,bA ⟨F,H,φ,h⟩→RV ⟨F,H,φ,h⟩ r x→∃F' aZ,bA ⟨F',H,aZ,h2⟩∧RV ⟨F',H,aZ,h2⟩ r2 x∧∀C0:Cx,C0.h.length=n→bp n kC C0 ⟨F,H,φ,h⟩→bp n kC C0 ⟨F',H,aZ,h2⟩
theorem kV.refl (n:Nat) (r:PV) (h:PH):kV n r h r h:=fun F H a x S R=>⟨F,a,S,R,fun _ _ k=>k⟩
def xN (n:Nat) (res:List RS) (R:PV→PH→Prop):Ex→PF→PH→Prop
 | .exit _,_,_=>False
 |_,fr,h=>∃vs,kD.all fr h res=some vs∧∃r2 h2,kV n (ey vs) h r2 h2∧R r2 h2
theorem vu {C:Cx} (S:bA C) {fr:PF} {d:Fr} (R:eS C fr d):∀{res:List RS} {ps:List PV},kD.all fr C.h res=some ps→∃xs,RS.all d C.H res=some xs∧aT C ps xs
 |[],ps,e=>by cases e;exact ⟨[],rfl,.nil⟩
 |r::l,ps,e=>by
  simp only [kD.all]at e;split at e
  case h_2=>cases e
  rename_i p q g h2;cases e;obtain ⟨xs,o,k⟩:=vu S R h2
  obtain ⟨x,j,i⟩:∃x,RS.get d C.H r=some x∧RV C p x:=by
   cases r with
   |tmp t=>cases g;exact ⟨_,rfl,R t⟩
   |cell t _=>
    obtain ⟨y,b,f⟩:=vq S (R t) g;refine ⟨y,?_,f⟩;simp only [RS.get]
    cases c:d.get t with
    |pointer a=>rw [c]at b;cases a<;>exact b
    |_=>rw [c]at b;cases b
   |cells t m=>
    obtain ⟨y,b,f⟩:=mU S (R t) g;refine ⟨y,?_,f⟩;simp only [RS.get]
    cases c:d.get t with
    |pointer a=>rw [c]at b;cases a<;>exact b
    |_=>rw [c]at b;cases b
  exact ⟨x::xs,by simp only [RS.all,o,j],.cons i k⟩
theorem xO {C:Cx} {ps:List PV} {xs:List Value} (h:aT C ps xs):RV C (ey ps) (gJ xs):=by
 cases h with
 |nil=>exact .dw (xs:=[]) .nil
 |cons a b=>
  cases b with
  |nil=>exact a
  |cons b c=>exact .dw (xs:=_::_::_) (.cons a (.cons b c))
theorem e8.body {f:Nat} {F:AF} {args:List PV} {R:PV→PH→Prop} (y:O f=none) (A:E f=some F) (z:args.length=F.np) (k:PK E O h.length (xN h.length F.res R) (.code F.body []) (PF.of args) h):e8 E O f args h R:=by
 intro Fz H c a S u;refine Ca.body y A (by rw [←u.length,z]) ?_
 have L:Live ⟨Fz,H,c,h⟩ ⟨Fz,H,c,h⟩:=⟨S,bp.refl _ _ _⟩
 refine (k.sound (C0:=⟨Fz,H,c,h⟩) rfl Fz H c (Fr.of a) L (eS.of u)).mono ?_;intro ex B m q;simp only [UP]at q;obtain ⟨fr,M,K,t,q,p,I⟩:=q
 have key:∀a,kD.all fr t F.res=some a→∀b h2,kV h.length (ey a) t b h2→R b h2→∃j,RS.all B m F.res=some j∧∃r l s o,R r l∧RV ⟨s,m,o,l⟩ r (gJ j)∧bA ⟨s,m,o,l⟩∧bp h.length kC ⟨Fz,H,c,h⟩ ⟨s,m,o,l⟩:=by
  intro a e b h2 g d;obtain ⟨j,x,w⟩:=vu p.1 I e;obtain ⟨J,v,D,G,C⟩:=g _ _ _ _ p.1 (xO w);exact ⟨j,x,b,h2,J,v,d,G,D,C _ rfl p.2⟩
 cases ex with
 |exit i=>exact q.elim
 |normal=>obtain ⟨a,e,b,h2,g,d⟩:=q;exact key a e b h2 g d
 |ret=>obtain ⟨a,e,b,h2,g,d⟩:=q;exact key a e b h2 g d
@[simp]theorem AP (f:PF) (a b:Nat) (p:PV):(f.put a p).get b=if b=a then p else f.get b:=rfl
@[simp]theorem CP (l:List PV) (a:Nat):(PF.of l).get a=l.getD a .any:=rfl
@[simp]theorem Fx (f:PF) (a:Nat) (p:PV):f.aq (some a) p=f.put a p:=rfl
@[simp]theorem Fy (f:PF) (p:PV):f.aq none p=f:=rfl
@[simp]theorem IE (f:PF) (a:Nat):bL f (.t a)=f.get a:=rfl
@[simp]theorem IF (f:PF) (v:Value):bL f (.k v)=kU v:=rfl
@[simp]theorem IG (f:PF) (a:Nat):bL f (.f a)= .fn a [] []:=rfl
@[simp]theorem CQ (k:IntKind) (a:Int):kU (.int k a)= .v (.int k a):=rfl
@[simp]theorem AQ (a:Bool):kU (.bool a)= .v (.bool a):=rfl
@[simp]theorem CS (a:ByteArray):kU (.string a)= .v (.string a):=rfl
@[simp]theorem FA (a:Option Addr) (b c:Nat):kU (.slice a b c)= .v (.slice a b c):=rfl
@[simp]theorem CT (a:Option Addr):kU (.pointer a)= .v (.pointer a):=rfl
@[simp]theorem CU (a:Option Nat):kU (.map a)= .v (.map a):=rfl
@[simp]theorem FB:kU .nilFunc= .v .nilFunc:=rfl
@[simp]theorem FC:kU .nilIface= .v .nilIface:=rfl
@[simp]theorem CW (a:Array Value):kU (.agg a)= .agg (a.toList.map .v):=rfl
@[simp]theorem FD (V:List Nat) (fr:PF) (h:PH):Mp.up .pl V fr h= .pl:=rfl
@[simp]theorem FE (V:List Nat) (fr:PF) (h:PH):Mp.up .d0 V fr h= .d0:=rfl
@[simp]theorem FF (a:List AO) (ck:List (Nat×Nat×Nat)) (acc:List (PF×PH×List Nat)) (W V:List Nat) (fr:PF) (h:PH):Mp.up (.dr a ck acc W) V fr h= .dr a ck ((fr,h,V++W)::acc) (V++W):=rfl
@[simp]theorem CX:PK E O n Q (.code .skip ks) fr h↔PK E O n Q (.done .normal ks) fr h:=⟨fun k=>by cases k;assumption,.skip⟩
@[simp]theorem FG:PK E O n Q (.code .ret ks) fr h↔PK E O n Q (.done .ret ks) fr h:=⟨fun k=>by cases k;assumption,.ret⟩
@[simp]theorem CY (i:Nat):PK E O n Q (.code (.exit i) ks) fr h↔PK E O n Q (.done (.exit i) ks) fr h:=⟨fun k=>by cases k;assumption,.exit⟩
@[simp]theorem FH (l:List AO):PK E O n Q (.code (.aB l) ks) fr h↔PK E O n Q (.ops .pl l ks) fr h:=⟨fun k=>by cases k;assumption,.aB⟩
@[simp]theorem CZ (l:List AO) (c:Nat×Nat×Nat) (ck:List (Nat×Nat×Nat)):PK E O n Q (.code (.ai l (c::ck)) ks) fr h↔PK E O n Q (.ops (.dr l (c::ck) [(fr,h,[])] []) l ks) fr h:=⟨fun k=>by cases k;assumption,.ai⟩
@[simp]theorem AR (l:List AO):PK E O n Q (.code (.ai l []) ks) fr h↔PK E O n Q (.ops .d0 l ks) fr h:=⟨fun k=>by cases k;assumption,.n6⟩
@[simp]theorem FK (a b:AC):PK E O n Q (.code (.seq a b) ks) fr h↔PK E O n Q (.code a (.seq b::ks)) fr h:=⟨fun k=>by cases k;assumption,.seq⟩
@[simp]theorem AS (i:Nat) (a:AC):PK E O n Q (.code (.block i a) ks) fr h↔PK E O n Q (.code a (.bw i::ks)) fr h:=⟨fun k=>by cases k;assumption,.block⟩
def PC (E:Env) (O:dD) (n:Nat) (Q:Ex→PF→PH→Prop) (p:PV) (a b:AC) (ks:List Kp) (fr:PF) (h:PH):Prop:=∃t,p= .v (.bool t)∧PK E O n Q (.code (bif t then a else b) ks) fr h
@[simp]theorem C1 (x:X) (a b:AC):PK E O n Q (.code (.cond x a b) ks) fr h↔PC E O n Q (bL fr x) a b ks fr h:=⟨fun k=>by cases k with|cond e q=>exact ⟨_,e,q⟩,fun⟨t,e,q⟩=>.cond e q⟩
@[simp]theorem AT (t:Bool) (a b:AC):PC E O n Q (.v (.bool t)) a b ks fr h↔br (t=true) (PK E O n Q (.code a ks) fr h) (PK E O n Q (.code b ks) fr h):=by
 unfold PC;cases t
 ·simp only [reduceCtorEq,EH]
  exact ⟨fun⟨t,e,q⟩=>by cases e;exact q,fun q=>⟨_,rfl,q⟩⟩
 ·simp only [EG]
  exact ⟨fun⟨t,e,q⟩=>by cases e;exact q,fun q=>⟨_,rfl,q⟩⟩
@[simp high]theorem Ls (a b:AC):PC E O n Q (.v (.bool true)) a b ks fr h↔PK E O n Q (.code a ks) fr h:=by rw [AT];simp
@[simp high]theorem Lt (a b:AC):PC E O n Q (.v (.bool false)) a b ks fr h↔PK E O n Q (.code b ks) fr h:=by rw [AT];simp
@[simp]theorem FL (ex:Ex):PK E O n Q (.done ex []) fr h↔Q ex fr h:=⟨fun k=>by cases k;assumption,.ud⟩
@[simp]theorem IH (b:AC):PK E O n Q (.done .normal (.seq b::ks)) fr h↔PK E O n Q (.code b ks) fr h:=⟨fun k=>by cases k;assumption,.CM⟩
@[simp]theorem IJ (i:Nat):PK E O n Q (.done .normal (.bw i::ks)) fr h↔PK E O n Q (.done .normal ks) fr h:=⟨fun k=>by cases k;assumption,.CN⟩
@[simp]theorem IK (i:Nat) (b:AC):PK E O n Q (.done (.exit i) (.seq b::ks)) fr h↔PK E O n Q (.done (.exit i) ks) fr h:=⟨fun k=>by cases k;assumption,.CO⟩
@[simp]theorem FM (i:Nat):PK E O n Q (.done (.exit i) (.bw i::ks)) fr h↔PK E O n Q (.done .normal ks) fr h:=⟨fun k=>by cases k with|rp q=>exact q|ue q=>exact absurd rfl q,.rp⟩
@[simp]theorem IL (i k:Nat) (I:Nat→PF→PH→Prop):PK E O n Q (.done (.exit i) (.lp I k::ks)) fr h↔PK E O n Q (.done (.exit i) ks) fr h:=⟨fun k=>by cases k;assumption,.del⟩
@[simp]theorem Lu (k:Kp):PK E O n Q (.done .ret (k::ks)) fr h↔PK E O n Q (.done .ret ks) fr h:=⟨fun k=>by cases k;assumption,.uf⟩
def xP (n:Nat) (I:Nat→PF→PH→Prop) (k:Nat) (fr:PF) (h:PH):Prop:=∃j,j<k∧∃cK h2,Gh n fr h cK h2∧I j cK h2
@[simp]theorem IM (I:Nat→PF→PH→Prop) (k:Nat):PK E O n Q (.done .normal (.lp I k::ks)) fr h↔xP n I k fr h:=
 ⟨fun q=>by cases q with|AN a b c=>exact ⟨_,a,_,_,b,c⟩,fun⟨_,a,_,_,b,c⟩=>.AN a b c⟩
def mW (I:Nat→PF→PH→Prop) (N:Nat):Nat→PF→PH→Prop:=fun k fr h=>k≤N∧I (N- k) fr h
theorem xP.for {I:Nat→PF→PH→Prop} {N i:Nat} (hi:i<N) (a:I (i+1) fr h):xP n (mW I N) (N- i) fr h:=
 ⟨N- (i+1),by omega,fr,h,Gh.refl _ _ _,by omega,by rw [show N- (N- (i+1))=i+1 by omega];exact a⟩
theorem xP.xQ {I:Nat→PF→PH→Prop} {N i:Nat} {a:PF} {h2:PH} (hi:i<N) (g:Gh n fr h a h2) (b:I (i+1) a h2):xP n (mW I N) (N- i) fr h:=
 ⟨N- (i+1),by omega,a,h2,g,by omega,by rw [show N- (N- (i+1))=i+1 by omega];exact b⟩
theorem rq {a:AC} {b:PF} {h2:PH} (I:Nat→PF→PH→Prop) (k:Nat) (g:Gh n fr h b h2) (c:I k b h2) (step:∀k fr h,I k fr h→PK E O n Q (.code a (.lp I k::ks)) fr h):PK E O n Q (.code (.loop a) ks) fr h:=.loop I k step g c
theorem ug {a:AC} {c:PF} {h2:PH} (I:Nat→PF→PH→Prop) (N:Nat) (g:Gh n fr h c h2) (d:I 0 c h2) (step:∀i fr h,i≤N→I i fr h→PK E O n Q (.code a (.lp (mW I N) (N- i)::ks)) fr h):PK E O n Q (.code (.loop a) ks) fr h:=
 rq (mW I N) N g ⟨MM _,by rw [Nat.sub_self];exact d⟩ fun k fr h b=>by
  have:=step (N- k) fr h (by omega) b.2;rwa [show N- (N- k)=k by have:=b.1;omega]at this
theorem ba {a:AC} (I:Nat→PF→PH→Prop) (N:Nat) (b:I 0 fr h) (step:∀i fr h,i≤N→I i fr h→PK E O n Q (.code a (.lp (mW I N) (N- i)::ks)) fr h):PK E O n Q (.code (.loop a) ks) fr h:=ug I N (Gh.refl _ _ _) b step
@[simp]theorem FN (res:List RS) (R:PV→PH→Prop):xN n res R .normal fr h=∃vs,kD.all fr h res=some vs∧∃a h2,kV n (ey vs) h a h2∧R a h2:=rfl
@[simp]theorem FO (res:List RS) (R:PV→PH→Prop):xN n res R .ret fr h=∃vs,kD.all fr h res=some vs∧∃a h2,kV n (ey vs) h a h2∧R a h2:=rfl
variable{m:Mp} {l:List AO} {d:Option Nat}
@[simp]theorem FP:PK E O n Q (.ops .pl [] ks) fr h↔PK E O n Q (.done .normal ks) fr h:=⟨fun k=>by cases k;assumption,.uc⟩
@[simp]theorem C2:PK E O n Q (.ops .d0 [] ks) fr h↔PK E O n Q (.done .normal ks) fr h:=⟨fun k=>by cases k;assumption,.n7⟩
@[simp]theorem C3 (c:List AO) (ck:List (Nat×Nat×Nat)) (acc:List (PF×PH×List Nat)) (W:List Nat):PK E O n Q (.ops (.dr c ck acc W) [] ks) fr h↔AL c ck acc=true∧PK E O n Q (.done .normal ks) fr h:=⟨fun k=>by cases k with|lI a b=>exact ⟨a,b⟩,fun⟨a,b⟩=>.lI a b⟩
def PG (E:Env) (O:dD) (n:Nat) (Q:Ex→PF→PH→Prop) (g:PV) (b:Bool) (m:Mp) (d:Option Nat) (p:aS) (l:List AO) (ks:List Kp) (fr:PF) (h:PH):Prop:=∃x,g= .v x∧br (cS b x=true) (PK E O n Q (.ops m (⟨none,d,p⟩::l) ks) fr h) (PK E O n Q (.ops (m.up [] (fr.aq d (.v undef)) h) l ks) (fr.aq d (.v undef)) h)
@[simp]theorem Lv (t:Nat) (b:Bool) (p:aS):PK E O n Q (.ops m (⟨some (t,b),d,p⟩::l) ks) fr h↔PG E O n Q (fr.get t) b m d p l ks fr h:=by
 constructor
 ·intro k
  cases k with
  |AM e w q=>exact ⟨_,e,fun _=>q,fun k=>absurd w k⟩
  |rn e w q=>exact ⟨_,e,fun k=>(Bool.noConfusion (w.symm.trans k)),fun _=>q⟩
 ·rintro ⟨x,e,q⟩
  cases w:cS b x with
  |true=>exact .AM e w (q.1 w)
  |false=>exact .rn e w (q.2 (by simp [w]))
@[simp]theorem AU (t:Bool) (p:aS):PG E O n Q (.v (.bool t)) true m d p l ks fr h↔br (t=true) (PK E O n Q (.ops m (⟨none,d,p⟩::l) ks) fr h) (PK E O n Q (.ops (m.up [] (fr.aq d (.v undef)) h) l ks) (fr.aq d (.v undef)) h):=by
 unfold PG;exact ⟨fun⟨x,e,q⟩=>by cases e;simpa using q,fun q=>⟨_,rfl,by simpa using q⟩⟩
@[simp]theorem AV (t:Bool) (p:aS):PG E O n Q (.v (.bool t)) false m d p l ks fr h↔br (t=true) (PK E O n Q (.ops (m.up [] (fr.aq d (.v undef)) h) l ks) (fr.aq d (.v undef)) h) (PK E O n Q (.ops m (⟨none,d,p⟩::l) ks) fr h):=by
 unfold PG;refine ⟨fun⟨x,e,q⟩=>?_,fun q=>⟨_,rfl,?_⟩⟩
 ·cases e;cases t<;>simpa using q
 ·cases t<;>simpa using q
@[simp high]theorem IN (p:aS):PG E O n Q (.v (.bool true)) true m d p l ks fr h↔PK E O n Q (.ops m (⟨none,d,p⟩::l) ks) fr h:=by rw [AU];simp
@[simp high]theorem IP (p:aS):PG E O n Q (.v (.bool false)) true m d p l ks fr h↔PK E O n Q (.ops (m.up [] (fr.aq d (.v undef)) h) l ks) (fr.aq d (.v undef)) h:=by rw [AU];simp
@[simp high]theorem IQ (p:aS):PG E O n Q (.v (.bool true)) false m d p l ks fr h↔PK E O n Q (.ops (m.up [] (fr.aq d (.v undef)) h) l ks) (fr.aq d (.v undef)) h:=by rw [AV];simp
@[simp high]theorem IS (p:aS):PG E O n Q (.v (.bool false)) false m d p l ks fr h↔PK E O n Q (.ops m (⟨none,d,p⟩::l) ks) fr h:=by rw [AV];simp
@[simp]theorem Lw (b:Bool) (p:aS):PG E O n Q (.v undef) b m d p l ks fr h↔PK E O n Q (.ops (m.up [] (fr.aq d (.v undef)) h) l ks) (fr.aq d (.v undef)) h:=by
 unfold PG;refine ⟨fun⟨x,e,q⟩=>?_,fun q=>⟨_,rfl,by simpa using q⟩⟩;cases e;simpa using q
def PO (E:Env) (O:dD) (n:Nat) (Q:Ex→PF→PH→Prop) (r:Option (PV×PH)) (V:List Nat) (d:Option Nat) (m:Mp) (l:List AO) (ks:List Kp) (fr:PF):Prop:=∃v h',r=some (v,h')∧PK E O n Q (.ops (m.up V (fr.aq d v) h') l ks) (fr.aq d v) h'
@[simp]theorem FQ (v:PV) (h':PH) (V:List Nat):PO E O n Q (some (v,h')) V d m l ks fr↔PK E O n Q (.ops (m.up V (fr.aq d v) h') l ks) (fr.aq d v) h':=⟨fun⟨_,_,e,q⟩=>by cases e;exact q,fun q=>⟨_,_,rfl,q⟩⟩
@[simp]theorem Lx (V:List Nat):PO E O n Q none V d m l ks fr↔False:=⟨fun⟨_,_,e,_⟩=>(by cases e),False.elim⟩
@[simp]theorem IT (c:Prop) [Decidable c] (r:Option (PV×PH)) (V:List Nat):PO E O n Q (if c then r else none) V d m l ks fr↔c∧PO E O n Q r V d m l ks fr:=by by_cases h:c<;>simp [h]
def P1 (E:Env) (O:dD) (n:Nat) (Q:Ex→PF→PH→Prop) (r:Option PV) (d:Option Nat) (m:Mp) (l:List AO) (ks:List Kp) (fr:PF) (h:PH):Prop:=∃v,r=some v∧PK E O n Q (.ops (m.up [] (fr.aq d v) h) l ks) (fr.aq d v) h
@[simp]theorem Ly (v:PV):P1 E O n Q (some v) d m l ks fr h↔PK E O n Q (.ops (m.up [] (fr.aq d v) h) l ks) (fr.aq d v) h:=⟨fun⟨_,e,q⟩=>by cases e;exact q,fun q=>⟨_,rfl,q⟩⟩
@[simp]theorem Lz:P1 E O n Q none d m l ks fr h↔False:=⟨fun⟨_,e,_⟩=>(by cases e),False.elim⟩
@[simp]theorem IU (c:Prop) [Decidable c] (r:Option PV):P1 E O n Q (if c then r else none) d m l ks fr h↔c∧P1 E O n Q r d m l ks fr h:=by by_cases h:c<;>simp [h]
def PS (E:Env) (O:dD) (n:Nat) (Q:Ex→PF→PH→Prop) (r:Option PH) (V:List Nat) (d:Option Nat) (m:Mp) (l:List AO) (ks:List Kp) (fr:PF):Prop:=∃h',r=some h'∧PK E O n Q (.ops (m.up V (fr.aq d (.v undef)) h') l ks) (fr.aq d (.v undef)) h'
@[simp]theorem LA (h':PH) (V:List Nat):PS E O n Q (some h') V d m l ks fr↔PK E O n Q (.ops (m.up V (fr.aq d (.v undef)) h') l ks) (fr.aq d (.v undef)) h':=⟨fun⟨_,e,q⟩=>by cases e;exact q,fun q=>⟨_,rfl,q⟩⟩
@[simp]theorem LB (V:List Nat):PS E O n Q none V d m l ks fr↔False:=⟨fun⟨_,e,_⟩=>(by cases e),False.elim⟩
@[simp]theorem IV (c:Prop) [Decidable c] (r:Option PH) (V:List Nat):PS E O n Q (if c then r else none) V d m l ks fr↔c∧PS E O n Q r V d m l ks fr:=by by_cases h:c<;>simp [h]
theorem fS {p:aS} (a:p.an=false):PK E O n Q (.ops m (⟨none,d,p⟩::l) ks) fr h↔PO E O n Q (pop p (bL fr) h) (jQ p (bL fr)) d m l ks fr:=by
 constructor
 ·intro k
  cases k with
  |op e q=>exact ⟨_,_,e,q⟩
  |call=>cases a
  |callv=>cases a
 ·exact fun⟨_,_,e,q⟩=>.op e q
theorem xR (r:Option PV):PO E O n Q (r.map fun v=>(v,h)) [] d m l ks fr↔P1 E O n Q r d m l ks fr h:=by cases r<;>simp
theorem uh (r:Option PH) (V:List Nat):PO E O n Q (r.map fun a=>(.v undef,a)) V d m l ks fr↔PS E O n Q r V d m l ks fr:=by cases r<;>simp
theorem eT {p:aS} {r:Option PV} (a:p.an=false) (e:pop p (bL fr) h=r.map fun v=>(v,h)) (w:jQ p (bL fr)=[]):PK E O n Q (.ops m (⟨none,d,p⟩::l) ks) fr h↔P1 E O n Q r d m l ks fr h:=by rw [fS a,e,w,xR]
@[simp]theorem IW (x:X):PK E O n Q (.ops m (⟨none,d,.mv x⟩::l) ks) fr h↔PK E O n Q (.ops (m.up [] (fr.aq d (bL fr x)) h) l ks) (fr.aq d (bL fr x)) h:=by rw [fS rfl];simp [pop,jQ]
@[simp]theorem C4 (c a b:X):PK E O n Q (.ops m (⟨none,d,.pick c a b⟩::l) ks) fr h↔P1 E O n Q (qR (bL fr c) (bL fr a) (bL fr b)) d m l ks fr h:=eT rfl rfl rfl
@[simp]theorem AW (z:List Value):PK E O n Q (.ops m (⟨none,d,.alloc z⟩::l) ks) fr h↔PK E O n Q (.ops (m.up [] (fr.aq d (.ref h.length 0 z.length)) (h++[.cells z.length (z.map .v)])) l ks) (fr.aq d (.ref h.length 0 z.length)) (h++[.cells z.length (z.map .v)]):=by rw [fS rfl];simp [pop,jQ]
@[simp]theorem FR (x:X):PK E O n Q (.ops m (⟨none,d,.box x⟩::l) ks) fr h↔PO E O n Q (tM h (bL fr x)) [] d m l ks fr:=fS rfl
@[simp]theorem AX (z:List Value) (ps:List (Nat×Nat×X)):PK E O n Q (.ops m (⟨none,d,.build z ps⟩::l) ks) fr h↔P1 E O n Q ((fR (z.map .v) (ps.map fun p=>(p.1,p.2.1,bL fr p.2.2))).map .agg) d m l ks fr h:=eT rfl (by simp [pop,Option.map_map];rfl) rfl
@[simp]theorem FT (len sz:Nat) (z:List Value) (ps:List (Nat×Nat×X)):PK E O n Q (.ops m (⟨none,d,.bsl len sz z ps⟩::l) ks) fr h↔PO E O n Q (tL len sz z h (ps.map fun p=>(p.1,p.2.1,bL fr p.2.2))) [] d m l ks fr:=fS rfl
@[simp]theorem IX (x:X):PK E O n Q (.ops m (⟨none,d,.ld x⟩::l) ks) fr h↔P1 E O n Q (vm h (bL fr x)) d m l ks fr h:=eT rfl rfl rfl
@[simp]theorem FU (k:Nat) (x:X):PK E O n Q (.ops m (⟨none,d,.ldn k x⟩::l) ks) fr h↔P1 E O n Q (kr k h (bL fr x)) d m l ks fr h:=eT rfl rfl rfl
@[simp]theorem IY (k:Nat) (x v:X):PK E O n Q (.ops m (⟨none,d,.st k x v⟩::l) ks) fr h↔PS E O n Q (xu k h (bL fr x) (bL fr v)) (jQ (.st k x v) (bL fr)) d m l ks fr:=by rw [fS rfl];exact uh _ _
@[simp]theorem FV (op:BinOp) (x y:X):PK E O n Q (.ops m (⟨none,d,.bin op x y⟩::l) ks) fr h↔P1 E O n Q (tH op (bL fr x) (bL fr y)) d m l ks fr h:=eT rfl rfl rfl
@[simp]theorem FW (k:Nat) (neg:Bool) (x y:X):PK E O n Q (.ops m (⟨none,d,.eqk k neg x y⟩::l) ks) fr h↔P1 E O n Q ((qS h k (bL fr x) (bL fr y)).map fun b=>.v (.bool (bif neg then !b else b))) d m l ks fr h:=eT rfl (by simp [pop,Option.map_map];rfl) rfl
@[simp]theorem IZ (op:UnOp) (x:X):PK E O n Q (.ops m (⟨none,d,.un op x⟩::l) ks) fr h↔P1 E O n Q (CG op (bL fr x)) d m l ks fr h:=eT rfl rfl rfl
@[simp]theorem FX (k:IntKind) (x:X):PK E O n Q (.ops m (⟨none,d,.jq k x⟩::l) ks) fr h↔P1 E O n Q (tJ k (bL fr x)) d m l ks fr h:=eT rfl rfl rfl
@[simp]theorem FY (f:Nat) (a b:List X):PK E O n Q (.ops m (⟨none,d,.mkf f a b⟩::l) ks) fr h↔PK E O n Q (.ops (m.up [] (fr.aq d (.fn f (a.map (bL fr)) (b.map (bL fr)))) h) l ks) (fr.aq d (.fn f (a.map (bL fr)) (b.map (bL fr)))) h:=by rw [fS rfl];simp [pop,jQ]
@[simp]theorem C5 (sz bytes:Nat) (z:List Value) (x:X):PK E O n Q (.ops m (⟨none,d,.mksl sz bytes z x⟩::l) ks) fr h↔PO E O n Q (nT sz bytes z h (bL fr x)) [] d m l ks fr:=fS rfl
@[simp]theorem I0 (off:Nat) (x:X):PK E O n Q (.ops m (⟨none,d,.fa off x⟩::l) ks) fr h↔P1 E O n Q (yS h off (bL fr x)) d m l ks fr h:=eT rfl rfl rfl
@[simp]theorem I1 (sz:Nat) (x i:X):PK E O n Q (.ops m (⟨none,d,.ia sz x i⟩::l) ks) fr h↔P1 E O n Q (AB h sz (bL fr x) (bL fr i)) d m l ks fr h:=eT rfl rfl rfl
@[simp]theorem FZ (len sz:Nat) (x i:X):PK E O n Q (.ops m (⟨none,d,.cx len sz x i⟩::l) ks) fr h↔P1 E O n Q (qT h len sz (bL fr x) (bL fr i)) d m l ks fr h:=eT rfl rfl rfl
@[simp]theorem F3 (x:X) (i:Nat):PK E O n Q (.ops m (⟨none,d,.ext x i⟩::l) ks) fr h↔P1 E O n Q (tK (bL fr x) i) d m l ks fr h:=eT rfl rfl rfl
@[simp]theorem F4 (sz bytes:Nat) (s x:X):PK E O n Q (.ops m (⟨none,d,.app sz bytes s x⟩::l) ks) fr h↔PO E O n Q (kv sz bytes h (bL fr s) (bL fr x)) (jQ (.app sz bytes s x) (bL fr)) d m l ks fr:=fS rfl
@[simp]theorem C6 (x:X):PK E O n Q (.ops m (⟨none,d,.fg x⟩::l) ks) fr h↔P1 E O n Q (nQ h (bL fr x)) d m l ks fr h:=eT rfl rfl rfl
@[simp]theorem F5 (x:X) («as»:List X):PK E O n Q (.ops m (⟨none,d,.mxl x «as»⟩::l) ks) fr h↔P1 E O n Q (vo pK (bL fr x) («as».map (bL fr))) d m l ks fr h:=eT rfl rfl rfl
@[simp]theorem F6 (neg:Bool) (offs:List (Nat×Nat)) (x y:X):PK E O n Q (.ops m (⟨none,d,.eqs neg offs x y⟩::l) ks) fr h↔P1 E O n Q (gw neg offs (bL fr x) (bL fr y)) d m l ks fr h:=eT rfl rfl rfl
@[simp]theorem F7 (len k:Nat) (xs:List X):PK E O n Q (.ops m (⟨none,d,.xt (.kZ len k) xs⟩::l) ks) fr h↔P1 E O n Q (sC h (.kZ len k) (xs.map (bL fr))) d m l ks fr h:=eT rfl rfl rfl
theorem fT {f:Nat} {«as»:List X} {args:List PV} {W:List Nat} (b:«as».map (bL fr)=args) (k:me E O f args h (· ∈W) (fun r a=>PK E O n Q (.ops (m.up W (fr.aq d r) a) l ks) (fr.aq d r) a)):PK E O n Q (.ops m (⟨none,d,.call f «as»⟩::l) ks) fr h:=
 .call (b▸k) fun _ _ q=>q
theorem jS {f:Nat} {x:X} {first cap:List PV} {«as»:List X} {args:List PV} {W:List Nat} (b:bL fr x= .fn f first cap) (c:first++«as».map (bL fr)++cap=args) (k:me E O f args h (· ∈W) (fun r a=>PK E O n Q (.ops (m.up W (fr.aq d r) a) l ks) (fr.aq d r) a)):PK E O n Q (.ops m (⟨none,d,.callv x «as»⟩::l) ks) fr h:=
 .callv b (c▸k) fun _ _ q=>q
end
theorem ru {sz bytes b n k:Nat} {h:PH} {x:PV} {cs new:List PV} (a:h[b]?=some (.cells sz cs)) (c:n*sz=cs.length) (r:0<sz) (o:hC x=some k) (g:cA h sz k x=some new) (m:new.length=k*sz) (j:cW h x=true) (p:(n+k)*bytes≤2^47) (q:n+k<2^62):
 kv sz bytes h (.sl sz b 0 n n) x=some (.sl sz b 0 (n+k) (n+k),h.set b (.cells sz (cs++new))):=by
 have l:=(MO.1 a).1;unfold kv;rw [o];simp only;by_cases f:k=0
 ·subst f
  have:new=[]:=Nc.1 (by simpa using m);subst this
  have e:h.set b (.cells sz cs)=h:=by
   apply List.ext_getElem?;intro i;rw [List.getElem?_set];by_cases hi:b=i
   ·subst hi;rw [if_pos rfl,if_pos l,a]
   ·rw [if_neg hi]
  simp [j,a,c,e]
 ·rw [if_neg f,g]
  simp only [a];rw [if_pos ⟨trivial,trivial,r,by simpa using c,MM _,p,q⟩];by_cases d:n=0
  ·subst d
   have:cs=[]:=Nc.1 (by simpa using c.symm);subst this;simp
  ·rw [if_neg d,if_neg (by omega),if_pos trivial,MP (by omega)]
theorem lJ {sz bytes k:Nat} {h:PH} {x:PV} {new:List PV} (e:0<sz) (b:hC x=some k) (a:cA h sz k x=some new) (f:0<k) (c:k*bytes≤2^47) (d:k<2^62):
 kv sz bytes h (.v (.slice none 0 0)) x=some (.sl sz h.length 0 k k,h++[.cells sz new]):=by
 unfold kv;rw [b];simp only;rw [if_neg (by omega),a];simp only;rw [if_pos ⟨e,c,d⟩]
theorem kE {E:Env} {O:dD} {n:Nat} {Q:Ex→PF→PH→Prop} {a:List Kp} {fr:PF} {m:Mp} {l:List AO} {d:Option Nat} {V:List Nat} {sz bytes b j k:Nat} {h:PH} {x:PV} {cs new:List PV} (p:h[b]?=some (.cells sz cs)) (i:hC x=some k) (c:cA h sz k x=some new) (f:j*sz=cs.length) (r:0<sz) (g:new.length=k*sz) (e:cW h x=true) (o:(j+k)*bytes≤2^47) (q:j+k<2^62)
 (next:PK E O n Q (.ops (m.up V (fr.aq d (.sl sz b 0 (j+k) (j+k))) (h.set b (.cells sz (cs++new)))) l a) (fr.aq d (.sl sz b 0 (j+k) (j+k))) (h.set b (.cells sz (cs++new)))):PO E O n Q (kv sz bytes h (.sl sz b 0 j j) x) V d m l a fr:=by
 rw [ru p f r i c g e o q];exact (FQ _ _ _).2 next
attribute [simp] lC sC tN lD qR vm kr xu nP tH tI qS ku CG tJ xv yS bm AB qT Fj tK qU hC nQ nR qV vn CH cA nS nT tL xw vo iZ gw tM a5 fR jC jQ cW jP mS kD.all kD.get ey
end P
namespace P
open Go Go.RowKit
def add (F:Nat→Prop) (h:PH) (φ:Nat→Nat) (A:Nat→Prop):Nat→Prop:=fun y=>F y∨∃b,A b∧aA h b∧φ b=y
def Vz (A:Nat→Prop) (h:PH) (p q:PV):Prop:=∀F H φ x,bA ⟨F,H,φ,h⟩→RV ⟨F,H,φ,h⟩ p x→RF (add F h φ A) H q x
def rv (A:Nat→Prop) (h:PH):List PV→List PV→Prop
 |[],[]=>True
 |p::ps,q::qs=>Vz A h p q∧rv A h ps qs
 |_,_=>False
def Vg (A:Nat→Prop) (σ:Nat→Nat) (h bs:PH) (p q:PV):Prop:=∀F H φ x,bA ⟨F,H,φ,h⟩→RV ⟨F,H,φ,h⟩ p x→RV ⟨add F h φ A,H,fun i=>φ (σ i),bs⟩ q x
def gA (A:Nat→Prop) (σ:Nat→Nat) (h bs:PH):List PV→List PV→Prop
 |[],[]=>True
 |p::ps,q::qs=>Vg A σ h bs p q∧gA A σ h bs ps qs
 |_,_=>False
variable{A:Nat→Prop} {σ:Nat→Nat} {h bs:PH}
theorem rv.ok:∀{ps c:List PV},rv A h ps c→∀{F H φ xs},bA ⟨F,H,φ,h⟩→aT ⟨F,H,φ,h⟩ ps xs→dE (add F h φ A) H c xs
 |[],[],_,F,H,φ,_,S,.nil=>.nil
 |p::ps,q::c,⟨a,b⟩,F,H,φ,_,S,.cons r s=>.cons (a F H φ _ S r) (rv.ok b S s)
theorem gA.ok:∀{ps c:List PV},gA A σ h bs ps c→∀{F H φ xs},bA ⟨F,H,φ,h⟩→aT ⟨F,H,φ,h⟩ ps xs→aT ⟨add F h φ A,H,fun i=>φ (σ i),bs⟩ c xs
 |[],[],_,F,H,φ,_,S,.nil=>.nil
 |p::ps,q::c,⟨a,b⟩,F,H,φ,_,S,.cons r s=>.cons (a F H φ _ S r) (gA.ok b S s)
theorem rz {F:Nat→Prop} {H:AH} {φ:Nat→Nat} (x:Nat) (a:F x):add F h φ A x∧H.get x=H.get x:=⟨.inl a,rfl⟩
theorem AZ (x:Value):Vz A h (.v x) (.v x):=fun F H a y S R=>by cases R;exact .v _
theorem vw (sz:Nat) (rows:List (List PV)):Vz A h (.fs sz rows) (.fs sz rows):=fun F H a y S R=>by cases R with|fs q=>exact q.mono rfl rz
theorem eK.of_flat {F:Nat→Prop} {H:AH} {sz:Nat}:∀{rows:List (List PV)} {ys:List Value},dE F H rows.flatten ys→(∀r∈rows,r.length=sz)→∃rs,eK F H rows rs∧rs.flatten=ys∧∀r∈rs,r.length=sz
 |[],ys,h,_=>by cases h;exact ⟨[],.nil,rfl,by simp⟩
 |r::rows,ys,h,e=>by
  rw [List.flatten_cons]at h;have f:dE F H r (ys.take sz):=by have:=h.take r.length;rwa [List.take_left,e r (by simp)]at this
  have h2:dE F H rows.flatten (ys.drop sz):=by have:=h.drop r.length;rwa [List.drop_left,e r (by simp)]at this
  obtain ⟨rs,a,b,c⟩:=eK.of_flat h2 fun q d=>e q (by simp [d])
  refine ⟨ys.take sz::rs,.cons f a,by rw [List.flatten_cons,b,List.take_append_drop],fun q d=>?_⟩;rcases M0.1 d with rfl|d
  ·rw [←f.length,e r (by simp)]
  ·exact c q d
theorem rA {sz b o n c z:Nat} {cs:List PV} {rows:List (List PV)} (B:A b) (a:h[b]?=some (.cells z cs)) (g:(o+c)*sz=cs.length) (C:0<sz) (s:sz≤z) (y:n≤c) (j:rows.length=n) (w:∀r∈rows,r.length=sz) (u:rv A h ((cs.drop (o*sz)).take (n*sz)) rows.flatten):Vz A h (.sl sz b o n c) (.fs sz rows):=fun F H J x S R=>by
 rcases gW R a g with⟨rfl,rfl,d,rfl,P⟩|⟨Q,rfl⟩
 ·obtain rfl:rows=[]:=Nc.1 j
  exact .fs (rows:=[]) (rs:=[]) ⟨_,_,rfl,by simp⟩ (Nb _) (fun e l=>⟨.inr rfl,.inl rfl⟩) .nil
 ·have m:cs≠[]:=by
   rintro rfl;have:=Nat.mul_pos (show 0<o+c by omega) C;simp at g;omega
  obtain ⟨K,k,f,D⟩:=S.cells (t:=0) a (List.length_pos_iff.2 m);have M:=f.length;obtain ⟨rs,p,I,G⟩:=eK.of_flat (u.ok S ((f.drop (o*sz)).take (n*sz))) w;have v:=p.length;have U:(o+c)*sz=o*sz+c*sz:=Nat.add_mul ..;rw [←j];refine .fs (rs:=rs) ⟨_,_,by rw [v],fun i r hi=>⟨_,_,rfl,?_⟩⟩ (by omega) (fun e l=>?_) p
  ·obtain ⟨E,T⟩:=fQ G hi
   have O:=(MO.1 hi).1;have q:(i+1)*sz≤n*sz:=Nat.mul_le_mul_right _ (by omega);have L:n*sz≤c*sz:=Nat.mul_le_mul_right _ y;rw [Nat.succ_mul]at q;rw [eI k D (by omega),←E,I,List.drop_take,List.drop_drop,List.take_take,Nat.min_eq_left (by omega)]
  ·cases l
   refine ⟨.inl rfl,?_⟩;by_cases N:n=0
   ·left;omega
   ·right
    refine ⟨.inr ⟨b,B,aJ a m,rfl⟩,?_⟩;unfold AH.fE;rw [k];simp [s]
theorem rB {p q:PV} (k:Vz A h p q):Vg A σ h bs p q:=fun F H a x S R=>(k F H a x S R).g9 (C:=⟨_,_,_,_⟩)
@[simp]theorem F8 (x:Value):Vg A σ h bs (.v x) (.v x)↔True:=⟨fun _=>trivial,fun _=>rB (AZ x)⟩
@[simp]theorem A0 (sz:Nat) (rows:List (List PV)):Vg A σ h bs (.fs sz rows) (.fs sz rows)↔True:=⟨fun _=>trivial,fun _=>rB (vw sz rows)⟩
@[simp]theorem C7:rv A h [] []↔True:=Iff.rfl
@[simp]theorem A1 (p q:PV) (ps qs:List PV):rv A h (p::ps) (q::qs)↔Vz A h p q∧rv A h ps qs:=Iff.rfl
@[simp]theorem C8:gA A σ h bs [] []↔True:=Iff.rfl
@[simp]theorem A2 (p q:PV) (ps qs:List PV):gA A σ h bs (p::ps) (q::qs)↔Vg A σ h bs p q∧gA A σ h bs ps qs:=Iff.rfl
@[simp]theorem A3 (cells:List PV):Vg A σ h bs (.fp cells) (.fp cells)↔True:=⟨fun _=>trivial,fun _ F H d x S R=>by
 cases R with|fp a b c=>exact .fp (.inl a) b (c.mono rfl rz)⟩
theorem xS {ps a:List PV} (k:gA A σ h bs ps a):Vg A σ h bs (.agg ps) (.agg a):=fun F H b x S R=>by cases R with|agg r=>exact .agg (k.ok S r)
theorem rC {ps a:List PV} (k:gA A σ h bs ps a):Vg A σ h bs (.dw ps) (.dw a):=fun F H b x S R=>by cases R with|dw r=>exact .dw (k.ok S r)
theorem A4 {f:Nat} {ps b ps' a:List PV} (k:gA A σ h bs ps b) (d:gA A σ h bs ps' a):Vg A σ h bs (.fn f ps ps') (.fn f b a):=fun F H e x S R=>by cases R with|fn r c=>exact .fn (k.ok S r) (d.ok S c)
theorem xT {t:Nat} {p q:PV} (k:Vg A σ h bs p q):Vg A σ h bs (.ie t p) (.ie t q):=fun F H a x S R=>by cases R with|ie r=>exact .ie (k F H a _ S r)
theorem fU {h:PH} {b T t:Nat} (e:bm h b=some T):At h b t↔T=t:=by
 unfold bm at e;split at e
 ·rename_i z cs a
  cases e;constructor
  ·rintro ⟨c,d,e,rfl⟩;rw [a]at e;cases e;rfl
  ·rintro rfl;exact ⟨z,cs,a,rfl⟩
 ·cases e
theorem fV {h:PH} {b T t:Nat} (e:bm h b=some T):Le h b t↔t≤T:=by
 unfold bm at e;split at e
 ·rename_i z cs a
  cases e;exact ⟨fun k=>k z cs a,fun k c d e=>by rw [a]at e;cases e;exact k⟩
 ·cases e
theorem kF {h:PH} {b T:Nat} (e:bm h b=some T):b<h.length:=by
 unfold bm at e;split at e
 ·rename_i z cs a;exact (MO.1 a).1
 ·cases e
theorem xU {b i o t T:Nat} (c:bm h b=some T) (h2:bm bs i=some T) (d:σ i=b):Vg A σ h bs (.ref b o t) (.ref i o t):=fun F H g x S R=>by
 cases R with|ref a j e f=>
 subst d;refine .ref a (kF h2) ((fV h2).2 ((fV c).1 e)) fun k=>?_
 exact f ((fU c).2 ((fU h2).1 k))
theorem vx {b i sz o n c T:Nat} (d:bm h b=some T) (h2:bm bs i=some T) (e:σ i=b):Vg A σ h bs (.sl sz b o n c) (.sl sz i o n c):=fun F H j x S R=>by
 cases R with|sl a l f g=>
 subst e;refine .sl a (kF h2) ((fV h2).2 ((fV d).1 f)) fun k=>?_
 exact g ((fU d).2 ((fU h2).1 k))
theorem ui {sz i z:Nat} (h2:bs[i]?=some (.cells z [])):Vg A σ h bs (.v (.slice none 0 0)) (.sl sz i 0 0 0):=fun F H a x S R=>by
 cases R;have e:bm bs i=some 0:=by unfold bm;rw [h2];rfl
 exact .sl ⟨_,_,rfl⟩ (kF e) ((fV e).2 (by simp)) fun _=>.inl ⟨rfl,rfl,none,rfl,by simp⟩
def je (A:Nat→Prop) (σ:Nat→Nat) (h bs:PH) (o:Option PB):PB→Prop
 | .cells z qs=>qs=[]∨∃ps,o=some (.cells z ps)∧gA A σ h bs ps qs
 | .map fs=>∃es,o=some (.map es)∧es.map (·.1)=fs.map (·.1)∧gA A σ h bs (es.map (·.2)) (fs.map (·.2))
 | .dead=>True
structure gC (A:Nat→Prop) (σ:Nat→Nat) (h bs:PH):Prop where
 bw:∀i P,bs[i]?=some P→je A σ h bs h[σ i]? P
 inj:∀i j,i<bs.length→j<bs.length→aA bs i→aA bs j→σ i=σ j→i=j
 off:∀i,i<bs.length→aA bs i→¬ A (σ i)
theorem gA.length:∀{ps a:List PV},gA A σ h bs ps a→ps.length=a.length
 |[],[],_=>rfl
 |_::_,_::_,⟨_,b⟩=>by simp [gA.length b]
theorem gC.aA (K:gC A σ h bs) {i:Nat} (s:P.aA bs i):P.aA h (σ i):=by
 rcases dK s with⟨es,e⟩|⟨z,cs,e,b⟩
 ·obtain ⟨d,a,_⟩:=K.bw i _ e
  exact bR a
 ·rcases K.bw i _ e with q|⟨ps,a,c⟩
  ·exact absurd q b
  ·exact aJ a (by rintro rfl;have:=c.length;exact b (Nc.1 this.symm))
theorem gC.ok (K:gC A σ h bs) {F:Nat→Prop} {H:AH} {φ:Nat→Nat} (S:bA ⟨F,H,φ,h⟩):bA ⟨add F h φ A,H,fun i=>φ (σ i),bs⟩where
 wf:=S.wf
 fz:=fun x l=>by
  rcases l with l|⟨b,_,f,rfl⟩
  ·exact S.fz x l
  ·exact S.lt f
 inj:=fun i j s t e=>K.inj i j (aN s) (aN t) s t (S.inj _ _ (K.aA s) (K.aA t) e)
 bw:=fun i z y e m=>by
  have s:=aJ e m;rcases K.bw i _ e with q|⟨ps,p,k⟩
  ·exact absurd q m
  obtain ⟨u,a,b,c,d⟩:=S.bw (σ i) z ps p (by rintro rfl;have:=k.length;exact m (Nc.1 this.symm));refine ⟨u,a,k.ok S b,c,?_⟩;rintro (q|⟨w,n,f,o⟩)
  ·exact d q
  ·exact K.off i (aN s) s (S.inj _ _ f (K.aA s) o▸n)
 nN:=fun i B e=>by
  have s:=bR e;obtain ⟨es,p,v,k⟩:=K.bw i _ e;obtain ⟨r,a,b,c,d,g⟩:=S.nN (σ i) es p;refine ⟨r,a,v.symm.trans b,k.ok S c,d,?_⟩;rintro (q|⟨w,n,f,o⟩)
  ·exact g q
  ·exact K.off i (aN s) s (S.inj _ _ f (K.aA s) o▸n)
theorem gC.none (A:Nat→Prop) (σ:Nat→Nat) (h:PH):gC A σ h []:=⟨fun i P e=>by simp at e,fun i j hi=>by simp at hi,fun i hi=>by simp at hi⟩
mutual
def sh (k:Nat):PV→PV
 | .ref b o t=>.ref (b+k) o t
 | .sl sz b o n c=>.sl sz (b+k) o n c
 | .mp b=>.mp (b+k)
 | .agg cs=>.agg (mf k cs)
 | .dw cs=>.dw (mf k cs)
 | .fn f a b=>.fn f (mf k a) (mf k b)
 | .ie t p=>.ie t (sh k p)
 | .v x=>.v x
 | .fs sz rows=>.fs sz rows
 | .fp cells=>.fp cells
 | .any=>.any
def mf (k:Nat):List PV→List PV
 |[]=>[]
 |p::ps=>sh k p::mf k ps
end
def jf (k:Nat):PB→PB
 | .cells z cs=>.cells z (mf k cs)
 | .map es=>.map (es.map fun e=>(e.1,sh k e.2))
 | .dead=>.dead
theorem cZ (k:Nat):∀l:List PV,(mf k l).length=l.length
 |[]=>rfl
 |_::l=>by simp [mf,cZ k l]
theorem n8 (k:Nat):∀es:List (Value×PV),(es.map fun e=>(e.1,sh k e.2)).map (·.2)=mf k (es.map (·.2))
 |[]=>rfl
 |_::l=>by simp only [List.map_cons,mf,n8 k l]
theorem fW {h bs:PH} (b:Nat):(h++bs.map (jf h.length))[b+h.length]?=(bs[b]?).map (jf h.length):=by
 rw [MZ (by omega),Nat.add_sub_cancel,Nd]
theorem rD {h bs:PH} {b t:Nat}:At (h++bs.map (jf h.length)) (b+h.length) t↔At bs b t:=by
 unfold At;rw [fW];constructor
 ·rintro ⟨z,cs,e,rfl⟩
  obtain ⟨P,a,e⟩:=MS.1 e
  cases P with
  |cells d c=>cases e;exact ⟨_,c,a,(cZ _ _).symm⟩
  |_=>cases e
 ·rintro ⟨z,cs,e,rfl⟩
  exact ⟨z,mf h.length cs,by rw [e];rfl,cZ _ _⟩
theorem vy {h bs:PH} {b t:Nat}:Le (h++bs.map (jf h.length)) (b+h.length) t↔Le bs b t:=by
 unfold Le;rw [fW];constructor
 ·intro k z cs e
  have:=k z (mf h.length cs) (by rw [e];rfl);rwa [cZ]at this
 ·intro k z cs e
  obtain ⟨P,a,e⟩:=MS.1 e
  cases P with
  |cells d c=>cases e;rw [cZ];exact k _ c a
  |_=>cases e
theorem lK {h bs:PH} {b:Nat}:dJ (h++bs.map (jf h.length)) (b+h.length)↔dJ bs b:=by
 unfold dJ;rw [fW];constructor
 ·rintro ⟨es,e⟩
  obtain ⟨P,c,e⟩:=MS.1 e
  cases P with
  |map a=>exact ⟨a,c⟩
  |_=>cases e
 ·rintro ⟨es,e⟩
  exact ⟨_,by rw [e];rfl⟩
theorem rE {h bs:PH} {b:Nat}:aA (h++bs.map (jf h.length)) (b+h.length)↔aA bs b:=by
 unfold aA;simp only [lK,rD]
def join (h:PH) (φ ψ:Nat→Nat):Nat→Nat:=fun b=>if b<h.length then φ b else ψ (b- h.length)
theorem ik (h:PH) (φ a:Nat→Nat) (b:Nat):join h φ a (b+h.length)=a b:=by
 unfold join;rw [if_neg (by omega),Nat.add_sub_cancel]
theorem kG {h:PH} {φ a:Nat→Nat} {b:Nat} (c:b<h.length):join h φ a b=φ b:=if_pos c
theorem rF {h bs:PH} {b:Nat} (a:b<bs.length):b+h.length<(h++bs.map (jf h.length)).length:=by
 rw [MR,List.length_map];omega
mutual
theorem n9 {F:Nat→Prop} {H:AH} {φ g:Nat→Nat} {h bs:PH}:∀{p:PV} {x:Value},RV ⟨F,H,g,bs⟩ p x→RV ⟨F,H,join h φ g,h++bs.map (jf h.length)⟩ (sh h.length p) x
 |_,_, .v x=> .v x
 |_,_, .ref a d f e=> .ref a (rF d) (vy.2 f) fun k=>by
  have:=e (rD.1 k)
  simpa [ik]using this
 |_,_, .sl a d f e=> .sl a (rF d) (vy.2 f) fun k=>by
  have:=e (rD.1 k)
  simpa [ik]using this
 |_,_, .mp a d e=> .mp a (rF d) fun k=>by
  have:=e (lK.1 k)
  simpa [ik]using this
 |_,_, .fs k=> .fs k
 |_,_, .fp a b c=> .fp a b c
 |_,_, .agg k=> .agg (fB k)
 |_,_, .dw k=> .dw (fB k)
 |_,_, .fn a b=> .fn (fB a) (fB b)
 |_,_, .ie a=> .ie (n9 a)
 |_,_, .any x=> .any x
theorem fB {F:Nat→Prop} {H:AH} {φ c:Nat→Nat} {h bs:PH}:∀{p:List PV} {x:List Value},aT ⟨F,H,c,bs⟩ p x→aT ⟨F,H,join h φ c,h++bs.map (jf h.length)⟩ (mf h.length p) x
 |_,_, .nil=> .nil
 |_,_, .cons a b=> .cons (n9 a) (fB b)
end
end P
namespace P
open Go Go.RowKit
variable{E:Env} {O:dD}
def bS (h:PH):List Nat→PH
 |[]=>h
 |b::L=>bS (h.set b .dead) L
theorem cE:∀(L:List Nat) (h:PH),(bS h L).length=h.length
 |[],h=>rfl
 |b::L,h=>by rw [bS,cE L];simp
theorem eO:∀(L:List Nat) (h:PH) (c:Nat),(bS h L)[c]?=if c∈L∧c<h.length then some .dead else h[c]?
 |[],h,c=>by simp [bS]
 |b::L,h,c=>by
  rw [bS,eO L];by_cases d:c<h.length
  ·by_cases a:c∈L
   ·simp [a,d]
   ·by_cases h2:c=b
    ·subst h2;simp [a,d]
    ·rw [if_neg (fun q=>a q.1),if_neg (fun q=>(M0.1 q.1).elim h2 a),bK h2]
  ·rw [if_neg (by simp;omega),if_neg (by simp;omega),Np (by simp;omega),Np (by omega)]
theorem c7 {h:PH} {L:List Nat} {b:Nat} (s:aA (bS h L) b):aA h b∧b∉L:=by
 have d:=aN s;rw [cE]at d;have e:=eO L h b;by_cases a:b∈L
 ·rw [if_pos ⟨a,d⟩]at e
  rcases dK s with⟨es,c⟩|⟨z,cs,c,_⟩<;>rw [e]at c<;>cases c
 ·rw [if_neg (fun q=>a q.1)]at e
  exact ⟨(bG e).1 s,a⟩
theorem pg {F:Nat→Prop} {H:AH} {φ:Nat→Nat} {h:PH} (S:bA ⟨F,H,φ,h⟩) (L:List Nat):bA ⟨add F h φ (· ∈L),H,φ,bS h L⟩∧bp h.length (fun _=>False) ⟨F,H,φ,h⟩ ⟨add F h φ (· ∈L),H,φ,bS h L⟩:=by
 have same:∀b,b∉L→(bS h L)[b]?=h[b]?:=fun b f=>by rw [eO,if_neg (fun q=>f q.1)]
 have dead:∀b,b∈L→b<h.length→(bS h L)[b]?=some .dead:=fun b f g=>by rw [eO,if_pos ⟨f,g⟩]
 have T:bp h.length (fun _=>False) ⟨F,H,φ,h⟩ ⟨add F h φ (· ∈L),H,φ,bS h L⟩:={
  n0:=rfl
  nx:=MM _
  fz:=fun x i=>⟨.inl i,rfl⟩
  fo:=fun x i hi n=>by
   rcases n with n|⟨b,_,s,rfl⟩
   ·exact n
   ·exact absurd ⟨b,trivial,s,rfl⟩ hi
  out:=fun _ _ _=>rfl
  loc:=fun b f=>.inr ⟨(c7 f).1,rfl⟩
  len:=fun k=>by rw [cE];exact k
  le:=fun b _ g t v=>by
   by_cases f:b∈L
   ·intro z cs e;rw [dead b f g]at e;cases e
   ·exact (iY (same b f)).2 v
  lB:=fun b _ g t _ j=>by
   by_cases f:b∈L
   ·obtain ⟨z,cs,e,_⟩:=j;rw [dead b f g]at e;cases e
   ·exact ⟨(iX (same b f)).1 j,rfl⟩
  ma:=fun b _ g j=>by
   by_cases f:b∈L
   ·obtain ⟨es,e⟩:=j;rw [dead b f g]at e;cases e
   ·exact ⟨(cV (same b f)).1 j,rfl⟩}
 have o:∀b,aA h b→b∉L→¬ add F h φ (· ∈L) (φ b):=by
  rintro b s f (q|⟨l,w,m,e⟩)
  ·exact (S.old s).2 q
  ·exact f (S.inj _ _ m s e▸w)
 refine ⟨⟨S.wf,fun x i=>?_,fun b l s m e=>S.inj _ _ (c7 s).1 (c7 m).1 e,fun b z cs e p=>?_,fun b es e=>?_⟩,T⟩
 ·rcases i with i|⟨b,_,s,rfl⟩
  ·exact S.fz x i
  ·exact S.lt s
 ·obtain ⟨s,f⟩:=c7 (aJ e p)
  rw [show(bS h L)[b]?=_ from same b f]at e;obtain ⟨u,a,l,c,_⟩:=S.bw b z cs e p;exact ⟨u,a,l.step T,c,o b s f⟩
 ·obtain ⟨s,f⟩:=c7 (bR e)
  rw [show(bS h L)[b]?=_ from same b f]at e;obtain ⟨r,a,l,c,d,_⟩:=S.nN b es e;exact ⟨r,a,l,c.step T,d,o b s f⟩
theorem oa {F u:Nat→Prop} {H r:AH} {φ i:Nat→Nat} {h f:PH} {W:Nat→Prop} (S:bA ⟨F,H,φ,h⟩) (y:bA ⟨u,r,i,f⟩) (T:bp 0 kC ⟨F,H,φ,[]⟩ ⟨u,r,i,f⟩):
 bA ⟨u,r,join h φ i,h++f.map (jf h.length)⟩∧bp h.length W ⟨F,H,φ,h⟩ ⟨u,r,join h φ i,h++f.map (jf h.length)⟩:=by
 have Q:∀{V:Nat→Prop} {x:Nat},¬ im ⟨F,H,φ,[]⟩ V x:=by
  rintro V x ⟨b,_,s,_⟩;have:=aN s;simp at this
 have same:∀x,x<H.nx→r.get x=H.get x:=fun x n=>T.out x n Q
 have fo:∀x,x<H.nx→u x→F x:=fun x n D=>T.fo x n Q D
 have lo:∀{b},b<h.length→(h++f.map (jf h.length))[b]?=h[b]?:=fun d=>MV d
 have new:∀b,aA f b→H.nx≤i b:=fun b s=>by
  rcases T.loc b s with q|⟨q,_⟩
  ·exact q
  ·have:=aN q;simp at this
 have split:∀b,aA (h++f.map (jf h.length)) b→(b<h.length∧aA h b∧join h φ i b=φ b)∨∃c,b=c+h.length∧aA f c∧join h φ i b=i c:=by
  intro b s;by_cases d:b<h.length
  ·exact .inl ⟨d,(bG (lo d)).1 s,kG d⟩
  ·refine .inr ⟨b- h.length,by omega,?_,?_⟩
   ·rw [show b=(b- h.length)+h.length by omega]at s
    exact rE.1 s
   ·rw [show b=(b- h.length)+h.length by omega,ik,Nat.add_sub_cancel]
 have M:bp h.length W ⟨F,H,φ,h⟩ ⟨u,r,join h φ i,h++f.map (jf h.length)⟩:={
  n0:=T.n0
  nx:=T.nx
  fz:=T.fz
  fo:=fun x n _ D=>fo x n D
  out:=fun x n _=>same x n
  loc:=fun b d=>by
   rcases split b d with⟨v,h2,a⟩|⟨c,rfl,h2,a⟩
   ·exact .inr ⟨h2,a⟩
   ·left;show _≤join h φ i _;rw [a];exact new c h2
  len:=fun _=>by simp
  le:=fun b d _ t U=>(iY (lo d)).2 U
  lB:=fun b d _ t _ I=>⟨(iX (lo d)).1 I,kG d⟩
  ma:=fun b d _ I=>⟨(cV (lo d)).1 I,kG d⟩}
 refine ⟨⟨y.wf,y.fz,fun b L s N e=>?_,fun b z cs e G=>?_,fun b es e=>?_⟩,M⟩
 ·dsimp only at e
  rcases split b s with⟨v,h2,a⟩|⟨c,rfl,h2,a⟩
  ·rcases split L N with⟨X,p,o⟩|⟨R,rfl,p,o⟩
   ·rw [a,o]at e;exact S.inj _ _ h2 p e
   ·rw [a,o]at e
    have Z:φ b<H.nx:=S.lt h2;have:=new R p;omega
  ·rcases split L N with⟨X,p,o⟩|⟨R,rfl,p,o⟩
   ·rw [a,o]at e
    have Z:φ L<H.nx:=S.lt p;have:=new c h2;omega
   ·rw [a,o]at e
    rw [y.inj _ _ h2 p e]
 ·rcases split b (aJ e G)with⟨v,h2,a⟩|⟨c,rfl,h2,a⟩
  ·have g:=e
   rw [show(h++f.map (jf h.length))[b]?=_ from lo v]at g;obtain ⟨B,m,l,k,j⟩:=S.bw b z cs g G;dsimp only;rw [a];exact ⟨B,(same _ (S.lt h2)).trans m,l.step M,T.n0▸k,fun q=>j (fo _ (S.lt h2) q)⟩
  ·have g:=e
   rw [show(h++f.map (jf h.length))[c+h.length]?=_ from fW c]at g;obtain ⟨P,J,w⟩:=MS.1 g
   cases P with
   |cells z' Y=>
    cases w;obtain ⟨B,m,l,k,j⟩:=y.bw c _ Y J (by rintro rfl;exact G rfl);dsimp only;rw [a];exact ⟨B,m,fB l,k,j⟩
   |_=>cases w
 ·rcases split b (bR e)with⟨v,h2,a⟩|⟨c,rfl,h2,a⟩
  ·have g:=e
   rw [show(h++f.map (jf h.length))[b]?=_ from lo v]at g;obtain ⟨A,m,l,k,j,C⟩:=S.nN b es g;dsimp only;rw [a];exact ⟨A,(same _ (S.lt h2)).trans m,l,k.step M,T.n0▸j,fun q=>C (fo _ (S.lt h2) q)⟩
  ·have g:=e
   rw [show(h++f.map (jf h.length))[c+h.length]?=_ from fW c]at g;obtain ⟨P,J,w⟩:=MS.1 g
   cases P with
   |map K=>
    cases w;obtain ⟨A,m,l,k,j,C⟩:=y.nN c K J;dsimp only;rw [a];refine ⟨A,m,?_,?_,j,C⟩
    ·rw [←l];simp [List.map_map,Function.comp_def]
    ·rw [n8];exact fB k
   |_=>cases w
theorem e8.pure {f:Nat} {args d:List PV} {h:PH} (L:List Nat) {R:PV→PH→Prop} (k:e8 E O f d [] R) (j:gA (· ∈L) id h [] args d):
 me E O f args h (· ∈[]) (fun r n=>∃a b,R a b∧r=sh h.length a∧n=bS h L++b.map (jf h.length)):=by
 intro F H φ i S u;obtain ⟨s,o⟩:=pg S L;have t:=(gC.none (· ∈L) id h).ok S;refine (k _ H _ i t (j.ok S u)).mono ?_;rintro x y ⟨a,b,v,w,m,l,p,T⟩;obtain ⟨g,e⟩:=oa (W:=(· ∈[])) s p T;have c:=cE L h;rw [c]at g e;refine ⟨_,_,v,_,⟨a,b,m,rfl,rfl⟩,?_,g,(o.trans e (by exact MM _) (fun _ q=>q.elim) (fun _ q=>q))⟩;have:=n9 (φ:=φ) (h:=bS h L) l;rw [c]at this;exact this
mutual
def gX:PV→Bool
 | .v _=>true
 | .agg cs=>c8 cs
 | .dw cs=>c8 cs
 | .ie _ p=>gX p
 |_=>false
def c8:List PV→Bool
 |[]=>true
 |p::ps=>gX p&&c8 ps
end
mutual
theorem lL {C D:Cx}:∀{p:PV} {x:Value},gX p=true→RV C p x→RV D p x
 |_,_,_,.v x=>.v x
 |_,_,k,.agg r=>.agg (eP (by simpa [gX]using k) r)
 |_,_,k,.dw r=>.dw (eP (by simpa [gX]using k) r)
 |_,_,k,.ie r=>.ie (lL (by simpa [gX]using k) r)
theorem eP {C D:Cx}:∀{p:List PV} {x:List Value},c8 p=true→aT C p x→aT D p x
 |_,_,_,.nil=>.nil
 |_,_,k,.cons a b=>by
  simp only [c8,MK]at k;exact .cons (lL k.1 a) (eP k.2 b)
end
def fX (A:Nat→Prop) (σ:Nat→Nat) (h bs:PH):Nat→PH→Prop
 |_,[]=>True
 |i,P::l=>je A σ h bs h[σ i]? P∧fX A σ h bs (i+1) l
@[simp]theorem yX (A:Nat→Prop) (a:Nat→Nat) (h b:PH) (i:Nat):fX A a h b i []↔True:=Iff.rfl
@[simp]theorem xV (A:Nat→Prop) (a:Nat→Nat) (h b:PH) (i:Nat) (P:PB) (l:PH):fX A a h b i (P::l)↔je A a h b h[a i]? P∧fX A a h b (i+1) l:=Iff.rfl
theorem fX.ok {A:Nat→Prop} {a:Nat→Nat} {h b:PH}:∀{l:PH} {i:Nat},fX A a h b i l→∀j P,l[j]?=some P→je A a h b h[a (i+j)]? P
 |[],i,_,j,P,e=>by simp at e
 |Q::l,i,k,0,P,e=>by simp at e;subst e;exact k.1
 |Q::l,i,k,j+1,P,e=>by
  have:=fX.ok k.2 j P (by simpa using e);rwa [show i+1+j=i+(j+1) by omega]at this
@[simp]theorem vA (A:Nat→Prop) (b:Nat→Nat) (h d:PH) (z c:Nat) (ps a:List PV):je A b h d (some (.cells z ps)) (.cells c a)↔a=[]∨(z=c∧gA A b h d ps a):=by
 unfold je;constructor
 ·rintro (q|⟨f,e,k⟩)
  ·exact .inl q
  ·cases e;exact .inr ⟨rfl,k⟩
 ·rintro (q|⟨rfl,k⟩)
  ·exact .inl q
  ·exact .inr ⟨_,rfl,k⟩
@[simp]theorem xW (A:Nat→Prop) (a:Nat→Nat) (h b:PH) (o:Option PB):je A a h b o .dead↔True:=Iff.rfl
def uj:Option PB→Option PB→Prop
 |some (.cells _ cs),some (.cells _ bf)=>cs.length=bf.length
 |_,_=>False
@[simp]theorem I4 (z b:Nat) (cs a:List PV):uj (some (.cells z cs)) (some (.cells b a))↔cs.length=a.length:=Iff.rfl
theorem rG {h g:PH} {A:Nat→Prop} {f:Nat→Nat} (K:gC A f h g) {F:Nat→Prop} {H:AH} {φ:Nat→Nat} {C0:Cx} (j:C0.h.length=0) (T:bp 0 kC C0 ⟨F,H,φ,h⟩):bp 0 kC C0 ⟨add F h φ A,H,fun i=>φ (f i),g⟩:=by
 have k:C0.h=[]:=Nc.1 j;have no:∀{b:Nat},¬ aA C0.h b:=fun s=>by have:=aN s;omega
 refine ⟨T.n0,T.nx,fun y c=>⟨.inl (T.fz y c).1,(T.fz y c).2⟩,fun y c hi d=>?_,T.out,fun b a=>?_,fun _=>Nb _,fun b a=>absurd a (M9 _),fun b a=>absurd a (M9 _),fun b a=>absurd a (M9 _)⟩
 ·rcases d with d|⟨b,_,s,e⟩
  ·exact T.fo y c hi d
  ·rcases T.loc b s with q|⟨q,_⟩
   ·dsimp only at q;omega
   ·exact absurd q no
 ·rcases T.loc _ (K.aA a)with q|⟨q,_⟩
  ·exact .inl q
  ·exact absurd q no
theorem jg {r b:PV} {h bs:PH} (A:Nat→Prop) (a:Nat→Nat) (K:gC A a h bs) (V:Vg A a h bs r b):kV 0 r h b bs:=by
 intro F H c x S R;exact ⟨_,_,K.ok S,V F H c x S R,fun e d T=>rG K d T⟩
theorem rH {n:Nat} {r u:PV} {h bs:PH} (i:Nat→Nat) (K:gC (fun _=>False) i h bs) (V:Vg (fun _=>False) i h bs r u) (A:n≤bs.length) (k:∀b,b<n→i b=b∧(bm bs b=none∨bm bs b=bm h b)∧(dJ bs b→dJ h b)) (h2:∀b,n≤b→b<bs.length→n≤i b) (B:∀b,b<n→∀t,Le h b t→Le bs b t):kV n r h u bs:=by
 intro F H w x S R;refine ⟨_,_,K.ok S,V F H w x S R,fun G D T=>?_⟩
 have s:∀{h:PH} {b t:Nat},At h b t↔bm h b=some t:=by
  intro h b t;constructor
  ·rintro ⟨z,cs,e,rfl⟩;unfold bm;rw [e]
  ·intro e;exact (fU e).2 rfl
 refine ⟨T.n0,T.nx,fun y j=>⟨.inl (T.fz y j).1,(T.fz y j).2⟩,fun y j hi o=>?_,T.out,fun b a=>?_,fun _=>A,fun b a f t m=>B b a t (T.le b a f t m),fun b a f t m c=>?_,fun b a f c=>?_⟩
 ·rcases o with o|⟨b,q,_⟩
  ·exact T.fo y j hi o
  ·exact q.elim
 ·rcases T.loc _ (K.aA a)with q|⟨q,e⟩
  ·exact .inl q
  ·by_cases v:b<n
   ·rw [(k b v).1]at q e
    exact .inr ⟨q,by dsimp only;rw [(k b v).1];exact e⟩
   ·have:=h2 b (by omega) (aN a)
    have:=aN q;omega
 ·obtain ⟨p,g,_⟩:=k b a
  rw [s]at c
  have e:bm h b=some t:=by
   rcases g with g|g
   ·rw [g]at c;cases c
   ·rw [←g];exact c
  obtain ⟨l,d⟩:=T.lB b a f t m (s.2 e);exact ⟨l,by dsimp only at d⊢;rw [p];exact d⟩
 ·obtain ⟨p,_,C⟩:=k b a
  obtain ⟨l,d⟩:=T.ma b a f (C c);exact ⟨l,by dsimp only at d⊢;rw [p];exact d⟩
def oc (h bs:PH) (b:Nat):Prop:=bs[b]?=some .dead∨uj h[b]? bs[b]?
theorem rI {n:Nat} {r o:PV} {h bs:PH} (L:List Nat) (C:L.length+n=bs.length) (a:L.Nodup) (l:∀b∈L,n≤b) (k:∀b,b<n→oc h bs b) (K:fX (fun _=>False) (fun i=>if i<n then i else L.getD (i- n) 0) h bs 0 bs) (V:Vg (fun _=>False) (fun i=>if i<n then i else L.getD (i- n) 0) h bs r o):kV n r h o bs:=by
 have getD:∀i,n≤i→i<bs.length→L[i- n]?=some (L.getD (i- n) 0):=fun i d h2=>by
  rw [List.getD_eq_getElem?_getD,MG (by omega)];rfl
 have w:gC (fun _=>False) (fun i=>if i<n then i else L.getD (i- n) 0) h bs:=by
  refine ⟨fun i P e=>by simpa using K.ok i P e,fun i j hi p _ _ e=> ?_,fun _ _ _ q=>q⟩;by_cases d:i<n
  · rw [if_pos d]at e
    by_cases h2:j<n
    · rwa [if_pos h2]at e
    · rw [if_neg h2]at e
      have:=l _ (MN (getD j (by omega) p));omega
  · rw [if_neg d]at e
    by_cases h2:j<n
    · rw [if_pos h2]at e
      have:=l _ (MN (getD i (by omega) hi));omega
    · rw [if_neg h2]at e
      have s:=getD i (by omega) hi;have v:=getD j (by omega) p;rw [e]at s
      have key:∀(L:List Nat),L.Nodup→∀(i j b:Nat),L[i]?=some b→L[j]?=some b→i=j:=by
       intro L
       induction L with
       |nil=>intro _ i j b e;simp at e
       |cons x L ih=>
        intro a i j b e g;rw [List.nodup_cons]at a
        cases i with
        |zero=>cases j with
         |zero=>rfl
         |succ j=>simp at e g;subst e;exact absurd (MN g) a.1
        |succ i=>cases j with
         |zero=>simp at e g;subst g;exact absurd (MN e) a.1
         |succ j=>rw [ih a.2 i j b (by simpa using e) (by simpa using g)]
      have:=key L a _ _ _ s v;omega
 refine rH _ w V (by omega) (fun b c=>⟨if_pos c, ?_, ?_⟩) (fun b d h2=> ?_) (fun b c t u=> ?_)
 · rcases k b c with q|q
   · left;unfold bm;rw [q]
   · right
     unfold uj at q;split at q
     · rename_i z cs B G m f
       unfold bm;rw [m,f];simp only [q]
     · exact q.elim
 · rintro ⟨es,e⟩
   rcases k b c with q|q
   · rw [q]at e;cases e
   · rw [e]at q;unfold uj at q;split at q
     · rename_i f;cases f
     · exact q.elim
 · rw [if_neg (by omega)]
   exact l _ (MN (getD b d h2))
 · intro z cs e
   rcases k b c with q|q
   · rw [q]at e;cases e
   · rw [e]at q
     unfold uj at q;split at q
     · rename_i A F y D m f
       cases f;have:=u _ _ m;omega
     · exact q.elim
theorem ak {r a:PV} {h:PH} (V:Vg kC id h [] r a):kV 0 r h a []:=jg _ _ (gC.none _ _ _) V
theorem uk {sz b n:Nat} {h:PH} {cs a:List PV} (c:h[b]?=some (.cells sz cs)) (V:gA (· ≠b) (fun _=>b) h [.cells sz a] cs a):kV 0 (.sl sz b 0 n n) h (.sl sz 0 0 n n) [.cells sz a]:=by
 have d:=V.length;have k:bm h b=some cs.length:=by unfold bm;rw [c]
 have g:bm [PB.cells sz a] 0=some cs.length:=by unfold bm;simp [d]
 refine jg (· ≠b) (fun _=>b) ⟨fun i P e=>?_,fun i j hi f _ _ _=>by simp at hi f;omega,fun i hi s=>by simp⟩ (vx k g rfl)
 cases i with
 |zero=>simp at e;subst e;exact .inr ⟨cs,c,V⟩
 |succ i=>simp at e
theorem um (sz:Nat) (h:PH):kV 0 (.v (.slice none 0 0)) h (.sl sz 0 0 0 0) [.cells sz []]:=by
 refine jg (fun _=>False) id ⟨fun i P e=>?_,fun i j hi a _ _ _=>by simp at hi a;omega,fun i hi s=>by simp⟩ (ui rfl)
 cases i with
 |zero=>simp at e;subst e;exact .inl rfl
 |succ i=>simp at e
def PF.yY:List (Nat×PV)→PF
 |[]=>⟨fun _=>.any⟩
 |(t,p)::l=>⟨fun a=>if a=t then p else(PF.yY l).g a⟩
@[simp]theorem Da (a:Nat):(PF.yY []).get a= .any:=rfl
@[simp]theorem rJ (t a:Nat) (p:PV) (l:List (Nat×PV)):(PF.yY ((t,p)::l)).get a=if a=t then p else(PF.yY l).get a:=rfl
def lM (A:Nat→Prop) (σ:Nat→Nat) (h bs:PH) (fr:PF):List (Nat×PV)→Prop
 |[]=>True
 |(t,p)::l=>Vg A σ h bs (fr.get t) p∧lM A σ h bs fr l
@[simp]theorem A5 (A:Nat→Prop) (a:Nat→Nat) (h c:PH) (b:PF):lM A a h c b []↔True:=Iff.rfl
@[simp]theorem yZ (A:Nat→Prop) (a:Nat→Nat) (h c:PH) (b:PF) (t:Nat) (p:PV) (l:List (Nat×PV)):lM A a h c b ((t,p)::l)↔Vg A a h c (b.get t) p∧lM A a h c b l:=Iff.rfl
end P
namespace P
open Go Go.RowKit
mutual
def gD:PV→Bool
 | .v _=>true
 | .fs _ _=>true
 | .fp _=>true
 | .agg cs=>bM cs
 | .dw cs=>bM cs
 | .fn _ a b=>bM a&&bM b
 | .ie _ p=>gD p
 |_=>false
def bM:List PV→Bool
 |[]=>true
 |p::ps=>gD p&&bM ps
end
attribute [simp] sh mf gX c8
@[simp]theorem I5 (x:Value):gD (.v x)=true↔True:=⟨fun _=>trivial,fun _=>rfl⟩
@[simp]theorem F9 (sz:Nat) (rows:List (List PV)):gD (.fs sz rows)=true↔True:=⟨fun _=>trivial,fun _=>rfl⟩
@[simp]theorem Db (cs:List PV):gD (.agg cs)=true↔bM cs=true:=by rw [gD]
@[simp]theorem Dc (cs:List PV):gD (.dw cs)=true↔bM cs=true:=by rw [gD]
@[simp]theorem Dd (t:Nat) (p:PV):gD (.ie t p)=true↔gD p=true:=by rw [gD]
@[simp]theorem Ga:bM []=true↔True:=⟨fun _=>trivial,fun _=>rfl⟩
@[simp]theorem kH (p:PV) (ps:List PV):bM (p::ps)=true↔gD p=true∧bM ps=true:=by rw [bM,MK]
theorem eA:∀l:List PV,bM l=l.all gD
 |[]=>rfl
 |p::l=>by simp [bM,eA l]
theorem eB (a b:List PV):bM (a++b)=true↔bM a=true∧bM b=true:=by simp [eA]
theorem lN {p:PV} (a:gD p=true):∀{l:List PV} {k:Nat},bM l=true→bM (l.set k p)=true
 |[],k,_=>rfl
 |q::l,0,h=>by rw [kH]at h;exact (kH _ _).2 ⟨a,h.2⟩
 |q::l,k+1,h=>by rw [kH]at h;exact (kH _ _).2 ⟨h.1,lN a h.2⟩
attribute [simp] lN
mutual
theorem mX (k:Nat):∀{p:PV},gD p=true→sh k p=p
 | .v _,_=>rfl
 | .fs _ _,_=>rfl
 | .fp _,_=>rfl
 | .agg cs,h=>by rw [sh,cF k (by simpa using h)]
 | .dw cs,h=>by rw [sh,cF k (by simpa using h)]
 | .fn f a b,h=>by
  simp only [gD,MK]at h;rw [sh,cF k h.1,cF k h.2]
 | .ie t p,h=>by rw [sh,mX k (by simpa using h)]
theorem cF (k:Nat):∀{l:List PV},bM l=true→mf k l=l
 |[],_=>rfl
 |p::l,h=>by
  simp only [bM,MK]at h;rw [mf,mX k h.1,cF k h.2]
end
section
variable{A:Nat→Prop} {σ:Nat→Nat} {h bs:PH}
mutual
theorem kI:∀{p:PV},gD p=true→Vg A σ h bs p p
 | .v _,_=>(F8 _).2 trivial
 | .fs _ _,_=>(A0 _ _).2 trivial
 | .fp _,_=>(A3 _).2 trivial
 | .agg cs,h=>xS (cG (by simpa using h))
 | .dw cs,h=>rC (cG (by simpa using h))
 | .fn f a b,h=>by
  simp only [gD,MK]at h;exact A4 (cG h.1) (cG h.2)
 | .ie t p,h=>xT (kI (by simpa using h))
theorem cG:∀{l:List PV},bM l=true→gA A σ h bs l l
 |[],_=>trivial
 |p::l,h=>by
  simp only [bM,MK]at h;exact ⟨kI h.1,cG h.2⟩
end
@[simp]theorem A6 {l:List PV} (k:bM l=true):gA A σ h bs l l↔True:=⟨fun _=>trivial,fun _=>cG k⟩
@[simp]theorem De {p:PV} (k:gD p=true):Vg A σ h bs p p↔True:=⟨fun _=>trivial,fun _=>kI k⟩
theorem od {b i:Nat} (k:uj h[b]? bs[i]?):∃T,bm h b=some T∧bm bs i=some T:=by
 unfold uj at k;split at k
 ·rename_i z cs d e c a
  exact ⟨cs.length,by unfold bm;rw [c],by unfold bm;rw [a,k]⟩
 ·exact k.elim
@[simp]theorem Gb {b i sz o n c:Nat} (a:σ i=b) (k:uj h[b]? bs[i]?):Vg A σ h bs (.sl sz b o n c) (.sl sz i o n c)↔True:=⟨fun _=>trivial,fun _=>by
 obtain ⟨T,d,h2⟩:=od k
 exact vx d h2 a⟩
@[simp]theorem Df {b i o t:Nat} (a:σ i=b) (k:uj h[b]? bs[i]?):Vg A σ h bs (.ref b o t) (.ref i o t)↔True:=⟨fun _=>trivial,fun _=>by
 obtain ⟨T,c,h2⟩:=od k
 exact xU c h2 a⟩
def isVoid (bs:PH) (i:Nat):Bool:=match bs[i]? with
 |some (.cells _ [])=>true
 |_=>false
def Dg:PV→Bool
 | .v _=>true
 | .fs _ _=>true
 |_=>false
theorem xX {p:PV} (k:Dg p=true):Vz A h p p:=by
 cases p<;>first
  |exact AZ _
  |exact vw _ _
  |cases k
theorem kJ:∀{l:List PV},l.all Dg=true→rv A h l l
 |[],_=>trivial
 |p::l,k=>by
  simp only [List.all_cons,MK]at k;exact ⟨xX k.1,kJ k.2⟩
end
section
variable{E:Env} {O:dD} {n:Nat} {Q:Ex→PF→PH→Prop} {ks:List Kp} {fr:PF} {h:PH} {m:Mp} {l:List AO} {d:Option Nat}
def Fz (E:Env) (O:dD) (f:Nat) (args:List PV) (r:PV):Prop:=e8 E O f args [] (fun r' h'=>r'=r∧h'=[]∧gD r=true)
def Fo (E:Env) (O:dD) (f:Nat) (args:List PV) (sz k:Nat) (cs:List PV):Prop:=e8 E O f args [] (fun r' h'=>r'= .sl sz 0 0 k k∧h'=[.cells sz cs]∧bM cs=true∧cs.length=k*sz)
def uo (res:List RS) (r:PV):Ex→PF→PH→Prop
 | .exit _,_,_=>False
 |_,fr,h=>(kD.all fr h res).map ey=some r
@[simp]theorem Gc (res:List RS) (r:PV):uo res r .normal fr h=((kD.all fr h res).map ey=some r):=rfl
@[simp]theorem Gd (res:List RS) (r:PV):uo res r .ret fr h=((kD.all fr h res).map ey=some r):=rfl
theorem PK.vB {Q i:Ex→PF→PH→Prop} (j:∀ex fr h,Q ex fr h→i ex fr h) {f:Cf} {fr:PF} {h:PH} (k:PK E O n Q f fr h):PK E O n i f fr h:=by
 induction k with
 |skip _ ih=>exact .skip ih
 |ret _ ih=>exact .ret ih
 |exit _ ih=>exact .exit ih
 |aB _ ih=>exact .aB ih
 |ai _ ih=>exact .ai ih
 |seq _ ih=>exact .seq ih
 |block _ ih=>exact .block ih
 |cond e _ ih=>exact .cond e ih
 |loop I k _ g o ih=>exact .loop I k ih g o
 |uc _ ih=>exact .uc ih
 |lI e _ ih=>exact .lI e ih
 |n6 _ ih=>exact .n6 ih
 |n7 _ ih=>exact .n7 ih
 |op e _ ih=>exact .op e ih
 |AM e w _ ih=>exact .AM e w ih
 |rn e w _ ih=>exact .rn e w ih
 |call c _ ih=>exact .call c ih
 |callv e c _ ih=>exact .callv e c ih
 |ud q=>exact .ud (j _ _ _ q)
 |CM _ ih=>exact .CM ih
 |CN _ ih=>exact .CN ih
 |AN a b c=>exact .AN a b c
 |CO _ ih=>exact .CO ih
 |rp _ ih=>exact .rp ih
 |ue e _ ih=>exact .ue e ih
 |del _ ih=>exact .del ih
 |uf _ ih=>exact .uf ih
theorem Fz.body {f:Nat} {F:AF} {args:List PV} {r:PV} (o:O f=none) (s:E f=some F) (p:args.length=F.np) (c:gD r=true) (k:PK E O 0 (uo F.res r) (.code F.body []) (PF.of args) []):Fz E O f args r:=by
 refine e8.body o s p (PK.vB ?_ k);intro ex fr h q
 have:∀ex,uo F.res r ex fr h→(∀i,ex≠ .exit i)→∃a,kD.all fr h F.res=some a∧∃b h2,kV 0 (ey a) h b h2∧b=r∧h2=[]∧gD r=true:=by
  intro ex q j
  have g:(kD.all fr h F.res).map ey=some r:=by
   cases ex with
   |exit i=>exact absurd rfl (j i)
   |normal=>exact q
   |ret=>exact q
  obtain ⟨a,e,t⟩:=MS.1 g;exact ⟨a,e,r,[],by rw [t];exact ak (kI c),rfl,rfl,c⟩
 cases ex with
 |exit i=>exact q
 |normal=>exact this _ q (fun i=>by simp)
 |ret=>exact this _ q (fun i=>by simp)
def jT (h:PH) (sz k:Nat) (cs:List PV):PV→Prop
 | .sl b8 b o n' c=>b8=sz∧o=0∧n'=k∧c=k∧h[b]?=some (.cells sz cs)
 | .v (.slice none 0 0)=>k=0∧cs=[]
 |_=>False
def xY (res:List RS) (sz k:Nat) (cs:List PV):Ex→PF→PH→Prop
 | .exit _,_,_=>False
 |_,fr,h=>∃vs,kD.all fr h res=some vs∧jT h sz k cs (ey vs)
@[simp]theorem Ge (res:List RS) (sz k:Nat) (cs:List PV):xY res sz k cs .normal fr h=∃vs,kD.all fr h res=some vs∧jT h sz k cs (ey vs):=rfl
@[simp]theorem Gf (res:List RS) (sz k:Nat) (cs:List PV):xY res sz k cs .ret fr h=∃vs,kD.all fr h res=some vs∧jT h sz k cs (ey vs):=rfl
theorem Fo.body {f:Nat} {F:AF} {args:List PV} {sz k:Nat} {cs:List PV} (g:O f=none) (r:E f=some F) (j:args.length=F.np) (c:bM cs=true) (s:cs.length=k*sz) (q:PK E O 0 (xY F.res sz k cs) (.code F.body []) (PF.of args) []):Fo E O f args sz k cs:=by
 refine e8.body g r j (PK.vB ?_ q);intro ex fr h q
 have key:∀a,jT h sz k cs (ey a)→∃b h2,kV 0 (ey a) h b h2∧b= .sl sz 0 0 k k∧h2=[.cells sz cs]∧bM cs=true∧cs.length=k*sz:=by
  intro a o;refine ⟨_,_,?_,rfl,rfl,c,s⟩;revert o;generalize ey a=p;intro o;unfold jT at o;split at o
  ·obtain ⟨rfl,rfl,rfl,rfl,t⟩:=o
   exact uk t (cG c)
  ·obtain ⟨rfl,rfl⟩:=o
   exact um _ _
  ·exact o.elim
 cases ex with
 |exit i=>exact q
 |normal=>obtain ⟨a,e,o⟩:=q;exact ⟨a,e,key a o⟩
 |ret=>obtain ⟨a,e,o⟩:=q;exact ⟨a,e,key a o⟩
theorem Fz.call {f:Nat} {args b:List PV} {r:PV} (k:Fz E O f b r) (L:List Nat) (e:gA (· ∈L) id h [] args b):me E O f args h (· ∈[]) (fun r' a=>r'=r∧a=bS h L):=
 (e8.pure L k e).mono (by
  rintro r' a ⟨g,i,⟨rfl,rfl,c⟩,rfl,rfl⟩
  exact ⟨mX _ c,by simp⟩)
theorem aK {f:Nat} {«as»:List X} {args:List PV} {r:PV} (k:Fz E O f args r) (b:«as».map (bL fr)=args) (a:bM args=true) (next:PK E O n Q (.ops (m.up [] (fr.aq d r) h) l ks) (fr.aq d r) h):PK E O n Q (.ops m (⟨none,d,.call f «as»⟩::l) ks) fr h:=
 fT (W:=[]) b ((k.call [] (cG a)).mono (by rintro c e ⟨rfl,rfl⟩;exact next))
theorem xZ {f:Nat} {«as»:List X} {args:List PV} {r:PV} (L:List Nat) (k:Fz E O f args r) (a:gA (· ∈L) id h [] («as».map (bL fr)) args) (next:PK E O n Q (.ops (m.up [] (fr.aq d r) (bS h L)) l ks) (fr.aq d r) (bS h L)):PK E O n Q (.ops m (⟨none,d,.call f «as»⟩::l) ks) fr h:=
 fT (W:=[]) rfl ((k.call L a).mono (by rintro b c ⟨rfl,rfl⟩;exact next))
theorem Fo.call {f:Nat} {args b:List PV} {sz k:Nat} {cs:List PV} (q:Fo E O f b sz k cs) (L:List Nat) (e:gA (· ∈L) id h [] args b):me E O f args h (· ∈[]) (fun r' a=>r'= .sl sz h.length 0 k k∧a=bS h L++[.cells sz cs]):=
 (e8.pure L q e).mono (by
  rintro r' a ⟨g,i,⟨rfl,rfl,c,_⟩,rfl,rfl⟩
  exact ⟨by simp,by simp [jf,cF _ c]⟩)
theorem oe {f:Nat} {«as»:List X} {args:List PV} {sz k:Nat} {cs:List PV} (q:Fo E O f args sz k cs) (b:«as».map (bL fr)=args) (a:bM args=true) (next:PK E O n Q (.ops (m.up [] (fr.aq d (.sl sz h.length 0 k k)) (h++[.cells sz cs])) l ks) (fr.aq d (.sl sz h.length 0 k k)) (h++[.cells sz cs])):PK E O n Q (.ops m (⟨none,d,.call f «as»⟩::l) ks) fr h:=
 fT (W:=[]) b ((q.call [] (cG a)).mono (by rintro c e ⟨rfl,rfl⟩;exact next))
end
abbrev pi (n:Int):PV:=.v (.int .i64 n)
abbrev pb (b:Bool):PV:=.v (.bool b)
abbrev ps (s:ByteArray):PV:=.v (.string s)
abbrev ph:PV:=.v (.slice none 0 0)
def ir (l:List Int):List (List PV):=l.map fun n=>[pi n]
@[simp]theorem y4 (l:List Int):(ir l).length=l.length:=by simp [ir]
theorem aV (l:List Int) (i:Nat):(ir l)[i]?=(l[i]?).map fun n=>[pi n]:=by simp [ir]
@[simp]theorem oh (l:List Int):(ir l).flatten=l.map pi:=by
 induction l with
 |nil=>rfl
 |cons a l ih=>simp_all [ir]
abbrev dA (l:List Int):PV:=.fs 1 (ir l)
theorem uq {A:Nat→Prop} {h:PH} {sz b n:Nat} {rows:List (List PV)} (j:A b) (f:h[b]?=some (.cells sz rows.flatten)) (g:0<sz) (c:rows.length=n) (a:∀r∈rows,r.length=sz) (d:rv A h rows.flatten rows.flatten):Vz A h (.sl sz b 0 n n) (.fs sz rows):=by
 have e:rows.flatten.length=n*sz:=by
  rw [←c];clear f d c
  induction rows with
  |nil=>simp
  |cons r rows ih=>
   have:=a r (by simp);rw [List.flatten_cons,MR,ih (fun q i=>a q (by simp [i])),List.length_cons,Nat.succ_mul];omega
 exact rA j f (by rw [Nat.zero_add,e]) g (MM _) (MM _) c a (by rw [Nat.zero_mul,List.drop_zero,←e,List.take_length];exact d)
theorem x3 {A:Nat→Prop} {h:PH} {b:Nat} {l:List Int} (c:A b) (a:h[b]?=some (.cells 1 (l.map pi))):Vz A h (.sl 1 b 0 l.length l.length) (dA l):=
 uq c (by rw [oh];exact a) Nat.one_pos (by simp) (by simp [ir]) (kJ (by simp [Dg]))
attribute [simp] AL CK ra xH pf ua lH kA xG tG
attribute [simp] isVoid jT
end P
namespace P
open Go Go.RowKit
variable{E:Env} {O:dD}
mutual
def Dh (τ:Nat→Nat):PV→PV
 | .ref b o t=>.ref (τ b) o t
 | .sl sz b o n c=>.sl sz (τ b) o n c
 | .mp b=>.mp (τ b)
 | .agg cs=>.agg (mY τ cs)
 | .dw cs=>.dw (mY τ cs)
 | .fn f a b=>.fn f (mY τ a) (mY τ b)
 | .ie t p=>.ie t (Dh τ p)
 | .v x=>.v x
 | .fs sz rows=>.fs sz rows
 | .fp cells=>.fp cells
 | .any=>.any
def mY (τ:Nat→Nat):List PV→List PV
 |[]=>[]
 |p::ps=>Dh τ p::mY τ ps
end
attribute [simp] Dh mY
def x4 (τ:Nat→Nat):PB→PB
 | .cells z cs=>.cells z (mY τ cs)
 | .map es=>.map (es.map fun e=>(e.1,Dh τ e.2))
 | .dead=>.dead
section
variable{τ:Nat→Nat} {bs h:PH}
end
def mZ:PH→List Nat→PH→PH
 |h,[],_=>h
 |h,_::_,[]=>h
 |h,b::L,P::Ps=>mZ (h.set b P) L Ps
def Gg (L:List Nat) (m:Nat):Nat→Nat:=fun i=>if i<L.length then L.getD i 0 else m+(i- L.length)
def merge (h:PH) (L:List Nat) (hs:PH):PH:=mZ h L ((hs.take L.length).map (x4 (Gg L h.length)))++(hs.drop L.length).map (x4 (Gg L h.length))
def ur:Option PB→Option PB→Prop
 |some (.cells _ cs),some (.cells _ bf)=>cs.length=bf.length
 |some (.map _),some (.map _)=>True
 |_,_=>False
@[simp]theorem Gi (z b:Nat) (cs a:List PV):ur (some (.cells z cs)) (some (.cells b a))↔cs.length=a.length:=Iff.rfl
@[simp]theorem Gj (es es':List (Value×PV)):ur (some (.map es)) (some (.map es'))↔True:=Iff.rfl
def Di (h hs:PH):Nat→List Nat→Prop
 |_,[]=>True
 |i,b::L=>ur h[b]? hs[i]?∧Di h hs (i+1) L
@[simp]theorem Dj (h a:PH) (i:Nat):Di h a i []↔True:=Iff.rfl
@[simp]theorem A7 (h a:PH) (i b:Nat) (L:List Nat):Di h a i (b::L)↔ur h[b]? a[i]?∧Di h a (i+1) L:=Iff.rfl
section
variable{n:Nat} {Q:Ex→PF→PH→Prop} {ks:List Kp} {fr:PF} {h:PH} {m:Mp} {l:List AO} {d:Option Nat}
end
attribute [simp] Gg merge mZ x4
end P
namespace P
open Go Go.RowKit
variable{E:Env} {O:dD}
theorem lM.list {A:Nat→Prop} {a:Nat→Nat} {h c:PH} {b:PF}:∀{l:List (Nat×PV)},lM A a h c b l→gA A a h c (l.map fun e=>b.get e.1) (l.map (·.2))
 |[],_=>trivial
 |(t,p)::l,k=>⟨k.1,lM.list k.2⟩
theorem oi {C:Cx} {b:Fr}:∀{l:List (Nat×PV)},aT C (l.map (·.2)) (l.map fun e=>b.get e.1)→eS C (PF.yY l) b
 |[],_,t=>.any _
 |(a,p)::l,k,t=>by
  cases k with|cons d c=>
  rw [rJ];split
  ·rename_i e;subst e;exact d
  ·exact oi c t
theorem rK {C:Cx} {b:PF} {c:Fr} (R:eS C b c):∀l:List (Nat×PV),aT C (l.map fun e=>b.get e.1) (l.map fun e=>c.get e.1)
 |[]=>.nil
 |(a,p)::l=>.cons (R a) (rK R l)
theorem kK {n:Nat} {c:PF} {h h2:PH} (L:List Nat) (l:List (Nat×PV)) (p:L.length+n=h2.length) (j:L.Nodup) (o:∀b∈L,n≤b) (m:∀b,b<n→oc h h2 b) (K:fX (fun _=>False) (fun i=>if i<n then i else L.getD (i- n) 0) h h2 0 h2) (V:lM (fun _=>False) (fun i=>if i<n then i else L.getD (i- n) 0) h h2 c l):Gh n c h (PF.yY l) h2:=by
 intro F H g a S R;obtain ⟨s,f,q,d,T⟩:=rI L p j o m K (rC V.list) F H g (.tuple (l.map fun e=>a.get e.1).toArray) S (.dw (rK R l));refine ⟨s,f,q,?_,T⟩;generalize k:(Value.tuple (l.map fun e=>a.get e.1).toArray)=v at d
 cases d with|dw r=>
 rename_i xs
 have:xs=l.map fun e=>a.get e.1:=by
  have:=Value.tuple.inj k;exact (congrArg Array.toList this).symm
 subst this;exact oi r
theorem e8.Gk {f:Nat} {args u:List PV} {h:PH} {sz k:Nat} {cs:List PV} (q:Fo E O f u sz k cs) (G:c8 cs=true) (B:gA kC id h [] args u):
 me E O f args h (· ∈[]) (fun r I=>r= .sl sz h.length 0 k k∧I=h++[.cells sz cs]):=by
 intro F H φ m S Q;have P:=(gC.none kC id h).ok S;refine (q _ H _ m P (B.ok S Q)).mono ?_;rintro x l ⟨r,U,X,j,⟨rfl,rfl,n,R⟩,D,o,T⟩
 have v:∀{V:Nat→Prop} {x:Nat} {F:Nat→Prop} {φ:Nat→Nat},¬ im ⟨F,H,φ,[]⟩ V x:=by
  rintro V x F φ ⟨b,_,s,_⟩;have:=aN s;simp at this
 have no:∀{b:Nat} {F:Nat→Prop} {φ:Nat→Nat},¬ aA (Cx.mk F H φ []).h b:=fun s=>by have:=aN s;simp at this
 have same:∀x,x<H.nx→l.get x=H.get x:=fun x i=>T.out x i v
 have new:∀b,aA [PB.cells sz cs] b→H.nx≤j b:=fun b g=>by
  rcases T.loc b g with q|⟨q,_⟩
  ·exact q
  ·exact absurd q no
 have N:bA ⟨F,l,j,[.cells sz cs]⟩:={
  wf:=o.wf
  fz:=fun x i=>M6 (S.fz x i) T.nx
  inj:=o.inj
  bw:=fun b z J e t=>by
   obtain ⟨m,A,y,w,_⟩:=o.bw b z J e t;refine ⟨m,A,?_,w,fun q=>?_⟩
   ·cases b with
    |zero=>simp at e;obtain ⟨_,rfl⟩:=e;exact eP G y
    |succ b=>simp at e
   ·have:=S.fz _ q
    have:=new b (aJ e t);dsimp only at*;omega
  nN:=fun b es e=>by
   cases b with
   |zero=>simp at e
   |succ b=>simp at e}
 have L:bp 0 kC ⟨F,H,φ,[]⟩ ⟨F,l,j,[.cells sz cs]⟩:={
  n0:=T.n0
  nx:=T.nx
  fz:=fun x i=>⟨i,same x (S.fz x i)⟩
  fo:=fun _ _ _ h=>h
  out:=fun x i _=>same x i
  loc:=fun b g=>.inl (new b g)
  len:=fun _=>Nb _
  le:=fun b g=>absurd g (M9 _)
  lB:=fun b g=>absurd g (M9 _)
  ma:=fun b g=>absurd g (M9 _)}
 obtain ⟨M,K⟩:=oa (W:=(· ∈[])) S N L
 have C:RV ⟨F,l,j,[.cells sz cs]⟩ (.sl sz 0 0 k k) x:=by
  cases D with|sl a b c d=>exact .sl a b c d
 have p:=n9 (φ:=φ) (h:=h) C;refine ⟨_,_,F,join h φ j,⟨rfl,rfl⟩,?_,?_,?_⟩
 ·have e:sh h.length (.sl sz 0 0 k k)= .sl sz h.length 0 k k:=by simp
  rw [e]at p
  simpa [jf,cF _ n]using p
 ·simpa [jf,cF _ n]using M
 ·simpa [jf,cF _ n]using K
section
variable{n:Nat} {Q:Ex→PF→PH→Prop} {ks:List Kp} {fr:PF} {h:PH} {m:Mp} {l:List AO} {d:Option Nat}
theorem x5 {f:Nat} {«as»:List X} {args:List PV} {sz k:Nat} {cs:List PV} (q:Fo E O f args sz k cs) (a:gA kC id h [] («as».map (bL fr)) args) (b:c8 cs=true) (next:PK E O n Q (.ops (m.up [] (fr.aq d (.sl sz h.length 0 k k)) (h++[.cells sz cs])) l ks) (fr.aq d (.sl sz h.length 0 k k)) (h++[.cells sz cs])):PK E O n Q (.ops m (⟨none,d,.call f «as»⟩::l) ks) fr h:=
 fT (W:=[]) rfl ((e8.Gk q b a).mono (by rintro c e ⟨rfl,rfl⟩;exact next))
end
end P
namespace P
open Go Go.RowKit
section
variable{T:Type} {enc:TypeId×Value→T} {P:Program} {W:World}
def F0 (W:World):Nat→Prop:=fun b=>b<W.heap.size
theorem LF (W:World) (φ:Nat→Nat):bA ⟨F0 W,H0 W,φ,[]⟩where
 wf:=MM _
 fz:=fun x a=>a
 inj:=fun b c s=>by have:=aN s;simp at this
 bw:=fun b z cs e=>by simp at e
 nN:=fun b es e=>by simp at e
def I7 (v:Value):Prop:=∃a n c,v= .slice a n c∧n≤c∧(c=0∨∀x,a=some x→x.spot=none)
theorem pj {e:Nat} {c v:Value} (h:c= .slice none 0 0∨∃a len cap,c= .slice (some a) len cap∧len≤cap) (b:al e c=some v):I7 v:=by
 rcases h with rfl|⟨a,len,cap,rfl,g⟩
 ·simp [al,flat]at b;subst b;exact ⟨_,_,_,rfl,MM _,.inl rfl⟩
 ·simp only [al]at b
  cases d:(decide (a.block<e)&&a.spot.isNone)with
  |true=>rw [d]at b;simp only [cond_true,MH]at b;subst b;exact ⟨_,_,_,rfl,g,.inr fun x f=>by cases f;simp only [MK]at d;exact Option.isNone_iff_eq_none.1 d.2⟩
  |false=>
   rw [d]at b;simp only [cond_false]at b
   cases h2:Nat.beq len 0 with
   |true=>rw [h2]at b;simp only [cond_true,MH]at b;subst b;exact ⟨_,_,_,rfl,MM _,.inl rfl⟩
   |false=>rw [h2]at b;simp at b
theorem Gl {b z:Nat} {c:List Value} (h:(H0 W).get b=some (.cells z c)):z=1048576:=by
 have h2:jL W b=some (.cells z c):=by
  rw [AH.bO (AH.ec h)]at h;rw [←mM];exact h
 unfold jL at h2;split at h2
 ·cases h2;rfl
 ·cases h2
theorem Gm {b o sz:Nat} {r:List Value} (h:(H0 W).ldn ⟨b,o,none⟩ sz=some r) (a:sz≤1048576):F0 W b∧(H0 W).fE b sz=true:=by
 unfold AH.ldn at h;split at h
 ·rename_i z c _ e
  have:=Gl e;refine ⟨AH.ec e,?_⟩;unfold AH.fE;rw [show(H0 W).get b=_ from e];exact decide_eq_true (by omega)
 ·cases h
theorem m3 {α:Type} {F:Nat→Prop} {H:AH} {d:α→List PV} {ok:α→Prop}:∀{rows:List (List Value)} {ys:List α},ko (fun l y=>dE F H (d y) l∧ok y) rows ys→eK F H (ys.map d) rows∧∀y∈ys,ok y
 |_,_, .nil=>⟨.nil,by simp⟩
 |_,_, .cons a b=>⟨.cons a.1 (m3 b).1,fun y c=>by
    rcases M0.1 c with rfl|c
    · exact a.2
    · exact (m3 b).2 y c⟩
theorem vC {α:Type} (g:α→List PV) {ok:α→Prop} {t e:TypeId} {fuel:Nat} {c:Value} {d:DataW T} (p:P.underlying t=some (.slice e)) (K:0<P.cellsOf e) (J:P.cellsOf e≤1048576) (L:0<P.bytesOf e)
 (h:Rd enc P W fuel t [c] d) (D:qP P t d) (rd:∀m z w,m<fuel→Rd enc P W m e z w→qP P e w→∃l y,aj W.heap.size z=some l∧dE (F0 W) (H0 W) (g y) l∧ok y):
 ∃(v:Value) (ys:List α),aj W.heap.size [c]=some [v]∧RF (F0 W) (H0 W) (.fs (P.cellsOf e) (ys.map g)) v∧(∀y∈ys,ok y)∧ys.length*P.bytesOf e≤reachBytes:=by
 obtain ⟨v,rows,ys,f,u,j,N⟩:=tE (C:=fun l y=>dE (F0 W) (H0 W) (g y) l∧ok y) p K L h D rd;obtain ⟨B,A⟩:=m3 j
 have F:I7 v:=by
  obtain ⟨ps,h⟩:=h;simp only [aj]at f
  cases h2:al W.heap.size c with
  |none=>rw [h2]at f;simp at f
  |some x=>
   rw [h2]at f;simp only [MH,List.cons.injEq,and_true]at f;subst f;refine pj ?_ h2;rcases DataW.trod_slice p h with⟨e,_⟩|⟨a,len,cap,_,_,_,_,e,_,_,I,_⟩
   ·simp only [List.cons.injEq,and_true]at e;exact .inl e
   ·simp only [List.cons.injEq,and_true]at e;exact .inr ⟨a,len,cap,e,I⟩
 refine ⟨v,ys,f,?_,A,by rw [←j.length];exact N⟩;obtain ⟨a,n,S,rfl,H,E⟩:=F;have O:=u;obtain ⟨V,U,e,k⟩:=u.is;cases e;have i:(ys.map g).length=rows.length:=by rw [List.length_map,j.length]
 have:RF (F0 W) (H0 W) (.fs (P.cellsOf e) (ys.map g)) (.slice a (ys.map g).length S):=by
  refine .fs (by rw [i];exact O) (by rw [i];exact H) (fun d s=>⟨?_,?_⟩) B
  ·rcases E with q|q
   ·exact .inr q
   ·exact .inl (q d s)
  ·rw [i]
   by_cases M:rows.length=0
   ·exact .inl M
   ·obtain ⟨r,G⟩:∃r,rows[0]?=some r:=⟨_,MG (by omega)⟩
    obtain ⟨b,o,R,Q⟩:=k 0 r G;subst R;cases s;exact .inr (Gm Q J)
 rw [i]at this;exact this
end
end P
set_option maxRecDepth 10000
namespace P
open Go Go.RowKit Go.WideShapes Go.ChangeShapes
structure Sy where
 n:Int
 p:Int
 fb:List Int
 st:List Int
 en:List Int
 nx:List (Int×Int)
def A8 (l:List (Int×Int)):List (List PV):=l.map fun x=>[pi x.1,pi x.2]
def cC (l:List (Int×Int)):PV:=.fs 2 (A8 l)
def ah (s:Sy):List PV:=[pi s.n,pi s.p,dA s.fb,dA s.st,dA s.en,cC s.nx]
def uu (l:List Int):Prop:=l.length<2^60∧∀n∈l,o8 n
structure pE (s:Sy):Prop where
 n:o8 s.n
 p:o8 s.p
 fb:uu s.fb
 st:uu s.st
 en:uu s.en
 nx:s.nx.length<2^60∧∀x∈s.nx,o8 x.1∧o8 x.2
@[simp]theorem Dk (l:List Int):gD (dA l)=true:=by simp [dA]
@[simp]theorem x6 (l:List (Int×Int)):(A8 l).length=l.length:=by simp [A8]
@[simp]theorem Dl (l:List (Int×Int)):gD (cC l)=true:=rfl
@[simp]theorem A9 (s:Sy):bM (ah s)=true:=rfl
section
variable{T:Type} {enc:TypeId×Value→T} {W:World}
theorem cI:Try.prog.cellsOf 3=1:=by kernel_rfl
theorem LI:Try.prog.cellsOf 22=1:=by kernel_rfl
theorem Dp:Try.prog.cellsOf 56=2:=by kernel_rfl
theorem Gn:Try.prog.cellsOf 23=1:=by kernel_rfl
theorem cY:Try.prog.cellsOf 25=6:=by kernel_rfl
theorem Ba {n k:Nat} (h:n*k≤reachBytes) (a:0<k):n<2^60:=by
 have b:n*1≤n*k:=Nat.mul_le_mul_left _ a;have:reachBytes<2^47:=reachBytes_lt;omega
theorem Bb {α:Type} {l:List α} (h:l.length=6):∃a b c d e f,l=[a,b,c,d,e,f]:=by
 match l,h with
 |[a,b,c,d,e,f],_=>exact ⟨a,b,c,d,e,f,rfl⟩
theorem kL {n:Nat} {c:Value} {d:DataW T} (h:Rd enc Try.prog W n 22 [c] d) (g:qP Try.prog 22 d):∃v l,aj W.heap.size [c]=some [v]∧RF (F0 W) (H0 W) (dA l) v∧uu l:=by
 obtain ⟨v,f,p,a,o,j⟩:=vC (fun y:Int=>[pi y]) (ok:=o8) Try.underlying22 (by rw [cI];omega) (by rw [cI];omega) (by decide+kernel) h g (fun k t s r i q=>by
  obtain ⟨m,e,b⟩:=iW Try.underlying3 i;subst e
  exact ⟨_,m,cU rfl,.cons (.v _) .nil,wf_i64 b⟩)
 rw [cI]at a;exact ⟨v,f,p,a,Ba j (by decide+kernel),o⟩
theorem rL {n:Nat} {c:Value} {d:DataW T} (h:Rd enc Try.prog W n 23 [c] d) (u:qP Try.prog 23 d):∃v l,aj W.heap.size [c]=some [v]∧RF (F0 W) (H0 W) (cC l) v∧l.length<2^60∧∀x∈l,o8 x.1∧o8 x.2:=by
 obtain ⟨v,r,A,i,z,w⟩:=vC (fun y:Int×Int=>[pi y.1,pi y.2]) (ok:=fun x=>o8 x.1∧o8 x.2) Try.underlying23 (by rw [Dp];omega) (by rw [Dp];omega) (by decide+kernel) h u (fun k J I H e F=>by
  obtain ⟨ps,e⟩:=e;obtain ⟨xs,m,G,E,f,D,g⟩:=DataW.trod_array Try.underlying56 e;rw [Dp]at f;obtain ⟨a,b,rfl⟩:=Av f;have o:=g 0 (by omega);have j:=g 1 (by omega);rw [cI,MG (by omega)]at o j;obtain ⟨t,q,C⟩:=iW Try.underlying3 ⟨(xs[0]'(by omega)).2,o⟩;obtain ⟨s,p,B⟩:=iW Try.underlying3 ⟨(xs[1]'(by omega)).2,j⟩;simp at q p;subst q;subst p
  exact ⟨_,(t,s),cU (cU rfl),.cons (.v _) (.cons (.v _) .nil),wf_i64 C,wf_i64 B⟩)
 rw [Dp]at i;exact ⟨v,r,A,i,Ba w (by decide+kernel),z⟩
theorem x7 (n:Nat) (cs:List Value) (d:DataW T) (h:Rd enc Try.prog W n 25 cs d) (S:qP Try.prog 25 d):∃l s,aj W.heap.size cs=some l∧dE (F0 W) (H0 W) (ah s) l∧pE s:=by
 obtain ⟨r,m,X,c⟩:=pd Try.underlying25 h S;rw [cY]at r;obtain ⟨c0,c1,c2,c3,c4,c5,rfl⟩:=Bb r;obtain ⟨d0,j,x⟩:=c 0 _ rfl;obtain ⟨d1,i,w⟩:=c 1 _ rfl;obtain ⟨d2,h2,q⟩:=c 2 _ rfl;obtain ⟨d3,g,p⟩:=c 3 _ rfl;obtain ⟨Z,f,o⟩:=c 4 _ rfl;obtain ⟨Y,e,k⟩:=c 5 _ rfl;simp only [List.getElem_toArray,List.getElem_cons_zero,List.getElem_cons_succ]at j i h2 g f e x w q p o k;rw [cI]at j i;rw [LI]at h2 g f;rw [Gn]at e;obtain ⟨a,u,V⟩:=iW Try.underlying3 j;obtain ⟨b,t,U⟩:=iW Try.underlying3 i;obtain ⟨B,N,J,F,R⟩:=kL (by simpa using h2) q;obtain ⟨A,M,I,E,Q⟩:=kL (by simpa using g) p;obtain ⟨z,L,H,D,P⟩:=kL (by simpa using f) o;obtain ⟨y,K,G,C,O⟩:=rL (by simpa using e) k;simp at u t;subst u;subst t;exact ⟨[.int .i64 a,.int .i64 b,B,A,z,y],⟨a,b,N,M,L,K⟩,cU (cU (eu J (eu I (eu H G)))),.cons (.v _) (.cons (.v _) (.cons F (.cons E (.cons D (.cons C .nil))))),⟨wf_i64 V,wf_i64 U,R,Q,P,O⟩⟩
end
end P
set_option maxHeartbeats 2000000
namespace P
open Go Go.RowKit
def jx (P:Nat→Bool):Nat→Bool
 |0=>true
 |n+1=>jx P n&&P n
theorem dT {P:Nat→Bool}:∀{n:Nat},jx P n=true↔∀i,i<n→P i=true
 |0=>by simp [jx]
 |n+1=>by
  rw [jx,MK,dT];refine ⟨fun⟨a,b⟩ i hi=>?_,fun h=>⟨fun i hi=>h i (by omega),h n (by omega)⟩⟩;by_cases e:i=n
  ·subst e;exact b
  ·exact a i (by omega)
theorem m4 {P:Nat→Bool} {n i:Nat} (hi:i<n) (h:P i=false):jx P n=false:=by
 cases e:jx P n with
 |false=>rfl
 |true=>rw [dT.1 e i hi]at h;cases h
theorem ct {P:Nat→Bool} {n:Nat} (h:jx P n=true) (h2:P n=true):jx P (n+1)=true:=by rw [jx,h,h2];rfl
def gE (p:Int):Bool:=decide (0≤p)&&decide (p≤4)
theorem uv (p:Int):Fz E O 26 [pi p] (pb (gE p)):=by
 refine Fz.body (F:=BN) rfl rfl rfl rfl ?_;simp (maxSteps:=9^7)-implicitDefEqProofs+contextual [-getElem?_pos,MF,BN,gE]
theorem Bc {p:Int} (h:0≤p∧p≤8):aW .shl (.int .i64 1) (.int .u64 p)=some (.int .i64 (2^p.toNat)):=by
 have:p=0∨p=1∨p=2∨p=3∨p=4∨p=5∨p=6∨p=7∨p=8:=by omega
 rcases this with rfl|rfl|rfl|rfl|rfl|rfl|rfl|rfl|rfl<;>rfl
def hG (p:Int) (l:List Int) (i:Nat):Bool:=decide (0≤l.getD i 0)&&decide (l.getD i 0<2^p.toNat)
def fc (p:Int) (l:List Int):Bool:=jx (hG p l) l.length&&decide (0<l.length)
theorem x8 {p:Int} {l:List Int} (r:0≤p∧p≤8) (s:l.length<2^60):Fz E O 27 [pi p,dA l] (pb (fc p l)):=by
 refine Fz.body (F:=BO) rfl rfl rfl rfl ?_;simp (maxSteps:=9^7)-implicitDefEqProofs+contextual [-getElem?_pos,MF,BO];refine ba (fun i d h=>h=[]∧jx (hG p l) i=true∧d.get 0=pi p∧d.get 1=dA l∧d.get 5=pi i) l.length ?_ ?_
 ·exact ⟨rfl,rfl,by simp,by simp,by simp⟩
 rintro i d h hi ⟨rfl,o,b,a,f⟩;by_cases h:i<l.length
 ·obtain ⟨x,c⟩:∃x,l[i]?=some x:=⟨_,MG h⟩
  have m:l.getD i 0=x:=by rw [List.getD_eq_getElem?_getD,c];rfl
  have q:IntKind.i64.wrap ((i:Int)+1)=((i+1:Nat):Int):=au ⟨by omega,by omega⟩;have j:IntKind.u64.wrap p=p:=by rw [IntKind.wrap_u64];omega
  have k:=Bc r;by_cases g:x<0
  ·have e:fc p l=false:=by rw [fc,m4 h (by rw [hG,m];simp;omega)];rfl
   simp (maxSteps:=9^7)-implicitDefEqProofs [-getElem?_pos,MF,b,a,f,h,aV,c,j,k,g,e]
  by_cases n:2^p.toNat≤x
  ·have e:fc p l=false:=by rw [fc,m4 h (by rw [hG,m];simp;omega)];rfl
   simp (maxSteps:=9^7)-implicitDefEqProofs [-getElem?_pos,MF,b,a,f,h,aV,c,j,k,g,n,e]
  ·simp (maxSteps:=9^7)-implicitDefEqProofs [-getElem?_pos,MF,b,a,f,h,aV,c,j,k,g,n,q]
   exact .for h ⟨rfl,ct o (by rw [hG,m];simp;omega),by simp [b],by simp [a],by simp⟩
 ·obtain rfl:i=l.length:=by omega
  simp (maxSteps:=9^7)-implicitDefEqProofs+contextual [-getElem?_pos,MF,b,a,f,fc,o]
def gY (n:Int) (l:List Int) (i:Nat):Bool:=decide (0≤l.getD i 0)&&decide (l.getD i 0<n)&&(decide (i=0)||decide (l.getD (i- 1) 0<l.getD i 0))
def eU (n:Int) (l:List Int):Bool:=jx (gY n l) l.length
theorem bJ {α:Type} {l:List α} {i:Nat} {x d:α} (h:l[i]?=some x):l.getD i d=x:=by rw [List.getD_eq_getElem?_getD,h];rfl
theorem gF {n:Int} {l:List Int} {i:Nat} {x:Int} (a:l[i]?=some x) (h:x<0∨n≤x∨(0<i∧x≤l.getD (i- 1) 0)):eU n l=false:=by
 refine m4 (i:=i) (MO.1 a).1 ?_;rw [gY,bJ a];simp only [Bool.and_eq_false_iff,decide_eq_false_iff_not,Bool.or_eq_false_iff];omega
theorem il {n:Int} {l:List Int} {i:Nat} {x:Int} (a:l[i]?=some x) (c:0≤x) (b:x<n) (h2:i=0∨l.getD (i- 1) 0<x):gY n l i=true:=by
 rw [gY,bJ a];simp only [MK,MU,Bool.or_eq_true];omega
theorem lO {n:Int} {l:List Int} (u:l.length<2^60):Fz E O 28 [dA l,pi n] (pb (eU n l)):=by
 refine Fz.body (F:=BP) rfl rfl rfl rfl ?_;simp (maxSteps:=9^7)-implicitDefEqProofs+contextual [-getElem?_pos,MF,BP];refine ba (fun i m h=>h=[]∧jx (gY n l) i=true∧m.get 0=dA l∧m.get 1=pi n∧m.get 5=pi i) l.length ?_ ?_
 ·exact ⟨rfl,rfl,by simp,by simp,by simp⟩
 rintro i m h hi ⟨rfl,p,c,b,f⟩;by_cases h:i<l.length
 ·obtain ⟨x,a⟩:∃x,l[i]?=some x:=⟨_,MG h⟩
  have s:IntKind.i64.wrap ((i:Int)+1)=((i+1:Nat):Int):=au ⟨by omega,by omega⟩;by_cases d:x<0
  ·have e:=gF (n:=n) a (.inl d)
   simp (maxSteps:=9^7)-implicitDefEqProofs [-getElem?_pos,MF,c,b,f,h,aV,a,d,e]
  by_cases g:n≤x
  ·have e:=gF (n:=n) a (.inr (.inl g))
   simp (maxSteps:=9^7)-implicitDefEqProofs [-getElem?_pos,MF,c,b,f,h,aV,a,d,g,e]
  by_cases k:0<i
  ·obtain ⟨y,o⟩:∃y,l[i- 1]?=some y:=⟨_,MG (by omega)⟩
   have r:IntKind.i64.wrap ((i:Int)- 1)=((i- 1:Nat):Int):=by rw [au ⟨by omega,by omega⟩];omega
   have v:l.getD (i- 1) 0=y:=bJ o;have t:i- 1<l.length:=by omega
   have j:(0:Int)<i:=by omega
   by_cases q:x≤y
   ·have e:=gF (n:=n) a (.inr (.inr ⟨k,by omega⟩))
    simp (maxSteps:=9^7)-implicitDefEqProofs [-getElem?_pos,MF,c,b,f,h,aV,a,d,g,k,j,r,t,o,q,e]
   ·simp (maxSteps:=9^7)-implicitDefEqProofs [-getElem?_pos,MF,c,b,f,h,aV,a,d,g,k,j,r,t,o,q,s]
    exact .for h ⟨rfl,ct p (il a (by omega) (by omega) (by omega)),by simp [c],by simp [b],by simp⟩
  ·have j:¬ (0:Int)<i:=by omega
   simp (maxSteps:=9^7)-implicitDefEqProofs [-getElem?_pos,MF,c,b,f,h,aV,a,d,g,k,j,s];exact .for h ⟨rfl,ct p (il a (by omega) (by omega) (by omega)),by simp [c],by simp [b],by simp⟩
 ·obtain rfl:i=l.length:=by omega
  simp (maxSteps:=9^7)-implicitDefEqProofs+contextual [-getElem?_pos,MF,c,b,f,eU,p]
theorem lP {n:Int} {l:List Int} (w:l.length<2^60):Fz E O 29 [dA l,pi n] (pb (eU n l)):=by
 refine Fz.body (F:=BQ) rfl rfl rfl rfl ?_;simp (maxSteps:=9^7)-implicitDefEqProofs+contextual [-getElem?_pos,MF,BQ];refine ba (fun i j h=>h=[]∧jx (gY n l) i=true∧j.get 0=dA l∧j.get 1=pi n∧j.get 7=dA l∧j.get 8=pi l.length∧j.get 9=pi i) l.length ?_ ?_
 ·exact ⟨rfl,rfl,by simp,by simp,by simp,by simp,by simp⟩
 rintro i j h hi ⟨rfl,r,f,d,c,b,k⟩;by_cases h:i<l.length
 ·obtain ⟨x,a⟩:∃x,l[i]?=some x:=⟨_,MG h⟩
  have u:IntKind.i64.wrap ((i:Int)+1)=((i+1:Nat):Int):=au ⟨by omega,by omega⟩;by_cases g:x<0
  ·have e:=gF (n:=n) a (.inl g)
   simp (maxSteps:=9^7)-implicitDefEqProofs [-getElem?_pos,MF,f,d,c,b,k,h,aV,a,g,e]
  by_cases m:n≤x
  ·have e:=gF (n:=n) a (.inr (.inl m))
   simp (maxSteps:=9^7)-implicitDefEqProofs [-getElem?_pos,MF,f,d,c,b,k,h,aV,a,g,m,e]
  by_cases p:0<i
  ·obtain ⟨y,q⟩:∃y,l[i- 1]?=some y:=⟨_,MG (by omega)⟩
   have t:IntKind.i64.wrap ((i:Int)- 1)=((i- 1:Nat):Int):=by rw [au ⟨by omega,by omega⟩];omega
   have z:l.getD (i- 1) 0=y:=bJ q;have v:i- 1<l.length:=by omega
   have o:(0:Int)<i:=by omega
   by_cases s:x≤y
   ·have e:=gF (n:=n) a (.inr (.inr ⟨p,by omega⟩))
    simp (maxSteps:=9^7)-implicitDefEqProofs [-getElem?_pos,MF,f,d,c,b,k,h,aV,a,g,m,p,o,t,v,q,s,e]
   ·simp (maxSteps:=9^7)-implicitDefEqProofs [-getElem?_pos,MF,f,d,c,b,k,h,aV,a,g,m,p,o,t,v,q,s,u]
    exact .for h ⟨rfl,ct r (il a (by omega) (by omega) (by omega)),by simp [f],by simp [d],by simp [c],by simp [b],by simp⟩
  ·have o:¬ (0:Int)<i:=by omega
   simp (maxSteps:=9^7)-implicitDefEqProofs [-getElem?_pos,MF,f,d,c,b,k,h,aV,a,g,m,p,o,u];exact .for h ⟨rfl,ct r (il a (by omega) (by omega) (by omega)),by simp [f],by simp [d],by simp [c],by simp [b],by simp⟩
 ·obtain rfl:i=l.length:=by omega
  simp (maxSteps:=9^7)-implicitDefEqProofs+contextual [-getElem?_pos,MF,f,d,c,b,k,eU,r]
set_option maxHeartbeats 1000000
open Go Go.RowKit
def fY:List Int→List Int→Int
 |[],[]=>0
 |[],_::_=>-1
 |_::_,[]=>1
 |a::l,b::m=>if a<b then-1 else if b<a then 1 else fY l m
theorem ot (a:Int):Fz E O 82 [pi a] (pb false):=by
 refine Fz.body (F:=B9) rfl rfl rfl rfl ?_;simp (maxSteps:=9^7)-implicitDefEqProofs+contextual [-getElem?_pos,MF,B9]
theorem Bd (a b:Int):Fz E O 76 [pi a,pi b] (pi (if a<b then-1 else if b<a then 1 else 0)):=by
 refine Fz.body (F:=B6) rfl rfl rfl rfl ?_;simp (maxSteps:=9^7)-implicitDefEqProofs+contextual [-getElem?_pos,MF,B6];refine aK (ot a) ?_ ?_ ?_
 iterate 2· simp (maxDischargeDepth:=8)-implicitDefEqProofs [-getElem?_pos,MF]
 simp (maxSteps:=9^7)-implicitDefEqProofs+contextual [-getElem?_pos,MF];refine aK (ot b) ?_ ?_ ?_
 iterate 2· simp (maxDischargeDepth:=8)-implicitDefEqProofs [-getElem?_pos,MF]
 by_cases c:a<b
 ·simp (maxSteps:=9^7)-implicitDefEqProofs [-getElem?_pos,MF,c]
 ·by_cases h2:b<a
  ·simp (maxSteps:=9^7)-implicitDefEqProofs [-getElem?_pos,MF,c,h2]
  ·simp (maxSteps:=9^7)-implicitDefEqProofs [-getElem?_pos,MF,c,h2]
theorem pk {l m:List Int} (s:l.length<2^60) (r:m.length<2^60):Fz E O 61 [dA l,dA m] (pi (fY l m)):=by
 refine Fz.body (F:=B1) rfl rfl rfl rfl ?_;simp (maxSteps:=9^7)-implicitDefEqProofs+contextual [-getElem?_pos,MF,B1];refine ba (fun i e h=>h=[]∧i≤m.length∧fY (l.drop i) (m.drop i)=fY l m∧e.get 0=dA l∧e.get 1=dA m∧e.get 9=dA l∧e.get 10=pi l.length∧e.get 11=pi i) l.length ?_ ?_
 ·exact ⟨rfl,by omega,rfl,by simp,by simp,by simp,by simp,by simp⟩
 rintro i e h hi ⟨rfl,t,a,d,c,b,f10,f11⟩;by_cases h:i<l.length
 ·obtain ⟨x,f⟩:∃x,l[i]?=some x:=⟨_,MG h⟩
  have n:IntKind.i64.wrap ((i:Int)+1)=((i+1:Nat):Int):=au ⟨by omega,by omega⟩;have q:l.drop i=x::l.drop (i+1):=by rw [List.drop_eq_getElem_cons h];congr 1;exact (MO.1 f).2
  rw [q]at a;by_cases h2:i<m.length
  ·obtain ⟨y,g⟩:∃y,m[i]?=some y:=⟨_,MG h2⟩
   have p:m.drop i=y::m.drop (i+1):=by rw [List.drop_eq_getElem_cons h2];congr 1;exact (MO.1 g).2
   rw [p,fY]at a;have o:¬ (m.length:Int)≤i:=by omega
   simp (maxSteps:=9^7)-implicitDefEqProofs [-getElem?_pos,MF,d,c,b,f10,f11,h,h2,o,aV,f,g];refine aK (Bd x y) ?_ ?_ ?_
   iterate 2· simp (maxDischargeDepth:=8)-implicitDefEqProofs [-getElem?_pos,MF]
   by_cases k:x<y
   ·rw [if_pos k]at a⊢
    simp (maxSteps:=9^7)-implicitDefEqProofs [-getElem?_pos,MF,d,c,b,f10,f11,a.symm]
   ·rw [if_neg k]at a⊢
    by_cases j:y<x
    ·rw [if_pos j]at a⊢
     simp (maxSteps:=9^7)-implicitDefEqProofs [-getElem?_pos,MF,d,c,b,f10,f11,a.symm]
    ·rw [if_neg j]at a⊢
     simp (maxSteps:=9^7)-implicitDefEqProofs [-getElem?_pos,MF,d,c,b,f10,f11,n];exact .for h ⟨rfl,by omega,a,by simp [d],by simp [c],by simp [b],by simp [f10],by simp⟩
  ·obtain rfl:i=m.length:=by omega
   rw [List.drop_length,fY]at a;simp (maxSteps:=9^7)-implicitDefEqProofs [-getElem?_pos,MF,d,c,b,f10,f11,h,aV,f,a]
 ·obtain rfl:i=l.length:=by omega
  rw [List.drop_length]at a;by_cases h2:l.length<m.length
  ·have:fY l m=-1:=by
    rw [←a,List.drop_eq_getElem_cons h2,fY]
   simp (maxSteps:=9^7)-implicitDefEqProofs [-getElem?_pos,MF,d,c,b,f10,f11,h2,this]
  ·have:fY l m=0:=by
    rw [←a,List.drop_eq_nil_of_le (by omega),fY]
   simp (maxSteps:=9^7)-implicitDefEqProofs [-getElem?_pos,MF,d,c,b,f10,f11,h2,this]
theorem uw {A:Nat→Prop} {h:PH} {b z:Nat} {l:List Int} (a:0<z) (d:A b) (c:h[b]?=some (.cells z (l.map pi))):Vz A h (.sl 1 b 0 l.length l.length) (dA l):=
 rA d c (by simp) Nat.one_pos a (MM _) (by simp) (by simp [ir]) (by simp only [Nat.zero_mul,List.drop_zero];rw [MP (by simp),oh];exact kJ (by simp [Dg]))
theorem ou {A:Nat→Prop} {a:Nat→Nat} {h e:PH} {b:Nat} {x y:Int} (d:A b) (c:h[b]?=some (.cells 2 [pi x,pi y])):Vg A a h e (.sl 1 b 0 2 2) (dA [x,y]):=rB (uw (l:=[x,y]) (z:=2) (by omega) d c)
def lexB (x y:Int×Int):Bool:=decide (x.1<y.1)||(decide (x.1=y.1)&&decide (x.2<y.2))
def pn (x y:Int×Int):Int:=fY [x.1,x.2] [y.1,y.2]
theorem ov {x y:Int×Int}:pn x y<0↔lexB x y=true:=by
 unfold pn fY lexB fY fY;simp;split
 ·simp;omega
 ·split
  ·simp;omega
  ·split
   ·simp;omega
   ·split<;>simp<;>omega
theorem rM (x y:Int×Int):Fz E O 30 [.agg [pi x.1,pi x.2],.agg [pi y.1,pi y.2]] (pi (pn x y)):=by
 refine Fz.body (F:=BR) rfl rfl rfl rfl ?_;simp (maxSteps:=9^7)-implicitDefEqProofs+contextual [-getElem?_pos,MF,BR];refine xZ [0,1] (pk (l:=[x.1,x.2]) (m:=[y.1,y.2]) (by simp) (by simp)) ?_ ?_
 ·exact ⟨ou (by simp) rfl,ou (by simp) rfl,trivial⟩
 simp (maxSteps:=9^7)-implicitDefEqProofs+contextual [-getElem?_pos,MF,pn]
end P
namespace P
open Go Go.RowKit
def fC (s:Sy) (i:Nat):Bool:=
 decide (0≤(s.nx.getD i (0,0)).1)&&decide ((s.nx.getD i (0,0)).1<s.n)&&(decide (0≤(s.nx.getD i (0,0)).2)&&decide ((s.nx.getD i (0,0)).2<s.n))&&(decide (i=0)||lexB (s.nx.getD (i- 1) (0,0)) (s.nx.getD i (0,0)))
structure ox (s:Sy):Prop where
 n:1≤s.n∧s.n≤256
 p:0≤s.p∧s.p≤4
 len:(s.fb.length:Int)=s.n
 fb:jx (hG s.p s.fb) s.fb.length=true
 st:eU s.n s.st=true
 en:eU s.n s.en=true
 nl:s.nx.length≤200000
 nx:jx (fC s) s.nx.length=true
def pF (s:Sy):Bool:=decide (1≤s.n∧s.n≤256)&&decide (0≤s.p∧s.p≤4)&&decide ((s.fb.length:Int)=s.n)&&jx (hG s.p s.fb) s.fb.length&&eU s.n s.st&&eU s.n s.en&&decide (s.nx.length≤200000)&&jx (fC s) s.nx.length
theorem fZ {s:Sy}:pF s=true↔ox s:=by
 unfold pF;simp only [MK,MU];exact ⟨fun⟨⟨⟨⟨⟨⟨⟨a,b⟩,c⟩,d⟩,e⟩,f⟩,g⟩,h⟩=>⟨a,b,c,d,e,f,g,h⟩,fun⟨a,b,c,d,e,f,g,h⟩=>⟨⟨⟨⟨⟨⟨⟨a,b⟩,c⟩,d⟩,e⟩,f⟩,g⟩,h⟩⟩
theorem bC {s:Sy} (h:¬ ox s):pF s=false:=by
 cases e:pF s with
 |false=>rfl
 |true=>exact absurd (fZ.1 e) h
theorem aO (l:List (Int×Int)) (i:Nat):(A8 l)[i]?=(l[i]?).map fun x=>[pi x.1,pi x.2]:=by simp [A8]
theorem vD {s:Sy} {i:Nat} {x:Int×Int} (a:s.nx[i]?=some x) (h:fC s i=false):pF s=false:=bC fun k=>by
 have:=dT.1 k.nx i (MO.1 a).1;rw [h]at this;cases this
def YL (s:Sy) (i:Nat):List (Nat×PV):=[(1,.ref 0 0 6),(3,pi i)]
def YI (s:Sy) (i:Nat) (fr:PF) (h:PH):Prop:=h=[.cells 6 (ah s)]∧jx (fC s) i=true∧fr.get 1= .ref 0 0 6∧fr.get 3=pi i
theorem Be {s:Sy} (ok:pE s):Fz E O 9 [.agg (ah s)] (pb (pF s)):=by
 refine e8.body (F:=a9) rfl rfl rfl ?_;simp (maxSteps:=9^7)-implicitDefEqProofs+contextual [-getElem?_pos,MF,a9,ah];by_cases J:s.n<1
 ·have e:=bC (s:=s) fun k=>by have:=k.n;omega
  simp (maxSteps:=9^7)-implicitDefEqProofs [-getElem?_pos,MF,J,e];refine ak ?_;simp
 by_cases Q:256<s.n
 ·have e:=bC (s:=s) fun k=>by have:=k.n;omega
  simp (maxSteps:=9^7)-implicitDefEqProofs [-getElem?_pos,MF,J,Q,e];refine ak ?_;simp
 simp (maxSteps:=9^7)-implicitDefEqProofs [-getElem?_pos,MF,J,Q];refine aK (uv s.p) ?_ ?_ ?_
 iterate 2· simp (maxDischargeDepth:=8)-implicitDefEqProofs [-getElem?_pos,MF]
 by_cases K:0≤s.p∧s.p≤4
 case neg=>
  have e:=bC (s:=s) fun k=>K k.p
  have D:gE s.p=false:=by simp [gE];omega
  simp (maxSteps:=9^7)-implicitDefEqProofs [-getElem?_pos,MF,e,D];refine ak ?_;simp
 have D:gE s.p=true:=by simp [gE];omega
 by_cases A:(s.fb.length:Int)=s.n
 case neg=>
  have e:=bC (s:=s) fun k=>A k.len
  simp (maxSteps:=9^7)-implicitDefEqProofs [-getElem?_pos,MF,e,D,A];refine ak ?_;simp
 simp (maxSteps:=9^7)-implicitDefEqProofs [-getElem?_pos,MF,D,A];refine aK (x8 (l:=s.fb) ⟨K.1,by omega⟩ ok.fb.1) ?_ ?_ ?_
 iterate 2· simp (maxDischargeDepth:=8)-implicitDefEqProofs [-getElem?_pos,MF]
 by_cases z:jx (hG s.p s.fb) s.fb.length=true
 case neg=>
  have e:=bC (s:=s) fun k=>z k.fb
  have N:fc s.p s.fb=false:=by simp [fc,z]
  simp (maxSteps:=9^7)-implicitDefEqProofs [-getElem?_pos,MF,e,N];refine ak ?_;simp
 have N:fc s.p s.fb=true:=by simp [fc,z];omega
 simp (maxSteps:=9^7)-implicitDefEqProofs [-getElem?_pos,MF,N];refine aK (lO (n:=s.n) ok.st.1) ?_ ?_ ?_
 iterate 2· simp (maxDischargeDepth:=8)-implicitDefEqProofs [-getElem?_pos,MF]
 cases S:eU s.n s.st with
 |false=>
  have e:=bC (s:=s) fun k=>by have:=k.st;rw [S]at this;cases this
  simp (maxSteps:=9^7)-implicitDefEqProofs [-getElem?_pos,MF,e];refine ak ?_;simp
 |true=>
 simp (maxSteps:=9^7)-implicitDefEqProofs [-getElem?_pos,MF];refine aK (lO (n:=s.n) ok.en.1) ?_ ?_ ?_
 iterate 2· simp (maxDischargeDepth:=8)-implicitDefEqProofs [-getElem?_pos,MF]
 cases h2:eU s.n s.en with
 |false=>
  have e:=bC (s:=s) fun k=>by have:=k.en;rw [h2]at this;cases this
  simp (maxSteps:=9^7)-implicitDefEqProofs [-getElem?_pos,MF,e];refine ak ?_;simp
 |true=>
 by_cases Z:200000<s.nx.length
 ·have e:=bC (s:=s) fun k=>by have:=k.nl;omega
  have M:(200000:Int)<s.nx.length:=by omega
  simp (maxSteps:=9^7)-implicitDefEqProofs [-getElem?_pos,MF,e,M,cC];refine ak ?_;simp
 have M:¬ (200000:Int)<s.nx.length:=by omega
 simp (maxSteps:=9^7)-implicitDefEqProofs [-getElem?_pos,MF,M,cC];refine ba (YI s) s.nx.length ⟨rfl,rfl,by simp,by simp⟩ ?_;rintro i v h hi ⟨rfl,R,a,d⟩;by_cases h:i<s.nx.length
 ·obtain ⟨⟨m,r⟩,c⟩:∃x,s.nx[i]?=some x:=⟨_,MG h⟩
  have I:IntKind.i64.wrap ((i:Int)+1)=((i+1:Nat):Int):=au ⟨by omega,by omega⟩;have B:s.nx.getD i (0,0)=(m,r):=bJ c;have no:=vD c;rw [fC,B]at no;by_cases f:m<0
  ·have e:=no (by simp;omega)
   simp (maxSteps:=9^7)-implicitDefEqProofs [-getElem?_pos,MF,a,d,h,ah,cC,aO,c,f,e];refine ak ?_;simp
  by_cases g:s.n≤m
  ·have e:=no (by simp;omega)
   simp (maxSteps:=9^7)-implicitDefEqProofs [-getElem?_pos,MF,a,d,h,ah,cC,aO,c,f,g,e];refine ak ?_;simp
  by_cases j:r<0
  ·have e:=no (by simp;omega)
   simp (maxSteps:=9^7)-implicitDefEqProofs [-getElem?_pos,MF,a,d,h,ah,cC,aO,c,f,g,j,e];refine ak ?_;simp
  by_cases q:s.n≤r
  ·have e:=no (by simp;omega)
   simp (maxSteps:=9^7)-implicitDefEqProofs [-getElem?_pos,MF,a,d,h,ah,cC,aO,c,f,g,j,q,e];refine ak ?_;simp
  have fin:∀v:PF,v.get 1= .ref 0 0 6→v.get 3=pi ((i+1:Nat):Int)→fC s i=true→xP 0 (mW (YI s) s.nx.length) (s.nx.length- i) v [.cells 6 (ah s),.cells 2 [pi m,pi r]]:=fun v U T X=>by
   refine .xQ h (kK (h2:=[.cells 6 (ah s)]) [0] (YL s (i+1)) ?_ ?_ ?_ ?_ ?_ ?_) ⟨rfl,ct R X,by simp [YL],by simp [YL]⟩
   ·simp [YL,ah,U,T]
   iterate 2· simp
   ·intro b Y;omega
   iterate 2· simp (maxDischargeDepth:=8)-implicitDefEqProofs [eB,MF,YL,ah,U,T]
  by_cases t:0<i
  ·obtain ⟨⟨H,P⟩,u⟩:∃y,s.nx[i- 1]?=some y:=⟨_,MG (by omega)⟩
   have w:IntKind.i64.wrap ((i:Int)- 1)=((i- 1:Nat):Int):=by rw [au ⟨by omega,by omega⟩];omega
   have C:i- 1<s.nx.length:=by omega
   have o:(0:Int)<i:=by omega
   have L:s.nx.getD (i- 1) (0,0)=(H,P):=bJ u;rw [L]at no;by_cases G:m<H
   ·have e:=no (by simp [lexB];omega)
    simp (maxSteps:=9^7)-implicitDefEqProofs [-getElem?_pos,MF,a,d,h,ah,cC,aO,c,f,g,j,q,t,o,w,C,u,G,e];refine ak ?_;simp
   by_cases W:m=H
   ·subst W
    by_cases V:r≤P
    ·have e:=no (by simp [lexB];omega)
     simp (maxSteps:=9^7)-implicitDefEqProofs [-getElem?_pos,MF,a,d,h,ah,cC,aO,c,f,g,j,q,t,o,w,C,u,G,V,e];refine ak ?_;simp
    ·simp (maxSteps:=9^7)-implicitDefEqProofs [-getElem?_pos,MF,a,d,h,ah,cC,aO,c,f,g,j,q,t,o,w,C,u,G,V,I]
     exact fin _ (by simp [a]) (by simp) (by rw [fC,B,L];simp [lexB];omega)
   ·simp (maxSteps:=9^7)-implicitDefEqProofs [-getElem?_pos,MF,a,d,h,ah,cC,aO,c,f,g,j,q,t,o,w,C,u,G,W,I]
    exact fin _ (by simp [a]) (by simp) (by rw [fC,B,L];simp [lexB];omega)
  ·have o:¬ (0:Int)<i:=by omega
   simp (maxSteps:=9^7)-implicitDefEqProofs [-getElem?_pos,MF,a,d,h,ah,cC,aO,c,f,g,j,q,t,o,I];exact fin _ (by simp [a]) (by simp) (by rw [fC,B];simp;omega)
 ·obtain rfl:i=s.nx.length:=by omega
  have e:pF s=true:=fZ.2 {n:=by omega,p:=K,len:=A,fb:=z,st:=S,en:=h2,nl:=by omega,nx:=R};simp (maxSteps:=9^7)-implicitDefEqProofs [-getElem?_pos,MF,a,d,ah,cC,e];refine ak ?_;simp
theorem Bf {p:Int} (h:0≤p∧p≤8):aW .shl (.int .i64 1) (.int .i64 p)=some (.int .i64 (2^p.toNat)):=by
 have:p=0∨p=1∨p=2∨p=3∨p=4∨p=5∨p=6∨p=7∨p=8:=by omega
 rcases this with rfl|rfl|rfl|rfl|rfl|rfl|rfl|rfl|rfl<;>rfl
def jD (s:Sy):Int:=if pF s=true then 0 else 250
def x9 (s:Sy) (i:Nat):List (Nat×PV):=[(1,.ref 0 0 6),(72,cC s.nx),(73,pi s.nx.length),(74,pi i)]
def I8 (s:Sy) (i:Nat) (fr:PF) (h:PH):Prop:=h=[.cells 6 (ah s)]∧jx (fC s) i=true∧fr.get 1= .ref 0 0 6∧fr.get 72=cC s.nx∧fr.get 73=pi s.nx.length∧fr.get 74=pi i
theorem oy {s:Sy} (ok:pE s):Fz E O 10 [.agg (ah s)] (pi (jD s)):=by
 refine e8.body (F:=su) rfl rfl rfl ?_;have bad:pF s=false→jD s=250:=fun h=>by simp [jD,h]
 by_cases g:s.n<1
 ·have e:=bad (bC fun k=>by have:=k.n;omega)
  simp (maxSteps:=9^7)-implicitDefEqProofs [-getElem?_pos,MF,su,ah,g,e];refine ak ?_;simp
 by_cases o:256<s.n
 ·have e:=bad (bC fun k=>by have:=k.n;omega)
  simp (maxSteps:=9^7)-implicitDefEqProofs [-getElem?_pos,MF,su,ah,g,o,e];refine ak ?_;simp
 by_cases v:s.p<0
 ·have e:=bad (bC fun k=>by have:=k.p;omega)
  simp (maxSteps:=9^7)-implicitDefEqProofs [-getElem?_pos,MF,su,ah,g,o,v,e];refine ak ?_;simp
 by_cases D:4<s.p
 ·have e:=bad (bC fun k=>by have:=k.p;omega)
  simp (maxSteps:=9^7)-implicitDefEqProofs [-getElem?_pos,MF,su,ah,g,o,v,D,e];refine ak ?_;simp
 by_cases r:(s.fb.length:Int)=s.n
 case neg=>
  have e:=bad (bC fun k=>r k.len);simp (maxSteps:=9^7)-implicitDefEqProofs [-getElem?_pos,MF,su,ah,g,o,v,D,e,r];refine ak ?_;simp
 by_cases h3:200000<s.nx.length
 ·have e:=bad (bC fun k=>by have:=k.nl;omega)
  have J:(200000:Int)<s.nx.length:=by omega
  simp (maxSteps:=9^7)-implicitDefEqProofs [-getElem?_pos,MF,su,ah,g,o,v,D,r,e,J,cC];refine ak ?_;simp
 have J:¬ (200000:Int)<s.nx.length:=by omega
 simp (maxSteps:=9^7)-implicitDefEqProofs [-getElem?_pos,MF,su,ah,g,o,v,D,r,J,cC];refine ba (fun i d h=>h=[.cells 6 (ah s)]∧jx (hG s.p s.fb) i=true∧d.get 1= .ref 0 0 6∧d.get 41=dA s.fb∧d.get 42=pi s.n∧d.get 43=pi i) s.fb.length ⟨rfl,rfl,by simp,by simp,by simp,by simp⟩ ?_;rintro i d h hi ⟨rfl,N,a,f41,f42,f43⟩;by_cases h:i<s.fb.length
 ·obtain ⟨x,f⟩:∃x,s.fb[i]?=some x:=⟨_,MG h⟩
  have t:s.fb.getD i 0=x:=bJ f;have w:(i:Int)<s.n:=by omega
  have C:IntKind.i64.wrap ((i:Int)+1)=((i+1:Nat):Int):=au ⟨by omega,by omega⟩;have P:=Bf (p:=s.p) ⟨by omega,by omega⟩
  have no:hG s.p s.fb i=false→jD s=250:=fun q=>bad (bC fun k=>by
   have:=dT.1 k.fb i h;rw [q]at this
   cases this)
  rw [hG,t]at no;by_cases B:x<0
  ·have e:=no (by simp;omega)
   simp (maxSteps:=9^7)-implicitDefEqProofs [-getElem?_pos,MF,a,f41,f42,f43,h,w,ah,aV,f,B,e];refine ak ?_;simp
  by_cases H:2^s.p.toNat≤x
  ·have e:=no (by simp;omega)
   simp (maxSteps:=9^7)-implicitDefEqProofs [-getElem?_pos,MF,a,f41,f42,f43,h,w,ah,aV,f,B,H,P,e];refine ak ?_;simp
  ·simp (maxSteps:=9^7)-implicitDefEqProofs [-getElem?_pos,MF,a,f41,f42,f43,h,w,ah,aV,f,B,H,P,C]
   exact .for h ⟨rfl,ct N (by rw [hG,t];simp;omega),by simp [a],by simp [f41],by simp [f42],by simp⟩
 obtain rfl:i=s.fb.length:=by omega
 have w:¬ (s.fb.length:Int)<s.n:=by omega
 simp (maxSteps:=9^7)-implicitDefEqProofs [-getElem?_pos,MF,a,f41,f42,f43,w,r,ah];refine aK (lP (n:=s.n) ok.st.1) ?_ ?_ ?_
 iterate 2· simp (maxDischargeDepth:=8)-implicitDefEqProofs [-getElem?_pos,MF]
 cases R:eU s.n s.st with
 |false=>
  have e:=bad (bC fun k=>by have:=k.st;rw [R]at this;cases this);simp (maxSteps:=9^7)-implicitDefEqProofs [-getElem?_pos,MF,e];refine ak ?_;simp
 |true=>
 simp (maxSteps:=9^7)-implicitDefEqProofs [-getElem?_pos,MF,a];refine aK (lP (n:=s.n) ok.en.1) ?_ ?_ ?_
 iterate 2· simp (maxDischargeDepth:=8)-implicitDefEqProofs [-getElem?_pos,MF]
 cases h2:eU s.n s.en with
 |false=>
  have e:=bad (bC fun k=>by have:=k.en;rw [h2]at this;cases this);simp (maxSteps:=9^7)-implicitDefEqProofs [-getElem?_pos,MF,e];refine ak ?_;simp
 |true=>
 simp (maxSteps:=9^7)-implicitDefEqProofs [-getElem?_pos,MF,a,cC];refine ba (I8 s) s.nx.length ⟨rfl,rfl,by simp [a],by simp [cC],by simp,by simp⟩ ?_;clear a f41 f42 f43 d h;rintro i d h hi ⟨rfl,M,a,f72,f73,f74⟩;by_cases h:i<s.nx.length
 ·obtain ⟨⟨x1,x2⟩,f⟩:∃x,s.nx[i]?=some x:=⟨_,MG h⟩
  have C:IntKind.i64.wrap ((i:Int)+1)=((i+1:Nat):Int):=au ⟨by omega,by omega⟩;have t:s.nx.getD i (0,0)=(x1,x2):=bJ f;have no:=fun q=>bad (vD f q)
  rw [fC,t]at no
  have fin:∀d:PF,d.get 1= .ref 0 0 6→d.get 72=cC s.nx→d.get 73=pi s.nx.length→d.get 74=pi ((i+1:Nat):Int)→fC s i=true→xP 0 (mW (I8 s) s.nx.length) (s.nx.length- i) d [.cells 6 (ah s),.cells 2 [pi x1,pi x2]]:=fun d V U T S X=>by
   refine .xQ h (kK (h2:=[.cells 6 (ah s)]) [0] (x9 s (i+1)) ?_ ?_ ?_ ?_ ?_ ?_) ⟨rfl,ct M X,by simp [x9],by simp [x9],by simp [x9],by simp [x9]⟩
   ·simp [x9,ah,V,U,T,S]
   iterate 2· simp
   ·intro b z;omega
   iterate 2· simp (maxDischargeDepth:=8)-implicitDefEqProofs [eB,MF,x9,ah,V,U,T,S]
  by_cases B:x1<0
  ·have e:=no (by simp;omega)
   have j:¬ 0≤x1:=by omega
   simp (maxSteps:=9^7)-implicitDefEqProofs [-getElem?_pos,MF,a,f72,f73,f74,h,ah,cC,aO,f,B,j,e];refine ak ?_;simp
  have j:0≤x1:=by omega
  by_cases H:s.n≤x1
  ·have e:=no (by simp;omega)
   have u:¬ x1<s.n:=by omega
   simp (maxSteps:=9^7)-implicitDefEqProofs [-getElem?_pos,MF,a,f72,f73,f74,h,ah,cC,aO,f,j,H,u,e];refine ak ?_;simp
  have u:x1<s.n:=by omega
  by_cases a3:x2<0
  ·have e:=no (by simp;omega)
   have A:¬ 0≤x2:=by omega
   simp (maxSteps:=9^7)-implicitDefEqProofs [-getElem?_pos,MF,a,f72,f73,f74,h,ah,cC,aO,f,j,u,a3,A,e];refine ak ?_;simp
  have A:0≤x2:=by omega
  by_cases a4:s.n≤x2
  ·have e:=no (by simp;omega)
   have G:¬ x2<s.n:=by omega
   simp (maxSteps:=9^7)-implicitDefEqProofs [-getElem?_pos,MF,a,f72,f73,f74,h,ah,cC,aO,f,j,u,A,a4,G,e];refine ak ?_;simp
  have G:x2<s.n:=by omega
  by_cases K:0<i
  ·obtain ⟨⟨m,l⟩,L⟩:∃y,s.nx[i- 1]?=some y:=⟨_,MG (by omega)⟩
   have W:IntKind.i64.wrap ((i:Int)- 1)=((i- 1:Nat):Int):=by rw [au ⟨by omega,by omega⟩];omega
   have Y:i- 1<s.nx.length:=by omega
   have I:(0:Int)<i:=by omega
   have Q:s.nx.getD (i- 1) (0,0)=(m,l):=bJ L;rw [Q]at no;simp (maxSteps:=9^7)-implicitDefEqProofs [-getElem?_pos,MF,a,f72,f73,f74,h,ah,cC,aO,f,j,u,A,G,K,I,W,Y,L];refine aK (rM (m,l) (x1,x2)) ?_ ?_ ?_
   iterate 2· simp (maxDischargeDepth:=8)-implicitDefEqProofs [-getElem?_pos,MF]
   cases z:lexB (m,l) (x1,x2)with
   |false=>
    have e:=no (by simp [z];omega)
    have c:0≤pn (m,l) (x1,x2):=by
     refine Int.not_lt.1 fun q=>?_
     have:=ov.1 q;rw [z]at this;cases this
    simp (maxSteps:=9^7)-implicitDefEqProofs [-getElem?_pos,MF,c,e];refine ak ?_;simp
   |true=>
    have c:¬ 0≤pn (m,l) (x1,x2):=by
     have:=(ov (x:=(m,l)) (y:=(x1,x2))).2 z;omega
    simp (maxSteps:=9^7)-implicitDefEqProofs [-getElem?_pos,MF,c,a,f72,f73,f74,C];exact fin _ (by simp [a]) (by simp [f72]) (by simp [f73]) (by simp) (by rw [fC,t,Q];simp [z];omega)
  ·have I:¬ (0:Int)<i:=by omega
   simp (maxSteps:=9^7)-implicitDefEqProofs [-getElem?_pos,MF,a,f72,f73,f74,h,ah,cC,aO,f,j,u,A,G,K,I,C];exact fin _ (by simp [a]) (by simp [f72]) (by simp [f73]) (by simp) (by rw [fC,t];simp;omega)
 ·obtain rfl:i=s.nx.length:=by omega
  have e:pF s=true:=fZ.2 {n:=by omega,p:=by omega,len:=r,fb:=N,st:=R,en:=h2,nl:=by omega,nx:=M};have Z:jD s=0:=by simp [jD,e]
  simp (maxSteps:=9^7)-implicitDefEqProofs [-getElem?_pos,MF,a,f72,f73,f74,Z];refine ak ?_;simp
open Go Go.RowKit
theorem Fz.rN {f:Nat} {args:List PV} {y:Value} (k:∀F H φ vs,H.n0≤H.nx→aT ⟨F,H,φ,[]⟩ args vs→Ca E O f vs H (fun x d=>x=y∧Ext H d)):Fz E O f args (.v y):=by
 intro F H φ vs S g;refine (k F H φ vs S.wf g).mono ?_;rintro x d ⟨rfl,X⟩
 have T:bp 0 kC ⟨F,H,φ,[]⟩ ⟨F,d,φ,[]⟩:=⟨X.n0,X.nx,fun x c=>⟨c,X.old x (S.fz x c)⟩,fun _ _ _ h=>h,fun x c _=>X.old x c,fun b a=>absurd (aN a) (M9 _),fun _=>MM _,fun b a=>absurd a (M9 _),fun b a=>absurd a (M9 _),fun b a=>absurd a (M9 _)⟩
 exact ⟨_,[],F,φ,⟨rfl,rfl,rfl⟩,.v _,⟨X.wf S.wf,fun x c=>M6 (S.fz x c) X.nx,fun b i s=>absurd (aN s) (M9 _),fun b z cs e=>by simp at e,fun b es e=>by simp at e⟩,T⟩
theorem oz:Fz E O 11 [] (pb true):=Fz.rN fun F H b c w a=>by
 cases a;exact Ca.JU (g:=fun z H=>match z with|[]=>some (.bool true,H)|_=>none) (by rfl) rfl ⟨rfl,Ext.refl _⟩
theorem Fz.LJ {f:Nat} {args:List PV} {x:Value} {W:World} {vs:List Value} (k:Fz E O f args (.v x)) (h:aT ⟨F0 W,H0 W,id,[]⟩ args vs):Ca E O f vs (H0 W) (fun y _=>y=x):=by
 refine (k (F0 W) (H0 W) id vs (LF W id) h).mono ?_;rintro y c ⟨r,b,d,a,⟨rfl,_⟩,R,_⟩;cases R;rfl
theorem dE.arg {W:World} {ps:List PV} {l:List Value} (h:dE (F0 W) (H0 W) ps l):RV ⟨F0 W,H0 W,id,[]⟩ (.agg ps) (.agg l.toArray):=.agg (h.g9 (C:=⟨_,_,_,_⟩))
end P
namespace P
open Go Go.RowKit
def wd (N k:Nat):Nat:=N/2^(64*k)%2^64
abbrev pu (n:Nat):PV:=.v (.int .u64 n)
def sv (N:Nat):List PV:=[pu (wd N 0),pu (wd N 1),pu (wd N 2),pu (wd N 3)]
@[simp]theorem Gp (N:Nat):bM (sv N)=true:=by simp [sv]
@[simp]theorem y5 (N:Nat):(sv N).length=4:=rfl
theorem bZ (N k:Nat):wd N k<2^64:=Nat.mod_lt _ (by decide)
theorem gG (N k j:Nat):(wd N k).testBit j=(decide (j<64)&&N.testBit (64*k+j)):=by
 rw [wd,Nat.testBit_mod_two_pow,Nat.testBit_div_two_pow,Nat.add_comm]
theorem rO (N M k:Nat):wd (N|||M) k=wd N k|||wd M k:=Nat.eq_of_testBit_eq fun j=>by
 simp only [gG,Nat.testBit_or];cases decide (j<64)<;>simp
theorem yb (N M k:Nat):wd (N&&&M) k=wd N k&&&wd M k:=Nat.eq_of_testBit_eq fun j=>by
 simp only [gG,Nat.testBit_and];cases decide (j<64)<;>simp
theorem yc {q k:Nat} (a:k=q/64) (N:Nat):wd (N|||2^q) k=wd N k|||2^(q%64):=by
 rw [rO];congr 1;apply Nat.eq_of_testBit_eq;intro j;rw [gG,Nat.testBit_two_pow,Nat.testBit_two_pow];by_cases h:j<64
 ·simp only [h,decide_true,Bool.true_and]
  by_cases e:q%64=j
  ·rw [decide_eq_true e,decide_eq_true (by omega)]
  ·rw [decide_eq_false e,decide_eq_false (by omega)]
 ·simp only [h,decide_false,Bool.false_and]
  rw [decide_eq_false (by omega)]
theorem Bh {q k:Nat} (a:k≠q/64) (N:Nat):wd (N|||2^q) k=wd N k:=by
 rw [rO]
 have:wd (2^q) k=0:=by
  apply Nat.eq_of_testBit_eq;intro j;rw [gG,Nat.testBit_two_pow,Nat.zero_testBit];by_cases h:j<64
  ·simp only [h,decide_true,Bool.true_and]
   exact decide_eq_false (by omega)
  ·simp [h]
 rw [this,Nat.or_zero]
theorem lQ (k:Nat):wd 0 k=0:=by simp [wd]
theorem yd {N M:Nat} (a:N<2^256) (b:M<2^256) (h:∀k,k<4→wd N k=wd M k):N=M:=Nat.eq_of_testBit_eq fun i=>by
 by_cases hi:i<256
 ·have:=congrArg (·.testBit (i%64)) (h (i/64) (by omega))
  simp only [gG]at this;rw [show 64*(i/64)+i%64=i by omega,decide_eq_true (show i%64<64 by omega)]at this
  simpa using this
 ·rw [Nat.testBit_lt_two_pow (M6 a (Nat.pow_le_pow_right (by omega) (by omega))),Nat.testBit_lt_two_pow (M6 b (Nat.pow_le_pow_right (by omega) (by omega)))]
theorem jh {n:Nat} (h:n<2^64):IntKind.u64.wrap (n:Int)=n:=by rw [IntKind.wrap_u64];omega
theorem kM {n:Nat} (h:n<2^64):(BitVec.ofInt 64 (n:Int)).toNat=n:=by
 rw [show BitVec.ofInt 64 (n:Int)=BitVec.ofNat 64 n from by simp,BitVec.toNat_ofNat,Nat.mod_eq_of_lt h]
theorem rP {a b:Nat} (d:a<2^64) (c:b<2^64):aW .or (.int .u64 a) (.int .u64 b)=some (.int .u64 ((a|||b:Nat):Int)):=by
 have e:aW .or (.int .u64 a) (.int .u64 b)=some (.int .u64 (IntKind.u64.wrap ((BitVec.ofInt 64 (a:Int)|||BitVec.ofInt 64 (b:Int)).toNat:Int))):=rfl;rw [e,BitVec.toNat_or,kM d,kM c,jh (Nat.or_lt_two_pow d c)]
theorem lR {a b:Nat} (d:a<2^64) (c:b<2^64):aW .and (.int .u64 a) (.int .u64 b)=some (.int .u64 ((a&&&b:Nat):Int)):=by
 have e:aW .and (.int .u64 a) (.int .u64 b)=some (.int .u64 (IntKind.u64.wrap ((BitVec.ofInt 64 (a:Int)&&&BitVec.ofInt 64 (b:Int)).toNat:Int))):=rfl;rw [e,BitVec.toNat_and,kM d,kM c,jh (Nat.and_lt_two_pow _ c)]
theorem Bi {a j:Nat} (c:a<2^64) (b:j<64):aW .shr (.int .u64 a) (.int .u64 j)=some (.int .u64 ((a/2^j:Nat):Int)):=by
 have e:aW .shr (.int .u64 a) (.int .u64 j)=if(j:Int)<0 then none else some (.int .u64 ((a:Int).fdiv (2^(min (j:Int).toNat 64)))):=rfl
 rw [e,if_neg (by omega),Int.toNat_natCast,Nat.min_eq_left (by omega),Int.fdiv_eq_ediv_of_nonneg _ (by exact Int.le_of_lt (Int.pow_pos (by omega)))];congr 2
theorem Bj {j:Nat} (a:j<64):aW .shl (.int .u64 1) (.int .u64 j)=some (.int .u64 ((2^j:Nat):Int)):=by
 have e:aW .shl (.int .u64 1) (.int .u64 j)=if(j:Int)<0 then none else some (.int .u64 (IntKind.u64.wrap (1*2^(min (j:Int).toNat 64)))):=rfl
 have h:(1*2^(min (j:Int).toNat 64):Int)=((2^j:Nat):Int):=by rw [Int.toNat_natCast,Nat.min_eq_left (by omega),Int.one_mul,Int.natCast_pow];rfl
 rw [e,if_neg (by omega),h,jh (Nat.pow_lt_pow_right (by omega) a)]
theorem ux (a:Nat):a&&&1=if a.testBit 0 then 1 else 0:=by
 rw [Nat.and_one_is_mod,Nat.testBit_zero];have:=Nat.mod_two_eq_zero_or_one a;rcases this with h|h<;>simp [h]
theorem rQ {a b:Int} (c:0≤a):aW .rem (.int .i64 a) (.int .i64 b)=if b=0 then none else some (.int .i64 (a%b)):=by
 by_cases h:b=0
 ·simp [aW,bU,eQ,h]
 ·simp [aW,bU,eQ,h]
  rw [Int.tmod_eq_emod_of_nonneg c]
theorem rR {a b:Int} (c:0≤a) (hi:a≤2^62) (e:0<b):aW .quo (.int .i64 a) (.int .i64 b)=some (.int .i64 (a/b)):=by
 have d:¬ b=0:=by omega
 have f:0≤a/b:=Int.ediv_nonneg c (by omega);have h2:a/b≤a:=Int.ediv_le_self _ c;simp only [aW,bU,eQ,d,if_true,if_false];rw [Int.tdiv_eq_ediv_of_nonneg c,au ⟨by omega,by omega⟩]
theorem vE {N q:Nat} (p:q<256):Fz E O 59 [.agg (sv N),pi q] (pb (N.testBit q)):=by
 refine e8.body (F:=z0) rfl rfl rfl ?_
 obtain ⟨k,j,h,l⟩:∃k j,j<64∧q=64*k+j:=⟨q/64,q%64,by omega,by omega⟩
 have f:aW .quo (.int .i64 (q:Int)) (.int .i64 64)=some (.int .i64 k):=by
  rw [rR (by omega) (by omega) (by omega)];congr 2;omega
 have e:aW .rem (.int .i64 (q:Int)) (.int .i64 64)=some (.int .i64 j):=by
  rw [rQ (by omega),if_neg (by omega)];congr 2;omega
 have d:=jh (n:=j) (by omega);have c:=Bi (bZ N k) h;have h2:=lR (a:=wd N k/2^j) (b:=1) (Nat.lt_of_le_of_lt (Nat.div_le_self _ _) (bZ N k)) (by decide);have o:(wd N k/2^j).testBit 0=N.testBit q:=by rw [l];rw [Nat.testBit_div_two_pow,gG];simp [h]
 rw [ux,o]at h2;generalize wd N k/2^j=m at c h2;have g:k=0∨k=1∨k=2∨k=3:=by omega
 cases i:N.testBit q with
 |true=>
  rw [i,if_pos rfl]at h2;replace h2:aW .and (.int .u64 (m:Int)) (.int .u64 1)=some (.int .u64 1):=h2;rcases g with rfl|rfl|rfl|rfl
  all_goals
   simp (maxSteps:=9^7)-implicitDefEqProofs [-getElem?_pos,MF,z0,sv,f,e,d,c,h2];refine ak ?_;simp
 |false=>
  rw [i,if_neg (by decide)]at h2;replace h2:aW .and (.int .u64 (m:Int)) (.int .u64 1)=some (.int .u64 0):=h2;rcases g with rfl|rfl|rfl|rfl
  all_goals
   simp (maxSteps:=9^7)-implicitDefEqProofs [-getElem?_pos,MF,z0,sv,f,e,d,c,h2];refine ak ?_;simp
theorem ye {N q:Nat} (b:q<256):(sv N).set (q/64) (pu (wd N (q/64)|||2^(q%64)))=sv (N|||2^q):=by
 have a:q/64=0∨q/64=1∨q/64=2∨q/64=3:=by omega
 rcases a with h|h|h|h<;>rw [h]<;>simp only [sv,List.set_cons_zero,List.set_cons_succ,List.cons.injEq,PV.v.injEq,Value.int.injEq,Int.natCast_inj,true_and,and_true]<;>(repeat' apply And.intro)<;>first
  |(rw [yc (by omega)])
  |(rw [Bh (by omega)])
theorem m5 {N q:Nat} (f:q<256):Fz E O 65 [.agg (sv N),pi q] (.agg (sv (N|||2^q))):=by
 refine e8.body (F:=B2) rfl rfl rfl ?_
 obtain ⟨k,h⟩:∃k,q/64=k:=⟨_,rfl⟩
 obtain ⟨j,i⟩:∃j,q%64=j:=⟨_,rfl⟩
 have e:aW .quo (.int .i64 (q:Int)) (.int .i64 64)=some (.int .i64 k):=by
  rw [rR (by omega) (by omega) (by omega)];congr 2;omega
 have d:aW .rem (.int .i64 (q:Int)) (.int .i64 64)=some (.int .i64 j):=by
  rw [rQ (by omega),if_neg (by omega)];congr 2;omega
 have c:=jh (n:=j) (by omega);have b:=Bj (j:=j) (by omega);have a:=ye (N:=N) f;rw [h,i]at a;have h2:=rP (bZ N k) (Nat.pow_lt_pow_right (by omega) (show j<64 by omega):2^j<2^64);generalize 2^j=m at b h2 a;generalize wd N k|||m=y at h2 a;have g:k=0∨k=1∨k=2∨k=3:=by omega
 rw [←a];clear a;rcases g with rfl|rfl|rfl|rfl
 all_goals
  simp (maxSteps:=9^7)-implicitDefEqProofs [-getElem?_pos,MF,B2,sv,e,d,c,b,h2];refine ak ?_;simp
open Go Go.RowKit
theorem Bk (N M:Nat):Fz E O 79 [.agg (sv N),.agg (sv M)] (.agg (sv (N|||M))):=by
 refine e8.body (F:=B7) rfl rfl rfl ?_;have e:sv (N|||M)=[pu (wd N 0|||wd M 0),pu (wd N 1|||wd M 1),pu (wd N 2|||wd M 2),pu (wd N 3|||wd M 3)]:=by simp only [sv,rO]
 have c:=rP (bZ N 0) (bZ M 0);have b:=rP (bZ N 1) (bZ M 1);have h2:=rP (bZ N 2) (bZ M 2);have a:=rP (bZ N 3) (bZ M 3);rw [e];generalize wd N 0|||wd M 0=h at*;generalize wd N 1|||wd M 1=g at*;generalize wd N 2|||wd M 2=f at*;generalize wd N 3|||wd M 3=d at*;simp (maxSteps:=9^7)-implicitDefEqProofs [-getElem?_pos,MF,B7,sv,c,b,h2,a];refine ak ?_;simp
theorem rS (N M:Nat):Fz E O 52 [.agg (sv N),.agg (sv M)] (.agg (sv (N&&&M))):=by
 refine e8.body (F:=B0) rfl rfl rfl ?_;have e:sv (N&&&M)=[pu (wd N 0&&&wd M 0),pu (wd N 1&&&wd M 1),pu (wd N 2&&&wd M 2),pu (wd N 3&&&wd M 3)]:=by simp only [sv,yb]
 have c:=lR (bZ N 0) (bZ M 0);have b:=lR (bZ N 1) (bZ M 1);have h2:=lR (bZ N 2) (bZ M 2);have a:=lR (bZ N 3) (bZ M 3);rw [e];generalize wd N 0&&&wd M 0=h at*;generalize wd N 1&&&wd M 1=g at*;generalize wd N 2&&&wd M 2=f at*;generalize wd N 3&&&wd M 3=d at*;simp (maxSteps:=9^7)-implicitDefEqProofs [-getElem?_pos,MF,B0,sv,c,b,h2,a];refine ak ?_;simp
def Sm (N:Nat):Prop:=N<2^256
theorem Sm.of {N:Nat} (h:∀q,N.testBit q=true→q<256):Sm N:=by
 refine Nat.lt_pow_two_of_testBit _ fun i hi=>?_
 cases e:N.testBit i with
 |false=>rfl
 |true=>have:=h i e;omega
end P
end Go.Proofs.Ytediokhgklkhnaa.A
