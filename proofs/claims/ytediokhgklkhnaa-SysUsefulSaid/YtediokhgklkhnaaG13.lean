/- Texts that stand one behind the other: Pm8, Pm9, Pm10, Pm11, Pm12, Pm13, Pm14, Pm15, T1, T2, T3, T4, T5, T6, T7. -/
import Derived.Test.YtediokhgklkhnaaG12
set_option linter.unusedVariables false
set_option linter.unusedSimpArgs false
namespace Go.Proofs.Ytediokhgklkhnaa.A
namespace P
open Go Go.RowKit
theorem fy {H b:AH} {a:Addr} {vs:List Value} (h:H.st a vs=some b):b.nx=H.nx:=by
 unfold AH.st at h;split at h
 ·obtain ⟨_,h⟩:=ai h
  cases h;rfl
 ·cases h
theorem zd {o:aY} {m:X→Value} {H:AH} {b:Option (Value×AH)} {x:Value} {d:AH} (e:aB o m H=up b) (n:b=some (x,d)):d.nx≤H.nx+1:=by
 subst n;simp only [up,Option.map_some]at e
 have app:∀{sz bytes:Nat} {s y z:Value} {d:AH},aK sz bytes H s y=some (z,d)→d.nx≤H.nx+1:=by
  intro sz bytes s y z d h;unfold aK at h;split at h
  case h_2=>cases h
  split at h
  ·obtain ⟨_,h⟩:=ai h;cases h;omega
  ·split at h
   ·cases h
   ·obtain ⟨_,h⟩:=ai h
    split at h
    ·split at h
     ·obtain ⟨_,h⟩:=ai h
      rename_i a _ _;obtain ⟨i,h2,g⟩:=OR.1 h;cases g;have:=fy h2;omega
     ·cases h
    ·split at h
     ·obtain ⟨_,h⟩:=ai h;cases h;exact OL _
     ·split at h
      ·obtain ⟨_,h⟩:=ai h
       obtain ⟨i,h2,g⟩:=OR.1 h;cases g;exact OL _
      ·cases h
 have p:∀{sz:Nat} {s y z:Value} {d:AH},eN sz H s y=some (z,d)→d.nx≤H.nx+1:=by
  intro sz s y z d h;unfold eN at h;split at h
  case h_2=>cases h
  obtain ⟨c,f,h⟩:=OS.1 h;split at h
  ·simp only [Bool.cond_eq_ite]at h
   split at h
   ·cases h;exact O8 _
   ·obtain ⟨i,h2,g⟩:=OR.1 h
    cases g;have:=fy h2;omega
  ·cases h;exact O8 _
 have j:∀{k:XK} {l:List Value} {z:Value} {d:AH},kJ k l H=some (z,d)→d.nx≤H.nx+1:=by
  intro k l z d h;unfold kJ at h;split at h
  ·obtain ⟨_,_,e⟩:=OR.1 h;cases e;exact O8 _
  ·split at h
   ·obtain ⟨_,_,e⟩:=OR.1 h;cases e;exact O8 _
   ·cases h
  ·cases h;exact OL _
  ·cases h;exact O8 _
  ·split at h
   ·cases h;exact O8 _
   ·simp only [Bool.cond_eq_ite]at h
    split at h
    ·cases h;exact O8 _
    ·obtain ⟨i,h2,g⟩:=OR.1 h
     cases g;have:=fy h2;omega
  ·cases h
 cases o<;>simp only [aB]at e
 all_goals first
  |(simp only [OH,OP,dw.v.injEq,reduceCtorEq,false_and]at e;done)
  |skip
 all_goals first
  |(simp only [OH,OP]at e;obtain ⟨_,rfl⟩:=e;first|exact O8 _|exact OL _)
  |(obtain ⟨r,f,h2⟩:=OR.1 e;simp only [OP]at h2;obtain ⟨_,rfl⟩:=h2;first|exact O8 _|exact OL _)
  |skip
 all_goals first
  |(obtain ⟨r,f,h2⟩:=OR.1 e;simp only [OP]at h2;obtain ⟨_,rfl⟩:=h2;exact j f)
  |skip
 all_goals try simp only [Bool.cond_eq_ite]at e
 all_goals try(repeat' split at e)
 all_goals first
  |(cases e;done)
  |(simp only [OH,OP]at e;obtain ⟨_,rfl⟩:=e;first|exact O8 _|exact OL _)
  |(obtain ⟨r,f,h2⟩:=OR.1 e;simp only [OP]at h2;obtain ⟨_,rfl⟩:=h2;first|exact O8 _|(have:=fy f;omega)|exact app f|exact p f|exact j f)
  |skip
inductive Kp where
 |seq (c:AC)
 |bF (i:Nat)
 |lp (I:Nat→PF→PH→Prop) (k:Nat)
inductive Mp where
 |pl
 |d0
 |dr (l0:List AO) (ck:List (Nat×Nat×Nat)) (acc:List (PF×PH×List Nat)) (W:List Nat)
def Mp.up:Mp→List Nat→PF→PH→Mp
 | .pl,_,_,_=>.pl
 | .d0,_,_,_=>.d0
 | .dr l0 ck acc W,V,fr,h=>.dr l0 ck ((fr,h,V++W)::acc) (V++W)
inductive Cf where
 |code (c:AC) (ks:List Kp)
 |ops (m:Mp) (l:List AO) (ks:List Kp)
 |done (ex:Ex) (ks:List Kp)
def qq (E:Env) (O:ea) (f:Nat) (args:List PV) (h:PH) (W:Nat→Prop) (R:PV→PH→Prop):Prop:=
 ∀F H φ vs,bI ⟨F,H,φ,h⟩→aZ ⟨F,H,φ,h⟩ args vs→Ca E O f vs H (fun x H'=>∃r h' F' bl,R r h'∧RV ⟨F',H',bl,h'⟩ r x∧bI ⟨F',H',bl,h'⟩∧bA h.length W ⟨F,H,φ,h⟩ ⟨F',H',bl,h'⟩)
abbrev gf:Nat→Prop:=fun _=>True
abbrev ek (E:Env) (O:ea) (f:Nat) (args:List PV) (h:PH) (R:PV→PH→Prop):Prop:=qq E O f args h gf R
def Gh (n:Nat) (fr:PF) (h:PH) (da:PF) (h2:PH):Prop:=
 ∀F H φ af,bI ⟨F,H,φ,h⟩→fF ⟨F,H,φ,h⟩ fr af→∃F' bl,bI ⟨F',H,bl,h2⟩∧fF ⟨F',H,bl,h2⟩ da af∧∀C0:Cx,C0.h.length=n→bA n gf C0 ⟨F,H,φ,h⟩→bA n gf C0 ⟨F',H,bl,h2⟩
theorem Gh.refl (n:Nat) (a:PF) (h:PH):Gh n a h a h:=fun F H b c S R=>⟨F,b,S,R,fun _ _ k=>k⟩
variable(E:Env) (O:ea) (n:Nat) (Q:Ex→PF→PH→Prop)
inductive PK:Cf→PF→PH→Prop where
 |skip {ks:List Kp} {fr:PF} {h:PH}:PK (.done .normal ks) fr h→PK (.code .skip ks) fr h
 |ret {ks:List Kp} {fr:PF} {h:PH}:PK (.done .ret ks) fr h→PK (.code .ret ks) fr h
 |exit {i:Nat} {ks:List Kp} {fr:PF} {h:PH}:PK (.done (.exit i) ks) fr h→PK (.code (.exit i) ks) fr h
 |aA {l:List AO} {ks:List Kp} {fr:PF} {h:PH}:PK (.ops .pl l ks) fr h→PK (.code (.aA l) ks) fr h
 |ak {l:List AO} {c:Nat×Nat×Nat} {ck:List (Nat×Nat×Nat)} {ks:List Kp} {fr:PF} {h:PH}:PK (.ops (.dr l (c::ck) [(fr,h,[])] []) l ks) fr h→PK (.code (.ak l (c::ck)) ks) fr h
 |ph {l:List AO} {ks:List Kp} {fr:PF} {h:PH}:PK (.ops .d0 l ks) fr h→PK (.code (.ak l []) ks) fr h
 |seq {a b:AC} {ks:List Kp} {fr:PF} {h:PH}:PK (.code a (.seq b::ks)) fr h→PK (.code (.seq a b) ks) fr h
 |block {i:Nat} {a:AC} {ks:List Kp} {fr:PF} {h:PH}:PK (.code a (.bF i::ks)) fr h→PK (.code (.block i a) ks) fr h
 |cond {x:X} {a b:AC} {t:Bool} {ks:List Kp} {fr:PF} {h:PH}:bX fr x= .v (.bool t)→PK (.code (bif t then a else b) ks) fr h→PK (.code (.cond x a b) ks) fr h
 |loop {a:AC} {ks:List Kp} {fr da:PF} {h h2:PH} (I:Nat→PF→PH→Prop) (k:Nat):(∀k fr h,I k fr h→PK (.code a (.lp I k::ks)) fr h)→Gh n fr h da h2→I k da h2→PK (.code (.loop a) ks) fr h
 |vD {ks:List Kp} {fr:PF} {h:PH}:PK (.done .normal ks) fr h→PK (.ops .pl [] ks) fr h
 |pj {ks:List Kp} {fr:PF} {h:PH}:PK (.done .normal ks) fr h→PK (.ops .d0 [] ks) fr h
 |mC {l0:List AO} {ck:List (Nat×Nat×Nat)} {acc:List (PF×PH×List Nat)} {W:List Nat} {ks:List Kp} {fr:PF} {h:PH}:Cn l0 ck acc=true→PK (.done .normal ks) fr h→PK (.ops (.dr l0 ck acc W) [] ks) fr h
 |op {m:Mp} {d:Option Nat} {p:aY} {l:List AO} {ks:List Kp} {fr:PF} {h h':PH} {v:PV}:pop p (bX fr) h=some (v,h')→PK (.ops (m.up (kA p (bX fr)) (fr.aw d v) h') l ks) (fr.aw d v) h'→PK (.ops m (⟨none,d,p⟩::l) ks) fr h
 |Co {m:Mp} {t:Nat} {b:Bool} {x:Value} {d:Option Nat} {p:aY} {l:List AO} {ks:List Kp} {fr:PF} {h:PH}:fr.get t= .v x→dj b x=true→PK (.ops m (⟨none,d,p⟩::l) ks) fr h→PK (.ops m (⟨some (t,b),d,p⟩::l) ks) fr h
 |sN {m:Mp} {t:Nat} {b:Bool} {x:Value} {d:Option Nat} {p:aY} {l:List AO} {ks:List Kp} {fr:PF} {h:PH}:fr.get t= .v x→dj b x=false→PK (.ops (m.up [] (fr.aw d (.v undef)) h) l ks) (fr.aw d (.v undef)) h→PK (.ops m (⟨some (t,b),d,p⟩::l) ks) fr h
 |call {m:Mp} {f:Nat} {«as»:List X} {d:Option Nat} {l:List AO} {ks:List Kp} {fr:PF} {h:PH} {W:List Nat} {R:PV→PH→Prop}:qq E O f («as».map (bX fr)) h (· ∈W) R→(∀r h',R r h'→PK (.ops (m.up W (fr.aw d r) h') l ks) (fr.aw d r) h')→PK (.ops m (⟨none,d,.call f «as»⟩::l) ks) fr h
 |callv {m:Mp} {f:Nat} {x:X} {first cap:List PV} {«as»:List X} {d:Option Nat} {l:List AO} {ks:List Kp} {fr:PF} {h:PH} {W:List Nat} {R:PV→PH→Prop}:bX fr x= .fn f first cap→qq E O f (first++«as».map (bX fr)++cap) h (· ∈W) R→(∀r h',R r h'→PK (.ops (m.up W (fr.aw d r) h') l ks) (fr.aw d r) h')→PK (.ops m (⟨none,d,.callv x «as»⟩::l) ks) fr h
 |vE {ex:Ex} {fr:PF} {h:PH}:Q ex fr h→PK (.done ex []) fr h
 |EH {b:AC} {ks:List Kp} {fr:PF} {h:PH}:PK (.code b ks) fr h→PK (.done .normal (.seq b::ks)) fr h
 |EI {i:Nat} {ks:List Kp} {fr:PF} {h:PH}:PK (.done .normal ks) fr h→PK (.done .normal (.bF i::ks)) fr h
 |Cp {I:Nat→PF→PH→Prop} {k j:Nat} {ks:List Kp} {fr da:PF} {h h2:PH}:j<k→Gh n fr h da h2→I j da h2→PK (.done .normal (.lp I k::ks)) fr h
 |EJ {i:Nat} {b:AC} {ks:List Kp} {fr:PF} {h:PH}:PK (.done (.exit i) ks) fr h→PK (.done (.exit i) (.seq b::ks)) fr h
 |sO {i:Nat} {ks:List Kp} {fr:PF} {h:PH}:PK (.done .normal ks) fr h→PK (.done (.exit i) (.bF i::ks)) fr h
 |vF {i j:Nat} {ks:List Kp} {fr:PF} {h:PH}:j≠i→PK (.done (.exit j) ks) fr h→PK (.done (.exit j) (.bF i::ks)) fr h
 |del {I:Nat→PF→PH→Prop} {k i:Nat} {ks:List Kp} {fr:PF} {h:PH}:PK (.done (.exit i) ks) fr h→PK (.done (.exit i) (.lp I k::ks)) fr h
 |vG {k:Kp} {ks:List Kp} {fr:PF} {h:PH}:PK (.done .ret ks) fr h→PK (.done .ret (k::ks)) fr h
variable{E O n Q}
def Live (C0:Cx) (C:Cx):Prop:=bI C∧bA C0.h.length gf C0 C
theorem Live.step {C0 C D:Cx} (h:Live C0 C) {W:Nat→Prop} (S:bI D) (T:bA C.h.length W C D):Live C0 D:=
 ⟨S,h.2.trans (T.mono (h.2.len (OL _)) (fun _ _=>trivial) fun _=>O3 (h.2.len (OL _)) (T.len (OL _))) (OL _) (fun _ h=>h) fun _ h=>h⟩
def UP (E:Env) (O:ea) (C0:Cx) (Q:Ex→PF→PH→Prop):Ex→List Kp→Fr→AH→Prop
 |ex,[],af,H=>∃fr F φ h,Q ex fr h∧Live C0 ⟨F,H,φ,h⟩∧fF ⟨F,H,φ,h⟩ fr af
 | .normal,.seq b::ks,af,H=>Wp E O b af H (fun ex iW H'=>UP E O C0 Q ex ks iW H')
 | .normal,.bF _::ks,af,H=>UP E O C0 Q .normal ks af H
 | .normal,.lp I k::ks,af,H=>∃j,j<k∧∃fr F φ h,I j fr h∧Live C0 ⟨F,H,φ,h⟩∧fF ⟨F,H,φ,h⟩ fr af
 | .exit j,.seq _::ks,af,H=>UP E O C0 Q (.exit j) ks af H
 | .exit j,.bF i::ks,af,H=>if j=i then UP E O C0 Q .normal ks af H else UP E O C0 Q (.exit j) ks af H
 | .exit j,.lp _ _::ks,af,H=>UP E O C0 Q (.exit j) ks af H
 | .ret,_::ks,af,H=>UP E O C0 Q .ret ks af H
def AA (l1 l:List AO):Prop:=l1=l∨∃g d p t,l=⟨none,d,p⟩::t∧l1=⟨g,d,p⟩::t
theorem AA.head {a t:List AO} {g:Option (Nat×Bool)} {d:Option Nat} {p:aY} (h:AA a (⟨g,d,p⟩::t)):∃b,a=⟨b,d,p⟩::t:=by
 rcases h with rfl|⟨b,i,f,c,e,rfl⟩
 ·exact ⟨_,rfl⟩
 ·cases e;exact ⟨_,rfl⟩
def w8 (E:Env) (O:ea) (C0:Cx) (Q:Ex→PF→PH→Prop) (cf:Cf) (fr:PF) (h:PH):Prop:=∀F H φ af,Live C0 ⟨F,H,φ,h⟩→fF ⟨F,H,φ,h⟩ fr af→match cf with
 | .code c ks=>Wp E O c af H (fun ex iW H'=>UP E O C0 Q ex ks iW H')
 | .ops .pl l ks=>Wo E O l af H (fun iW H'=>UP E O C0 Q .normal ks iW H')
 | .ops .d0 l ks=>∀l0 acc bJ W,gd l0 acc bJ ⟨F,H,φ,h⟩ W→AA (l0.drop (acc.length- 1)) l→Wt E O l af H (fun ss=>yi l0 [] (ss.reverse++bJ)=true∧UP E O C0 Q .normal ks (de (af,H) ss).1 (de (af,H) ss).2)
 | .ops (.dr l0 ck acc W) l ks=>∀bJ,gd l0 acc bJ ⟨F,H,φ,h⟩ W→AA (l0.drop (acc.length- 1)) l→Wt E O l af H (fun ss=>yi l0 ck (ss.reverse++bJ)=true∧UP E O C0 Q .normal ks (de (af,H) ss).1 (de (af,H) ss).2)
 | .done ex ks=>UP E O C0 Q ex ks af H
theorem w8.step {C0:Cx} {m:Mp} {g:Option (Nat×Bool)} {d:Option Nat} {p:aY} {l:List AO} {K:List Kp} {M:PF} {h:PH} (one:∀F H φ w,Live C0 ⟨F,H,φ,h⟩→fF ⟨F,H,φ,h⟩ M w→jC E O ⟨g,d,p⟩ w H (fun i f=>∃u t s j V,Live C0 ⟨t,f,s,j⟩∧fF ⟨t,f,s,j⟩ u i∧bA 0 (· ∈V) ⟨F,H,φ,h⟩ ⟨t,f,s,j⟩∧(p.av=false→f.nx≤H.nx+1)∧w8 E O C0 Q (.ops (m.up V u j) l K) u j)):
 w8 E O C0 Q (.ops m (⟨g,d,p⟩::l) K) M h:=by
 intro F H φ w L R
 have mono:∀{N Q2:Fr→AH→Prop},(∀a b,N a b→Q2 a b)→jC E O ⟨g,d,p⟩ w H N→jC E O ⟨g,d,p⟩ w H Q2:=fun k ⟨a,b,c,e,q⟩=>⟨a,b,c,e,k _ _ q⟩
 cases m with
 |pl=>
  refine Wo.cons (mono ?_ (one F H φ w L R));rintro i f ⟨u,t,s,j,V,y,x,_,_,k⟩;exact k t f s i y x
 |d0=>
  intro v acc B W C r;rw [dh];refine mono ?_ (one F H φ w L R);rintro i f ⟨u,t,s,j,V,y,x,T,D,k⟩;have P:=C.length.2
  have J:gd v ((u,j,V++W)::acc) ((i,f)::B) ⟨t,f,s,j⟩ (V++W):=
   .cons C T y.1 x (fun o z I=>by
    obtain ⟨A,r⟩:=r.head
    have:v[acc.length- 1]?=some ⟨A,d,p⟩:=by
     have:=congrArg List.head? r
     simpa [List.head?_drop]using this
    rw [ku,this]at z;cases z
    exact D I)
  have G:AA (v.drop (((u,j,V++W)::acc).length- 1)) l:=by
   obtain ⟨A,r⟩:=r.head;left;simp only [List.length_cons,Nat.add_sub_cancel];rw [show acc.length=acc.length- 1+1 by omega,←List.drop_drop,r];rfl
  have:=k t f s i y x v _ ((i,f)::B) _ J G;refine (fun⟨a,b,e,q⟩=>⟨a,b,e,?_⟩:Wt E O l i f _→Wt E O l i f _) this
  simpa [de]using q
 |dr v S acc W=>
  intro B C r;rw [dh];refine mono ?_ (one F H φ w L R);rintro i f ⟨u,t,s,j,V,y,x,T,D,k⟩;have P:=C.length.2
  have J:gd v ((u,j,V++W)::acc) ((i,f)::B) ⟨t,f,s,j⟩ (V++W):=
   .cons C T y.1 x (fun o z I=>by
    obtain ⟨A,r⟩:=r.head
    have:v[acc.length- 1]?=some ⟨A,d,p⟩:=by
     have:=congrArg List.head? r
     simpa [List.head?_drop]using this
    rw [ku,this]at z;cases z
    exact D I)
  have G:AA (v.drop (((u,j,V++W)::acc).length- 1)) l:=by
   obtain ⟨A,r⟩:=r.head;left;simp only [List.length_cons,Nat.add_sub_cancel];rw [show acc.length=acc.length- 1+1 by omega,←List.drop_drop,r];rfl
  have:=k t f s i y x ((i,f)::B) J G;refine (fun⟨a,b,e,q⟩=>⟨a,b,e,?_⟩:Wt E O l i f _→Wt E O l i f _) this
  simpa [de]using q
theorem PK.sound {C0:Cx} (K:n=C0.h.length):∀{cf:Cf} {u:PF} {h:PH},PK E O n Q cf u h→w8 E O C0 Q cf u h:=by
 intro cf u h k
 induction k with
 |skip _ ih=>exact fun F H s o L R=>Wp.skip (ih F H s o L R)
 |ret _ ih=>exact fun F H s o L R=>Wp.ret (ih F H s o L R)
 |exit _ ih=>exact fun F H s o L R=>Wp.exit (ih F H s o L R)
 |aA _ ih=>exact fun F H s o L R=>Wp.aA (ih F H s o L R)
 | @ak l c ck z u h _ ih=>
  intro F H s o L R;have:=ih F H s o L R [(o,H)] (.one L.1 R) (.inl rfl);refine Wp.ak ?_;obtain ⟨a,ss,e,C,h2⟩:=this;unfold yi at C;simp only [List.reverse_append,List.reverse_cons,List.reverse_nil,List.nil_append,List.reverse_reverse,List.cons_append,OK]at C;exact ⟨a,ss,e,C,h2⟩
 | @ph l z u h _ ih=>
  intro F H s o L R;have:=ih F H s o L R l _ [(o,H)] _ (.one L.1 R) (.inl rfl);refine Wp.ak ?_;obtain ⟨a,ss,e,C,h2⟩:=this;unfold yi at C;simp only [List.reverse_append,List.reverse_cons,List.reverse_nil,List.nil_append,List.reverse_reverse,List.cons_append,OK]at C;exact ⟨a,ss,e,C,h2⟩
 | @seq a b z u h _ ih=>
  intro F H s o L R;refine Wp.seq ((ih F H s o L R).mono ?_);intro ex aS U q;cases ex<;>exact q
 | @block i a z u h _ ih=>
  intro F H s o L R;refine Wp.block ((ih F H s o L R).mono ?_);intro ex aS U q;cases ex<;>exact q
 | @cond x a b t z u h e _ ih=>
  intro F H s o L R;have w:=R.ev x;rw [e]at w
  exact Wp.cond w.iJ (by
   have:=ih F H s o L R
   cases t<;>exact this)
 | @loop a z u da h h2 I k _ g N ih=>
  intro F H s o L R;obtain ⟨F',M,S',A,T'⟩:=g F H s o L.1 R;refine Wp.loop (fun k o H=>∃u F s h,I k u h∧Live C0 ⟨F,H,s,h⟩∧fF ⟨F,H,s,h⟩ u o) ?_ k ⟨da,F',M,h2,N,⟨S',K▸T' C0 K.symm (K▸L.2)⟩,A⟩;rintro k o H ⟨u,F,s,h,N,L,R⟩;refine (ih k u h N F H s o L R).mono ?_;intro ex iW U q;cases ex<;>exact q
 |vD _ ih=>exact fun F H s o L R=>Wo.nil (ih F H s o L R)
 |pj _ ih=>exact fun F H s o L R V acc P W J B=>Wt.nil ⟨by have:=sM J (ck:=[]) rfl;simpa using this,ih F H s o L R⟩
 | @mC V ck acc W z u h ok _ ih=>
  intro F H s o L R P J B;exact Wt.nil ⟨by simpa using sM J ok,ih F H s o L R⟩
 | @op m d p l z u h D v e _ ih=>
  refine w8.step fun F H s o L R=>?_
  obtain ⟨b,Y,x,U,M,rfl,w,S,T⟩:=y5 L.1 (R.ev) e;refine jC.val rfl Y ?_;exact ⟨_,F,M,D,_,L.step S T,(R.step T).aw w d,T.mono (O9 _) (fun _ h=>h) (fun _=>O9 _),fun _=>zd Y rfl,ih⟩
 | @Co m t b x d p l z u h e hw _ ih=>
  have eqv:∀{o:Fr} {H:AH} {Q:Fr→AH→Prop},AO.wanted ⟨some (t,b),d,p⟩ o=true→jC E O ⟨none,d,p⟩ o H Q→jC E O ⟨some (t,b),d,p⟩ o H Q:=by
   intro o H Q C h2;rw [lf _ _ _ _ C];rwa [lf _ _ _ _ rfl]at h2
  intro F H s o L R;have w:=R t;rw [e]at w;have Hu:AO.wanted ⟨some (t,b),d,p⟩ o=true:=by rw [ie,w.iJ];exact hw
  have:=ih F H s o L R
  cases m with
  |pl=>
   refine Wo.cons (eqv Hu ?_);exact (mq _ _ _ _ _).1 this
  |d0=>
   intro V acc P W J B;rw [dh];obtain ⟨g',B⟩:=B.head;exact eqv Hu ((dh _ _ _ _ _).1 (this V acc P W J (.inr ⟨g',d,p,l,rfl,B⟩)))
  |dr V ck acc W=>
   intro P J B;rw [dh];obtain ⟨g',B⟩:=B.head;exact eqv Hu ((dh _ _ _ _ _).1 (this P J (.inr ⟨g',d,p,l,rfl,B⟩)))
 | @sN m t b x d p l z u h e hw _ ih=>
  refine w8.step fun F H s o L R=>?_
  have w:=R t;rw [e]at w;refine jC.off (by rw [ie,w.iJ];exact hw) ?_;exact ⟨_,F,s,h,[],L,R.aw (.v _) d,bA.refl _ _ _,fun _=>O8 _,ih⟩
 | @call m f «as» d l z u h W R hc _ ih=>
  refine w8.step fun F H s o L A=>?_
  refine jC.call rfl rfl ?_;refine (hc F H s _ L.1 (aZ.of A.ev «as»)).mono ?_;rintro x U ⟨r,D,F2,Z,hR,w,S2,G⟩;exact ⟨_,F2,Z,D,W,L.step S2 G,(A.step G).aw w d,G.mono (O9 _) (fun _ h=>h) (fun _=>O9 _),(fun q=>by cases q),ih r D hR⟩
 | @callv m f x first cap «as» d l z u h W R hf hc _ ih=>
  refine w8.step fun F H s o L A=>?_
  have w:=A.ev x;rw [hf]at w;revert w;generalize hy:X.ev o x=y;intro w
  cases w with| @fn _ _ _ xs ys ha Y=>
  refine jC.call rfl (f:=f) («as»:=xs++«as».map (X.ev o)++ys) (H1:=H) (by simp only [aB,hy]) ?_;refine (hc F H s _ L.1 ((ha.append (aZ.of A.ev «as»)).append Y)).mono ?_;rintro x U ⟨r,D,F2,Z,hR,w,S2,G⟩;exact ⟨_,F2,Z,D,W,L.step S2 G,(A.step G).aw w d,G.mono (O9 _) (fun _ h=>h) (fun _=>O9 _),(fun q=>by cases q),ih r D hR⟩
 | @vE ex u h q=>
  intro F H s o L R;simp only [UP];exact ⟨u,F,s,h,q,L,R⟩
 |EH _ ih=>exact fun F H s o L R=>ih F H s o L R
 |EI _ ih=>exact fun F H s o L R=>ih F H s o L R
 | @Cp I k j z u da h h2 hj g N=>
  intro F H s o L R;obtain ⟨F',M,S',A,T'⟩:=g F H s o L.1 R;exact ⟨j,hj,da,F',M,h2,N,⟨S',K▸T' C0 K.symm (K▸L.2)⟩,A⟩
 |EJ _ ih=>exact fun F H s o L R=>ih F H s o L R
 | @sO i z u h _ ih=>
  intro F H s o L R;show(if i=i then _ else _);rw [if_pos rfl];exact ih F H s o L R
 | @vF i j z u h hj _ ih=>
  intro F H s o L R;show(if j=i then _ else _);rw [if_neg hj];exact ih F H s o L R
 |del _ ih=>exact fun F H s o L R=>ih F H s o L R
 | @vG k z u h _ ih=>
  intro F H s o L R;cases k<;>exact ih F H s o L R
end P
namespace P
open Go Go.RowKit
section
variable{E:Env} {O:ea} {n:Nat} {Q:Ex→PF→PH→Prop} {ks:List Kp} {fr:PF} {h:PH}
theorem qq.mono {f:Nat} {args:List PV} {W:Nat→Prop} {R R':PV→PH→Prop} (k:qq E O f args h W R) (i:∀r c,R r c→R' r c):qq E O f args h W R':=fun F H e g S j=>
 (k F H e g S j).mono fun x m ⟨r,c,l,d,a,b⟩=>⟨r,c,l,d,i _ _ a,b⟩
def lu.get (fr:PF) (h:PH):RS→Option PV
 | .tmp t=>some (fr.get t)
 | .cell t _=>wW h (fr.get t)
 | .cells t n=>lj n h (fr.get t)
def lu.all (fr:PF) (h:PH):List RS→Option (List PV)
 |[]=>some []
 |r::l=>match lu.get fr h r,lu.all fr h l with|some v,some vs=>some (v::vs)|_,_=>none
def eY:List PV→PV
 |[v]=>v
 |vs=>.dB vs
def qP (n:Nat) (r:PV) (h:PH) (r2:PV) (h2:PH):Prop:=
 ∀F H φ x,bI ⟨F,H,φ,h⟩→RV ⟨F,H,φ,h⟩ r x→∃F' bl,bI ⟨F',H,bl,h2⟩∧RV ⟨F',H,bl,h2⟩ r2 x∧∀C0:Cx,C0.h.length=n→bA n gf C0 ⟨F,H,φ,h⟩→bA n gf C0 ⟨F',H,bl,h2⟩
def ze (n:Nat) (res:List RS) (R:PV→PH→Prop):Ex→PF→PH→Prop
 | .exit _,_,_=>False
 |_,fr,h=>∃vs,lu.all fr h res=some vs∧∃r2 h2,qP n (eY vs) h r2 h2∧R r2 h2
theorem w9 {C:Cx} (S:bI C) {fr:PF} {d:Fr} (R:fF C fr d):∀{res:List RS} {ps:List PV},lu.all fr C.h res=some ps→∃xs,RS.all d C.H res=some xs∧aZ C ps xs
 |[],ps,e=>by cases e;exact ⟨[],rfl,.nil⟩
 |r::l,ps,e=>by
  simp only [lu.all]at e;split at e
  case h_2=>cases e
  rename_i p q g h2;cases e;obtain ⟨xs,o,k⟩:=w9 S R h2
  obtain ⟨x,j,i⟩:∃x,RS.get d C.H r=some x∧RV C p x:=by
   cases r with
   |tmp t=>cases g;exact ⟨_,rfl,R t⟩
   |cell t _=>
    obtain ⟨y,b,f⟩:=wZ S (R t) g;refine ⟨y,?_,f⟩;simp only [RS.get]
    cases c:d.get t with
    |pointer a=>rw [c]at b;cases a<;>exact b
    |_=>rw [c]at b;cases b
   |cells t m=>
    obtain ⟨y,b,f⟩:=nR S (R t) g;refine ⟨y,?_,f⟩;simp only [RS.get]
    cases c:d.get t with
    |pointer a=>rw [c]at b;cases a<;>exact b
    |_=>rw [c]at b;cases b
  exact ⟨x::xs,by simp only [RS.all,o,j],.cons i k⟩
theorem zf {C:Cx} {ps:List PV} {xs:List Value} (h:aZ C ps xs):RV C (eY ps) (iu xs):=by
 cases h with
 |nil=>exact .dB (xs:=[]) .nil
 |cons a b=>
  cases b with
  |nil=>exact a
  |cons b c=>exact .dB (xs:=_::_::_) (.cons a (.cons b c))
theorem ek.body {f:Nat} {F:AF} {args:List PV} {R:PV→PH→Prop} (y:O f=none) (A:E f=some F) (z:args.length=F.np) (k:PK E O h.length (ze h.length F.res R) (.code F.body []) (PF.of args) h):ek E O f args h R:=by
 intro Fz H c a S u;refine Ca.body y A (by rw [←u.length,z]) ?_
 have L:Live ⟨Fz,H,c,h⟩ ⟨Fz,H,c,h⟩:=⟨S,bA.refl _ _ _⟩
 refine (k.sound (C0:=⟨Fz,H,c,h⟩) rfl Fz H c (Fr.of a) L (fF.of u)).mono ?_;intro ex B m q;simp only [UP]at q;obtain ⟨fr,M,K,t,q,p,I⟩:=q
 have key:∀a,lu.all fr t F.res=some a→∀b h2,qP h.length (eY a) t b h2→R b h2→∃j,RS.all B m F.res=some j∧∃r l s o,R r l∧RV ⟨s,m,o,l⟩ r (iu j)∧bI ⟨s,m,o,l⟩∧bA h.length gf ⟨Fz,H,c,h⟩ ⟨s,m,o,l⟩:=by
  intro a e b h2 g d;obtain ⟨j,x,w⟩:=w9 p.1 I e;obtain ⟨J,v,D,G,C⟩:=g _ _ _ _ p.1 (zf w);exact ⟨j,x,b,h2,J,v,d,G,D,C _ rfl p.2⟩
 cases ex with
 |exit i=>exact q.elim
 |normal=>obtain ⟨a,e,b,h2,g,d⟩:=q;exact key a e b h2 g d
 |ret=>obtain ⟨a,e,b,h2,g,d⟩:=q;exact key a e b h2 g d
@[simp]theorem Cq (f:PF) (a b:Nat) (p:PV):(f.put a p).get b=if b=a then p else f.get b:=rfl
@[simp]theorem EK (l:List PV) (a:Nat):(PF.of l).get a=l.getD a .any:=rfl
@[simp]theorem Hv (f:PF) (a:Nat) (p:PV):f.aw (some a) p=f.put a p:=rfl
@[simp]theorem Hw (f:PF) (p:PV):f.aw none p=f:=rfl
@[simp]theorem Kl (f:PF) (a:Nat):bX f (.t a)=f.get a:=rfl
@[simp]theorem Km (f:PF) (v:Value):bX f (.k v)=lT v:=rfl
@[simp]theorem Kn (f:PF) (a:Nat):bX f (.f a)= .fn a [] []:=rfl
@[simp]theorem EL (k:IntKind) (a:Int):lT (.int k a)= .v (.int k a):=rfl
@[simp]theorem Cr (a:Bool):lT (.bool a)= .v (.bool a):=rfl
@[simp]theorem EM (a:ByteArray):lT (.string a)= .v (.string a):=rfl
@[simp]theorem Hz (a:Option Addr) (b c:Nat):lT (.slice a b c)= .v (.slice a b c):=rfl
@[simp]theorem EN (a:Option Addr):lT (.pointer a)= .v (.pointer a):=rfl
@[simp]theorem EO (a:Option Nat):lT (.map a)= .v (.map a):=rfl
@[simp]theorem HA:lT .nilFunc= .v .nilFunc:=rfl
@[simp]theorem HB:lT .nilIface= .v .nilIface:=rfl
@[simp]theorem EP (a:Array Value):lT (.agg a)= .agg (a.toList.map .v):=rfl
@[simp]theorem HC (V:List Nat) (fr:PF) (h:PH):Mp.up .pl V fr h= .pl:=rfl
@[simp]theorem HD (V:List Nat) (fr:PF) (h:PH):Mp.up .d0 V fr h= .d0:=rfl
@[simp]theorem HE (a:List AO) (ck:List (Nat×Nat×Nat)) (acc:List (PF×PH×List Nat)) (W V:List Nat) (fr:PF) (h:PH):Mp.up (.dr a ck acc W) V fr h= .dr a ck ((fr,h,V++W)::acc) (V++W):=rfl
@[simp]theorem ER:PK E O n Q (.code .skip ks) fr h↔PK E O n Q (.done .normal ks) fr h:=⟨fun k=>by cases k;assumption,.skip⟩
@[simp]theorem HF:PK E O n Q (.code .ret ks) fr h↔PK E O n Q (.done .ret ks) fr h:=⟨fun k=>by cases k;assumption,.ret⟩
@[simp]theorem ES (i:Nat):PK E O n Q (.code (.exit i) ks) fr h↔PK E O n Q (.done (.exit i) ks) fr h:=⟨fun k=>by cases k;assumption,.exit⟩
@[simp]theorem HG (l:List AO):PK E O n Q (.code (.aA l) ks) fr h↔PK E O n Q (.ops .pl l ks) fr h:=⟨fun k=>by cases k;assumption,.aA⟩
@[simp]theorem ET (l:List AO) (c:Nat×Nat×Nat) (ck:List (Nat×Nat×Nat)):PK E O n Q (.code (.ak l (c::ck)) ks) fr h↔PK E O n Q (.ops (.dr l (c::ck) [(fr,h,[])] []) l ks) fr h:=⟨fun k=>by cases k;assumption,.ak⟩
@[simp]theorem Cs (l:List AO):PK E O n Q (.code (.ak l []) ks) fr h↔PK E O n Q (.ops .d0 l ks) fr h:=⟨fun k=>by cases k;assumption,.ph⟩
@[simp]theorem HI (a b:AC):PK E O n Q (.code (.seq a b) ks) fr h↔PK E O n Q (.code a (.seq b::ks)) fr h:=⟨fun k=>by cases k;assumption,.seq⟩
@[simp]theorem Ct (i:Nat) (a:AC):PK E O n Q (.code (.block i a) ks) fr h↔PK E O n Q (.code a (.bF i::ks)) fr h:=⟨fun k=>by cases k;assumption,.block⟩
def PC (E:Env) (O:ea) (n:Nat) (Q:Ex→PF→PH→Prop) (p:PV) (a b:AC) (ks:List Kp) (fr:PF) (h:PH):Prop:=∃t,p= .v (.bool t)∧PK E O n Q (.code (bif t then a else b) ks) fr h
@[simp]theorem EU (x:X) (a b:AC):PK E O n Q (.code (.cond x a b) ks) fr h↔PC E O n Q (bX fr x) a b ks fr h:=⟨fun k=>by cases k with|cond e q=>exact ⟨_,e,q⟩,fun⟨t,e,q⟩=>.cond e q⟩
@[simp]theorem Cu (t:Bool) (a b:AC):PC E O n Q (.v (.bool t)) a b ks fr h↔br (t=true) (PK E O n Q (.code a ks) fr h) (PK E O n Q (.code b ks) fr h):=by
 unfold PC;cases t
 ·simp only [reduceCtorEq,GD]
  exact ⟨fun⟨t,e,q⟩=>by cases e;exact q,fun q=>⟨_,rfl,q⟩⟩
 ·simp only [GC]
  exact ⟨fun⟨t,e,q⟩=>by cases e;exact q,fun q=>⟨_,rfl,q⟩⟩
@[simp high]theorem Ns (a b:AC):PC E O n Q (.v (.bool true)) a b ks fr h↔PK E O n Q (.code a ks) fr h:=by rw [Cu];simp
@[simp high]theorem Nt (a b:AC):PC E O n Q (.v (.bool false)) a b ks fr h↔PK E O n Q (.code b ks) fr h:=by rw [Cu];simp
@[simp]theorem HJ (ex:Ex):PK E O n Q (.done ex []) fr h↔Q ex fr h:=⟨fun k=>by cases k;assumption,.vE⟩
@[simp]theorem Kq (b:AC):PK E O n Q (.done .normal (.seq b::ks)) fr h↔PK E O n Q (.code b ks) fr h:=⟨fun k=>by cases k;assumption,.EH⟩
@[simp]theorem Kr (i:Nat):PK E O n Q (.done .normal (.bF i::ks)) fr h↔PK E O n Q (.done .normal ks) fr h:=⟨fun k=>by cases k;assumption,.EI⟩
@[simp]theorem Ks (i:Nat) (b:AC):PK E O n Q (.done (.exit i) (.seq b::ks)) fr h↔PK E O n Q (.done (.exit i) ks) fr h:=⟨fun k=>by cases k;assumption,.EJ⟩
@[simp]theorem HK (i:Nat):PK E O n Q (.done (.exit i) (.bF i::ks)) fr h↔PK E O n Q (.done .normal ks) fr h:=⟨fun k=>by cases k with|sO q=>exact q|vF q=>exact absurd rfl q,.sO⟩
@[simp]theorem Kt (i k:Nat) (I:Nat→PF→PH→Prop):PK E O n Q (.done (.exit i) (.lp I k::ks)) fr h↔PK E O n Q (.done (.exit i) ks) fr h:=⟨fun k=>by cases k;assumption,.del⟩
@[simp]theorem Nu (k:Kp):PK E O n Q (.done .ret (k::ks)) fr h↔PK E O n Q (.done .ret ks) fr h:=⟨fun k=>by cases k;assumption,.vG⟩
def zg (n:Nat) (I:Nat→PF→PH→Prop) (k:Nat) (fr:PF) (h:PH):Prop:=∃j,j<k∧∃da h2,Gh n fr h da h2∧I j da h2
@[simp]theorem Ku (I:Nat→PF→PH→Prop) (k:Nat):PK E O n Q (.done .normal (.lp I k::ks)) fr h↔zg n I k fr h:=
 ⟨fun q=>by cases q with|Cp a b c=>exact ⟨_,a,_,_,b,c⟩,fun⟨_,a,_,_,b,c⟩=>.Cp a b c⟩
def nT (I:Nat→PF→PH→Prop) (N:Nat):Nat→PF→PH→Prop:=fun k fr h=>k≤N∧I (N- k) fr h
theorem zg.for {I:Nat→PF→PH→Prop} {N i:Nat} (hi:i<N) (a:I (i+1) fr h):zg n (nT I N) (N- i) fr h:=
 ⟨N- (i+1),by omega,fr,h,Gh.refl _ _ _,by omega,by rw [show N- (N- (i+1))=i+1 by omega];exact a⟩
theorem zg.iL {I:Nat→PF→PH→Prop} {N i:Nat} {a:PF} {h2:PH} (hi:i<N) (g:Gh n fr h a h2) (b:I (i+1) a h2):zg n (nT I N) (N- i) fr h:=
 ⟨N- (i+1),by omega,a,h2,g,by omega,by rw [show N- (N- (i+1))=i+1 by omega];exact b⟩
theorem sP {a:AC} {b:PF} {h2:PH} (I:Nat→PF→PH→Prop) (k:Nat) (g:Gh n fr h b h2) (c:I k b h2) (step:∀k fr h,I k fr h→PK E O n Q (.code a (.lp I k::ks)) fr h):PK E O n Q (.code (.loop a) ks) fr h:=.loop I k step g c
theorem cT {a:AC} {c:PF} {h2:PH} (I:Nat→PF→PH→Prop) (N:Nat) (g:Gh n fr h c h2) (d:I 0 c h2) (step:∀i fr h,i≤N→I i fr h→PK E O n Q (.code a (.lp (nT I N) (N- i)::ks)) fr h):PK E O n Q (.code (.loop a) ks) fr h:=
 sP (nT I N) N g ⟨OL _,by rw [Nat.sub_self];exact d⟩ fun k fr h b=>by
  have:=step (N- k) fr h (by omega) b.2;rwa [show N- (N- k)=k by have:=b.1;omega]at this
theorem a7 {a:AC} (I:Nat→PF→PH→Prop) (N:Nat) (b:I 0 fr h) (step:∀i fr h,i≤N→I i fr h→PK E O n Q (.code a (.lp (nT I N) (N- i)::ks)) fr h):PK E O n Q (.code (.loop a) ks) fr h:=cT I N (Gh.refl _ _ _) b step
@[simp]theorem HL (res:List RS) (R:PV→PH→Prop):ze n res R .normal fr h=∃vs,lu.all fr h res=some vs∧∃a h2,qP n (eY vs) h a h2∧R a h2:=rfl
@[simp]theorem HM (res:List RS) (R:PV→PH→Prop):ze n res R .ret fr h=∃vs,lu.all fr h res=some vs∧∃a h2,qP n (eY vs) h a h2∧R a h2:=rfl
variable{m:Mp} {l:List AO} {d:Option Nat}
@[simp]theorem HO:PK E O n Q (.ops .pl [] ks) fr h↔PK E O n Q (.done .normal ks) fr h:=⟨fun k=>by cases k;assumption,.vD⟩
@[simp]theorem EV:PK E O n Q (.ops .d0 [] ks) fr h↔PK E O n Q (.done .normal ks) fr h:=⟨fun k=>by cases k;assumption,.pj⟩
@[simp]theorem EW (c:List AO) (ck:List (Nat×Nat×Nat)) (acc:List (PF×PH×List Nat)) (W:List Nat):PK E O n Q (.ops (.dr c ck acc W) [] ks) fr h↔Cn c ck acc=true∧PK E O n Q (.done .normal ks) fr h:=⟨fun k=>by cases k with|mC a b=>exact ⟨a,b⟩,fun⟨a,b⟩=>.mC a b⟩
def PG (E:Env) (O:ea) (n:Nat) (Q:Ex→PF→PH→Prop) (g:PV) (b:Bool) (m:Mp) (d:Option Nat) (p:aY) (l:List AO) (ks:List Kp) (fr:PF) (h:PH):Prop:=∃x,g= .v x∧br (dj b x=true) (PK E O n Q (.ops m (⟨none,d,p⟩::l) ks) fr h) (PK E O n Q (.ops (m.up [] (fr.aw d (.v undef)) h) l ks) (fr.aw d (.v undef)) h)
@[simp]theorem Nv (t:Nat) (b:Bool) (p:aY):PK E O n Q (.ops m (⟨some (t,b),d,p⟩::l) ks) fr h↔PG E O n Q (fr.get t) b m d p l ks fr h:=by
 constructor
 ·intro k
  cases k with
  |Co e w q=>exact ⟨_,e,fun _=>q,fun k=>absurd w k⟩
  |sN e w q=>exact ⟨_,e,fun k=>(Bool.noConfusion (w.symm.trans k)),fun _=>q⟩
 ·rintro ⟨x,e,q⟩
  cases w:dj b x with
  |true=>exact .Co e w (q.1 w)
  |false=>exact .sN e w (q.2 (by simp [w]))
@[simp]theorem Cv (t:Bool) (p:aY):PG E O n Q (.v (.bool t)) true m d p l ks fr h↔br (t=true) (PK E O n Q (.ops m (⟨none,d,p⟩::l) ks) fr h) (PK E O n Q (.ops (m.up [] (fr.aw d (.v undef)) h) l ks) (fr.aw d (.v undef)) h):=by
 unfold PG;exact ⟨fun⟨x,e,q⟩=>by cases e;simpa using q,fun q=>⟨_,rfl,by simpa using q⟩⟩
@[simp]theorem Cw (t:Bool) (p:aY):PG E O n Q (.v (.bool t)) false m d p l ks fr h↔br (t=true) (PK E O n Q (.ops (m.up [] (fr.aw d (.v undef)) h) l ks) (fr.aw d (.v undef)) h) (PK E O n Q (.ops m (⟨none,d,p⟩::l) ks) fr h):=by
 unfold PG;refine ⟨fun⟨x,e,q⟩=>?_,fun q=>⟨_,rfl,?_⟩⟩
 ·cases e;cases t<;>simpa using q
 ·cases t<;>simpa using q
@[simp high]theorem Kv (p:aY):PG E O n Q (.v (.bool true)) true m d p l ks fr h↔PK E O n Q (.ops m (⟨none,d,p⟩::l) ks) fr h:=by rw [Cv];simp
@[simp high]theorem Kw (p:aY):PG E O n Q (.v (.bool false)) true m d p l ks fr h↔PK E O n Q (.ops (m.up [] (fr.aw d (.v undef)) h) l ks) (fr.aw d (.v undef)) h:=by rw [Cv];simp
@[simp high]theorem Kx (p:aY):PG E O n Q (.v (.bool true)) false m d p l ks fr h↔PK E O n Q (.ops (m.up [] (fr.aw d (.v undef)) h) l ks) (fr.aw d (.v undef)) h:=by rw [Cw];simp
@[simp high]theorem Ky (p:aY):PG E O n Q (.v (.bool false)) false m d p l ks fr h↔PK E O n Q (.ops m (⟨none,d,p⟩::l) ks) fr h:=by rw [Cw];simp
@[simp]theorem Nw (b:Bool) (p:aY):PG E O n Q (.v undef) b m d p l ks fr h↔PK E O n Q (.ops (m.up [] (fr.aw d (.v undef)) h) l ks) (fr.aw d (.v undef)) h:=by
 unfold PG;refine ⟨fun⟨x,e,q⟩=>?_,fun q=>⟨_,rfl,by simpa using q⟩⟩;cases e;simpa using q
def PO (E:Env) (O:ea) (n:Nat) (Q:Ex→PF→PH→Prop) (r:Option (PV×PH)) (V:List Nat) (d:Option Nat) (m:Mp) (l:List AO) (ks:List Kp) (fr:PF):Prop:=∃v h',r=some (v,h')∧PK E O n Q (.ops (m.up V (fr.aw d v) h') l ks) (fr.aw d v) h'
@[simp]theorem HP (v:PV) (h':PH) (V:List Nat):PO E O n Q (some (v,h')) V d m l ks fr↔PK E O n Q (.ops (m.up V (fr.aw d v) h') l ks) (fr.aw d v) h':=⟨fun⟨_,_,e,q⟩=>by cases e;exact q,fun q=>⟨_,_,rfl,q⟩⟩
@[simp]theorem Nx (V:List Nat):PO E O n Q none V d m l ks fr↔False:=⟨fun⟨_,_,e,_⟩=>(by cases e),False.elim⟩
@[simp]theorem Kz (c:Prop) [Decidable c] (r:Option (PV×PH)) (V:List Nat):PO E O n Q (if c then r else none) V d m l ks fr↔c∧PO E O n Q r V d m l ks fr:=by by_cases h:c<;>simp [h]
def P1 (E:Env) (O:ea) (n:Nat) (Q:Ex→PF→PH→Prop) (r:Option PV) (d:Option Nat) (m:Mp) (l:List AO) (ks:List Kp) (fr:PF) (h:PH):Prop:=∃v,r=some v∧PK E O n Q (.ops (m.up [] (fr.aw d v) h) l ks) (fr.aw d v) h
@[simp]theorem Ny (v:PV):P1 E O n Q (some v) d m l ks fr h↔PK E O n Q (.ops (m.up [] (fr.aw d v) h) l ks) (fr.aw d v) h:=⟨fun⟨_,e,q⟩=>by cases e;exact q,fun q=>⟨_,rfl,q⟩⟩
@[simp]theorem Nz:P1 E O n Q none d m l ks fr h↔False:=⟨fun⟨_,e,_⟩=>(by cases e),False.elim⟩
@[simp]theorem KA (c:Prop) [Decidable c] (r:Option PV):P1 E O n Q (if c then r else none) d m l ks fr h↔c∧P1 E O n Q r d m l ks fr h:=by by_cases h:c<;>simp [h]
def PS (E:Env) (O:ea) (n:Nat) (Q:Ex→PF→PH→Prop) (r:Option PH) (V:List Nat) (d:Option Nat) (m:Mp) (l:List AO) (ks:List Kp) (fr:PF):Prop:=∃h',r=some h'∧PK E O n Q (.ops (m.up V (fr.aw d (.v undef)) h') l ks) (fr.aw d (.v undef)) h'
@[simp]theorem NA (h':PH) (V:List Nat):PS E O n Q (some h') V d m l ks fr↔PK E O n Q (.ops (m.up V (fr.aw d (.v undef)) h') l ks) (fr.aw d (.v undef)) h':=⟨fun⟨_,e,q⟩=>by cases e;exact q,fun q=>⟨_,rfl,q⟩⟩
@[simp]theorem NB (V:List Nat):PS E O n Q none V d m l ks fr↔False:=⟨fun⟨_,e,_⟩=>(by cases e),False.elim⟩
@[simp]theorem KB (c:Prop) [Decidable c] (r:Option PH) (V:List Nat):PS E O n Q (if c then r else none) V d m l ks fr↔c∧PS E O n Q r V d m l ks fr:=by by_cases h:c<;>simp [h]
theorem gI {p:aY} (a:p.av=false):PK E O n Q (.ops m (⟨none,d,p⟩::l) ks) fr h↔PO E O n Q (pop p (bX fr) h) (kA p (bX fr)) d m l ks fr:=by
 constructor
 ·intro k
  cases k with
  |op e q=>exact ⟨_,_,e,q⟩
  |call=>cases a
  |callv=>cases a
 ·exact fun⟨_,_,e,q⟩=>.op e q
theorem zh (r:Option PV):PO E O n Q (r.map fun v=>(v,h)) [] d m l ks fr↔P1 E O n Q r d m l ks fr h:=by cases r<;>simp
theorem vH (r:Option PH) (V:List Nat):PO E O n Q (r.map fun a=>(.v undef,a)) V d m l ks fr↔PS E O n Q r V d m l ks fr:=by cases r<;>simp
theorem gJ {p:aY} {r:Option PV} (a:p.av=false) (e:pop p (bX fr) h=r.map fun v=>(v,h)) (w:kA p (bX fr)=[]):PK E O n Q (.ops m (⟨none,d,p⟩::l) ks) fr h↔P1 E O n Q r d m l ks fr h:=by rw [gI a,e,w,zh]
@[simp]theorem KC (x:X):PK E O n Q (.ops m (⟨none,d,.mv x⟩::l) ks) fr h↔PK E O n Q (.ops (m.up [] (fr.aw d (bX fr x)) h) l ks) (fr.aw d (bX fr x)) h:=by rw [gI rfl];simp [pop,kA]
@[simp]theorem EX (c a b:X):PK E O n Q (.ops m (⟨none,d,.pick c a b⟩::l) ks) fr h↔P1 E O n Q (sj (bX fr c) (bX fr a) (bX fr b)) d m l ks fr h:=gJ rfl rfl rfl
@[simp]theorem Cy (z:List Value):PK E O n Q (.ops m (⟨none,d,.alloc z⟩::l) ks) fr h↔PK E O n Q (.ops (m.up [] (fr.aw d (.ref h.length 0 z.length)) (h++[.cells z.length (z.map .v)])) l ks) (fr.aw d (.ref h.length 0 z.length)) (h++[.cells z.length (z.map .v)]):=by rw [gI rfl];simp [pop,kA]
@[simp]theorem HQ (x:X):PK E O n Q (.ops m (⟨none,d,.box x⟩::l) ks) fr h↔PO E O n Q (vj h (bX fr x)) [] d m l ks fr:=gI rfl
@[simp]theorem Cz (z:List Value) (ps:List (Nat×Nat×X)):PK E O n Q (.ops m (⟨none,d,.build z ps⟩::l) ks) fr h↔P1 E O n Q ((gH (z.map .v) (ps.map fun p=>(p.1,p.2.1,bX fr p.2.2))).map .agg) d m l ks fr h:=gJ rfl (by simp [pop,Option.map_map];rfl) rfl
@[simp]theorem HR (len sz:Nat) (z:List Value) (ps:List (Nat×Nat×X)):PK E O n Q (.ops m (⟨none,d,.bsl len sz z ps⟩::l) ks) fr h↔PO E O n Q (vh len sz z h (ps.map fun p=>(p.1,p.2.1,bX fr p.2.2))) [] d m l ks fr:=gI rfl
@[simp]theorem KD (x:X):PK E O n Q (.ops m (⟨none,d,.ld x⟩::l) ks) fr h↔P1 E O n Q (wW h (bX fr x)) d m l ks fr h:=gJ rfl rfl rfl
@[simp]theorem HS (k:Nat) (x:X):PK E O n Q (.ops m (⟨none,d,.ldn k x⟩::l) ks) fr h↔P1 E O n Q (lj k h (bX fr x)) d m l ks fr h:=gJ rfl rfl rfl
@[simp]theorem KE (k:Nat) (x v:X):PK E O n Q (.ops m (⟨none,d,.st k x v⟩::l) ks) fr h↔PS E O n Q (yR k h (bX fr x) (bX fr v)) (kA (.st k x v) (bX fr)) d m l ks fr:=by rw [gI rfl];exact vH _ _
@[simp]theorem HT (op:BinOp) (x y:X):PK E O n Q (.ops m (⟨none,d,.bin op x y⟩::l) ks) fr h↔P1 E O n Q (va op (bX fr x) (bX fr y)) d m l ks fr h:=gJ rfl rfl rfl
@[simp]theorem KF (op:UnOp) (x:X):PK E O n Q (.ops m (⟨none,d,.un op x⟩::l) ks) fr h↔P1 E O n Q (EC op (bX fr x)) d m l ks fr h:=gJ rfl rfl rfl
@[simp]theorem HU (k:IntKind) (x:X):PK E O n Q (.ops m (⟨none,d,.j0 k x⟩::l) ks) fr h↔P1 E O n Q (vf k (bX fr x)) d m l ks fr h:=gJ rfl rfl rfl
@[simp]theorem HV (f:Nat) (a b:List X):PK E O n Q (.ops m (⟨none,d,.mkf f a b⟩::l) ks) fr h↔PK E O n Q (.ops (m.up [] (fr.aw d (.fn f (a.map (bX fr)) (b.map (bX fr)))) h) l ks) (fr.aw d (.fn f (a.map (bX fr)) (b.map (bX fr)))) h:=by rw [gI rfl];simp [pop,kA]
@[simp]theorem EY (sz bytes:Nat) (z:List Value) (x:X):PK E O n Q (.ops m (⟨none,d,.mksl sz bytes z x⟩::l) ks) fr h↔PO E O n Q (o6 sz bytes z h (bX fr x)) [] d m l ks fr:=gI rfl
@[simp]theorem KG (off:Nat) (x:X):PK E O n Q (.ops m (⟨none,d,.fa off x⟩::l) ks) fr h↔P1 E O n Q (Av h off (bX fr x)) d m l ks fr h:=gJ rfl rfl rfl
@[simp]theorem KH (sz:Nat) (x i:X):PK E O n Q (.ops m (⟨none,d,.ia sz x i⟩::l) ks) fr h↔P1 E O n Q (Cb h sz (bX fr x) (bX fr i)) d m l ks fr h:=gJ rfl rfl rfl
@[simp]theorem HW (len sz:Nat) (x i:X):PK E O n Q (.ops m (⟨none,d,.cv len sz x i⟩::l) ks) fr h↔P1 E O n Q (sk h len sz (bX fr x) (bX fr i)) d m l ks fr h:=gJ rfl rfl rfl
@[simp]theorem HX (x:X) (i:Nat):PK E O n Q (.ops m (⟨none,d,.ext x i⟩::l) ks) fr h↔P1 E O n Q (vg (bX fr x) i) d m l ks fr h:=gJ rfl rfl rfl
@[simp]theorem HY (sz bytes:Nat) (s x:X):PK E O n Q (.ops m (⟨none,d,.app sz bytes s x⟩::l) ks) fr h↔PO E O n Q (ll sz bytes h (bX fr s) (bX fr x)) (kA (.app sz bytes s x) (bX fr)) d m l ks fr:=gI rfl
@[simp]theorem EZ (x:X):PK E O n Q (.ops m (⟨none,d,.eo x⟩::l) ks) fr h↔P1 E O n Q (o3 h (bX fr x)) d m l ks fr h:=gJ rfl rfl rfl
@[simp]theorem HZ (neg:Bool) (offs:List (Nat×Nat)) (x y:X):PK E O n Q (.ops m (⟨none,d,.eqs neg offs x y⟩::l) ks) fr h↔P1 E O n Q (vi neg offs (bX fr x) (bX fr y)) d m l ks fr h:=gJ rfl rfl rfl
@[simp]theorem H3 (len k:Nat) (xs:List X):PK E O n Q (.ops m (⟨none,d,.xt (.lX len k) xs⟩::l) ks) fr h↔P1 E O n Q (tY h (.lX len k) (xs.map (bX fr))) d m l ks fr h:=gJ rfl rfl rfl
theorem eZ {f:Nat} {«as»:List X} {args:List PV} {W:List Nat} (b:«as».map (bX fr)=args) (k:qq E O f args h (· ∈W) (fun r a=>PK E O n Q (.ops (m.up W (fr.aw d r) a) l ks) (fr.aw d r) a)):PK E O n Q (.ops m (⟨none,d,.call f «as»⟩::l) ks) fr h:=
 .call (b▸k) fun _ _ q=>q
theorem qt {f:Nat} {x:X} {first cap:List PV} {«as»:List X} {args:List PV} {W:List Nat} (b:bX fr x= .fn f first cap) (c:first++«as».map (bX fr)++cap=args) (k:qq E O f args h (· ∈W) (fun r a=>PK E O n Q (.ops (m.up W (fr.aw d r) a) l ks) (fr.aw d r) a)):PK E O n Q (.ops m (⟨none,d,.callv x «as»⟩::l) ks) fr h:=
 .callv b (c▸k) fun _ _ q=>q
end
theorem sQ {sz bytes b n k:Nat} {h:PH} {x:PV} {cs new:List PV} (a:h[b]?=some (.cells sz cs)) (c:n*sz=cs.length) (r:0<sz) (o:iK x=some k) (g:cP h sz k x=some new) (m:new.length=k*sz) (j:dt h x=true) (p:(n+k)*bytes≤2^47) (q:n+k<2^62):
 ll sz bytes h (.sl sz b 0 n n) x=some (.sl sz b 0 (n+k) (n+k),h.set b (.cells sz (cs++new))):=by
 have l:=(ON.1 a).1;unfold ll;rw [o];simp only;by_cases f:k=0
 ·subst f
  have:new=[]:=Pa.1 (by simpa using m);subst this
  have e:h.set b (.cells sz cs)=h:=by
   apply List.ext_getElem?;intro i;rw [List.getElem?_set];by_cases hi:b=i
   ·subst hi;rw [if_pos rfl,if_pos l,a]
   ·rw [if_neg hi]
  simp [j,a,c,e]
 ·rw [if_neg f,g]
  simp only [a];rw [if_pos ⟨trivial,trivial,r,by simpa using c,OL _,p,q⟩];by_cases d:n=0
  ·subst d
   have:cs=[]:=Pa.1 (by simpa using c.symm);subst this;simp
  ·rw [if_neg d,if_neg (by omega),if_pos trivial,OO (by omega)]
theorem mD {sz bytes k:Nat} {h:PH} {x:PV} {new:List PV} (e:0<sz) (b:iK x=some k) (a:cP h sz k x=some new) (f:0<k) (c:k*bytes≤2^47) (d:k<2^62):
 ll sz bytes h (.v (.slice none 0 0)) x=some (.sl sz h.length 0 k k,h++[.cells sz new]):=by
 unfold ll;rw [b];simp only;rw [if_neg (by omega),a];simp only;rw [if_pos ⟨e,c,d⟩]
theorem bM {E:Env} {O:ea} {n:Nat} {Q:Ex→PF→PH→Prop} {a:List Kp} {fr:PF} {m:Mp} {l:List AO} {d:Option Nat} {V:List Nat} {sz bytes b j k:Nat} {h:PH} {x:PV} {cs new:List PV} (p:h[b]?=some (.cells sz cs)) (i:iK x=some k) (c:cP h sz k x=some new) (f:j*sz=cs.length) (r:0<sz) (g:new.length=k*sz) (e:dt h x=true) (o:(j+k)*bytes≤2^47) (q:j+k<2^62)
 (next:PK E O n Q (.ops (m.up V (fr.aw d (.sl sz b 0 (j+k) (j+k))) (h.set b (.cells sz (cs++new)))) l a) (fr.aw d (.sl sz b 0 (j+k) (j+k))) (h.set b (.cells sz (cs++new)))):PO E O n Q (ll sz bytes h (.sl sz b 0 j j) x) V d m l a fr:=by
 rw [sQ p f r i c g e o q];exact (HP _ _ _).2 next
attribute [simp] mw tY vk my sj wW lj yR oZ va vc vd lk EC vf yS Av bB Cb sk Hi vg sn iK o3 o4 so wX ED cP o5 o6 vh yT Cc qn vi vj bh gH ig kA dt kz nP lu.all lu.get eY
end P
namespace P
open Go Go.RowKit
def add (F:Nat→Prop) (h:PH) (φ:Nat→Nat) (A:Nat→Prop):Nat→Prop:=fun y=>F y∨∃b,A b∧aH h b∧φ b=y
def Vz (A:Nat→Prop) (h:PH) (p q:PV):Prop:=∀F H φ x,bI ⟨F,H,φ,h⟩→RV ⟨F,H,φ,h⟩ p x→RF (add F h φ A) H q x
def sR (A:Nat→Prop) (h:PH):List PV→List PV→Prop
 |[],[]=>True
 |p::ps,q::qs=>Vz A h p q∧sR A h ps qs
 |_,_=>False
def Vg (A:Nat→Prop) (σ:Nat→Nat) (h bs:PH) (p q:PV):Prop:=∀F H φ x,bI ⟨F,H,φ,h⟩→RV ⟨F,H,φ,h⟩ p x→RV ⟨add F h φ A,H,fun i=>φ (σ i),bs⟩ q x
def fN (A:Nat→Prop) (σ:Nat→Nat) (h bs:PH):List PV→List PV→Prop
 |[],[]=>True
 |p::ps,q::qs=>Vg A σ h bs p q∧fN A σ h bs ps qs
 |_,_=>False
variable{A:Nat→Prop} {σ:Nat→Nat} {h bs:PH}
theorem sR.ok:∀{ps c:List PV},sR A h ps c→∀{F H φ xs},bI ⟨F,H,φ,h⟩→aZ ⟨F,H,φ,h⟩ ps xs→dV (add F h φ A) H c xs
 |[],[],_,F,H,φ,_,S,.nil=>.nil
 |p::ps,q::c,⟨a,b⟩,F,H,φ,_,S,.cons r s=>.cons (a F H φ _ S r) (sR.ok b S s)
theorem fN.ok:∀{ps c:List PV},fN A σ h bs ps c→∀{F H φ xs},bI ⟨F,H,φ,h⟩→aZ ⟨F,H,φ,h⟩ ps xs→aZ ⟨add F h φ A,H,fun i=>φ (σ i),bs⟩ c xs
 |[],[],_,F,H,φ,_,S,.nil=>.nil
 |p::ps,q::c,⟨a,b⟩,F,H,φ,_,S,.cons r s=>.cons (a F H φ _ S r) (fN.ok b S s)
theorem sS {F:Nat→Prop} {H:AH} {φ:Nat→Nat} (x:Nat) (a:F x):add F h φ A x∧H.get x=H.get x:=⟨.inl a,rfl⟩
theorem CB (x:Value):Vz A h (.v x) (.v x):=fun F H a y S R=>by cases R;exact .v _
theorem xa (sz:Nat) (rows:List (List PV)):Vz A h (.fs sz rows) (.fs sz rows):=fun F H a y S R=>by cases R with|fs q=>exact q.mono rfl sS
theorem fv.of_flat {F:Nat→Prop} {H:AH} {sz:Nat}:∀{rows:List (List PV)} {ys:List Value},dV F H rows.flatten ys→(∀r∈rows,r.length=sz)→∃rs,fv F H rows rs∧rs.flatten=ys∧∀r∈rs,r.length=sz
 |[],ys,h,_=>by cases h;exact ⟨[],.nil,rfl,by simp⟩
 |r::rows,ys,h,e=>by
  rw [List.flatten_cons]at h;have f:dV F H r (ys.take sz):=by have:=h.take r.length;rwa [List.take_left,e r (by simp)]at this
  have h2:dV F H rows.flatten (ys.drop sz):=by have:=h.drop r.length;rwa [List.drop_left,e r (by simp)]at this
  obtain ⟨rs,a,b,c⟩:=fv.of_flat h2 fun q d=>e q (by simp [d])
  refine ⟨ys.take sz::rs,.cons f a,by rw [List.flatten_cons,b,List.take_append_drop],fun q d=>?_⟩;rcases OZ.1 d with rfl|d
  ·rw [←f.length,e r (by simp)]
  ·exact c q d
theorem sT {sz b o n c z:Nat} {cs:List PV} {rows:List (List PV)} (B:A b) (a:h[b]?=some (.cells z cs)) (g:(o+c)*sz=cs.length) (C:0<sz) (s:sz≤z) (y:n≤c) (j:rows.length=n) (w:∀r∈rows,r.length=sz) (u:sR A h ((cs.drop (o*sz)).take (n*sz)) rows.flatten):Vz A h (.sl sz b o n c) (.fs sz rows):=fun F H J x S R=>by
 rcases iG R a g with⟨rfl,rfl,d,rfl,P⟩|⟨Q,rfl⟩
 ·obtain rfl:rows=[]:=Pa.1 j
  exact .fs (rows:=[]) (rs:=[]) ⟨_,_,rfl,by simp⟩ (O9 _) (fun e l=>⟨.inr rfl,.inl rfl⟩) .nil
 ·have m:cs≠[]:=by
   rintro rfl;have:=Nat.mul_pos (show 0<o+c by omega) C;simp at g;omega
  obtain ⟨K,k,f,D⟩:=S.cells (t:=0) a (List.length_pos_iff.2 m);have M:=f.length;obtain ⟨rs,p,I,G⟩:=fv.of_flat (u.ok S ((f.drop (o*sz)).take (n*sz))) w;have v:=p.length;have U:(o+c)*sz=o*sz+c*sz:=Nat.add_mul ..;rw [←j];refine .fs (rs:=rs) ⟨_,_,by rw [v],fun i r hi=>⟨_,_,rfl,?_⟩⟩ (by omega) (fun e l=>?_) p
  ·obtain ⟨E,T⟩:=gG G hi
   have O:=(ON.1 hi).1;have q:(i+1)*sz≤n*sz:=Nat.mul_le_mul_right _ (by omega);have L:n*sz≤c*sz:=Nat.mul_le_mul_right _ y;rw [Nat.succ_mul]at q;rw [ez k D (by omega),←E,I,List.drop_take,List.drop_drop,List.take_take,Nat.min_eq_left (by omega)]
  ·cases l
   refine ⟨.inl rfl,?_⟩;by_cases N:n=0
   ·left;omega
   ·right
    refine ⟨.inr ⟨b,B,aO a m,rfl⟩,?_⟩;unfold AH.gj;rw [k];simp [s]
theorem jL {p q:PV} (k:Vz A h p q):Vg A σ h bs p q:=fun F H a x S R=>(k F H a x S R).iJ (C:=⟨_,_,_,_⟩)
@[simp]theorem H4 (x:Value):Vg A σ h bs (.v x) (.v x)↔True:=⟨fun _=>trivial,fun _=>jL (CB x)⟩
@[simp]theorem CC (sz:Nat) (rows:List (List PV)):Vg A σ h bs (.fs sz rows) (.fs sz rows)↔True:=⟨fun _=>trivial,fun _=>jL (xa sz rows)⟩
@[simp]theorem E0:sR A h [] []↔True:=Iff.rfl
@[simp]theorem CD (p q:PV) (ps qs:List PV):sR A h (p::ps) (q::qs)↔Vz A h p q∧sR A h ps qs:=Iff.rfl
@[simp]theorem E1:fN A σ h bs [] []↔True:=Iff.rfl
@[simp]theorem CE (p q:PV) (ps qs:List PV):fN A σ h bs (p::ps) (q::qs)↔Vg A σ h bs p q∧fN A σ h bs ps qs:=Iff.rfl
@[simp]theorem CF (cells:List PV):Vg A σ h bs (.fp cells) (.fp cells)↔True:=⟨fun _=>trivial,fun _ F H d x S R=>by
 cases R with|fp a b c=>exact .fp (.inl a) b (c.mono rfl sS)⟩
theorem sU {ps a:List PV} (k:fN A σ h bs ps a):Vg A σ h bs (.agg ps) (.agg a):=fun F H b x S R=>by cases R with|agg r=>exact .agg (k.ok S r)
theorem nU {ps a:List PV} (k:fN A σ h bs ps a):Vg A σ h bs (.dB ps) (.dB a):=fun F H b x S R=>by cases R with|dB r=>exact .dB (k.ok S r)
theorem CG {f:Nat} {ps b ps' a:List PV} (k:fN A σ h bs ps b) (d:fN A σ h bs ps' a):Vg A σ h bs (.fn f ps ps') (.fn f b a):=fun F H e x S R=>by cases R with|fn r c=>exact .fn (k.ok S r) (d.ok S c)
theorem zi {t:Nat} {p q:PV} (k:Vg A σ h bs p q):Vg A σ h bs (.iT t p) (.iT t q):=fun F H a x S R=>by cases R with|iT r=>exact .iT (k F H a _ S r)
theorem gK {h:PH} {b T t:Nat} (e:bB h b=some T):At h b t↔T=t:=by
 unfold bB at e;split at e
 ·rename_i z cs a
  cases e;constructor
  ·rintro ⟨c,d,e,rfl⟩;rw [a]at e;cases e;rfl
  ·rintro rfl;exact ⟨z,cs,a,rfl⟩
 ·cases e
theorem gL {h:PH} {b T t:Nat} (e:bB h b=some T):Le h b t↔t≤T:=by
 unfold bB at e;split at e
 ·rename_i z cs a
  cases e;exact ⟨fun k=>k z cs a,fun k c d e=>by rw [a]at e;cases e;exact k⟩
 ·cases e
theorem lv {h:PH} {b T:Nat} (e:bB h b=some T):b<h.length:=by
 unfold bB at e;split at e
 ·rename_i z cs a;exact (ON.1 a).1
 ·cases e
theorem zj {b i o t T:Nat} (c:bB h b=some T) (h2:bB bs i=some T) (d:σ i=b):Vg A σ h bs (.ref b o t) (.ref i o t):=fun F H g x S R=>by
 cases R with|ref a j e f=>
 subst d;refine .ref a (lv h2) ((gL h2).2 ((gL c).1 e)) fun k=>?_
 exact f ((gK c).2 ((gK h2).1 k))
theorem xb {b i sz o n c T:Nat} (d:bB h b=some T) (h2:bB bs i=some T) (e:σ i=b):Vg A σ h bs (.sl sz b o n c) (.sl sz i o n c):=fun F H j x S R=>by
 cases R with|sl a l f g=>
 subst e;refine .sl a (lv h2) ((gL h2).2 ((gL d).1 f)) fun k=>?_
 exact g ((gK d).2 ((gK h2).1 k))
theorem pk {sz i z:Nat} (h2:bs[i]?=some (.cells z [])):Vg A σ h bs (.v (.slice none 0 0)) (.sl sz i 0 0 0):=fun F H a x S R=>by
 cases R;have e:bB bs i=some 0:=by unfold bB;rw [h2];rfl
 exact .sl ⟨_,_,rfl⟩ (lv e) ((gL e).2 (by simp)) fun _=>.inl ⟨rfl,rfl,none,rfl,by simp⟩
def iH (A:Nat→Prop) (σ:Nat→Nat) (h bs:PH) (o:Option PB):PB→Prop
 | .cells z qs=>qs=[]∨∃ps,o=some (.cells z ps)∧fN A σ h bs ps qs
 | .map fs=>∃es,o=some (.map es)∧es.map (·.1)=fs.map (·.1)∧fN A σ h bs (es.map (·.2)) (fs.map (·.2))
 | .dead=>True
structure gM (A:Nat→Prop) (σ:Nat→Nat) (h bs:PH):Prop where
 bF:∀i P,bs[i]?=some P→iH A σ h bs h[σ i]? P
 inj:∀i j,i<bs.length→j<bs.length→aH bs i→aH bs j→σ i=σ j→i=j
 off:∀i,i<bs.length→aH bs i→¬ A (σ i)
theorem fN.length:∀{ps a:List PV},fN A σ h bs ps a→ps.length=a.length
 |[],[],_=>rfl
 |_::_,_::_,⟨_,b⟩=>by simp [fN.length b]
theorem gM.aH (K:gM A σ h bs) {i:Nat} (s:P.aH bs i):P.aH h (σ i):=by
 rcases ee s with⟨es,e⟩|⟨z,cs,e,b⟩
 ·obtain ⟨d,a,_⟩:=K.bF i _ e
  exact b9 a
 ·rcases K.bF i _ e with q|⟨ps,a,c⟩
  ·exact absurd q b
  ·exact aO a (by rintro rfl;have:=c.length;exact b (Pa.1 this.symm))
theorem gM.ok (K:gM A σ h bs) {F:Nat→Prop} {H:AH} {φ:Nat→Nat} (S:bI ⟨F,H,φ,h⟩):bI ⟨add F h φ A,H,fun i=>φ (σ i),bs⟩where
 wf:=S.wf
 fz:=fun x l=>by
  rcases l with l|⟨b,_,f,rfl⟩
  ·exact S.fz x l
  ·exact S.lt f
 inj:=fun i j s t e=>K.inj i j (aR s) (aR t) s t (S.inj _ _ (K.aH s) (K.aH t) e)
 bF:=fun i z y e m=>by
  have s:=aO e m;rcases K.bF i _ e with q|⟨ps,p,k⟩
  ·exact absurd q m
  obtain ⟨u,a,b,c,d⟩:=S.bF (σ i) z ps p (by rintro rfl;have:=k.length;exact m (Pa.1 this.symm));refine ⟨u,a,k.ok S b,c,?_⟩;rintro (q|⟨w,n,f,o⟩)
  ·exact d q
  ·exact K.off i (aR s) s (S.inj _ _ f (K.aH s) o▸n)
 oX:=fun i B e=>by
  have s:=b9 e;obtain ⟨es,p,v,k⟩:=K.bF i _ e;obtain ⟨r,a,b,c,d,g⟩:=S.oX (σ i) es p;refine ⟨r,a,v.symm.trans b,k.ok S c,d,?_⟩;rintro (q|⟨w,n,f,o⟩)
  ·exact g q
  ·exact K.off i (aR s) s (S.inj _ _ f (K.aH s) o▸n)
theorem gM.none (A:Nat→Prop) (σ:Nat→Nat) (h:PH):gM A σ h []:=⟨fun i P e=>by simp at e,fun i j hi=>by simp at hi,fun i hi=>by simp at hi⟩
mutual
def sh (k:Nat):PV→PV
 | .ref b o t=>.ref (b+k) o t
 | .sl sz b o n c=>.sl sz (b+k) o n c
 | .mp b=>.mp (b+k)
 | .agg cs=>.agg (na k cs)
 | .dB cs=>.dB (na k cs)
 | .fn f a b=>.fn f (na k a) (na k b)
 | .iT t p=>.iT t (sh k p)
 | .v x=>.v x
 | .fs sz rows=>.fs sz rows
 | .fp cells=>.fp cells
 | .any=>.any
def na (k:Nat):List PV→List PV
 |[]=>[]
 |p::ps=>sh k p::na k ps
end
def jM (k:Nat):PB→PB
 | .cells z cs=>.cells z (na k cs)
 | .map es=>.map (es.map fun e=>(e.1,sh k e.2))
 | .dead=>.dead
theorem du (k:Nat):∀l:List PV,(na k l).length=l.length
 |[]=>rfl
 |_::l=>by simp [na,du k l]
theorem pn (k:Nat):∀es:List (Value×PV),(es.map fun e=>(e.1,sh k e.2)).map (·.2)=na k (es.map (·.2))
 |[]=>rfl
 |_::l=>by simp only [List.map_cons,na,pn k l]
theorem gN {h bs:PH} (b:Nat):(h++bs.map (jM h.length))[b+h.length]?=(bs[b]?).map (jM h.length):=by
 rw [OY (by omega),Nat.add_sub_cancel,Pb]
theorem sV {h bs:PH} {b t:Nat}:At (h++bs.map (jM h.length)) (b+h.length) t↔At bs b t:=by
 unfold At;rw [gN];constructor
 ·rintro ⟨z,cs,e,rfl⟩
  obtain ⟨P,a,e⟩:=OR.1 e
  cases P with
  |cells d c=>cases e;exact ⟨_,c,a,(du _ _).symm⟩
  |_=>cases e
 ·rintro ⟨z,cs,e,rfl⟩
  exact ⟨z,na h.length cs,by rw [e];rfl,du _ _⟩
theorem xc {h bs:PH} {b t:Nat}:Le (h++bs.map (jM h.length)) (b+h.length) t↔Le bs b t:=by
 unfold Le;rw [gN];constructor
 ·intro k z cs e
  have:=k z (na h.length cs) (by rw [e];rfl);rwa [du]at this
 ·intro k z cs e
  obtain ⟨P,a,e⟩:=OR.1 e
  cases P with
  |cells d c=>cases e;rw [du];exact k _ c a
  |_=>cases e
theorem mE {h bs:PH} {b:Nat}:ec (h++bs.map (jM h.length)) (b+h.length)↔ec bs b:=by
 unfold ec;rw [gN];constructor
 ·rintro ⟨es,e⟩
  obtain ⟨P,c,e⟩:=OR.1 e
  cases P with
  |map a=>exact ⟨a,c⟩
  |_=>cases e
 ·rintro ⟨es,e⟩
  exact ⟨_,by rw [e];rfl⟩
theorem sW {h bs:PH} {b:Nat}:aH (h++bs.map (jM h.length)) (b+h.length)↔aH bs b:=by
 unfold aH;simp only [mE,sV]
def join (h:PH) (φ ψ:Nat→Nat):Nat→Nat:=fun b=>if b<h.length then φ b else ψ (b- h.length)
theorem iX (h:PH) (φ a:Nat→Nat) (b:Nat):join h φ a (b+h.length)=a b:=by
 unfold join;rw [if_neg (by omega),Nat.add_sub_cancel]
theorem ly {h:PH} {φ a:Nat→Nat} {b:Nat} (c:b<h.length):join h φ a b=φ b:=if_pos c
theorem sX {h bs:PH} {b:Nat} (a:b<bs.length):b+h.length<(h++bs.map (jM h.length)).length:=by
 rw [OQ,List.length_map];omega
mutual
theorem po {F:Nat→Prop} {H:AH} {φ g:Nat→Nat} {h bs:PH}:∀{p:PV} {x:Value},RV ⟨F,H,g,bs⟩ p x→RV ⟨F,H,join h φ g,h++bs.map (jM h.length)⟩ (sh h.length p) x
 |_,_, .v x=> .v x
 |_,_, .ref a d f e=> .ref a (sX d) (xc.2 f) fun k=>by
  have:=e (sV.1 k)
  simpa [iX]using this
 |_,_, .sl a d f e=> .sl a (sX d) (xc.2 f) fun k=>by
  have:=e (sV.1 k)
  simpa [iX]using this
 |_,_, .mp a d e=> .mp a (sX d) fun k=>by
  have:=e (mE.1 k)
  simpa [iX]using this
 |_,_, .fs k=> .fs k
 |_,_, .fp a b c=> .fp a b c
 |_,_, .agg k=> .agg (gg k)
 |_,_, .dB k=> .dB (gg k)
 |_,_, .fn a b=> .fn (gg a) (gg b)
 |_,_, .iT a=> .iT (po a)
 |_,_, .any x=> .any x
theorem gg {F:Nat→Prop} {H:AH} {φ c:Nat→Nat} {h bs:PH}:∀{p:List PV} {x:List Value},aZ ⟨F,H,c,bs⟩ p x→aZ ⟨F,H,join h φ c,h++bs.map (jM h.length)⟩ (na h.length p) x
 |_,_, .nil=> .nil
 |_,_, .cons a b=> .cons (po a) (gg b)
end
end P
namespace P
open Go Go.RowKit
variable{E:Env} {O:ea}
def bY (h:PH):List Nat→PH
 |[]=>h
 |b::L=>bY (h.set b .dead) L
theorem cU:∀(L:List Nat) (h:PH),(bY h L).length=h.length
 |[],h=>rfl
 |b::L,h=>by rw [bY,cU L];simp
theorem fA:∀(L:List Nat) (h:PH) (c:Nat),(bY h L)[c]?=if c∈L∧c<h.length then some .dead else h[c]?
 |[],h,c=>by simp [bY]
 |b::L,h,c=>by
  rw [bY,fA L];by_cases d:c<h.length
  ·by_cases a:c∈L
   ·simp [a,d]
   ·by_cases h2:c=b
    ·subst h2;simp [a,d]
    ·rw [if_neg (fun q=>a q.1),if_neg (fun q=>(OZ.1 q.1).elim h2 a),bV h2]
  ·rw [if_neg (by simp;omega),if_neg (by simp;omega),Pn (by simp;omega),Pn (by omega)]
theorem dv {h:PH} {L:List Nat} {b:Nat} (s:aH (bY h L) b):aH h b∧b∉L:=by
 have d:=aR s;rw [cU]at d;have e:=fA L h b;by_cases a:b∈L
 ·rw [if_pos ⟨a,d⟩]at e
  rcases ee s with⟨es,c⟩|⟨z,cs,c,_⟩<;>rw [e]at c<;>cases c
 ·rw [if_neg (fun q=>a q.1)]at e
  exact ⟨(bS e).1 s,a⟩
theorem qu {F:Nat→Prop} {H:AH} {φ:Nat→Nat} {h:PH} (S:bI ⟨F,H,φ,h⟩) (L:List Nat):bI ⟨add F h φ (· ∈L),H,φ,bY h L⟩∧bA h.length (fun _=>False) ⟨F,H,φ,h⟩ ⟨add F h φ (· ∈L),H,φ,bY h L⟩:=by
 have same:∀b,b∉L→(bY h L)[b]?=h[b]?:=fun b f=>by rw [fA,if_neg (fun q=>f q.1)]
 have dead:∀b,b∈L→b<h.length→(bY h L)[b]?=some .dead:=fun b f g=>by rw [fA,if_pos ⟨f,g⟩]
 have T:bA h.length (fun _=>False) ⟨F,H,φ,h⟩ ⟨add F h φ (· ∈L),H,φ,bY h L⟩:={
  n0:=rfl
  nx:=OL _
  fz:=fun x i=>⟨.inl i,rfl⟩
  fo:=fun x i hi n=>by
   rcases n with n|⟨b,_,s,rfl⟩
   ·exact n
   ·exact absurd ⟨b,trivial,s,rfl⟩ hi
  out:=fun _ _ _=>rfl
  loc:=fun b f=>.inr ⟨(dv f).1,rfl⟩
  len:=fun k=>by rw [cU];exact k
  le:=fun b _ g t v=>by
   by_cases f:b∈L
   ·intro z cs e;rw [dead b f g]at e;cases e
   ·exact (jH (same b f)).2 v
  lS:=fun b _ g t _ j=>by
   by_cases f:b∈L
   ·obtain ⟨z,cs,e,_⟩:=j;rw [dead b f g]at e;cases e
   ·exact ⟨(jG (same b f)).1 j,rfl⟩
  mu:=fun b _ g j=>by
   by_cases f:b∈L
   ·obtain ⟨es,e⟩:=j;rw [dead b f g]at e;cases e
   ·exact ⟨(dq (same b f)).1 j,rfl⟩}
 have o:∀b,aH h b→b∉L→¬ add F h φ (· ∈L) (φ b):=by
  rintro b s f (q|⟨l,w,m,e⟩)
  ·exact (S.old s).2 q
  ·exact f (S.inj _ _ m s e▸w)
 refine ⟨⟨S.wf,fun x i=>?_,fun b l s m e=>S.inj _ _ (dv s).1 (dv m).1 e,fun b z cs e p=>?_,fun b es e=>?_⟩,T⟩
 ·rcases i with i|⟨b,_,s,rfl⟩
  ·exact S.fz x i
  ·exact S.lt s
 ·obtain ⟨s,f⟩:=dv (aO e p)
  rw [show(bY h L)[b]?=_ from same b f]at e;obtain ⟨u,a,l,c,_⟩:=S.bF b z cs e p;exact ⟨u,a,l.step T,c,o b s f⟩
 ·obtain ⟨s,f⟩:=dv (b9 e)
  rw [show(bY h L)[b]?=_ from same b f]at e;obtain ⟨r,a,l,c,d,_⟩:=S.oX b es e;exact ⟨r,a,l,c.step T,d,o b s f⟩
theorem pq {F u:Nat→Prop} {H r:AH} {φ i:Nat→Nat} {h f:PH} {W:Nat→Prop} (S:bI ⟨F,H,φ,h⟩) (y:bI ⟨u,r,i,f⟩) (T:bA 0 gf ⟨F,H,φ,[]⟩ ⟨u,r,i,f⟩):
 bI ⟨u,r,join h φ i,h++f.map (jM h.length)⟩∧bA h.length W ⟨F,H,φ,h⟩ ⟨u,r,join h φ i,h++f.map (jM h.length)⟩:=by
 have Q:∀{V:Nat→Prop} {x:Nat},¬ im ⟨F,H,φ,[]⟩ V x:=by
  rintro V x ⟨b,_,s,_⟩;have:=aR s;simp at this
 have same:∀x,x<H.nx→r.get x=H.get x:=fun x n=>T.out x n Q
 have fo:∀x,x<H.nx→u x→F x:=fun x n D=>T.fo x n Q D
 have lo:∀{b},b<h.length→(h++f.map (jM h.length))[b]?=h[b]?:=fun d=>OU d
 have new:∀b,aH f b→H.nx≤i b:=fun b s=>by
  rcases T.loc b s with q|⟨q,_⟩
  ·exact q
  ·have:=aR q;simp at this
 have split:∀b,aH (h++f.map (jM h.length)) b→(b<h.length∧aH h b∧join h φ i b=φ b)∨∃c,b=c+h.length∧aH f c∧join h φ i b=i c:=by
  intro b s;by_cases d:b<h.length
  ·exact .inl ⟨d,(bS (lo d)).1 s,ly d⟩
  ·refine .inr ⟨b- h.length,by omega,?_,?_⟩
   ·rw [show b=(b- h.length)+h.length by omega]at s
    exact sW.1 s
   ·rw [show b=(b- h.length)+h.length by omega,iX,Nat.add_sub_cancel]
 have M:bA h.length W ⟨F,H,φ,h⟩ ⟨u,r,join h φ i,h++f.map (jM h.length)⟩:={
  n0:=T.n0
  nx:=T.nx
  fz:=T.fz
  fo:=fun x n _ D=>fo x n D
  out:=fun x n _=>same x n
  loc:=fun b d=>by
   rcases split b d with⟨v,h2,a⟩|⟨c,rfl,h2,a⟩
   ·exact .inr ⟨h2,a⟩
   ·left;show _≤join h φ i _;rw [a];exact new c h2
  len:=fun _=>by simp
  le:=fun b d _ t U=>(jH (lo d)).2 U
  lS:=fun b d _ t _ I=>⟨(jG (lo d)).1 I,ly d⟩
  mu:=fun b d _ I=>⟨(dq (lo d)).1 I,ly d⟩}
 refine ⟨⟨y.wf,y.fz,fun b L s N e=>?_,fun b z cs e G=>?_,fun b es e=>?_⟩,M⟩
 ·dsimp only at e
  rcases split b s with⟨v,h2,a⟩|⟨c,rfl,h2,a⟩
  ·rcases split L N with⟨X,p,o⟩|⟨R,rfl,p,o⟩
   ·rw [a,o]at e;exact S.inj _ _ h2 p e
   ·rw [a,o]at e
    have Z:φ b<H.nx:=S.lt h2;have:=new R p;omega
  ·rcases split L N with⟨X,p,o⟩|⟨R,rfl,p,o⟩
   ·rw [a,o]at e
    have Z:φ L<H.nx:=S.lt p;have:=new c h2;omega
   ·rw [a,o]at e
    rw [y.inj _ _ h2 p e]
 ·rcases split b (aO e G)with⟨v,h2,a⟩|⟨c,rfl,h2,a⟩
  ·have g:=e
   rw [show(h++f.map (jM h.length))[b]?=_ from lo v]at g;obtain ⟨B,m,l,k,j⟩:=S.bF b z cs g G;dsimp only;rw [a];exact ⟨B,(same _ (S.lt h2)).trans m,l.step M,T.n0▸k,fun q=>j (fo _ (S.lt h2) q)⟩
  ·have g:=e
   rw [show(h++f.map (jM h.length))[c+h.length]?=_ from gN c]at g;obtain ⟨P,J,w⟩:=OR.1 g
   cases P with
   |cells z' Y=>
    cases w;obtain ⟨B,m,l,k,j⟩:=y.bF c _ Y J (by rintro rfl;exact G rfl);dsimp only;rw [a];exact ⟨B,m,gg l,k,j⟩
   |_=>cases w
 ·rcases split b (b9 e)with⟨v,h2,a⟩|⟨c,rfl,h2,a⟩
  ·have g:=e
   rw [show(h++f.map (jM h.length))[b]?=_ from lo v]at g;obtain ⟨A,m,l,k,j,C⟩:=S.oX b es g;dsimp only;rw [a];exact ⟨A,(same _ (S.lt h2)).trans m,l,k.step M,T.n0▸j,fun q=>C (fo _ (S.lt h2) q)⟩
  ·have g:=e
   rw [show(h++f.map (jM h.length))[c+h.length]?=_ from gN c]at g;obtain ⟨P,J,w⟩:=OR.1 g
   cases P with
   |map K=>
    cases w;obtain ⟨A,m,l,k,j,C⟩:=y.oX c K J;dsimp only;rw [a];refine ⟨A,m,?_,?_,j,C⟩
    ·rw [←l];simp [List.map_map,Function.comp_def]
    ·rw [pn];exact gg k
   |_=>cases w
theorem ek.pure {f:Nat} {args d:List PV} {h:PH} (L:List Nat) {R:PV→PH→Prop} (k:ek E O f d [] R) (j:fN (· ∈L) id h [] args d):
 qq E O f args h (· ∈[]) (fun r n=>∃a b,R a b∧r=sh h.length a∧n=bY h L++b.map (jM h.length)):=by
 intro F H φ i S u;obtain ⟨s,o⟩:=qu S L;have t:=(gM.none (· ∈L) id h).ok S;refine (k _ H _ i t (j.ok S u)).mono ?_;rintro x y ⟨a,b,v,w,m,l,p,T⟩;obtain ⟨g,e⟩:=pq (W:=(· ∈[])) s p T;have c:=cU L h;rw [c]at g e;refine ⟨_,_,v,_,⟨a,b,m,rfl,rfl⟩,?_,g,(o.trans e (by exact OL _) (fun _ q=>q.elim) (fun _ q=>q))⟩;have:=po (φ:=φ) (h:=bY h L) l;rw [c]at this;exact this
mutual
def fO:PV→Bool
 | .v _=>true
 | .agg cs=>cG cs
 | .dB cs=>cG cs
 | .iT _ p=>fO p
 |_=>false
def cG:List PV→Bool
 |[]=>true
 |p::ps=>fO p&&cG ps
end
mutual
theorem jN {C D:Cx}:∀{p:PV} {x:Value},fO p=true→RV C p x→RV D p x
 |_,_,_,.v x=>.v x
 |_,_,k,.agg r=>.agg (fB (by simpa [fO]using k) r)
 |_,_,k,.dB r=>.dB (fB (by simpa [fO]using k) r)
 |_,_,k,.iT r=>.iT (jN (by simpa [fO]using k) r)
theorem fB {C D:Cx}:∀{p:List PV} {x:List Value},cG p=true→aZ C p x→aZ D p x
 |_,_,_,.nil=>.nil
 |_,_,k,.cons a b=>by
  simp only [cG,OK]at k;exact .cons (jN k.1 a) (fB k.2 b)
end
theorem ek.flat {f:Nat} {args j:List PV} {h:PH} {R:PV→PH→Prop} (k:ek E O f j [] R) (q:fN gf id h [] args j) (v:∀r d,R r d→fO r=true):
 qq E O f args h (· ∈[]) (fun r w=>(∃d,R r d)∧w=h):=by
 intro F H a n S A;have y:=(gM.none gf id h).ok S;refine (k _ H _ n y (q.ok S A)).mono ?_;rintro x m ⟨r,d,D,B,i,t,C,T⟩
 have p:∀{V:Nat→Prop} {x:Nat} {F:Nat→Prop} {a:Nat→Nat},¬ im ⟨F,H,a,[]⟩ V x:=by
  rintro V x F a ⟨b,_,s,_⟩;have:=aR s;simp at this
 have same:∀x,x<H.nx→m.get x=H.get x:=fun x c=>T.out x c p
 have l:bA h.length (· ∈[]) ⟨F,H,a,h⟩ ⟨F,m,a,h⟩:={
  n0:=T.n0
  nx:=T.nx
  fz:=fun x c=>⟨c,same x (S.fz x c)⟩
  fo:=fun _ _ _ h=>h
  out:=fun x c _=>same x c
  loc:=fun b u=>.inr ⟨u,rfl⟩
  len:=id
  le:=fun _ _ _ _ h=>h
  lS:=fun _ _ _ _ _ h=>⟨h,rfl⟩
  mu:=fun _ _ _ h=>⟨h,rfl⟩}
 have e:∀{P:PB},h[h.length]?≠some P:=by intro P;simp
 refine ⟨r,h,F,a,⟨⟨d,i⟩,rfl⟩,jN (v r d i) t,S.of l rfl h.length (fun _ _=>⟨rfl,rfl⟩) (fun b _ s=>same _ (S.lt s)) (fun b _ s o=>?_) (fun z cs g=>absurd g e) (fun es g=>absurd g e),l⟩;exact absurd (aR o) (Nat.lt_irrefl _)
def gO (A:Nat→Prop) (σ:Nat→Nat) (h bs:PH):Nat→PH→Prop
 |_,[]=>True
 |i,P::l=>iH A σ h bs h[σ i]? P∧gO A σ h bs (i+1) l
@[simp]theorem AD (A:Nat→Prop) (a:Nat→Nat) (h b:PH) (i:Nat):gO A a h b i []↔True:=Iff.rfl
@[simp]theorem zk (A:Nat→Prop) (a:Nat→Nat) (h b:PH) (i:Nat) (P:PB) (l:PH):gO A a h b i (P::l)↔iH A a h b h[a i]? P∧gO A a h b (i+1) l:=Iff.rfl
theorem gO.ok {A:Nat→Prop} {a:Nat→Nat} {h b:PH}:∀{l:PH} {i:Nat},gO A a h b i l→∀j P,l[j]?=some P→iH A a h b h[a (i+j)]? P
 |[],i,_,j,P,e=>by simp at e
 |Q::l,i,k,0,P,e=>by simp at e;subst e;exact k.1
 |Q::l,i,k,j+1,P,e=>by
  have:=gO.ok k.2 j P (by simpa using e);rwa [show i+1+j=i+(j+1) by omega]at this
@[simp]theorem xd (A:Nat→Prop) (b:Nat→Nat) (h d:PH) (z c:Nat) (ps a:List PV):iH A b h d (some (.cells z ps)) (.cells c a)↔a=[]∨(z=c∧fN A b h d ps a):=by
 unfold iH;constructor
 ·rintro (q|⟨f,e,k⟩)
  ·exact .inl q
  ·cases e;exact .inr ⟨rfl,k⟩
 ·rintro (q|⟨rfl,k⟩)
  ·exact .inl q
  ·exact .inr ⟨_,rfl,k⟩
@[simp]theorem zl (A:Nat→Prop) (a:Nat→Nat) (h b:PH) (o:Option PB):iH A a h b o .dead↔True:=Iff.rfl
@[simp]theorem zm (A:Nat→Prop) (a:Nat→Nat) (h b:PH) (o:Option PB) (z:Nat):iH A a h b o (.cells z [])↔True:=⟨fun _=>trivial,fun _=>.inl rfl⟩
def vI:Option PB→Option PB→Prop
 |some (.cells _ cs),some (.cells _ bt)=>cs.length=bt.length
 |_,_=>False
@[simp]theorem KJ (z b:Nat) (cs a:List PV):vI (some (.cells z cs)) (some (.cells b a))↔cs.length=a.length:=Iff.rfl
theorem sY {h g:PH} {A:Nat→Prop} {f:Nat→Nat} (K:gM A f h g) {F:Nat→Prop} {H:AH} {φ:Nat→Nat} {C0:Cx} (j:C0.h.length=0) (T:bA 0 gf C0 ⟨F,H,φ,h⟩):bA 0 gf C0 ⟨add F h φ A,H,fun i=>φ (f i),g⟩:=by
 have k:C0.h=[]:=Pa.1 j;have no:∀{b:Nat},¬ aH C0.h b:=fun s=>by have:=aR s;omega
 refine ⟨T.n0,T.nx,fun y c=>⟨.inl (T.fz y c).1,(T.fz y c).2⟩,fun y c hi d=>?_,T.out,fun b a=>?_,fun _=>O9 _,fun b a=>absurd a (O7 _),fun b a=>absurd a (O7 _),fun b a=>absurd a (O7 _)⟩
 ·rcases d with d|⟨b,_,s,e⟩
  ·exact T.fo y c hi d
  ·rcases T.loc b s with q|⟨q,_⟩
   ·dsimp only at q;omega
   ·exact absurd q no
 ·rcases T.loc _ (K.aH a)with q|⟨q,_⟩
  ·exact .inl q
  ·exact absurd q no
theorem jO {r b:PV} {h bs:PH} (A:Nat→Prop) (a:Nat→Nat) (K:gM A a h bs) (V:Vg A a h bs r b):qP 0 r h b bs:=by
 intro F H c x S R;exact ⟨_,_,K.ok S,V F H c x S R,fun e d T=>sY K d T⟩
theorem sZ {n:Nat} {r u:PV} {h bs:PH} (i:Nat→Nat) (K:gM (fun _=>False) i h bs) (V:Vg (fun _=>False) i h bs r u) (A:n≤bs.length) (k:∀b,b<n→i b=b∧(bB bs b=none∨bB bs b=bB h b)∧(ec bs b→ec h b)) (h2:∀b,n≤b→b<bs.length→n≤i b) (B:∀b,b<n→∀t,Le h b t→Le bs b t):qP n r h u bs:=by
 intro F H w x S R;refine ⟨_,_,K.ok S,V F H w x S R,fun G D T=>?_⟩
 have s:∀{h:PH} {b t:Nat},At h b t↔bB h b=some t:=by
  intro h b t;constructor
  ·rintro ⟨z,cs,e,rfl⟩;unfold bB;rw [e]
  ·intro e;exact (gK e).2 rfl
 refine ⟨T.n0,T.nx,fun y j=>⟨.inl (T.fz y j).1,(T.fz y j).2⟩,fun y j hi o=>?_,T.out,fun b a=>?_,fun _=>A,fun b a f t m=>B b a t (T.le b a f t m),fun b a f t m c=>?_,fun b a f c=>?_⟩
 ·rcases o with o|⟨b,q,_⟩
  ·exact T.fo y j hi o
  ·exact q.elim
 ·rcases T.loc _ (K.aH a)with q|⟨q,e⟩
  ·exact .inl q
  ·by_cases v:b<n
   ·rw [(k b v).1]at q e
    exact .inr ⟨q,by dsimp only;rw [(k b v).1];exact e⟩
   ·have:=h2 b (by omega) (aR a)
    have:=aR q;omega
 ·obtain ⟨p,g,_⟩:=k b a
  rw [s]at c
  have e:bB h b=some t:=by
   rcases g with g|g
   ·rw [g]at c;cases c
   ·rw [←g];exact c
  obtain ⟨l,d⟩:=T.lS b a f t m (s.2 e);exact ⟨l,by dsimp only at d⊢;rw [p];exact d⟩
 ·obtain ⟨p,_,C⟩:=k b a
  obtain ⟨l,d⟩:=T.mu b a f (C c);exact ⟨l,by dsimp only at d⊢;rw [p];exact d⟩
def pr (h bs:PH) (b:Nat):Prop:=bs[b]?=some .dead∨vI h[b]? bs[b]?
theorem s5 {n:Nat} {r o:PV} {h bs:PH} (L:List Nat) (C:L.length+n=bs.length) (a:L.Nodup) (l:∀b∈L,n≤b) (k:∀b,b<n→pr h bs b) (K:gO (fun _=>False) (fun i=>if i<n then i else L.getD (i- n) 0) h bs 0 bs) (V:Vg (fun _=>False) (fun i=>if i<n then i else L.getD (i- n) 0) h bs r o):qP n r h o bs:=by
 have getD:∀i,n≤i→i<bs.length→L[i- n]?=some (L.getD (i- n) 0):=fun i d h2=>by
  rw [List.getD_eq_getElem?_getD,OG (by omega)];rfl
 have w:gM (fun _=>False) (fun i=>if i<n then i else L.getD (i- n) 0) h bs:=by
  refine ⟨fun i P e=>by simpa using K.ok i P e,fun i j hi p _ _ e=> ?_,fun _ _ _ q=>q⟩;by_cases d:i<n
  · rw [if_pos d]at e
    by_cases h2:j<n
    · rwa [if_pos h2]at e
    · rw [if_neg h2]at e
      have:=l _ (OM (getD j (by omega) p));omega
  · rw [if_neg d]at e
    by_cases h2:j<n
    · rw [if_pos h2]at e
      have:=l _ (OM (getD i (by omega) hi));omega
    · rw [if_neg h2]at e
      have s:=getD i (by omega) hi;have v:=getD j (by omega) p;rw [e]at s
      have key:∀(L:List Nat),L.Nodup→∀(i j b:Nat),L[i]?=some b→L[j]?=some b→i=j:=by
       intro L
       induction L with
       |nil=>intro _ i j b e;simp at e
       |cons x L ih=>
        intro a i j b e g;rw [List.nodup_cons]at a
        cases i with
        |zero=>cases j with
         |zero=>rfl
         |succ j=>simp at e g;subst e;exact absurd (OM g) a.1
        |succ i=>cases j with
         |zero=>simp at e g;subst g;exact absurd (OM e) a.1
         |succ j=>rw [ih a.2 i j b (by simpa using e) (by simpa using g)]
      have:=key L a _ _ _ s v;omega
 refine sZ _ w V (by omega) (fun b c=>⟨if_pos c, ?_, ?_⟩) (fun b d h2=> ?_) (fun b c t u=> ?_)
 · rcases k b c with q|q
   · left;unfold bB;rw [q]
   · right
     unfold vI at q;split at q
     · rename_i z cs B G m f
       unfold bB;rw [m,f];simp only [q]
     · exact q.elim
 · rintro ⟨es,e⟩
   rcases k b c with q|q
   · rw [q]at e;cases e
   · rw [e]at q;unfold vI at q;split at q
     · rename_i f;cases f
     · exact q.elim
 · rw [if_neg (by omega)]
   exact l _ (OM (getD b d h2))
 · intro z cs e
   rcases k b c with q|q
   · rw [q]at e;cases e
   · rw [e]at q
     unfold vI at q;split at q
     · rename_i A F y D m f
       cases f;have:=u _ _ m;omega
     · exact q.elim
theorem ae {r a:PV} {h:PH} (V:Vg gf id h [] r a):qP 0 r h a []:=jO _ _ (gM.none _ _ _) V
theorem vJ {sz b n:Nat} {h:PH} {cs a:List PV} (c:h[b]?=some (.cells sz cs)) (V:fN (· ≠b) (fun _=>b) h [.cells sz a] cs a):qP 0 (.sl sz b 0 n n) h (.sl sz 0 0 n n) [.cells sz a]:=by
 have d:=V.length;have k:bB h b=some cs.length:=by unfold bB;rw [c]
 have g:bB [PB.cells sz a] 0=some cs.length:=by unfold bB;simp [d]
 refine jO (· ≠b) (fun _=>b) ⟨fun i P e=>?_,fun i j hi f _ _ _=>by simp at hi f;omega,fun i hi s=>by simp⟩ (xb k g rfl)
 cases i with
 |zero=>simp at e;subst e;exact .inr ⟨cs,c,V⟩
 |succ i=>simp at e
theorem vK (sz:Nat) (h:PH):qP 0 (.v (.slice none 0 0)) h (.sl sz 0 0 0 0) [.cells sz []]:=by
 refine jO (fun _=>False) id ⟨fun i P e=>?_,fun i j hi a _ _ _=>by simp at hi a;omega,fun i hi s=>by simp⟩ (pk rfl)
 cases i with
 |zero=>simp at e;subst e;exact .inl rfl
 |succ i=>simp at e
def PF.s6:List (Nat×PV)→PF
 |[]=>⟨fun _=>.any⟩
 |(t,p)::l=>⟨fun a=>if a=t then p else(PF.s6 l).g a⟩
@[simp]theorem E2 (a:Nat):(PF.s6 []).get a= .any:=rfl
@[simp]theorem s7 (t a:Nat) (p:PV) (l:List (Nat×PV)):(PF.s6 ((t,p)::l)).get a=if a=t then p else(PF.s6 l).get a:=rfl
def mF (A:Nat→Prop) (σ:Nat→Nat) (h bs:PH) (fr:PF):List (Nat×PV)→Prop
 |[]=>True
 |(t,p)::l=>Vg A σ h bs (fr.get t) p∧mF A σ h bs fr l
@[simp]theorem CH (A:Nat→Prop) (a:Nat→Nat) (h c:PH) (b:PF):mF A a h c b []↔True:=Iff.rfl
@[simp]theorem AE (A:Nat→Prop) (a:Nat→Nat) (h c:PH) (b:PF) (t:Nat) (p:PV) (l:List (Nat×PV)):mF A a h c b ((t,p)::l)↔Vg A a h c (b.get t) p∧mF A a h c b l:=Iff.rfl
end P
namespace P
open Go Go.RowKit
mutual
def g9:PV→Bool
 | .v _=>true
 | .fs _ _=>true
 | .fp _=>true
 | .agg cs=>bW cs
 | .dB cs=>bW cs
 | .fn _ a b=>bW a&&bW b
 | .iT _ p=>g9 p
 |_=>false
def bW:List PV→Bool
 |[]=>true
 |p::ps=>g9 p&&bW ps
end
attribute [simp] sh na fO cG
@[simp]theorem KL (x:Value):g9 (.v x)=true↔True:=⟨fun _=>trivial,fun _=>rfl⟩
@[simp]theorem H5 (sz:Nat) (rows:List (List PV)):g9 (.fs sz rows)=true↔True:=⟨fun _=>trivial,fun _=>rfl⟩
@[simp]theorem H6 (c:List PV):g9 (.fp c)=true↔True:=⟨fun _=>trivial,fun _=>rfl⟩
@[simp]theorem E3 (cs:List PV):g9 (.agg cs)=true↔bW cs=true:=by rw [g9]
@[simp]theorem E4 (cs:List PV):g9 (.dB cs)=true↔bW cs=true:=by rw [g9]
@[simp]theorem E5 (t:Nat) (p:PV):g9 (.iT t p)=true↔g9 p=true:=by rw [g9]
@[simp]theorem H7:bW []=true↔True:=⟨fun _=>trivial,fun _=>rfl⟩
@[simp]theorem lz (p:PV) (ps:List PV):bW (p::ps)=true↔g9 p=true∧bW ps=true:=by rw [bW,OK]
theorem e7:∀l:List PV,bW l=l.all g9
 |[]=>rfl
 |p::l=>by simp [bW,e7 l]
theorem aq (a b:List PV):bW (a++b)=true↔bW a=true∧bW b=true:=by simp [e7]
theorem mG {p:PV} (a:g9 p=true):∀{l:List PV} {k:Nat},bW l=true→bW (l.set k p)=true
 |[],k,_=>rfl
 |q::l,0,h=>by rw [lz]at h;exact (lz _ _).2 ⟨a,h.2⟩
 |q::l,k+1,h=>by rw [lz]at h;exact (lz _ _).2 ⟨h.1,mG a h.2⟩
attribute [simp] mG
mutual
theorem nV (k:Nat):∀{p:PV},g9 p=true→sh k p=p
 | .v _,_=>rfl
 | .fs _ _,_=>rfl
 | .fp _,_=>rfl
 | .agg cs,h=>by rw [sh,cV k (by simpa using h)]
 | .dB cs,h=>by rw [sh,cV k (by simpa using h)]
 | .fn f a b,h=>by
  simp only [g9,OK]at h;rw [sh,cV k h.1,cV k h.2]
 | .iT t p,h=>by rw [sh,nV k (by simpa using h)]
theorem cV (k:Nat):∀{l:List PV},bW l=true→na k l=l
 |[],_=>rfl
 |p::l,h=>by
  simp only [bW,OK]at h;rw [na,nV k h.1,cV k h.2]
end
section
variable{A:Nat→Prop} {σ:Nat→Nat} {h bs:PH}
mutual
theorem lA:∀{p:PV},g9 p=true→Vg A σ h bs p p
 | .v _,_=>(H4 _).2 trivial
 | .fs _ _,_=>(CC _ _).2 trivial
 | .fp _,_=>(CF _).2 trivial
 | .agg cs,h=>sU (cW (by simpa using h))
 | .dB cs,h=>nU (cW (by simpa using h))
 | .fn f a b,h=>by
  simp only [g9,OK]at h;exact CG (cW h.1) (cW h.2)
 | .iT t p,h=>zi (lA (by simpa using h))
theorem cW:∀{l:List PV},bW l=true→fN A σ h bs l l
 |[],_=>trivial
 |p::l,h=>by
  simp only [bW,OK]at h;exact ⟨lA h.1,cW h.2⟩
end
@[simp]theorem CI {l:List PV} (k:bW l=true):fN A σ h bs l l↔True:=⟨fun _=>trivial,fun _=>cW k⟩
@[simp]theorem E6 {p:PV} (k:g9 p=true):Vg A σ h bs p p↔True:=⟨fun _=>trivial,fun _=>lA k⟩
theorem pt {b i:Nat} (k:vI h[b]? bs[i]?):∃T,bB h b=some T∧bB bs i=some T:=by
 unfold vI at k;split at k
 ·rename_i z cs d e c a
  exact ⟨cs.length,by unfold bB;rw [c],by unfold bB;rw [a,k]⟩
 ·exact k.elim
@[simp]theorem H8 {b i sz o n c:Nat} (a:σ i=b) (k:vI h[b]? bs[i]?):Vg A σ h bs (.sl sz b o n c) (.sl sz i o n c)↔True:=⟨fun _=>trivial,fun _=>by
 obtain ⟨T,d,h2⟩:=pt k
 exact xb d h2 a⟩
@[simp]theorem E7 {b i o t:Nat} (a:σ i=b) (k:vI h[b]? bs[i]?):Vg A σ h bs (.ref b o t) (.ref i o t)↔True:=⟨fun _=>trivial,fun _=>by
 obtain ⟨T,c,h2⟩:=pt k
 exact zj c h2 a⟩
def isVoid (bs:PH) (i:Nat):Bool:=match bs[i]? with
 |some (.cells _ [])=>true
 |_=>false
@[simp]theorem CJ {sz i:Nat} (k:isVoid bs i=true):Vg A σ h bs (.v (.slice none 0 0)) (.sl sz i 0 0 0)↔True:=⟨fun _=>trivial,fun _=>by
 unfold isVoid at k;split at k
 ·rename_i z e;exact pk e
 ·cases k⟩
@[simp]theorem E8 (ps a:List PV) (k:fN A σ h bs ps a):Vg A σ h bs (.agg ps) (.agg a)↔True:=⟨fun _=>trivial,fun _=>sU k⟩
@[simp]theorem E9 (ps a:List PV) (k:fN A σ h bs ps a):Vg A σ h bs (.dB ps) (.dB a)↔True:=⟨fun _=>trivial,fun _=>nU k⟩
def AG:PV→Bool
 | .v _=>true
 | .fs _ _=>true
 |_=>false
theorem zn {p:PV} (k:AG p=true):Vz A h p p:=by
 cases p<;>first
  |exact CB _
  |exact xa _ _
  |cases k
theorem eB:∀{l:List PV},l.all AG=true→sR A h l l
 |[],_=>trivial
 |p::l,k=>by
  simp only [List.all_cons,OK]at k;exact ⟨zn k.1,eB k.2⟩
end
section
variable{E:Env} {O:ea} {n:Nat} {Q:Ex→PF→PH→Prop} {ks:List Kp} {fr:PF} {h:PH} {m:Mp} {l:List AO} {d:Option Nat}
def Fz (E:Env) (O:ea) (f:Nat) (args:List PV) (r:PV):Prop:=ek E O f args [] (fun r' h'=>r'=r∧h'=[]∧g9 r=true)
def Fo (E:Env) (O:ea) (f:Nat) (args:List PV) (sz k:Nat) (cs:List PV):Prop:=ek E O f args [] (fun r' h'=>r'= .sl sz 0 0 k k∧h'=[.cells sz cs]∧bW cs=true∧cs.length=k*sz)
def vL (res:List RS) (r:PV):Ex→PF→PH→Prop
 | .exit _,_,_=>False
 |_,fr,h=>(lu.all fr h res).map eY=some r
@[simp]theorem H9 (res:List RS) (r:PV):vL res r .normal fr h=((lu.all fr h res).map eY=some r):=rfl
@[simp]theorem Ia (res:List RS) (r:PV):vL res r .ret fr h=((lu.all fr h res).map eY=some r):=rfl
theorem PK.xe {Q i:Ex→PF→PH→Prop} (j:∀ex fr h,Q ex fr h→i ex fr h) {f:Cf} {fr:PF} {h:PH} (k:PK E O n Q f fr h):PK E O n i f fr h:=by
 induction k with
 |skip _ ih=>exact .skip ih
 |ret _ ih=>exact .ret ih
 |exit _ ih=>exact .exit ih
 |aA _ ih=>exact .aA ih
 |ak _ ih=>exact .ak ih
 |seq _ ih=>exact .seq ih
 |block _ ih=>exact .block ih
 |cond e _ ih=>exact .cond e ih
 |loop I k _ g o ih=>exact .loop I k ih g o
 |vD _ ih=>exact .vD ih
 |mC e _ ih=>exact .mC e ih
 |ph _ ih=>exact .ph ih
 |pj _ ih=>exact .pj ih
 |op e _ ih=>exact .op e ih
 |Co e w _ ih=>exact .Co e w ih
 |sN e w _ ih=>exact .sN e w ih
 |call c _ ih=>exact .call c ih
 |callv e c _ ih=>exact .callv e c ih
 |vE q=>exact .vE (j _ _ _ q)
 |EH _ ih=>exact .EH ih
 |EI _ ih=>exact .EI ih
 |Cp a b c=>exact .Cp a b c
 |EJ _ ih=>exact .EJ ih
 |sO _ ih=>exact .sO ih
 |vF e _ ih=>exact .vF e ih
 |del _ ih=>exact .del ih
 |vG _ ih=>exact .vG ih
theorem Fz.body {f:Nat} {F:AF} {args:List PV} {r:PV} (o:O f=none) (s:E f=some F) (p:args.length=F.np) (c:g9 r=true) (k:PK E O 0 (vL F.res r) (.code F.body []) (PF.of args) []):Fz E O f args r:=by
 refine ek.body o s p (PK.xe ?_ k);intro ex fr h q
 have:∀ex,vL F.res r ex fr h→(∀i,ex≠ .exit i)→∃a,lu.all fr h F.res=some a∧∃b h2,qP 0 (eY a) h b h2∧b=r∧h2=[]∧g9 r=true:=by
  intro ex q j
  have g:(lu.all fr h F.res).map eY=some r:=by
   cases ex with
   |exit i=>exact absurd rfl (j i)
   |normal=>exact q
   |ret=>exact q
  obtain ⟨a,e,t⟩:=OR.1 g;exact ⟨a,e,r,[],by rw [t];exact ae (lA c),rfl,rfl,c⟩
 cases ex with
 |exit i=>exact q
 |normal=>exact this _ q (fun i=>by simp)
 |ret=>exact this _ q (fun i=>by simp)
def kC (h:PH) (sz k:Nat) (cs:List PV):PV→Prop
 | .sl cz b o n' c=>cz=sz∧o=0∧n'=k∧c=k∧h[b]?=some (.cells sz cs)
 | .v (.slice none 0 0)=>k=0∧cs=[]
 |_=>False
def zo (res:List RS) (sz k:Nat) (cs:List PV):Ex→PF→PH→Prop
 | .exit _,_,_=>False
 |_,fr,h=>∃vs,lu.all fr h res=some vs∧kC h sz k cs (eY vs)
@[simp]theorem Ib (res:List RS) (sz k:Nat) (cs:List PV):zo res sz k cs .normal fr h=∃vs,lu.all fr h res=some vs∧kC h sz k cs (eY vs):=rfl
@[simp]theorem Ic (res:List RS) (sz k:Nat) (cs:List PV):zo res sz k cs .ret fr h=∃vs,lu.all fr h res=some vs∧kC h sz k cs (eY vs):=rfl
theorem Fo.body {f:Nat} {F:AF} {args:List PV} {sz k:Nat} {cs:List PV} (g:O f=none) (r:E f=some F) (j:args.length=F.np) (c:bW cs=true) (s:cs.length=k*sz) (q:PK E O 0 (zo F.res sz k cs) (.code F.body []) (PF.of args) []):Fo E O f args sz k cs:=by
 refine ek.body g r j (PK.xe ?_ q);intro ex fr h q
 have key:∀a,kC h sz k cs (eY a)→∃b h2,qP 0 (eY a) h b h2∧b= .sl sz 0 0 k k∧h2=[.cells sz cs]∧bW cs=true∧cs.length=k*sz:=by
  intro a o;refine ⟨_,_,?_,rfl,rfl,c,s⟩;revert o;generalize eY a=p;intro o;unfold kC at o;split at o
  ·obtain ⟨rfl,rfl,rfl,rfl,t⟩:=o
   exact vJ t (cW c)
  ·obtain ⟨rfl,rfl⟩:=o
   exact vK _ _
  ·exact o.elim
 cases ex with
 |exit i=>exact q
 |normal=>obtain ⟨a,e,o⟩:=q;exact ⟨a,e,key a o⟩
 |ret=>obtain ⟨a,e,o⟩:=q;exact ⟨a,e,key a o⟩
theorem Fz.call {f:Nat} {args b:List PV} {r:PV} (k:Fz E O f b r) (L:List Nat) (e:fN (· ∈L) id h [] args b):qq E O f args h (· ∈[]) (fun r' a=>r'=r∧a=bY h L):=
 (ek.pure L k e).mono (by
  rintro r' a ⟨g,i,⟨rfl,rfl,c⟩,rfl,rfl⟩
  exact ⟨nV _ c,by simp⟩)
theorem aD {f:Nat} {«as»:List X} {args:List PV} {r:PV} (k:Fz E O f args r) (b:«as».map (bX fr)=args) (a:bW args=true) (next:PK E O n Q (.ops (m.up [] (fr.aw d r) h) l ks) (fr.aw d r) h):PK E O n Q (.ops m (⟨none,d,.call f «as»⟩::l) ks) fr h:=
 eZ (W:=[]) b ((k.call [] (cW a)).mono (by rintro c e ⟨rfl,rfl⟩;exact next))
theorem s8 {f:Nat} {«as»:List X} {args:List PV} {r:PV} (L:List Nat) (k:Fz E O f args r) (a:fN (· ∈L) id h [] («as».map (bX fr)) args) (next:PK E O n Q (.ops (m.up [] (fr.aw d r) (bY h L)) l ks) (fr.aw d r) (bY h L)):PK E O n Q (.ops m (⟨none,d,.call f «as»⟩::l) ks) fr h:=
 eZ (W:=[]) rfl ((k.call L a).mono (by rintro b c ⟨rfl,rfl⟩;exact next))
theorem nW {f:Nat} {«as»:List X} {args:List PV} {r:PV} (k:Fz E O f args r) (b:fN gf id h [] («as».map (bX fr)) args) (c:fO r=true) (next:PK E O n Q (.ops (m.up [] (fr.aw d r) h) l ks) (fr.aw d r) h):PK E O n Q (.ops m (⟨none,d,.call f «as»⟩::l) ks) fr h:=
 eZ (W:=[]) rfl ((ek.flat k b (by rintro a g ⟨rfl,_⟩;exact c)).mono (by rintro a e ⟨⟨_,rfl,_⟩,rfl⟩;exact next))
theorem Fo.call {f:Nat} {args b:List PV} {sz k:Nat} {cs:List PV} (q:Fo E O f b sz k cs) (L:List Nat) (e:fN (· ∈L) id h [] args b):qq E O f args h (· ∈[]) (fun r' a=>r'= .sl sz h.length 0 k k∧a=bY h L++[.cells sz cs]):=
 (ek.pure L q e).mono (by
  rintro r' a ⟨g,i,⟨rfl,rfl,c,_⟩,rfl,rfl⟩
  exact ⟨by simp,by simp [jM,cV _ c]⟩)
theorem pv {f:Nat} {«as»:List X} {args:List PV} {sz k:Nat} {cs:List PV} (q:Fo E O f args sz k cs) (b:«as».map (bX fr)=args) (a:bW args=true) (next:PK E O n Q (.ops (m.up [] (fr.aw d (.sl sz h.length 0 k k)) (h++[.cells sz cs])) l ks) (fr.aw d (.sl sz h.length 0 k k)) (h++[.cells sz cs])):PK E O n Q (.ops m (⟨none,d,.call f «as»⟩::l) ks) fr h:=
 eZ (W:=[]) b ((q.call [] (cW a)).mono (by rintro c e ⟨rfl,rfl⟩;exact next))
end
abbrev pi (n:Int):PV:=.v (.int .i64 n)
abbrev pb (b:Bool):PV:=.v (.bool b)
abbrev ps (s:ByteArray):PV:=.v (.string s)
abbrev e8:PV:=.v (.slice none 0 0)
def ir (l:List Int):List (List PV):=l.map fun n=>[pi n]
@[simp]theorem AI (l:List Int):(ir l).length=l.length:=by simp [ir]
theorem aI (l:List Int) (i:Nat):(ir l)[i]?=(l[i]?).map fun n=>[pi n]:=by simp [ir]
@[simp]theorem px (l:List Int):(ir l).flatten=l.map pi:=by
 induction l with
 |nil=>rfl
 |cons a l ih=>simp_all [ir]
abbrev bO (l:List Int):PV:=.fs 1 (ir l)
theorem gP {A:Nat→Prop} {h:PH} {sz b n:Nat} {rows:List (List PV)} (j:A b) (f:h[b]?=some (.cells sz rows.flatten)) (g:0<sz) (c:rows.length=n) (a:∀r∈rows,r.length=sz) (d:sR A h rows.flatten rows.flatten):Vz A h (.sl sz b 0 n n) (.fs sz rows):=by
 have e:rows.flatten.length=n*sz:=by
  rw [←c];clear f d c
  induction rows with
  |nil=>simp
  |cons r rows ih=>
   have:=a r (by simp);rw [List.flatten_cons,OQ,ih (fun q i=>a q (by simp [i])),List.length_cons,Nat.succ_mul];omega
 exact sT j f (by rw [Nat.zero_add,e]) g (OL _) (OL _) c a (by rw [Nat.zero_mul,List.drop_zero,←e,List.take_length];exact d)
theorem jP {A:Nat→Prop} {h:PH} {b:Nat} {l:List Int} (c:A b) (a:h[b]?=some (.cells 1 (l.map pi))):Vz A h (.sl 1 b 0 l.length l.length) (bO l):=
 gP c (by rw [px];exact a) Nat.one_pos (by simp) (by simp [ir]) (eB (by simp [AG]))
attribute [simp] Cn EG sC y7 qp vC mB lq y6 u9
attribute [simp] isVoid kC
end P
namespace P
open Go Go.RowKit
variable{E:Env} {O:ea}
mutual
def Fa (τ:Nat→Nat):PV→PV
 | .ref b o t=>.ref (τ b) o t
 | .sl sz b o n c=>.sl sz (τ b) o n c
 | .mp b=>.mp (τ b)
 | .agg cs=>.agg (nX τ cs)
 | .dB cs=>.dB (nX τ cs)
 | .fn f a b=>.fn f (nX τ a) (nX τ b)
 | .iT t p=>.iT t (Fa τ p)
 | .v x=>.v x
 | .fs sz rows=>.fs sz rows
 | .fp cells=>.fp cells
 | .any=>.any
def nX (τ:Nat→Nat):List PV→List PV
 |[]=>[]
 |p::ps=>Fa τ p::nX τ ps
end
attribute [simp] Fa nX
def zp (τ:Nat→Nat):PB→PB
 | .cells z cs=>.cells z (nX τ cs)
 | .map es=>.map (es.map fun e=>(e.1,Fa τ e.2))
 | .dead=>.dead
section
variable{τ:Nat→Nat} {bs h:PH}
end
def nY:PH→List Nat→PH→PH
 |h,[],_=>h
 |h,_::_,[]=>h
 |h,b::L,P::Ps=>nY (h.set b P) L Ps
def Ie (L:List Nat) (m:Nat):Nat→Nat:=fun i=>if i<L.length then L.getD i 0 else m+(i- L.length)
def merge (h:PH) (L:List Nat) (hs:PH):PH:=nY h L ((hs.take L.length).map (zp (Ie L h.length)))++(hs.drop L.length).map (zp (Ie L h.length))
def vM:Option PB→Option PB→Prop
 |some (.cells _ cs),some (.cells _ bt)=>cs.length=bt.length
 |some (.map _),some (.map _)=>True
 |_,_=>False
@[simp]theorem Ig (z b:Nat) (cs a:List PV):vM (some (.cells z cs)) (some (.cells b a))↔cs.length=a.length:=Iff.rfl
@[simp]theorem Ih (es es':List (Value×PV)):vM (some (.map es)) (some (.map es'))↔True:=Iff.rfl
def Fb (h hs:PH):Nat→List Nat→Prop
 |_,[]=>True
 |i,b::L=>vM h[b]? hs[i]?∧Fb h hs (i+1) L
@[simp]theorem Fc (h a:PH) (i:Nat):Fb h a i []↔True:=Iff.rfl
@[simp]theorem CK (h a:PH) (i b:Nat) (L:List Nat):Fb h a i (b::L)↔vM h[b]? a[i]?∧Fb h a (i+1) L:=Iff.rfl
section
variable{n:Nat} {Q:Ex→PF→PH→Prop} {ks:List Kp} {fr:PF} {h:PH} {m:Mp} {l:List AO} {d:Option Nat}
end
attribute [simp] Ie merge nY zp
end P
namespace P
open Go Go.RowKit
variable{E:Env} {O:ea}
theorem mF.list {A:Nat→Prop} {a:Nat→Nat} {h c:PH} {b:PF}:∀{l:List (Nat×PV)},mF A a h c b l→fN A a h c (l.map fun e=>b.get e.1) (l.map (·.2))
 |[],_=>trivial
 |(t,p)::l,k=>⟨k.1,mF.list k.2⟩
theorem py {C:Cx} {b:Fr}:∀{l:List (Nat×PV)},aZ C (l.map (·.2)) (l.map fun e=>b.get e.1)→fF C (PF.s6 l) b
 |[],_,t=>.any _
 |(a,p)::l,k,t=>by
  cases k with|cons d c=>
  rw [s7];split
  ·rename_i e;subst e;exact d
  ·exact py c t
theorem s9 {C:Cx} {b:PF} {c:Fr} (R:fF C b c):∀l:List (Nat×PV),aZ C (l.map fun e=>b.get e.1) (l.map fun e=>c.get e.1)
 |[]=>.nil
 |(a,p)::l=>.cons (R a) (s9 R l)
theorem a6 {n:Nat} {c:PF} {h h2:PH} (L:List Nat) (l:List (Nat×PV)) (p:L.length+n=h2.length) (j:L.Nodup) (o:∀b∈L,n≤b) (m:∀b,b<n→pr h h2 b) (K:gO (fun _=>False) (fun i=>if i<n then i else L.getD (i- n) 0) h h2 0 h2) (V:mF (fun _=>False) (fun i=>if i<n then i else L.getD (i- n) 0) h h2 c l):Gh n c h (PF.s6 l) h2:=by
 intro F H g a S R;obtain ⟨s,f,q,d,T⟩:=s5 L p j o m K (nU V.list) F H g (.tuple (l.map fun e=>a.get e.1).toArray) S (.dB (s9 R l));refine ⟨s,f,q,?_,T⟩;generalize k:(Value.tuple (l.map fun e=>a.get e.1).toArray)=v at d
 cases d with|dB r=>
 rename_i xs
 have:xs=l.map fun e=>a.get e.1:=by
  have:=Value.tuple.inj k;exact (congrArg Array.toList this).symm
 subst this;exact py r
theorem ek.CL {f:Nat} {args u:List PV} {h:PH} {sz k:Nat} {cs:List PV} (q:Fo E O f u sz k cs) (G:cG cs=true) (B:fN gf id h [] args u):
 qq E O f args h (· ∈[]) (fun r I=>r= .sl sz h.length 0 k k∧I=h++[.cells sz cs]):=by
 intro F H φ m S Q;have P:=(gM.none gf id h).ok S;refine (q _ H _ m P (B.ok S Q)).mono ?_;rintro x l ⟨r,U,X,j,⟨rfl,rfl,n,R⟩,D,o,T⟩
 have v:∀{V:Nat→Prop} {x:Nat} {F:Nat→Prop} {φ:Nat→Nat},¬ im ⟨F,H,φ,[]⟩ V x:=by
  rintro V x F φ ⟨b,_,s,_⟩;have:=aR s;simp at this
 have no:∀{b:Nat} {F:Nat→Prop} {φ:Nat→Nat},¬ aH (Cx.mk F H φ []).h b:=fun s=>by have:=aR s;simp at this
 have same:∀x,x<H.nx→l.get x=H.get x:=fun x i=>T.out x i v
 have new:∀b,aH [PB.cells sz cs] b→H.nx≤j b:=fun b g=>by
  rcases T.loc b g with q|⟨q,_⟩
  ·exact q
  ·exact absurd q no
 have N:bI ⟨F,l,j,[.cells sz cs]⟩:={
  wf:=o.wf
  fz:=fun x i=>O4 (S.fz x i) T.nx
  inj:=o.inj
  bF:=fun b z J e t=>by
   obtain ⟨m,A,y,w,_⟩:=o.bF b z J e t;refine ⟨m,A,?_,w,fun q=>?_⟩
   ·cases b with
    |zero=>simp at e;obtain ⟨_,rfl⟩:=e;exact fB G y
    |succ b=>simp at e
   ·have:=S.fz _ q
    have:=new b (aO e t);dsimp only at*;omega
  oX:=fun b es e=>by
   cases b with
   |zero=>simp at e
   |succ b=>simp at e}
 have L:bA 0 gf ⟨F,H,φ,[]⟩ ⟨F,l,j,[.cells sz cs]⟩:={
  n0:=T.n0
  nx:=T.nx
  fz:=fun x i=>⟨i,same x (S.fz x i)⟩
  fo:=fun _ _ _ h=>h
  out:=fun x i _=>same x i
  loc:=fun b g=>.inl (new b g)
  len:=fun _=>O9 _
  le:=fun b g=>absurd g (O7 _)
  lS:=fun b g=>absurd g (O7 _)
  mu:=fun b g=>absurd g (O7 _)}
 obtain ⟨M,K⟩:=pq (W:=(· ∈[])) S N L
 have C:RV ⟨F,l,j,[.cells sz cs]⟩ (.sl sz 0 0 k k) x:=by
  cases D with|sl a b c d=>exact .sl a b c d
 have p:=po (φ:=φ) (h:=h) C;refine ⟨_,_,F,join h φ j,⟨rfl,rfl⟩,?_,?_,?_⟩
 ·have e:sh h.length (.sl sz 0 0 k k)= .sl sz h.length 0 k k:=by simp
  rw [e]at p
  simpa [jM,cV _ n]using p
 ·simpa [jM,cV _ n]using M
 ·simpa [jM,cV _ n]using K
section
variable{n:Nat} {Q:Ex→PF→PH→Prop} {ks:List Kp} {fr:PF} {h:PH} {m:Mp} {l:List AO} {d:Option Nat}
theorem zq {f:Nat} {«as»:List X} {args:List PV} {sz k:Nat} {cs:List PV} (q:Fo E O f args sz k cs) (a:fN gf id h [] («as».map (bX fr)) args) (b:cG cs=true) (next:PK E O n Q (.ops (m.up [] (fr.aw d (.sl sz h.length 0 k k)) (h++[.cells sz cs])) l ks) (fr.aw d (.sl sz h.length 0 k k)) (h++[.cells sz cs])):PK E O n Q (.ops m (⟨none,d,.call f «as»⟩::l) ks) fr h:=
 eZ (W:=[]) rfl ((ek.CL q b a).mono (by rintro c e ⟨rfl,rfl⟩;exact next))
end
end P
namespace P
open Go Go.RowKit
section
variable{T:Type} {enc:TypeId×Value→T} {P:Program} {W:World}
def F0 (W:World):Nat→Prop:=fun b=>b<W.heap.size
theorem NF (W:World) (φ:Nat→Nat):bI ⟨F0 W,H0 W,φ,[]⟩where
 wf:=OL _
 fz:=fun x a=>a
 inj:=fun b c s=>by have:=aR s;simp at this
 bF:=fun b z cs e=>by simp at e
 oX:=fun b es e=>by simp at e
def KN (v:Value):Prop:=∃a n c,v= .slice a n c∧n≤c∧(c=0∨∀x,a=some x→x.spot=none)
theorem qv {e:Nat} {c v:Value} (h:c= .slice none 0 0∨∃a len cap,c= .slice (some a) len cap∧len≤cap) (b:au e c=some v):KN v:=by
 rcases h with rfl|⟨a,len,cap,rfl,g⟩
 ·simp [au,flat]at b;subst b;exact ⟨_,_,_,rfl,OL _,.inl rfl⟩
 ·simp only [au]at b
  cases d:(decide (a.block<e)&&a.spot.isNone)with
  |true=>rw [d]at b;simp only [cond_true,OH]at b;subst b;exact ⟨_,_,_,rfl,g,.inr fun x f=>by cases f;simp only [OK]at d;exact Option.isNone_iff_eq_none.1 d.2⟩
  |false=>
   rw [d]at b;simp only [cond_false]at b
   cases h2:Nat.beq len 0 with
   |true=>rw [h2]at b;simp only [cond_true,OH]at b;subst b;exact ⟨_,_,_,rfl,OL _,.inl rfl⟩
   |false=>rw [h2]at b;simp at b
theorem Ii {b z:Nat} {c:List Value} (h:(H0 W).get b=some (.cells z c)):z=1048576:=by
 have h2:ko W b=some (.cells z c):=by
  rw [AH.b6 (AH.eM h)]at h;rw [←nJ];exact h
 unfold ko at h2;split at h2
 ·cases h2;rfl
 ·cases h2
theorem Ij {b o sz:Nat} {r:List Value} (h:(H0 W).ldn ⟨b,o,none⟩ sz=some r) (a:sz≤1048576):F0 W b∧(H0 W).gj b sz=true:=by
 unfold AH.ldn at h;split at h
 ·rename_i z c _ e
  have:=Ii e;refine ⟨AH.eM e,?_⟩;unfold AH.gj;rw [show(H0 W).get b=_ from e];exact decide_eq_true (by omega)
 ·cases h
theorem nZ {α:Type} {F:Nat→Prop} {H:AH} {d:α→List PV} {ok:α→Prop}:∀{rows:List (List Value)} {ys:List α},lh (fun l y=>dV F H (d y) l∧ok y) rows ys→fv F H (ys.map d) rows∧∀y∈ys,ok y
 |_,_, .nil=>⟨.nil,by simp⟩
 |_,_, .cons a b=>⟨.cons a.1 (nZ b).1,fun y c=>by
    rcases OZ.1 c with rfl|c
    · exact a.2
    · exact (nZ b).2 y c⟩
theorem xg {α:Type} (g:α→List PV) {ok:α→Prop} {t e:TypeId} {fuel:Nat} {c:Value} {d:DataW T} (p:P.underlying t=some (.slice e)) (K:0<P.cellsOf e) (J:P.cellsOf e≤1048576) (L:0<P.bytesOf e)
 (h:Rd enc P W fuel t [c] d) (D:sg P t d) (rd:∀m z w,m<fuel→Rd enc P W m e z w→sg P e w→∃l y,al W.heap.size z=some l∧dV (F0 W) (H0 W) (g y) l∧ok y):
 ∃(v:Value) (ys:List α),al W.heap.size [c]=some [v]∧RF (F0 W) (H0 W) (.fs (P.cellsOf e) (ys.map g)) v∧(∀y∈ys,ok y)∧ys.length*P.bytesOf e≤reachBytes:=by
 obtain ⟨v,rows,ys,f,u,j,N⟩:=u4 (C:=fun l y=>dV (F0 W) (H0 W) (g y) l∧ok y) p K L h D rd;obtain ⟨B,A⟩:=nZ j
 have F:KN v:=by
  obtain ⟨ps,h⟩:=h;simp only [al]at f
  cases h2:au W.heap.size c with
  |none=>rw [h2]at f;simp at f
  |some x=>
   rw [h2]at f;simp only [OH,List.cons.injEq,and_true]at f;subst f;refine qv ?_ h2;rcases DataW.trod_slice p h with⟨e,_⟩|⟨a,len,cap,_,_,_,_,e,_,_,I,_⟩
   ·simp only [List.cons.injEq,and_true]at e;exact .inl e
   ·simp only [List.cons.injEq,and_true]at e;exact .inr ⟨a,len,cap,e,I⟩
 refine ⟨v,ys,f,?_,A,by rw [←j.length];exact N⟩;obtain ⟨a,n,S,rfl,H,E⟩:=F;have O:=u;obtain ⟨V,U,e,k⟩:=u.is;cases e;have i:(ys.map g).length=rows.length:=by rw [List.length_map,j.length]
 have:RF (F0 W) (H0 W) (.fs (P.cellsOf e) (ys.map g)) (.slice a (ys.map g).length S):=by
  refine .fs (by rw [i];exact O) (by rw [i];exact H) (fun d s=>⟨?_,?_⟩) B
  ·rcases E with q|q
   ·exact .inr q
   ·exact .inl (q d s)
  ·rw [i]
   by_cases M:rows.length=0
   ·exact .inl M
   ·obtain ⟨r,G⟩:∃r,rows[0]?=some r:=⟨_,OG (by omega)⟩
    obtain ⟨b,o,R,Q⟩:=k 0 r G;subst R;cases s;exact .inr (Ij Q J)
 rw [i]at this;exact this
end
end P
set_option maxRecDepth 10000
namespace P
open Go Go.RowKit Go.WideShapes Go.ChangeShapes
structure Sy where
 n:Int
 p:Int
 lab:List Int
 st:List Int
 en:List Int
 nx:List (Int×Int)
def iY (l:List (Int×Int)):List (List PV):=l.map fun x=>[pi x.1,pi x.2]
def bK (l:List (Int×Int)):PV:=.fs 2 (iY l)
def aa (s:Sy):List PV:=[pi s.n,pi s.p,bO s.lab,bO s.st,bO s.en,bK s.nx]
def ta (l:List Int):Prop:=l.length<2^60∧∀n∈l,m7 n
structure mH (s:Sy):Prop where
 n:m7 s.n
 p:m7 s.p
 lab:ta s.lab
 st:ta s.st
 en:ta s.en
 nx:s.nx.length<2^60∧∀x∈s.nx,m7 x.1∧m7 x.2
@[simp]theorem Ff (l:List Int):g9 (bO l)=true:=by simp [bO]
@[simp]theorem zr (l:List (Int×Int)):(iY l).length=l.length:=by simp [iY]
@[simp]theorem Fg (l:List (Int×Int)):g9 (bK l)=true:=rfl
@[simp]theorem CM (s:Sy):bW (aa s)=true:=rfl
section
variable{T:Type} {enc:TypeId×Value→T} {W:World}
theorem cI:Try.prog.cellsOf 3=1:=by kernel_rfl
theorem NH:Try.prog.cellsOf 22=1:=by kernel_rfl
theorem Fh:Try.prog.cellsOf 56=2:=by kernel_rfl
theorem Ik:Try.prog.cellsOf 23=1:=by kernel_rfl
theorem cY:Try.prog.cellsOf 25=6:=by kernel_rfl
theorem CN {n k:Nat} (h:n*k≤reachBytes) (a:0<k):n<2^60:=by
 have b:n*1≤n*k:=Nat.mul_le_mul_left _ a;have:reachBytes<2^47:=reachBytes_lt;omega
theorem CO {α:Type} {l:List α} (h:l.length=6):∃a b c d e f,l=[a,b,c,d,e,f]:=by
 match l,h with
 |[a,b,c,d,e,f],_=>exact ⟨a,b,c,d,e,f,rfl⟩
theorem lB {n:Nat} {c:Value} {d:DataW T} (h:Rd enc Try.prog W n 22 [c] d) (g:sg Try.prog 22 d):∃v l,al W.heap.size [c]=some [v]∧RF (F0 W) (H0 W) (bO l) v∧ta l:=by
 obtain ⟨v,f,p,a,o,j⟩:=xg (fun y:Int=>[pi y]) (ok:=m7) Try.underlying22 (by rw [cI];omega) (by rw [cI];omega) (by decide+kernel) h g (fun k t s r i q=>by
  obtain ⟨m,e,b⟩:=jF Try.underlying3 i;subst e
  exact ⟨_,m,dm rfl,.cons (.v _) .nil,wf_i64 b⟩)
 rw [cI]at a;exact ⟨v,f,p,a,CN j (by decide+kernel),o⟩
theorem tc {n:Nat} {c:Value} {d:DataW T} (h:Rd enc Try.prog W n 23 [c] d) (u:sg Try.prog 23 d):∃v l,al W.heap.size [c]=some [v]∧RF (F0 W) (H0 W) (bK l) v∧l.length<2^60∧∀x∈l,m7 x.1∧m7 x.2:=by
 obtain ⟨v,r,A,i,z,w⟩:=xg (fun y:Int×Int=>[pi y.1,pi y.2]) (ok:=fun x=>m7 x.1∧m7 x.2) Try.underlying23 (by rw [Fh];omega) (by rw [Fh];omega) (by decide+kernel) h u (fun k J I H e F=>by
  obtain ⟨ps,e⟩:=e;obtain ⟨xs,m,G,E,f,D,g⟩:=DataW.trod_array Try.underlying56 e;rw [Fh]at f;obtain ⟨a,b,rfl⟩:=B4 f;have o:=g 0 (by omega);have j:=g 1 (by omega);rw [cI,OG (by omega)]at o j;obtain ⟨t,q,C⟩:=jF Try.underlying3 ⟨(xs[0]'(by omega)).2,o⟩;obtain ⟨s,p,B⟩:=jF Try.underlying3 ⟨(xs[1]'(by omega)).2,j⟩;simp at q p;subst q;subst p
  exact ⟨_,(t,s),dm (dm rfl),.cons (.v _) (.cons (.v _) .nil),wf_i64 C,wf_i64 B⟩)
 rw [Fh]at i;exact ⟨v,r,A,i,CN w (by decide+kernel),z⟩
theorem zt (n:Nat) (cs:List Value) (d:DataW T) (h:Rd enc Try.prog W n 25 cs d) (S:sg Try.prog 25 d):∃l s,al W.heap.size cs=some l∧dV (F0 W) (H0 W) (aa s) l∧mH s:=by
 obtain ⟨r,m,X,c⟩:=qm Try.underlying25 h S;rw [cY]at r;obtain ⟨c0,c1,c2,c3,c4,c5,rfl⟩:=CO r;obtain ⟨d0,j,x⟩:=c 0 _ rfl;obtain ⟨d1,i,w⟩:=c 1 _ rfl;obtain ⟨d2,h2,q⟩:=c 2 _ rfl;obtain ⟨d3,g,p⟩:=c 3 _ rfl;obtain ⟨Z,f,o⟩:=c 4 _ rfl;obtain ⟨Y,e,k⟩:=c 5 _ rfl;simp only [List.getElem_toArray,List.getElem_cons_zero,List.getElem_cons_succ]at j i h2 g f e x w q p o k;rw [cI]at j i;rw [NH]at h2 g f;rw [Ik]at e;obtain ⟨a,u,V⟩:=jF Try.underlying3 j;obtain ⟨b,t,U⟩:=jF Try.underlying3 i;obtain ⟨B,N,J,F,R⟩:=lB (by simpa using h2) q;obtain ⟨A,M,I,E,Q⟩:=lB (by simpa using g) p;obtain ⟨z,L,H,D,P⟩:=lB (by simpa using f) o;obtain ⟨y,K,G,C,O⟩:=tc (by simpa using e) k;simp at u t;subst u;subst t;exact ⟨[.int .i64 a,.int .i64 b,B,A,z,y],⟨a,b,N,M,L,K⟩,dm (dm (eW J (eW I (eW H G)))),.cons (.v _) (.cons (.v _) (.cons F (.cons E (.cons D (.cons C .nil))))),⟨wf_i64 V,wf_i64 U,R,Q,P,O⟩⟩
end
end P
set_option maxHeartbeats 2000000
namespace P
open Go Go.RowKit
def j7 (P:Nat→Bool):Nat→Bool
 |0=>true
 |n+1=>j7 P n&&P n
theorem cZ {P:Nat→Bool}:∀{n:Nat},j7 P n=true↔∀i,i<n→P i=true
 |0=>by simp [j7]
 |n+1=>by
  rw [j7,OK,cZ];refine ⟨fun⟨a,b⟩ i hi=>?_,fun h=>⟨fun i hi=>h i (by omega),h n (by omega)⟩⟩;by_cases e:i=n
  ·subst e;exact b
  ·exact a i (by omega)
theorem n4 {P:Nat→Bool} {n i:Nat} (hi:i<n) (h:P i=false):j7 P n=false:=by
 cases e:j7 P n with
 |false=>rfl
 |true=>rw [cZ.1 e i hi]at h;cases h
theorem cK {P:Nat→Bool} {n:Nat} (h:j7 P n=true) (h2:P n=true):j7 P (n+1)=true:=by rw [j7,h,h2];rfl
def ij (p:Int):Bool:=decide (0≤p)&&decide (p≤4)
theorem vN (p:Int):Fz E O 26 [pi p] (pb (ij p)):=by
 refine Fz.body (F:=DH) rfl rfl rfl rfl ?_;simp (maxSteps:=9^7)-implicitDefEqProofs+contextual [-getElem?_pos,OF,DH,ij]
theorem CP {p:Int} (h:0≤p∧p≤8):ba .shl (.int .i64 1) (.int .u64 p)=some (.int .i64 (2^p.toNat)):=by
 have:p=0∨p=1∨p=2∨p=3∨p=4∨p=5∨p=6∨p=7∨p=8:=by omega
 rcases this with rfl|rfl|rfl|rfl|rfl|rfl|rfl|rfl|rfl<;>rfl
def iM (p:Int) (l:List Int) (i:Nat):Bool:=decide (0≤l.getD i 0)&&decide (l.getD i 0<2^p.toNat)
def fP (p:Int) (l:List Int):Bool:=j7 (iM p l) l.length&&decide (0<l.length)
theorem zu {p:Int} {l:List Int} (r:0≤p∧p≤8) (s:l.length<2^60):Fz E O 27 [pi p,bO l] (pb (fP p l)):=by
 refine Fz.body (F:=DI) rfl rfl rfl rfl ?_;simp (maxSteps:=9^7)-implicitDefEqProofs+contextual [-getElem?_pos,OF,DI];refine a7 (fun i d h=>h=[]∧j7 (iM p l) i=true∧d.get 0=pi p∧d.get 1=bO l∧d.get 5=pi i) l.length ?_ ?_
 ·exact ⟨rfl,rfl,by simp,by simp,by simp⟩
 rintro i d h hi ⟨rfl,o,b,a,f⟩;by_cases h:i<l.length
 ·obtain ⟨x,c⟩:∃x,l[i]?=some x:=⟨_,OG h⟩
  have m:l.getD i 0=x:=by rw [List.getD_eq_getElem?_getD,c];rfl
  have q:IntKind.i64.wrap ((i:Int)+1)=((i+1:Nat):Int):=aj ⟨by omega,by omega⟩;have j:IntKind.u64.wrap p=p:=by rw [IntKind.wrap_u64];omega
  have k:=CP r;by_cases g:x<0
  ·have e:fP p l=false:=by rw [fP,n4 h (by rw [iM,m];simp;omega)];rfl
   simp (maxSteps:=9^7)-implicitDefEqProofs [-getElem?_pos,OF,b,a,f,h,aI,c,j,k,g,e]
  by_cases n:2^p.toNat≤x
  ·have e:fP p l=false:=by rw [fP,n4 h (by rw [iM,m];simp;omega)];rfl
   simp (maxSteps:=9^7)-implicitDefEqProofs [-getElem?_pos,OF,b,a,f,h,aI,c,j,k,g,n,e]
  ·simp (maxSteps:=9^7)-implicitDefEqProofs [-getElem?_pos,OF,b,a,f,h,aI,c,j,k,g,n,q]
   exact .for h ⟨rfl,cK o (by rw [iM,m];simp;omega),by simp [b],by simp [a],by simp⟩
 ·obtain rfl:i=l.length:=by omega
  simp (maxSteps:=9^7)-implicitDefEqProofs+contextual [-getElem?_pos,OF,b,a,f,fP,o]
def gQ (n:Int) (l:List Int) (i:Nat):Bool:=decide (0≤l.getD i 0)&&decide (l.getD i 0<n)&&(decide (i=0)||decide (l.getD (i- 1) 0<l.getD i 0))
def fb (n:Int) (l:List Int):Bool:=j7 (gQ n l) l.length
theorem aU {α:Type} {l:List α} {i:Nat} {x d:α} (h:l[i]?=some x):l.getD i d=x:=by rw [List.getD_eq_getElem?_getD,h];rfl
theorem ik {n:Int} {l:List Int} {i:Nat} {x:Int} (a:l[i]?=some x) (h:x<0∨n≤x∨(0<i∧x≤l.getD (i- 1) 0)):fb n l=false:=by
 refine n4 (i:=i) (ON.1 a).1 ?_;rw [gQ,aU a];simp only [Bool.and_eq_false_iff,decide_eq_false_iff_not,Bool.or_eq_false_iff];omega
theorem iZ {n:Int} {l:List Int} {i:Nat} {x:Int} (a:l[i]?=some x) (c:0≤x) (b:x<n) (h2:i=0∨l.getD (i- 1) 0<x):gQ n l i=true:=by
 rw [gQ,aU a];simp only [OK,OT,Bool.or_eq_true];omega
theorem mI {n:Int} {l:List Int} (u:l.length<2^60):Fz E O 28 [bO l,pi n] (pb (fb n l)):=by
 refine Fz.body (F:=DJ) rfl rfl rfl rfl ?_;simp (maxSteps:=9^7)-implicitDefEqProofs+contextual [-getElem?_pos,OF,DJ];refine a7 (fun i m h=>h=[]∧j7 (gQ n l) i=true∧m.get 0=bO l∧m.get 1=pi n∧m.get 5=pi i) l.length ?_ ?_
 ·exact ⟨rfl,rfl,by simp,by simp,by simp⟩
 rintro i m h hi ⟨rfl,p,c,b,f⟩;by_cases h:i<l.length
 ·obtain ⟨x,a⟩:∃x,l[i]?=some x:=⟨_,OG h⟩
  have s:IntKind.i64.wrap ((i:Int)+1)=((i+1:Nat):Int):=aj ⟨by omega,by omega⟩;by_cases d:x<0
  ·have e:=ik (n:=n) a (.inl d)
   simp (maxSteps:=9^7)-implicitDefEqProofs [-getElem?_pos,OF,c,b,f,h,aI,a,d,e]
  by_cases g:n≤x
  ·have e:=ik (n:=n) a (.inr (.inl g))
   simp (maxSteps:=9^7)-implicitDefEqProofs [-getElem?_pos,OF,c,b,f,h,aI,a,d,g,e]
  by_cases k:0<i
  ·obtain ⟨y,o⟩:∃y,l[i- 1]?=some y:=⟨_,OG (by omega)⟩
   have r:IntKind.i64.wrap ((i:Int)- 1)=((i- 1:Nat):Int):=by rw [aj ⟨by omega,by omega⟩];omega
   have v:l.getD (i- 1) 0=y:=aU o;have t:i- 1<l.length:=by omega
   have j:(0:Int)<i:=by omega
   by_cases q:x≤y
   ·have e:=ik (n:=n) a (.inr (.inr ⟨k,by omega⟩))
    simp (maxSteps:=9^7)-implicitDefEqProofs [-getElem?_pos,OF,c,b,f,h,aI,a,d,g,k,j,r,t,o,q,e]
   ·simp (maxSteps:=9^7)-implicitDefEqProofs [-getElem?_pos,OF,c,b,f,h,aI,a,d,g,k,j,r,t,o,q,s]
    exact .for h ⟨rfl,cK p (iZ a (by omega) (by omega) (by omega)),by simp [c],by simp [b],by simp⟩
  ·have j:¬ (0:Int)<i:=by omega
   simp (maxSteps:=9^7)-implicitDefEqProofs [-getElem?_pos,OF,c,b,f,h,aI,a,d,g,k,j,s];exact .for h ⟨rfl,cK p (iZ a (by omega) (by omega) (by omega)),by simp [c],by simp [b],by simp⟩
 ·obtain rfl:i=l.length:=by omega
  simp (maxSteps:=9^7)-implicitDefEqProofs+contextual [-getElem?_pos,OF,c,b,f,fb,p]
theorem mJ {n:Int} {l:List Int} (w:l.length<2^60):Fz E O 29 [bO l,pi n] (pb (fb n l)):=by
 refine Fz.body (F:=DK) rfl rfl rfl rfl ?_;simp (maxSteps:=9^7)-implicitDefEqProofs+contextual [-getElem?_pos,OF,DK];refine a7 (fun i j h=>h=[]∧j7 (gQ n l) i=true∧j.get 0=bO l∧j.get 1=pi n∧j.get 7=bO l∧j.get 8=pi l.length∧j.get 9=pi i) l.length ?_ ?_
 ·exact ⟨rfl,rfl,by simp,by simp,by simp,by simp,by simp⟩
 rintro i j h hi ⟨rfl,r,f,d,c,b,k⟩;by_cases h:i<l.length
 ·obtain ⟨x,a⟩:∃x,l[i]?=some x:=⟨_,OG h⟩
  have u:IntKind.i64.wrap ((i:Int)+1)=((i+1:Nat):Int):=aj ⟨by omega,by omega⟩;by_cases g:x<0
  ·have e:=ik (n:=n) a (.inl g)
   simp (maxSteps:=9^7)-implicitDefEqProofs [-getElem?_pos,OF,f,d,c,b,k,h,aI,a,g,e]
  by_cases m:n≤x
  ·have e:=ik (n:=n) a (.inr (.inl m))
   simp (maxSteps:=9^7)-implicitDefEqProofs [-getElem?_pos,OF,f,d,c,b,k,h,aI,a,g,m,e]
  by_cases p:0<i
  ·obtain ⟨y,q⟩:∃y,l[i- 1]?=some y:=⟨_,OG (by omega)⟩
   have t:IntKind.i64.wrap ((i:Int)- 1)=((i- 1:Nat):Int):=by rw [aj ⟨by omega,by omega⟩];omega
   have z:l.getD (i- 1) 0=y:=aU q;have v:i- 1<l.length:=by omega
   have o:(0:Int)<i:=by omega
   by_cases s:x≤y
   ·have e:=ik (n:=n) a (.inr (.inr ⟨p,by omega⟩))
    simp (maxSteps:=9^7)-implicitDefEqProofs [-getElem?_pos,OF,f,d,c,b,k,h,aI,a,g,m,p,o,t,v,q,s,e]
   ·simp (maxSteps:=9^7)-implicitDefEqProofs [-getElem?_pos,OF,f,d,c,b,k,h,aI,a,g,m,p,o,t,v,q,s,u]
    exact .for h ⟨rfl,cK r (iZ a (by omega) (by omega) (by omega)),by simp [f],by simp [d],by simp [c],by simp [b],by simp⟩
  ·have o:¬ (0:Int)<i:=by omega
   simp (maxSteps:=9^7)-implicitDefEqProofs [-getElem?_pos,OF,f,d,c,b,k,h,aI,a,g,m,p,o,u];exact .for h ⟨rfl,cK r (iZ a (by omega) (by omega) (by omega)),by simp [f],by simp [d],by simp [c],by simp [b],by simp⟩
 ·obtain rfl:i=l.length:=by omega
  simp (maxSteps:=9^7)-implicitDefEqProofs+contextual [-getElem?_pos,OF,f,d,c,b,k,fb,r]
set_option maxHeartbeats 1000000
open Go Go.RowKit
def gR:List Int→List Int→Int
 |[],[]=>0
 |[],_::_=>-1
 |_::_,[]=>1
 |a::l,b::m=>if a<b then-1 else if b<a then 1 else gR l m
theorem pz (a:Int):Fz E O 82 [pi a] (pb false):=by
 refine Fz.body (F:=D6) rfl rfl rfl rfl ?_;simp (maxSteps:=9^7)-implicitDefEqProofs+contextual [-getElem?_pos,OF,D6]
theorem CQ (a b:Int):Fz E O 76 [pi a,pi b] (pi (if a<b then-1 else if b<a then 1 else 0)):=by
 refine Fz.body (F:=D3) rfl rfl rfl rfl ?_;simp (maxSteps:=9^7)-implicitDefEqProofs+contextual [-getElem?_pos,OF,D3];refine aD (pz a) ?_ ?_ ?_
 iterate 2· simp (maxDischargeDepth:=8)-implicitDefEqProofs [-getElem?_pos,OF]
 simp (maxSteps:=9^7)-implicitDefEqProofs+contextual [-getElem?_pos,OF];refine aD (pz b) ?_ ?_ ?_
 iterate 2· simp (maxDischargeDepth:=8)-implicitDefEqProofs [-getElem?_pos,OF]
 by_cases c:a<b
 ·simp (maxSteps:=9^7)-implicitDefEqProofs [-getElem?_pos,OF,c]
 ·by_cases h2:b<a
  ·simp (maxSteps:=9^7)-implicitDefEqProofs [-getElem?_pos,OF,c,h2]
  ·simp (maxSteps:=9^7)-implicitDefEqProofs [-getElem?_pos,OF,c,h2]
theorem qw {l m:List Int} (s:l.length<2^60) (r:m.length<2^60):Fz E O 61 [bO l,bO m] (pi (gR l m)):=by
 refine Fz.body (F:=DW) rfl rfl rfl rfl ?_;simp (maxSteps:=9^7)-implicitDefEqProofs+contextual [-getElem?_pos,OF,DW];refine a7 (fun i e h=>h=[]∧i≤m.length∧gR (l.drop i) (m.drop i)=gR l m∧e.get 0=bO l∧e.get 1=bO m∧e.get 9=bO l∧e.get 10=pi l.length∧e.get 11=pi i) l.length ?_ ?_
 ·exact ⟨rfl,by omega,rfl,by simp,by simp,by simp,by simp,by simp⟩
 rintro i e h hi ⟨rfl,t,a,d,c,b,f10,f11⟩;by_cases h:i<l.length
 ·obtain ⟨x,f⟩:∃x,l[i]?=some x:=⟨_,OG h⟩
  have n:IntKind.i64.wrap ((i:Int)+1)=((i+1:Nat):Int):=aj ⟨by omega,by omega⟩;have q:l.drop i=x::l.drop (i+1):=by rw [List.drop_eq_getElem_cons h];congr 1;exact (ON.1 f).2
  rw [q]at a;by_cases h2:i<m.length
  ·obtain ⟨y,g⟩:∃y,m[i]?=some y:=⟨_,OG h2⟩
   have p:m.drop i=y::m.drop (i+1):=by rw [List.drop_eq_getElem_cons h2];congr 1;exact (ON.1 g).2
   rw [p,gR]at a;have o:¬ (m.length:Int)≤i:=by omega
   simp (maxSteps:=9^7)-implicitDefEqProofs [-getElem?_pos,OF,d,c,b,f10,f11,h,h2,o,aI,f,g];refine aD (CQ x y) ?_ ?_ ?_
   iterate 2· simp (maxDischargeDepth:=8)-implicitDefEqProofs [-getElem?_pos,OF]
   by_cases k:x<y
   ·rw [if_pos k]at a⊢
    simp (maxSteps:=9^7)-implicitDefEqProofs [-getElem?_pos,OF,d,c,b,f10,f11,a.symm]
   ·rw [if_neg k]at a⊢
    by_cases j:y<x
    ·rw [if_pos j]at a⊢
     simp (maxSteps:=9^7)-implicitDefEqProofs [-getElem?_pos,OF,d,c,b,f10,f11,a.symm]
    ·rw [if_neg j]at a⊢
     simp (maxSteps:=9^7)-implicitDefEqProofs [-getElem?_pos,OF,d,c,b,f10,f11,n];exact .for h ⟨rfl,by omega,a,by simp [d],by simp [c],by simp [b],by simp [f10],by simp⟩
  ·obtain rfl:i=m.length:=by omega
   rw [List.drop_length,gR]at a;simp (maxSteps:=9^7)-implicitDefEqProofs [-getElem?_pos,OF,d,c,b,f10,f11,h,aI,f,a]
 ·obtain rfl:i=l.length:=by omega
  rw [List.drop_length]at a;by_cases h2:l.length<m.length
  ·have:gR l m=-1:=by
    rw [←a,List.drop_eq_getElem_cons h2,gR]
   simp (maxSteps:=9^7)-implicitDefEqProofs [-getElem?_pos,OF,d,c,b,f10,f11,h2,this]
  ·have:gR l m=0:=by
    rw [←a,List.drop_eq_nil_of_le (by omega),gR]
   simp (maxSteps:=9^7)-implicitDefEqProofs [-getElem?_pos,OF,d,c,b,f10,f11,h2,this]
theorem vO {A:Nat→Prop} {h:PH} {b z:Nat} {l:List Int} (a:0<z) (d:A b) (c:h[b]?=some (.cells z (l.map pi))):Vz A h (.sl 1 b 0 l.length l.length) (bO l):=
 sT d c (by simp) Nat.one_pos a (OL _) (by simp) (by simp [ir]) (by simp only [Nat.zero_mul,List.drop_zero];rw [OO (by simp),px];exact eB (by simp [AG]))
theorem pA {A:Nat→Prop} {a:Nat→Nat} {h e:PH} {b:Nat} {x y:Int} (d:A b) (c:h[b]?=some (.cells 2 [pi x,pi y])):Vg A a h e (.sl 1 b 0 2 2) (bO [x,y]):=jL (vO (l:=[x,y]) (z:=2) (by omega) d c)
def lexB (x y:Int×Int):Bool:=decide (x.1<y.1)||(decide (x.1=y.1)&&decide (x.2<y.2))
def qx (x y:Int×Int):Int:=gR [x.1,x.2] [y.1,y.2]
theorem pB {x y:Int×Int}:qx x y<0↔lexB x y=true:=by
 unfold qx gR lexB gR gR;simp;split
 ·simp;omega
 ·split
  ·simp;omega
  ·split
   ·simp;omega
   ·split<;>simp<;>omega
theorem td (x y:Int×Int):Fz E O 30 [.agg [pi x.1,pi x.2],.agg [pi y.1,pi y.2]] (pi (qx x y)):=by
 refine Fz.body (F:=DL) rfl rfl rfl rfl ?_;simp (maxSteps:=9^7)-implicitDefEqProofs+contextual [-getElem?_pos,OF,DL];refine s8 [0,1] (qw (l:=[x.1,x.2]) (m:=[y.1,y.2]) (by simp) (by simp)) ?_ ?_
 ·exact ⟨pA (by simp) rfl,pA (by simp) rfl,trivial⟩
 simp (maxSteps:=9^7)-implicitDefEqProofs+contextual [-getElem?_pos,OF,qx]
end P
namespace P
open Go Go.RowKit
def fG (s:Sy) (i:Nat):Bool:=
 decide (0≤(s.nx.getD i (0,0)).1)&&decide ((s.nx.getD i (0,0)).1<s.n)&&(decide (0≤(s.nx.getD i (0,0)).2)&&decide ((s.nx.getD i (0,0)).2<s.n))&&(decide (i=0)||lexB (s.nx.getD (i- 1) (0,0)) (s.nx.getD i (0,0)))
structure mK (s:Sy):Prop where
 n:1≤s.n∧s.n≤256
 p:0≤s.p∧s.p≤4
 len:(s.lab.length:Int)=s.n
 lab:j7 (iM s.p s.lab) s.lab.length=true
 st:fb s.n s.st=true
 en:fb s.n s.en=true
 nl:s.nx.length≤200000
 nx:j7 (fG s) s.nx.length=true
def qQ (s:Sy):Bool:=decide (1≤s.n∧s.n≤256)&&decide (0≤s.p∧s.p≤4)&&decide ((s.lab.length:Int)=s.n)&&j7 (iM s.p s.lab) s.lab.length&&fb s.n s.st&&fb s.n s.en&&decide (s.nx.length≤200000)&&j7 (fG s) s.nx.length
theorem gT {s:Sy}:qQ s=true↔mK s:=by
 unfold qQ;simp only [OK,OT];exact ⟨fun⟨⟨⟨⟨⟨⟨⟨a,b⟩,c⟩,d⟩,e⟩,f⟩,g⟩,h⟩=>⟨a,b,c,d,e,f,g,h⟩,fun⟨a,b,c,d,e,f,g,h⟩=>⟨⟨⟨⟨⟨⟨⟨a,b⟩,c⟩,d⟩,e⟩,f⟩,g⟩,h⟩⟩
theorem bL {s:Sy} (h:¬ mK s):qQ s=false:=by
 cases e:qQ s with
 |false=>rfl
 |true=>exact absurd (gT.1 e) h
theorem aG (l:List (Int×Int)) (i:Nat):(iY l)[i]?=(l[i]?).map fun x=>[pi x.1,pi x.2]:=by simp [iY]
theorem xh {s:Sy} {i:Nat} {x:Int×Int} (a:s.nx[i]?=some x) (h:fG s i=false):qQ s=false:=bL fun k=>by
 have:=cZ.1 k.nx i (ON.1 a).1;rw [h]at this;cases this
def YL (s:Sy) (i:Nat):List (Nat×PV):=[(1,.ref 0 0 6),(3,pi i)]
def YI (s:Sy) (i:Nat) (fr:PF) (h:PH):Prop:=h=[.cells 6 (aa s)]∧j7 (fG s) i=true∧fr.get 1= .ref 0 0 6∧fr.get 3=pi i
theorem zw {s:Sy} (ok:mH s):Fz E O 9 [.agg (aa s)] (pb (qQ s)):=by
 refine ek.body (F:=a9) rfl rfl rfl ?_;simp (maxSteps:=9^7)-implicitDefEqProofs+contextual [-getElem?_pos,OF,a9,aa];by_cases J:s.n<1
 ·have e:=bL (s:=s) fun k=>by have:=k.n;omega
  simp (maxSteps:=9^7)-implicitDefEqProofs [-getElem?_pos,OF,J,e];refine ae ?_;simp
 by_cases Q:256<s.n
 ·have e:=bL (s:=s) fun k=>by have:=k.n;omega
  simp (maxSteps:=9^7)-implicitDefEqProofs [-getElem?_pos,OF,J,Q,e];refine ae ?_;simp
 simp (maxSteps:=9^7)-implicitDefEqProofs [-getElem?_pos,OF,J,Q];refine aD (vN s.p) ?_ ?_ ?_
 iterate 2· simp (maxDischargeDepth:=8)-implicitDefEqProofs [-getElem?_pos,OF]
 by_cases K:0≤s.p∧s.p≤4
 case neg=>
  have e:=bL (s:=s) fun k=>K k.p
  have D:ij s.p=false:=by simp [ij];omega
  simp (maxSteps:=9^7)-implicitDefEqProofs [-getElem?_pos,OF,e,D];refine ae ?_;simp
 have D:ij s.p=true:=by simp [ij];omega
 by_cases A:(s.lab.length:Int)=s.n
 case neg=>
  have e:=bL (s:=s) fun k=>A k.len
  simp (maxSteps:=9^7)-implicitDefEqProofs [-getElem?_pos,OF,e,D,A];refine ae ?_;simp
 simp (maxSteps:=9^7)-implicitDefEqProofs [-getElem?_pos,OF,D,A];refine aD (zu (l:=s.lab) ⟨K.1,by omega⟩ ok.lab.1) ?_ ?_ ?_
 iterate 2· simp (maxDischargeDepth:=8)-implicitDefEqProofs [-getElem?_pos,OF]
 by_cases z:j7 (iM s.p s.lab) s.lab.length=true
 case neg=>
  have e:=bL (s:=s) fun k=>z k.lab
  have N:fP s.p s.lab=false:=by simp [fP,z]
  simp (maxSteps:=9^7)-implicitDefEqProofs [-getElem?_pos,OF,e,N];refine ae ?_;simp
 have N:fP s.p s.lab=true:=by simp [fP,z];omega
 simp (maxSteps:=9^7)-implicitDefEqProofs [-getElem?_pos,OF,N];refine aD (mI (n:=s.n) ok.st.1) ?_ ?_ ?_
 iterate 2· simp (maxDischargeDepth:=8)-implicitDefEqProofs [-getElem?_pos,OF]
 cases S:fb s.n s.st with
 |false=>
  have e:=bL (s:=s) fun k=>by have:=k.st;rw [S]at this;cases this
  simp (maxSteps:=9^7)-implicitDefEqProofs [-getElem?_pos,OF,e];refine ae ?_;simp
 |true=>
 simp (maxSteps:=9^7)-implicitDefEqProofs [-getElem?_pos,OF];refine aD (mI (n:=s.n) ok.en.1) ?_ ?_ ?_
 iterate 2· simp (maxDischargeDepth:=8)-implicitDefEqProofs [-getElem?_pos,OF]
 cases h2:fb s.n s.en with
 |false=>
  have e:=bL (s:=s) fun k=>by have:=k.en;rw [h2]at this;cases this
  simp (maxSteps:=9^7)-implicitDefEqProofs [-getElem?_pos,OF,e];refine ae ?_;simp
 |true=>
 by_cases Z:200000<s.nx.length
 ·have e:=bL (s:=s) fun k=>by have:=k.nl;omega
  have M:(200000:Int)<s.nx.length:=by omega
  simp (maxSteps:=9^7)-implicitDefEqProofs [-getElem?_pos,OF,e,M,bK];refine ae ?_;simp
 have M:¬ (200000:Int)<s.nx.length:=by omega
 simp (maxSteps:=9^7)-implicitDefEqProofs [-getElem?_pos,OF,M,bK];refine a7 (YI s) s.nx.length ⟨rfl,rfl,by simp,by simp⟩ ?_;rintro i v h hi ⟨rfl,R,a,d⟩;by_cases h:i<s.nx.length
 ·obtain ⟨⟨m,r⟩,c⟩:∃x,s.nx[i]?=some x:=⟨_,OG h⟩
  have I:IntKind.i64.wrap ((i:Int)+1)=((i+1:Nat):Int):=aj ⟨by omega,by omega⟩;have B:s.nx.getD i (0,0)=(m,r):=aU c;have no:=xh c;rw [fG,B]at no;by_cases f:m<0
  ·have e:=no (by simp;omega)
   simp (maxSteps:=9^7)-implicitDefEqProofs [-getElem?_pos,OF,a,d,h,aa,bK,aG,c,f,e];refine ae ?_;simp
  by_cases g:s.n≤m
  ·have e:=no (by simp;omega)
   simp (maxSteps:=9^7)-implicitDefEqProofs [-getElem?_pos,OF,a,d,h,aa,bK,aG,c,f,g,e];refine ae ?_;simp
  by_cases j:r<0
  ·have e:=no (by simp;omega)
   simp (maxSteps:=9^7)-implicitDefEqProofs [-getElem?_pos,OF,a,d,h,aa,bK,aG,c,f,g,j,e];refine ae ?_;simp
  by_cases q:s.n≤r
  ·have e:=no (by simp;omega)
   simp (maxSteps:=9^7)-implicitDefEqProofs [-getElem?_pos,OF,a,d,h,aa,bK,aG,c,f,g,j,q,e];refine ae ?_;simp
  have fin:∀v:PF,v.get 1= .ref 0 0 6→v.get 3=pi ((i+1:Nat):Int)→fG s i=true→zg 0 (nT (YI s) s.nx.length) (s.nx.length- i) v [.cells 6 (aa s),.cells 2 [pi m,pi r]]:=fun v U T X=>by
   refine .iL h (a6 (h2:=[.cells 6 (aa s)]) [0] (YL s (i+1)) ?_ ?_ ?_ ?_ ?_ ?_) ⟨rfl,cK R X,by simp [YL],by simp [YL]⟩
   ·simp [YL,aa,U,T]
   iterate 2· simp
   ·intro b Y;omega
   iterate 2· simp (maxDischargeDepth:=8)-implicitDefEqProofs [aq,OF,YL,aa,U,T]
  by_cases t:0<i
  ·obtain ⟨⟨H,P⟩,u⟩:∃y,s.nx[i- 1]?=some y:=⟨_,OG (by omega)⟩
   have w:IntKind.i64.wrap ((i:Int)- 1)=((i- 1:Nat):Int):=by rw [aj ⟨by omega,by omega⟩];omega
   have C:i- 1<s.nx.length:=by omega
   have o:(0:Int)<i:=by omega
   have L:s.nx.getD (i- 1) (0,0)=(H,P):=aU u;rw [L]at no;by_cases G:m<H
   ·have e:=no (by simp [lexB];omega)
    simp (maxSteps:=9^7)-implicitDefEqProofs [-getElem?_pos,OF,a,d,h,aa,bK,aG,c,f,g,j,q,t,o,w,C,u,G,e];refine ae ?_;simp
   by_cases W:m=H
   ·subst W
    by_cases V:r≤P
    ·have e:=no (by simp [lexB];omega)
     simp (maxSteps:=9^7)-implicitDefEqProofs [-getElem?_pos,OF,a,d,h,aa,bK,aG,c,f,g,j,q,t,o,w,C,u,G,V,e];refine ae ?_;simp
    ·simp (maxSteps:=9^7)-implicitDefEqProofs [-getElem?_pos,OF,a,d,h,aa,bK,aG,c,f,g,j,q,t,o,w,C,u,G,V,I]
     exact fin _ (by simp [a]) (by simp) (by rw [fG,B,L];simp [lexB];omega)
   ·simp (maxSteps:=9^7)-implicitDefEqProofs [-getElem?_pos,OF,a,d,h,aa,bK,aG,c,f,g,j,q,t,o,w,C,u,G,W,I]
    exact fin _ (by simp [a]) (by simp) (by rw [fG,B,L];simp [lexB];omega)
  ·have o:¬ (0:Int)<i:=by omega
   simp (maxSteps:=9^7)-implicitDefEqProofs [-getElem?_pos,OF,a,d,h,aa,bK,aG,c,f,g,j,q,t,o,I];exact fin _ (by simp [a]) (by simp) (by rw [fG,B];simp;omega)
 ·obtain rfl:i=s.nx.length:=by omega
  have e:qQ s=true:=gT.2 {n:=by omega,p:=K,len:=A,lab:=z,st:=S,en:=h2,nl:=by omega,nx:=R};simp (maxSteps:=9^7)-implicitDefEqProofs [-getElem?_pos,OF,a,d,aa,bK,e];refine ae ?_;simp
theorem CS {p:Int} (h:0≤p∧p≤8):ba .shl (.int .i64 1) (.int .i64 p)=some (.int .i64 (2^p.toNat)):=by
 have:p=0∨p=1∨p=2∨p=3∨p=4∨p=5∨p=6∨p=7∨p=8:=by omega
 rcases this with rfl|rfl|rfl|rfl|rfl|rfl|rfl|rfl|rfl<;>rfl
def kd (s:Sy):Int:=if qQ s=true then 0 else 250
def zx (s:Sy) (i:Nat):List (Nat×PV):=[(1,.ref 0 0 6),(72,bK s.nx),(73,pi s.nx.length),(74,pi i)]
def KO (s:Sy) (i:Nat) (fr:PF) (h:PH):Prop:=h=[.cells 6 (aa s)]∧j7 (fG s) i=true∧fr.get 1= .ref 0 0 6∧fr.get 72=bK s.nx∧fr.get 73=pi s.nx.length∧fr.get 74=pi i
theorem pC {s:Sy} (ok:mH s):Fz E O 10 [.agg (aa s)] (pi (kd s)):=by
 refine ek.body (F:=tT) rfl rfl rfl ?_;have bad:qQ s=false→kd s=250:=fun h=>by simp [kd,h]
 by_cases g:s.n<1
 ·have e:=bad (bL fun k=>by have:=k.n;omega)
  simp (maxSteps:=9^7)-implicitDefEqProofs [-getElem?_pos,OF,tT,aa,g,e];refine ae ?_;simp
 by_cases o:256<s.n
 ·have e:=bad (bL fun k=>by have:=k.n;omega)
  simp (maxSteps:=9^7)-implicitDefEqProofs [-getElem?_pos,OF,tT,aa,g,o,e];refine ae ?_;simp
 by_cases v:s.p<0
 ·have e:=bad (bL fun k=>by have:=k.p;omega)
  simp (maxSteps:=9^7)-implicitDefEqProofs [-getElem?_pos,OF,tT,aa,g,o,v,e];refine ae ?_;simp
 by_cases D:4<s.p
 ·have e:=bad (bL fun k=>by have:=k.p;omega)
  simp (maxSteps:=9^7)-implicitDefEqProofs [-getElem?_pos,OF,tT,aa,g,o,v,D,e];refine ae ?_;simp
 by_cases r:(s.lab.length:Int)=s.n
 case neg=>
  have e:=bad (bL fun k=>r k.len);simp (maxSteps:=9^7)-implicitDefEqProofs [-getElem?_pos,OF,tT,aa,g,o,v,D,e,r];refine ae ?_;simp
 by_cases h3:200000<s.nx.length
 ·have e:=bad (bL fun k=>by have:=k.nl;omega)
  have J:(200000:Int)<s.nx.length:=by omega
  simp (maxSteps:=9^7)-implicitDefEqProofs [-getElem?_pos,OF,tT,aa,g,o,v,D,r,e,J,bK];refine ae ?_;simp
 have J:¬ (200000:Int)<s.nx.length:=by omega
 simp (maxSteps:=9^7)-implicitDefEqProofs [-getElem?_pos,OF,tT,aa,g,o,v,D,r,J,bK];refine a7 (fun i d h=>h=[.cells 6 (aa s)]∧j7 (iM s.p s.lab) i=true∧d.get 1= .ref 0 0 6∧d.get 41=bO s.lab∧d.get 42=pi s.n∧d.get 43=pi i) s.lab.length ⟨rfl,rfl,by simp,by simp,by simp,by simp⟩ ?_;rintro i d h hi ⟨rfl,N,a,f41,f42,f43⟩;by_cases h:i<s.lab.length
 ·obtain ⟨x,f⟩:∃x,s.lab[i]?=some x:=⟨_,OG h⟩
  have t:s.lab.getD i 0=x:=aU f;have w:(i:Int)<s.n:=by omega
  have C:IntKind.i64.wrap ((i:Int)+1)=((i+1:Nat):Int):=aj ⟨by omega,by omega⟩;have P:=CS (p:=s.p) ⟨by omega,by omega⟩
  have no:iM s.p s.lab i=false→kd s=250:=fun q=>bad (bL fun k=>by
   have:=cZ.1 k.lab i h;rw [q]at this
   cases this)
  rw [iM,t]at no;by_cases B:x<0
  ·have e:=no (by simp;omega)
   simp (maxSteps:=9^7)-implicitDefEqProofs [-getElem?_pos,OF,a,f41,f42,f43,h,w,aa,aI,f,B,e];refine ae ?_;simp
  by_cases H:2^s.p.toNat≤x
  ·have e:=no (by simp;omega)
   simp (maxSteps:=9^7)-implicitDefEqProofs [-getElem?_pos,OF,a,f41,f42,f43,h,w,aa,aI,f,B,H,P,e];refine ae ?_;simp
  ·simp (maxSteps:=9^7)-implicitDefEqProofs [-getElem?_pos,OF,a,f41,f42,f43,h,w,aa,aI,f,B,H,P,C]
   exact .for h ⟨rfl,cK N (by rw [iM,t];simp;omega),by simp [a],by simp [f41],by simp [f42],by simp⟩
 obtain rfl:i=s.lab.length:=by omega
 have w:¬ (s.lab.length:Int)<s.n:=by omega
 simp (maxSteps:=9^7)-implicitDefEqProofs [-getElem?_pos,OF,a,f41,f42,f43,w,r,aa];refine aD (mJ (n:=s.n) ok.st.1) ?_ ?_ ?_
 iterate 2· simp (maxDischargeDepth:=8)-implicitDefEqProofs [-getElem?_pos,OF]
 cases R:fb s.n s.st with
 |false=>
  have e:=bad (bL fun k=>by have:=k.st;rw [R]at this;cases this);simp (maxSteps:=9^7)-implicitDefEqProofs [-getElem?_pos,OF,e];refine ae ?_;simp
 |true=>
 simp (maxSteps:=9^7)-implicitDefEqProofs [-getElem?_pos,OF,a];refine aD (mJ (n:=s.n) ok.en.1) ?_ ?_ ?_
 iterate 2· simp (maxDischargeDepth:=8)-implicitDefEqProofs [-getElem?_pos,OF]
 cases h2:fb s.n s.en with
 |false=>
  have e:=bad (bL fun k=>by have:=k.en;rw [h2]at this;cases this);simp (maxSteps:=9^7)-implicitDefEqProofs [-getElem?_pos,OF,e];refine ae ?_;simp
 |true=>
 simp (maxSteps:=9^7)-implicitDefEqProofs [-getElem?_pos,OF,a,bK];refine a7 (KO s) s.nx.length ⟨rfl,rfl,by simp [a],by simp [bK],by simp,by simp⟩ ?_;clear a f41 f42 f43 d h;rintro i d h hi ⟨rfl,M,a,f72,f73,f74⟩;by_cases h:i<s.nx.length
 ·obtain ⟨⟨x1,x2⟩,f⟩:∃x,s.nx[i]?=some x:=⟨_,OG h⟩
  have C:IntKind.i64.wrap ((i:Int)+1)=((i+1:Nat):Int):=aj ⟨by omega,by omega⟩;have t:s.nx.getD i (0,0)=(x1,x2):=aU f;have no:=fun q=>bad (xh f q)
  rw [fG,t]at no
  have fin:∀d:PF,d.get 1= .ref 0 0 6→d.get 72=bK s.nx→d.get 73=pi s.nx.length→d.get 74=pi ((i+1:Nat):Int)→fG s i=true→zg 0 (nT (KO s) s.nx.length) (s.nx.length- i) d [.cells 6 (aa s),.cells 2 [pi x1,pi x2]]:=fun d V U T S X=>by
   refine .iL h (a6 (h2:=[.cells 6 (aa s)]) [0] (zx s (i+1)) ?_ ?_ ?_ ?_ ?_ ?_) ⟨rfl,cK M X,by simp [zx],by simp [zx],by simp [zx],by simp [zx]⟩
   ·simp [zx,aa,V,U,T,S]
   iterate 2· simp
   ·intro b z;omega
   iterate 2· simp (maxDischargeDepth:=8)-implicitDefEqProofs [aq,OF,zx,aa,V,U,T,S]
  by_cases B:x1<0
  ·have e:=no (by simp;omega)
   have j:¬ 0≤x1:=by omega
   simp (maxSteps:=9^7)-implicitDefEqProofs [-getElem?_pos,OF,a,f72,f73,f74,h,aa,bK,aG,f,B,j,e];refine ae ?_;simp
  have j:0≤x1:=by omega
  by_cases H:s.n≤x1
  ·have e:=no (by simp;omega)
   have u:¬ x1<s.n:=by omega
   simp (maxSteps:=9^7)-implicitDefEqProofs [-getElem?_pos,OF,a,f72,f73,f74,h,aa,bK,aG,f,j,H,u,e];refine ae ?_;simp
  have u:x1<s.n:=by omega
  by_cases a3:x2<0
  ·have e:=no (by simp;omega)
   have A:¬ 0≤x2:=by omega
   simp (maxSteps:=9^7)-implicitDefEqProofs [-getElem?_pos,OF,a,f72,f73,f74,h,aa,bK,aG,f,j,u,a3,A,e];refine ae ?_;simp
  have A:0≤x2:=by omega
  by_cases a4:s.n≤x2
  ·have e:=no (by simp;omega)
   have G:¬ x2<s.n:=by omega
   simp (maxSteps:=9^7)-implicitDefEqProofs [-getElem?_pos,OF,a,f72,f73,f74,h,aa,bK,aG,f,j,u,A,a4,G,e];refine ae ?_;simp
  have G:x2<s.n:=by omega
  by_cases K:0<i
  ·obtain ⟨⟨m,l⟩,L⟩:∃y,s.nx[i- 1]?=some y:=⟨_,OG (by omega)⟩
   have W:IntKind.i64.wrap ((i:Int)- 1)=((i- 1:Nat):Int):=by rw [aj ⟨by omega,by omega⟩];omega
   have Y:i- 1<s.nx.length:=by omega
   have I:(0:Int)<i:=by omega
   have Q:s.nx.getD (i- 1) (0,0)=(m,l):=aU L;rw [Q]at no;simp (maxSteps:=9^7)-implicitDefEqProofs [-getElem?_pos,OF,a,f72,f73,f74,h,aa,bK,aG,f,j,u,A,G,K,I,W,Y,L];refine aD (td (m,l) (x1,x2)) ?_ ?_ ?_
   iterate 2· simp (maxDischargeDepth:=8)-implicitDefEqProofs [-getElem?_pos,OF]
   cases z:lexB (m,l) (x1,x2)with
   |false=>
    have e:=no (by simp [z];omega)
    have c:0≤qx (m,l) (x1,x2):=by
     refine Int.not_lt.1 fun q=>?_
     have:=pB.1 q;rw [z]at this;cases this
    simp (maxSteps:=9^7)-implicitDefEqProofs [-getElem?_pos,OF,c,e];refine ae ?_;simp
   |true=>
    have c:¬ 0≤qx (m,l) (x1,x2):=by
     have:=(pB (x:=(m,l)) (y:=(x1,x2))).2 z;omega
    simp (maxSteps:=9^7)-implicitDefEqProofs [-getElem?_pos,OF,c,a,f72,f73,f74,C];exact fin _ (by simp [a]) (by simp [f72]) (by simp [f73]) (by simp) (by rw [fG,t,Q];simp [z];omega)
  ·have I:¬ (0:Int)<i:=by omega
   simp (maxSteps:=9^7)-implicitDefEqProofs [-getElem?_pos,OF,a,f72,f73,f74,h,aa,bK,aG,f,j,u,A,G,K,I,C];exact fin _ (by simp [a]) (by simp [f72]) (by simp [f73]) (by simp) (by rw [fG,t];simp;omega)
 ·obtain rfl:i=s.nx.length:=by omega
  have e:qQ s=true:=gT.2 {n:=by omega,p:=by omega,len:=r,lab:=N,st:=R,en:=h2,nl:=by omega,nx:=M};have Z:kd s=0:=by simp [kd,e]
  simp (maxSteps:=9^7)-implicitDefEqProofs [-getElem?_pos,OF,a,f72,f73,f74,Z];refine ae ?_;simp
open Go Go.RowKit
theorem Fz.te {f:Nat} {args:List PV} {y:Value} (k:∀F H φ vs,H.n0≤H.nx→aZ ⟨F,H,φ,[]⟩ args vs→Ca E O f vs H (fun x d=>x=y∧Ext H d)):Fz E O f args (.v y):=by
 intro F H φ vs S g;refine (k F H φ vs S.wf g).mono ?_;rintro x d ⟨rfl,X⟩
 have T:bA 0 gf ⟨F,H,φ,[]⟩ ⟨F,d,φ,[]⟩:=⟨X.n0,X.nx,fun x c=>⟨c,X.old x (S.fz x c)⟩,fun _ _ _ h=>h,fun x c _=>X.old x c,fun b a=>absurd (aR a) (O7 _),fun _=>OL _,fun b a=>absurd a (O7 _),fun b a=>absurd a (O7 _),fun b a=>absurd a (O7 _)⟩
 exact ⟨_,[],F,φ,⟨rfl,rfl,rfl⟩,.v _,⟨X.wf S.wf,fun x c=>O4 (S.fz x c) X.nx,fun b i s=>absurd (aR s) (O7 _),fun b z cs e=>by simp at e,fun b es e=>by simp at e⟩,T⟩
theorem lC:Fz E O 11 [] (pb true):=Fz.te fun F H b c w a=>by
 cases a;exact Ca.LG (g:=fun z H=>match z with|[]=>some (.bool true,H)|_=>none) (by rfl) rfl ⟨rfl,Ext.refl _⟩
theorem Fz.NJ {f:Nat} {args:List PV} {x:Value} {W:World} {vs:List Value} (k:Fz E O f args (.v x)) (h:aZ ⟨F0 W,H0 W,id,[]⟩ args vs):Ca E O f vs (H0 W) (fun y _=>y=x):=by
 refine (k (F0 W) (H0 W) id vs (NF W id) h).mono ?_;rintro y c ⟨r,b,d,a,⟨rfl,_⟩,R,_⟩;cases R;rfl
theorem dV.arg {W:World} {ps:List PV} {l:List Value} (h:dV (F0 W) (H0 W) ps l):RV ⟨F0 W,H0 W,id,[]⟩ (.agg ps) (.agg l.toArray):=.agg (h.iJ (C:=⟨_,_,_,_⟩))
end P
namespace P
open Go Go.RowKit
def wd (N k:Nat):Nat:=N/2^(64*k)%2^64
abbrev pu (n:Nat):PV:=.v (.int .u64 n)
def sv (N:Nat):List PV:=[pu (wd N 0),pu (wd N 1),pu (wd N 2),pu (wd N 3)]
@[simp]theorem Im (N:Nat):bW (sv N)=true:=by simp [sv]
@[simp]theorem AJ (N:Nat):(sv N).length=4:=rfl
theorem cq (N k:Nat):wd N k<2^64:=Nat.mod_lt _ (by decide)
theorem jQ (N k j:Nat):(wd N k).testBit j=(decide (j<64)&&N.testBit (64*k+j)):=by
 rw [wd,Nat.testBit_mod_two_pow,Nat.testBit_div_two_pow,Nat.add_comm]
theorem tf (N M k:Nat):wd (N|||M) k=wd N k|||wd M k:=Nat.eq_of_testBit_eq fun j=>by
 simp only [jQ,Nat.testBit_or];cases decide (j<64)<;>simp
theorem zA (N M k:Nat):wd (N&&&M) k=wd N k&&&wd M k:=Nat.eq_of_testBit_eq fun j=>by
 simp only [jQ,Nat.testBit_and];cases decide (j<64)<;>simp
theorem zB {q k:Nat} (a:k=q/64) (N:Nat):wd (N|||2^q) k=wd N k|||2^(q%64):=by
 rw [tf];congr 1;apply Nat.eq_of_testBit_eq;intro j;rw [jQ,Nat.testBit_two_pow,Nat.testBit_two_pow];by_cases h:j<64
 ·simp only [h,decide_true,Bool.true_and]
  by_cases e:q%64=j
  ·rw [decide_eq_true e,decide_eq_true (by omega)]
  ·rw [decide_eq_false e,decide_eq_false (by omega)]
 ·simp only [h,decide_false,Bool.false_and]
  rw [decide_eq_false (by omega)]
theorem CU {q k:Nat} (a:k≠q/64) (N:Nat):wd (N|||2^q) k=wd N k:=by
 rw [tf]
 have:wd (2^q) k=0:=by
  apply Nat.eq_of_testBit_eq;intro j;rw [jQ,Nat.testBit_two_pow,Nat.zero_testBit];by_cases h:j<64
  ·simp only [h,decide_true,Bool.true_and]
   exact decide_eq_false (by omega)
  ·simp [h]
 rw [this,Nat.or_zero]
theorem qy (k:Nat):wd 0 k=0:=by simp [wd]
theorem jR {n:Nat} (h:n<2^64):IntKind.u64.wrap (n:Int)=n:=by rw [IntKind.wrap_u64];omega
theorem lD {n:Nat} (h:n<2^64):(BitVec.ofInt 64 (n:Int)).toNat=n:=by
 rw [show BitVec.ofInt 64 (n:Int)=BitVec.ofNat 64 n from by simp,BitVec.toNat_ofNat,Nat.mod_eq_of_lt h]
theorem tg {a b:Nat} (d:a<2^64) (c:b<2^64):ba .or (.int .u64 a) (.int .u64 b)=some (.int .u64 ((a|||b:Nat):Int)):=by
 have e:ba .or (.int .u64 a) (.int .u64 b)=some (.int .u64 (IntKind.u64.wrap ((BitVec.ofInt 64 (a:Int)|||BitVec.ofInt 64 (b:Int)).toNat:Int))):=rfl;rw [e,BitVec.toNat_or,lD d,lD c,jR (Nat.or_lt_two_pow d c)]
theorem mL {a b:Nat} (d:a<2^64) (c:b<2^64):ba .and (.int .u64 a) (.int .u64 b)=some (.int .u64 ((a&&&b:Nat):Int)):=by
 have e:ba .and (.int .u64 a) (.int .u64 b)=some (.int .u64 (IntKind.u64.wrap ((BitVec.ofInt 64 (a:Int)&&&BitVec.ofInt 64 (b:Int)).toNat:Int))):=rfl;rw [e,BitVec.toNat_and,lD d,lD c,jR (Nat.and_lt_two_pow _ c)]
theorem CW {a j:Nat} (c:a<2^64) (b:j<64):ba .shr (.int .u64 a) (.int .u64 j)=some (.int .u64 ((a/2^j:Nat):Int)):=by
 have e:ba .shr (.int .u64 a) (.int .u64 j)=if(j:Int)<0 then none else some (.int .u64 ((a:Int).fdiv (2^(min (j:Int).toNat 64)))):=rfl
 rw [e,if_neg (by omega),Int.toNat_natCast,Nat.min_eq_left (by omega),Int.fdiv_eq_ediv_of_nonneg _ (by exact Int.le_of_lt (Int.pow_pos (by omega)))];congr 2
theorem CX {j:Nat} (a:j<64):ba .shl (.int .u64 1) (.int .u64 j)=some (.int .u64 ((2^j:Nat):Int)):=by
 have e:ba .shl (.int .u64 1) (.int .u64 j)=if(j:Int)<0 then none else some (.int .u64 (IntKind.u64.wrap (1*2^(min (j:Int).toNat 64)))):=rfl
 have h:(1*2^(min (j:Int).toNat 64):Int)=((2^j:Nat):Int):=by rw [Int.toNat_natCast,Nat.min_eq_left (by omega),Int.one_mul,Int.natCast_pow];rfl
 rw [e,if_neg (by omega),h,jR (Nat.pow_lt_pow_right (by omega) a)]
theorem vP (a:Nat):a&&&1=if a.testBit 0 then 1 else 0:=by
 rw [Nat.and_one_is_mod,Nat.testBit_zero];have:=Nat.mod_two_eq_zero_or_one a;rcases this with h|h<;>simp [h]
theorem th {a b:Int} (c:0≤a):ba .rem (.int .i64 a) (.int .i64 b)=if b=0 then none else some (.int .i64 (a%b)):=by
 by_cases h:b=0
 ·simp [ba,cg,fD,h]
 ·simp [ba,cg,fD,h]
  rw [Int.tmod_eq_emod_of_nonneg c]
theorem ti {a b:Int} (c:0≤a) (hi:a≤2^62) (e:0<b):ba .quo (.int .i64 a) (.int .i64 b)=some (.int .i64 (a/b)):=by
 have d:¬ b=0:=by omega
 have f:0≤a/b:=Int.ediv_nonneg c (by omega);have h2:a/b≤a:=Int.ediv_le_self _ c;simp only [ba,cg,fD,d,if_true,if_false];rw [Int.tdiv_eq_ediv_of_nonneg c,aj ⟨by omega,by omega⟩]
theorem tj {N q:Nat} (p:q<256):Fz E O 59 [.agg (sv N),pi q] (pb (N.testBit q)):=by
 refine ek.body (F:=BA) rfl rfl rfl ?_
 obtain ⟨k,j,h,l⟩:∃k j,j<64∧q=64*k+j:=⟨q/64,q%64,by omega,by omega⟩
 have f:ba .quo (.int .i64 (q:Int)) (.int .i64 64)=some (.int .i64 k):=by
  rw [ti (by omega) (by omega) (by omega)];congr 2;omega
 have e:ba .rem (.int .i64 (q:Int)) (.int .i64 64)=some (.int .i64 j):=by
  rw [th (by omega),if_neg (by omega)];congr 2;omega
 have d:=jR (n:=j) (by omega);have c:=CW (cq N k) h;have h2:=mL (a:=wd N k/2^j) (b:=1) (Nat.lt_of_le_of_lt (Nat.div_le_self _ _) (cq N k)) (by decide);have o:(wd N k/2^j).testBit 0=N.testBit q:=by rw [l];rw [Nat.testBit_div_two_pow,jQ];simp [h]
 rw [vP,o]at h2;generalize wd N k/2^j=m at c h2;have g:k=0∨k=1∨k=2∨k=3:=by omega
 cases i:N.testBit q with
 |true=>
  rw [i,if_pos rfl]at h2;replace h2:ba .and (.int .u64 (m:Int)) (.int .u64 1)=some (.int .u64 1):=h2;rcases g with rfl|rfl|rfl|rfl
  all_goals
   simp (maxSteps:=9^7)-implicitDefEqProofs [-getElem?_pos,OF,BA,sv,f,e,d,c,h2];refine ae ?_;simp
 |false=>
  rw [i,if_neg (by decide)]at h2;replace h2:ba .and (.int .u64 (m:Int)) (.int .u64 1)=some (.int .u64 0):=h2;rcases g with rfl|rfl|rfl|rfl
  all_goals
   simp (maxSteps:=9^7)-implicitDefEqProofs [-getElem?_pos,OF,BA,sv,f,e,d,c,h2];refine ae ?_;simp
theorem zC {N q:Nat} (b:q<256):(sv N).set (q/64) (pu (wd N (q/64)|||2^(q%64)))=sv (N|||2^q):=by
 have a:q/64=0∨q/64=1∨q/64=2∨q/64=3:=by omega
 rcases a with h|h|h|h<;>rw [h]<;>simp only [sv,List.set_cons_zero,List.set_cons_succ,List.cons.injEq,PV.v.injEq,Value.int.injEq,Int.natCast_inj,true_and,and_true]<;>(repeat' apply And.intro)<;>first
  |(rw [zB (by omega)])
  |(rw [CU (by omega)])
theorem n5 {N q:Nat} (f:q<256):Fz E O 65 [.agg (sv N),pi q] (.agg (sv (N|||2^q))):=by
 refine ek.body (F:=DX) rfl rfl rfl ?_
 obtain ⟨k,h⟩:∃k,q/64=k:=⟨_,rfl⟩
 obtain ⟨j,i⟩:∃j,q%64=j:=⟨_,rfl⟩
 have e:ba .quo (.int .i64 (q:Int)) (.int .i64 64)=some (.int .i64 k):=by
  rw [ti (by omega) (by omega) (by omega)];congr 2;omega
 have d:ba .rem (.int .i64 (q:Int)) (.int .i64 64)=some (.int .i64 j):=by
  rw [th (by omega),if_neg (by omega)];congr 2;omega
 have c:=jR (n:=j) (by omega);have b:=CX (j:=j) (by omega);have a:=zC (N:=N) f;rw [h,i]at a;have h2:=tg (cq N k) (Nat.pow_lt_pow_right (by omega) (show j<64 by omega):2^j<2^64);generalize 2^j=m at b h2 a;generalize wd N k|||m=y at h2 a;have g:k=0∨k=1∨k=2∨k=3:=by omega
 rw [←a];clear a;rcases g with rfl|rfl|rfl|rfl
 all_goals
  simp (maxSteps:=9^7)-implicitDefEqProofs [-getElem?_pos,OF,DX,sv,e,d,c,b,h2];refine ae ?_;simp
open Go Go.RowKit
theorem CY (N M:Nat):Fz E O 79 [.agg (sv N),.agg (sv M)] (.agg (sv (N|||M))):=by
 refine ek.body (F:=D4) rfl rfl rfl ?_;have e:sv (N|||M)=[pu (wd N 0|||wd M 0),pu (wd N 1|||wd M 1),pu (wd N 2|||wd M 2),pu (wd N 3|||wd M 3)]:=by simp only [sv,tf]
 have c:=tg (cq N 0) (cq M 0);have b:=tg (cq N 1) (cq M 1);have h2:=tg (cq N 2) (cq M 2);have a:=tg (cq N 3) (cq M 3);rw [e];generalize wd N 0|||wd M 0=h at*;generalize wd N 1|||wd M 1=g at*;generalize wd N 2|||wd M 2=f at*;generalize wd N 3|||wd M 3=d at*;simp (maxSteps:=9^7)-implicitDefEqProofs [-getElem?_pos,OF,D4,sv,c,b,h2,a];refine ae ?_;simp
theorem CZ (N M:Nat):Fz E O 52 [.agg (sv N),.agg (sv M)] (.agg (sv (N&&&M))):=by
 refine ek.body (F:=DT) rfl rfl rfl ?_;have e:sv (N&&&M)=[pu (wd N 0&&&wd M 0),pu (wd N 1&&&wd M 1),pu (wd N 2&&&wd M 2),pu (wd N 3&&&wd M 3)]:=by simp only [sv,zA]
 have c:=mL (cq N 0) (cq M 0);have b:=mL (cq N 1) (cq M 1);have h2:=mL (cq N 2) (cq M 2);have a:=mL (cq N 3) (cq M 3);rw [e];generalize wd N 0&&&wd M 0=h at*;generalize wd N 1&&&wd M 1=g at*;generalize wd N 2&&&wd M 2=f at*;generalize wd N 3&&&wd M 3=d at*;simp (maxSteps:=9^7)-implicitDefEqProofs [-getElem?_pos,OF,DT,sv,c,b,h2,a];refine ae ?_;simp
end P
end Go.Proofs.Ytediokhgklkhnaa.A
