/- Texts that stand one behind the other: Pm8, Pm9, Pm10, Pm11, Pm12, Pm13, Pm14, Pm15, T1, T2, T3, T4, T5. -/
import Derived.Test.YtediokhgklkhnaaG12
set_option linter.unusedVariables false
set_option linter.unusedSimpArgs false
namespace Go.Proofs.Ytediokhgklkhnaa.A
namespace P
open Go Go.RowKit
theorem dJ {H b:AH} {a:Addr} {vs:List Value} (h:H.st a vs=some b):b.nx=H.nx:=by
 unfold AH.st at h;split at h
 ·obtain ⟨_,h⟩:=aa h
  cases h;rfl
 ·cases h
theorem tI {o:aM} {m:X→Value} {H:AH} {b:Option (Value×AH)} {x:Value} {d:AH} (e:au o m H=up b) (n:b=some (x,d)):d.nx≤H.nx+1:=by
 subst n;simp only [up,Option.map_some]at e
 have app:∀{sz bytes:Nat} {s y z:Value} {d:AH},ba sz bytes H s y=some (z,d)→d.nx≤H.nx+1:=by
  intro sz bytes s y z d h;unfold ba at h;split at h
  case h_2=>cases h
  split at h
  ·obtain ⟨_,h⟩:=aa h;cases h;omega
  ·split at h
   ·cases h
   ·obtain ⟨_,h⟩:=aa h
    split at h
    ·split at h
     ·obtain ⟨_,h⟩:=aa h
      rename_i a _ _;obtain ⟨i,h2,g⟩:=GI.1 h;cases g;have:=dJ h2;omega
     ·cases h
    ·split at h
     ·obtain ⟨_,h⟩:=aa h;cases h;exact GB _
     ·split at h
      ·obtain ⟨_,h⟩:=aa h
       obtain ⟨i,h2,g⟩:=GI.1 h;cases g;exact GB _
      ·cases h
 have p:∀{sz:Nat} {s y z:Value} {d:AH},dh sz H s y=some (z,d)→d.nx≤H.nx+1:=by
  intro sz s y z d h;unfold dh at h;split at h
  case h_2=>cases h
  obtain ⟨c,f,h⟩:=GJ.1 h;split at h
  ·simp only [Bool.cond_eq_ite]at h
   split at h
   ·cases h;exact G0 _
   ·obtain ⟨i,h2,g⟩:=GI.1 h
    cases g;have:=dJ h2;omega
  ·cases h;exact G0 _
 have j:∀{k:XK} {l:List Value} {z:Value} {d:AH},iz k l H=some (z,d)→d.nx≤H.nx+1:=by
  intro k l z d h;unfold iz at h;split at h
  ·obtain ⟨_,_,e⟩:=GI.1 h;cases e;exact G0 _
  ·split at h
   ·obtain ⟨_,_,e⟩:=GI.1 h;cases e;exact G0 _
   ·cases h
  ·cases h;exact GB _
  ·cases h;exact G0 _
  ·split at h
   ·cases h;exact G0 _
   ·simp only [Bool.cond_eq_ite]at h
    split at h
    ·cases h;exact G0 _
    ·obtain ⟨i,h2,g⟩:=GI.1 h
     cases g;have:=dJ h2;omega
  ·cases h
 cases o<;>simp only [au]at e
 all_goals first
  |(simp only [Gy,GG,cD.v.injEq,reduceCtorEq,false_and]at e;done)
  |skip
 all_goals first
  |(simp only [Gy,GG]at e;obtain ⟨_,rfl⟩:=e;first|exact G0 _|exact GB _)
  |(obtain ⟨r,f,h2⟩:=GI.1 e;simp only [GG]at h2;obtain ⟨_,rfl⟩:=h2;first|exact G0 _|exact GB _)
  |skip
 all_goals first
  |(obtain ⟨r,f,h2⟩:=GI.1 e;simp only [GG]at h2;obtain ⟨_,rfl⟩:=h2;exact j f)
  |skip
 all_goals try simp only [Bool.cond_eq_ite]at e
 all_goals try(repeat' split at e)
 all_goals first
  |(cases e;done)
  |(simp only [Gy,GG]at e;obtain ⟨_,rfl⟩:=e;first|exact G0 _|exact GB _)
  |(obtain ⟨r,f,h2⟩:=GI.1 e;simp only [GG]at h2;obtain ⟨_,rfl⟩:=h2;first|exact G0 _|(have:=dJ f;omega)|exact app f|exact p f|exact j f)
  |skip
inductive Kp where
 |seq (c:AC)
 |bC (i:Nat)
 |lp (I:Nat→PF→PH→Prop) (k:Nat)
inductive Mp where
 |pl
 |d0
 |dr (l0:List AO) (ck:List (Nat×Nat×Nat)) (acc:List (PF×PH×List Nat)) (W:List Nat)
def Mp.up:Mp→List Nat→PF→PH→Mp
 | .pl,_,_,_=>.pl
 | .d0,_,_,_=>.d0
 | .dr l0 ck acc W,V,fr,h=>.dr l0 ck ((fr,h,V++W)::acc) (V++W)
inductive Cf where
 |code (c:AC) (ks:List Kp)
 |ops (m:Mp) (l:List AO) (ks:List Kp)
 |done (ex:Ex) (ks:List Kp)
def qq (E:Env) (O:dw) (f:Nat) (args:List PV) (h:PH) (W:Nat→Prop) (R:PV→PH→Prop):Prop:=
 ∀F H φ vs,bk ⟨F,H,φ,h⟩→aL ⟨F,H,φ,h⟩ args vs→Ca E O f vs H (fun x H'=>∃r h' F' aV,R r h'∧RV ⟨F',H',aV,h'⟩ r x∧bk ⟨F',H',aV,h'⟩∧bf h.length W ⟨F,H,φ,h⟩ ⟨F',H',aV,h'⟩)
abbrev mV:Nat→Prop:=fun _=>True
abbrev o6 (E:Env) (O:dw) (f:Nat) (args:List PV) (h:PH) (R:PV→PH→Prop):Prop:=qq E O f args h mV R
def Gh (n:Nat) (fr:PF) (h:PH) (b9:PF) (h2:PH):Prop:=
 ∀F H φ af,bk ⟨F,H,φ,h⟩→dM ⟨F,H,φ,h⟩ fr af→∃F' aV,bk ⟨F',H,aV,h2⟩∧dM ⟨F',H,aV,h2⟩ b9 af∧∀C0:Cx,C0.h.length=n→bf n mV C0 ⟨F,H,φ,h⟩→bf n mV C0 ⟨F',H,aV,h2⟩
theorem Gh.refl (n:Nat) (a:PF) (h:PH):Gh n a h a h:=fun F H b c S R=>⟨F,b,S,R,fun _ _ k=>k⟩
variable(E:Env) (O:dw) (n:Nat) (Q:Ex→PF→PH→Prop)
inductive PK:Cf→PF→PH→Prop where
 |skip {ks:List Kp} {fr:PF} {h:PH}:PK (.done .normal ks) fr h→PK (.code .skip ks) fr h
 |ret {ks:List Kp} {fr:PF} {h:PH}:PK (.done .ret ks) fr h→PK (.code .ret ks) fr h
 |exit {i:Nat} {ks:List Kp} {fr:PF} {h:PH}:PK (.done (.exit i) ks) fr h→PK (.code (.exit i) ks) fr h
 |aC {l:List AO} {ks:List Kp} {fr:PF} {h:PH}:PK (.ops .pl l ks) fr h→PK (.code (.aC l) ks) fr h
 |ai {l:List AO} {c:Nat×Nat×Nat} {ck:List (Nat×Nat×Nat)} {ks:List Kp} {fr:PF} {h:PH}:PK (.ops (.dr l (c::ck) [(fr,h,[])] []) l ks) fr h→PK (.code (.ai l (c::ck)) ks) fr h
 |lQ {l:List AO} {ks:List Kp} {fr:PF} {h:PH}:PK (.ops .d0 l ks) fr h→PK (.code (.ai l []) ks) fr h
 |seq {a b:AC} {ks:List Kp} {fr:PF} {h:PH}:PK (.code a (.seq b::ks)) fr h→PK (.code (.seq a b) ks) fr h
 |block {i:Nat} {a:AC} {ks:List Kp} {fr:PF} {h:PH}:PK (.code a (.bC i::ks)) fr h→PK (.code (.block i a) ks) fr h
 |cond {x:X} {a b:AC} {t:Bool} {ks:List Kp} {fr:PF} {h:PH}:cu fr x= .v (.bool t)→PK (.code (bif t then a else b) ks) fr h→PK (.code (.cond x a b) ks) fr h
 |loop {a:AC} {ks:List Kp} {fr b9:PF} {h h2:PH} (I:Nat→PF→PH→Prop) (k:Nat):(∀k fr h,I k fr h→PK (.code a (.lp I k::ks)) fr h)→Gh n fr h b9 h2→I k b9 h2→PK (.code (.loop a) ks) fr h
 |qt {ks:List Kp} {fr:PF} {h:PH}:PK (.done .normal ks) fr h→PK (.ops .pl [] ks) fr h
 |lR {ks:List Kp} {fr:PF} {h:PH}:PK (.done .normal ks) fr h→PK (.ops .d0 [] ks) fr h
 |oC {l0:List AO} {ck:List (Nat×Nat×Nat)} {acc:List (PF×PH×List Nat)} {W:List Nat} {ks:List Kp} {fr:PF} {h:PH}:yd l0 ck acc=true→PK (.done .normal ks) fr h→PK (.ops (.dr l0 ck acc W) [] ks) fr h
 |op {m:Mp} {d:Option Nat} {p:aM} {l:List AO} {ks:List Kp} {fr:PF} {h h':PH} {v:PV}:pop p (cu fr) h=some (v,h')→PK (.ops (m.up (jt p (cu fr)) (fr.al d v) h') l ks) (fr.al d v) h'→PK (.ops m (⟨none,d,p⟩::l) ks) fr h
 |wk {m:Mp} {t:Nat} {b:Bool} {x:Value} {d:Option Nat} {p:aM} {l:List AO} {ks:List Kp} {fr:PF} {h:PH}:fr.get t= .v x→dd b x=true→PK (.ops m (⟨none,d,p⟩::l) ks) fr h→PK (.ops m (⟨some (t,b),d,p⟩::l) ks) fr h
 |oD {m:Mp} {t:Nat} {b:Bool} {x:Value} {d:Option Nat} {p:aM} {l:List AO} {ks:List Kp} {fr:PF} {h:PH}:fr.get t= .v x→dd b x=false→PK (.ops (m.up [] (fr.al d (.v undef)) h) l ks) (fr.al d (.v undef)) h→PK (.ops m (⟨some (t,b),d,p⟩::l) ks) fr h
 |call {m:Mp} {f:Nat} {«as»:List X} {d:Option Nat} {l:List AO} {ks:List Kp} {fr:PF} {h:PH} {W:List Nat} {R:PV→PH→Prop}:qq E O f («as».map (cu fr)) h (· ∈W) R→(∀r h',R r h'→PK (.ops (m.up W (fr.al d r) h') l ks) (fr.al d r) h')→PK (.ops m (⟨none,d,.call f «as»⟩::l) ks) fr h
 |callv {m:Mp} {f:Nat} {x:X} {first cap:List PV} {«as»:List X} {d:Option Nat} {l:List AO} {ks:List Kp} {fr:PF} {h:PH} {W:List Nat} {R:PV→PH→Prop}:cu fr x= .fn f first cap→qq E O f (first++«as».map (cu fr)++cap) h (· ∈W) R→(∀r h',R r h'→PK (.ops (m.up W (fr.al d r) h') l ks) (fr.al d r) h')→PK (.ops m (⟨none,d,.callv x «as»⟩::l) ks) fr h
 |qu {ex:Ex} {fr:PF} {h:PH}:Q ex fr h→PK (.done ex []) fr h
 |ye {b:AC} {ks:List Kp} {fr:PF} {h:PH}:PK (.code b ks) fr h→PK (.done .normal (.seq b::ks)) fr h
 |yf {i:Nat} {ks:List Kp} {fr:PF} {h:PH}:PK (.done .normal ks) fr h→PK (.done .normal (.bC i::ks)) fr h
 |wm {I:Nat→PF→PH→Prop} {k j:Nat} {ks:List Kp} {fr b9:PF} {h h2:PH}:j<k→Gh n fr h b9 h2→I j b9 h2→PK (.done .normal (.lp I k::ks)) fr h
 |yg {i:Nat} {b:AC} {ks:List Kp} {fr:PF} {h:PH}:PK (.done (.exit i) ks) fr h→PK (.done (.exit i) (.seq b::ks)) fr h
 |oE {i:Nat} {ks:List Kp} {fr:PF} {h:PH}:PK (.done .normal ks) fr h→PK (.done (.exit i) (.bC i::ks)) fr h
 |qv {i j:Nat} {ks:List Kp} {fr:PF} {h:PH}:j≠i→PK (.done (.exit j) ks) fr h→PK (.done (.exit j) (.bC i::ks)) fr h
 |del {I:Nat→PF→PH→Prop} {k i:Nat} {ks:List Kp} {fr:PF} {h:PH}:PK (.done (.exit i) ks) fr h→PK (.done (.exit i) (.lp I k::ks)) fr h
 |qw {k:Kp} {ks:List Kp} {fr:PF} {h:PH}:PK (.done .ret ks) fr h→PK (.done .ret (k::ks)) fr h
variable{E O n Q}
def Live (C0:Cx) (C:Cx):Prop:=bk C∧bf C0.h.length mV C0 C
theorem Live.step {C0 C D:Cx} (h:Live C0 C) {W:Nat→Prop} (S:bk D) (T:bf C.h.length W C D):Live C0 D:=
 ⟨S,h.2.trans (T.mono (h.2.len (GB _)) (fun _ _=>trivial) fun _=>GV (h.2.len (GB _)) (T.len (GB _))) (GB _) (fun _ h=>h) fun _ h=>h⟩
def UP (E:Env) (O:dw) (C0:Cx) (Q:Ex→PF→PH→Prop):Ex→List Kp→Fr→AH→Prop
 |ex,[],af,H=>∃fr F φ h,Q ex fr h∧Live C0 ⟨F,H,φ,h⟩∧dM ⟨F,H,φ,h⟩ fr af
 | .normal,.seq b::ks,af,H=>Wp E O b af H (fun ex fU H'=>UP E O C0 Q ex ks fU H')
 | .normal,.bC _::ks,af,H=>UP E O C0 Q .normal ks af H
 | .normal,.lp I k::ks,af,H=>∃j,j<k∧∃fr F φ h,I j fr h∧Live C0 ⟨F,H,φ,h⟩∧dM ⟨F,H,φ,h⟩ fr af
 | .exit j,.seq _::ks,af,H=>UP E O C0 Q (.exit j) ks af H
 | .exit j,.bC i::ks,af,H=>if j=i then UP E O C0 Q .normal ks af H else UP E O C0 Q (.exit j) ks af H
 | .exit j,.lp _ _::ks,af,H=>UP E O C0 Q (.exit j) ks af H
 | .ret,_::ks,af,H=>UP E O C0 Q .ret ks af H
def uI (l1 l:List AO):Prop:=l1=l∨∃g d p t,l=⟨none,d,p⟩::t∧l1=⟨g,d,p⟩::t
theorem uI.head {a t:List AO} {g:Option (Nat×Bool)} {d:Option Nat} {p:aM} (h:uI a (⟨g,d,p⟩::t)):∃b,a=⟨b,d,p⟩::t:=by
 rcases h with rfl|⟨b,i,f,c,e,rfl⟩
 ·exact ⟨_,rfl⟩
 ·cases e;exact ⟨_,rfl⟩
def rE (E:Env) (O:dw) (C0:Cx) (Q:Ex→PF→PH→Prop) (cf:Cf) (fr:PF) (h:PH):Prop:=∀F H φ af,Live C0 ⟨F,H,φ,h⟩→dM ⟨F,H,φ,h⟩ fr af→match cf with
 | .code c ks=>Wp E O c af H (fun ex fU H'=>UP E O C0 Q ex ks fU H')
 | .ops .pl l ks=>Wo E O l af H (fun fU H'=>UP E O C0 Q .normal ks fU H')
 | .ops .d0 l ks=>∀l0 acc bl W,ep l0 acc bl ⟨F,H,φ,h⟩ W→uI (l0.drop (acc.length- 1)) l→Wt E O l af H (fun ss=>uq l0 [] (ss.reverse++bl)=true∧UP E O C0 Q .normal ks (da (af,H) ss).1 (da (af,H) ss).2)
 | .ops (.dr l0 ck acc W) l ks=>∀bl,ep l0 acc bl ⟨F,H,φ,h⟩ W→uI (l0.drop (acc.length- 1)) l→Wt E O l af H (fun ss=>uq l0 ck (ss.reverse++bl)=true∧UP E O C0 Q .normal ks (da (af,H) ss).1 (da (af,H) ss).2)
 | .done ex ks=>UP E O C0 Q ex ks af H
theorem rE.step {C0:Cx} {m:Mp} {g:Option (Nat×Bool)} {d:Option Nat} {p:aM} {l:List AO} {K:List Kp} {M:PF} {h:PH} (one:∀F H φ w,Live C0 ⟨F,H,φ,h⟩→dM ⟨F,H,φ,h⟩ M w→gZ E O ⟨g,d,p⟩ w H (fun i f=>∃u t s j V,Live C0 ⟨t,f,s,j⟩∧dM ⟨t,f,s,j⟩ u i∧bf 0 (· ∈V) ⟨F,H,φ,h⟩ ⟨t,f,s,j⟩∧(p.ak=false→f.nx≤H.nx+1)∧rE E O C0 Q (.ops (m.up V u j) l K) u j)):
 rE E O C0 Q (.ops m (⟨g,d,p⟩::l) K) M h:=by
 intro F H φ w L R
 have mono:∀{N Q2:Fr→AH→Prop},(∀a b,N a b→Q2 a b)→gZ E O ⟨g,d,p⟩ w H N→gZ E O ⟨g,d,p⟩ w H Q2:=fun k ⟨a,b,c,e,q⟩=>⟨a,b,c,e,k _ _ q⟩
 cases m with
 |pl=>
  refine Wo.cons (mono ?_ (one F H φ w L R));rintro i f ⟨u,t,s,j,V,y,x,_,_,k⟩;exact k t f s i y x
 |d0=>
  intro v acc B W C r;rw [cR];refine mono ?_ (one F H φ w L R);rintro i f ⟨u,t,s,j,V,y,x,T,D,k⟩;have P:=C.length.2
  have J:ep v ((u,j,V++W)::acc) ((i,f)::B) ⟨t,f,s,j⟩ (V++W):=
   .cons C T y.1 x (fun o z I=>by
    obtain ⟨A,r⟩:=r.head
    have:v[acc.length- 1]?=some ⟨A,d,p⟩:=by
     have:=congrArg List.head? r
     simpa [List.head?_drop]using this
    rw [iu,this]at z;cases z
    exact D I)
  have G:uI (v.drop (((u,j,V++W)::acc).length- 1)) l:=by
   obtain ⟨A,r⟩:=r.head;left;simp only [List.length_cons,Nat.add_sub_cancel];rw [show acc.length=acc.length- 1+1 by omega,←List.drop_drop,r];rfl
  have:=k t f s i y x v _ ((i,f)::B) _ J G;refine (fun⟨a,b,e,q⟩=>⟨a,b,e,?_⟩:Wt E O l i f _→Wt E O l i f _) this
  simpa [da]using q
 |dr v S acc W=>
  intro B C r;rw [cR];refine mono ?_ (one F H φ w L R);rintro i f ⟨u,t,s,j,V,y,x,T,D,k⟩;have P:=C.length.2
  have J:ep v ((u,j,V++W)::acc) ((i,f)::B) ⟨t,f,s,j⟩ (V++W):=
   .cons C T y.1 x (fun o z I=>by
    obtain ⟨A,r⟩:=r.head
    have:v[acc.length- 1]?=some ⟨A,d,p⟩:=by
     have:=congrArg List.head? r
     simpa [List.head?_drop]using this
    rw [iu,this]at z;cases z
    exact D I)
  have G:uI (v.drop (((u,j,V++W)::acc).length- 1)) l:=by
   obtain ⟨A,r⟩:=r.head;left;simp only [List.length_cons,Nat.add_sub_cancel];rw [show acc.length=acc.length- 1+1 by omega,←List.drop_drop,r];rfl
  have:=k t f s i y x ((i,f)::B) J G;refine (fun⟨a,b,e,q⟩=>⟨a,b,e,?_⟩:Wt E O l i f _→Wt E O l i f _) this
  simpa [da]using q
theorem PK.sound {C0:Cx} (K:n=C0.h.length):∀{cf:Cf} {u:PF} {h:PH},PK E O n Q cf u h→rE E O C0 Q cf u h:=by
 intro cf u h k
 induction k with
 |skip _ ih=>exact fun F H s o L R=>Wp.skip (ih F H s o L R)
 |ret _ ih=>exact fun F H s o L R=>Wp.ret (ih F H s o L R)
 |exit _ ih=>exact fun F H s o L R=>Wp.exit (ih F H s o L R)
 |aC _ ih=>exact fun F H s o L R=>Wp.aC (ih F H s o L R)
 | @ai l c ck z u h _ ih=>
  intro F H s o L R;have:=ih F H s o L R [(o,H)] (.one L.1 R) (.inl rfl);refine Wp.ai ?_;obtain ⟨a,ss,e,C,h2⟩:=this;unfold uq at C;simp only [List.reverse_append,List.reverse_cons,List.reverse_nil,List.nil_append,List.reverse_reverse,List.cons_append,GA]at C;exact ⟨a,ss,e,C,h2⟩
 | @lQ l z u h _ ih=>
  intro F H s o L R;have:=ih F H s o L R l _ [(o,H)] _ (.one L.1 R) (.inl rfl);refine Wp.ai ?_;obtain ⟨a,ss,e,C,h2⟩:=this;unfold uq at C;simp only [List.reverse_append,List.reverse_cons,List.reverse_nil,List.nil_append,List.reverse_reverse,List.cons_append,GA]at C;exact ⟨a,ss,e,C,h2⟩
 | @seq a b z u h _ ih=>
  intro F H s o L R;refine Wp.seq ((ih F H s o L R).mono ?_);intro ex aQ U q;cases ex<;>exact q
 | @block i a z u h _ ih=>
  intro F H s o L R;refine Wp.block ((ih F H s o L R).mono ?_);intro ex aQ U q;cases ex<;>exact q
 | @cond x a b t z u h e _ ih=>
  intro F H s o L R;have w:=R.ev x;rw [e]at w
  exact Wp.cond w.fJ (by
   have:=ih F H s o L R
   cases t<;>exact this)
 | @loop a z u b9 h h2 I k _ g N ih=>
  intro F H s o L R;obtain ⟨F',M,S',A,T'⟩:=g F H s o L.1 R;refine Wp.loop (fun k o H=>∃u F s h,I k u h∧Live C0 ⟨F,H,s,h⟩∧dM ⟨F,H,s,h⟩ u o) ?_ k ⟨b9,F',M,h2,N,⟨S',K▸T' C0 K.symm (K▸L.2)⟩,A⟩;rintro k o H ⟨u,F,s,h,N,L,R⟩;refine (ih k u h N F H s o L R).mono ?_;intro ex fU U q;cases ex<;>exact q
 |qt _ ih=>exact fun F H s o L R=>Wo.nil (ih F H s o L R)
 |lR _ ih=>exact fun F H s o L R V acc P W J B=>Wt.nil ⟨by have:=oB J (ck:=[]) rfl;simpa using this,ih F H s o L R⟩
 | @oC V ck acc W z u h ok _ ih=>
  intro F H s o L R P J B;exact Wt.nil ⟨by simpa using oB J ok,ih F H s o L R⟩
 | @op m d p l z u h D v e _ ih=>
  refine rE.step fun F H s o L R=>?_
  obtain ⟨b,Y,x,U,M,rfl,w,S,T⟩:=tB L.1 (R.ev) e;refine gZ.val rfl Y ?_;exact ⟨_,F,M,D,_,L.step S T,(R.step T).al w d,T.mono (G3 _) (fun _ h=>h) (fun _=>G3 _),fun _=>tI Y rfl,ih⟩
 | @wk m t b x d p l z u h e hw _ ih=>
  have eqv:∀{o:Fr} {H:AH} {Q:Fr→AH→Prop},AO.wanted ⟨some (t,b),d,p⟩ o=true→gZ E O ⟨none,d,p⟩ o H Q→gZ E O ⟨some (t,b),d,p⟩ o H Q:=by
   intro o H Q C h2;rw [nP _ _ _ _ C];rwa [nP _ _ _ _ rfl]at h2
  intro F H s o L R;have w:=R t;rw [e]at w;have Az:AO.wanted ⟨some (t,b),d,p⟩ o=true:=by rw [fh,w.fJ];exact hw
  have:=ih F H s o L R
  cases m with
  |pl=>
   refine Wo.cons (eqv Az ?_);exact (nO _ _ _ _ _).1 this
  |d0=>
   intro V acc P W J B;rw [cR];obtain ⟨g',B⟩:=B.head;exact eqv Az ((cR _ _ _ _ _).1 (this V acc P W J (.inr ⟨g',d,p,l,rfl,B⟩)))
  |dr V ck acc W=>
   intro P J B;rw [cR];obtain ⟨g',B⟩:=B.head;exact eqv Az ((cR _ _ _ _ _).1 (this P J (.inr ⟨g',d,p,l,rfl,B⟩)))
 | @oD m t b x d p l z u h e hw _ ih=>
  refine rE.step fun F H s o L R=>?_
  have w:=R t;rw [e]at w;refine gZ.off (by rw [fh,w.fJ];exact hw) ?_;exact ⟨_,F,s,h,[],L,R.al (.v _) d,bf.refl _ _ _,fun _=>G0 _,ih⟩
 | @call m f «as» d l z u h W R hc _ ih=>
  refine rE.step fun F H s o L A=>?_
  refine gZ.call rfl rfl ?_;refine (hc F H s _ L.1 (aL.of A.ev «as»)).mono ?_;rintro x U ⟨r,D,F2,Z,hR,w,S2,G⟩;exact ⟨_,F2,Z,D,W,L.step S2 G,(A.step G).al w d,G.mono (G3 _) (fun _ h=>h) (fun _=>G3 _),(fun q=>by cases q),ih r D hR⟩
 | @callv m f x first cap «as» d l z u h W R hf hc _ ih=>
  refine rE.step fun F H s o L A=>?_
  have w:=A.ev x;rw [hf]at w;revert w;generalize hy:X.ev o x=y;intro w
  cases w with| @fn _ _ _ xs ys ha Y=>
  refine gZ.call rfl (f:=f) («as»:=xs++«as».map (X.ev o)++ys) (H1:=H) (by simp only [au,hy]) ?_;refine (hc F H s _ L.1 ((ha.append (aL.of A.ev «as»)).append Y)).mono ?_;rintro x U ⟨r,D,F2,Z,hR,w,S2,G⟩;exact ⟨_,F2,Z,D,W,L.step S2 G,(A.step G).al w d,G.mono (G3 _) (fun _ h=>h) (fun _=>G3 _),(fun q=>by cases q),ih r D hR⟩
 | @qu ex u h q=>
  intro F H s o L R;simp only [UP];exact ⟨u,F,s,h,q,L,R⟩
 |ye _ ih=>exact fun F H s o L R=>ih F H s o L R
 |yf _ ih=>exact fun F H s o L R=>ih F H s o L R
 | @wm I k j z u b9 h h2 hj g N=>
  intro F H s o L R;obtain ⟨F',M,S',A,T'⟩:=g F H s o L.1 R;exact ⟨j,hj,b9,F',M,h2,N,⟨S',K▸T' C0 K.symm (K▸L.2)⟩,A⟩
 |yg _ ih=>exact fun F H s o L R=>ih F H s o L R
 | @oE i z u h _ ih=>
  intro F H s o L R;show(if i=i then _ else _);rw [if_pos rfl];exact ih F H s o L R
 | @qv i j z u h hj _ ih=>
  intro F H s o L R;show(if j=i then _ else _);rw [if_neg hj];exact ih F H s o L R
 |del _ ih=>exact fun F H s o L R=>ih F H s o L R
 | @qw k z u h _ ih=>
  intro F H s o L R;cases k<;>exact ih F H s o L R
end P
namespace P
open Go Go.RowKit
section
variable{E:Env} {O:dw} {n:Nat} {Q:Ex→PF→PH→Prop} {ks:List Kp} {fr:PF} {h:PH}
theorem qq.mono {f:Nat} {args:List PV} {W:Nat→Prop} {R R':PV→PH→Prop} (k:qq E O f args h W R) (i:∀r c,R r c→R' r c):qq E O f args h W R':=fun F H e g S j=>
 (k F H e g S j).mono fun x m ⟨r,c,l,d,a,b⟩=>⟨r,c,l,d,i _ _ a,b⟩
def jf.get (fr:PF) (h:PH):RS→Option PV
 | .tmp t=>some (fr.get t)
 | .cell t _=>rz h (fr.get t)
 | .cells t n=>iY n h (fr.get t)
def jf.all (fr:PF) (h:PH):List RS→Option (List PV)
 |[]=>some []
 |r::l=>match jf.get fr h r,jf.all fr h l with|some v,some vs=>some (v::vs)|_,_=>none
def eM:List PV→PV
 |[v]=>v
 |vs=>.dG vs
def qx (n:Nat) (r:PV) (h:PH) (r2:PV) (h2:PH):Prop:=
 ∀F H φ x,bk ⟨F,H,φ,h⟩→RV ⟨F,H,φ,h⟩ r x→∃F' aV,bk ⟨F',H,aV,h2⟩∧RV ⟨F',H,aV,h2⟩ r2 x∧∀C0:Cx,C0.h.length=n→bf n mV C0 ⟨F,H,φ,h⟩→bf n mV C0 ⟨F',H,aV,h2⟩
def tJ (n:Nat) (res:List RS) (R:PV→PH→Prop):Ex→PF→PH→Prop
 | .exit _,_,_=>False
 |_,fr,h=>∃vs,jf.all fr h res=some vs∧∃r2 h2,qx n (eM vs) h r2 h2∧R r2 h2
theorem rF {C:Cx} (S:bk C) {fr:PF} {d:Fr} (R:dM C fr d):∀{res:List RS} {ps:List PV},jf.all fr C.h res=some ps→∃xs,RS.all d C.H res=some xs∧aL C ps xs
 |[],ps,e=>by cases e;exact ⟨[],rfl,.nil⟩
 |r::l,ps,e=>by
  simp only [jf.all]at e;split at e
  case h_2=>cases e
  rename_i p q g h2;cases e;obtain ⟨xs,o,k⟩:=rF S R h2
  obtain ⟨x,j,i⟩:∃x,RS.get d C.H r=some x∧RV C p x:=by
   cases r with
   |tmp t=>cases g;exact ⟨_,rfl,R t⟩
   |cell t _=>
    obtain ⟨y,b,f⟩:=rC S (R t) g;refine ⟨y,?_,f⟩;simp only [RS.get]
    cases c:d.get t with
    |pointer a=>rw [c]at b;cases a<;>exact b
    |_=>rw [c]at b;cases b
   |cells t m=>
    obtain ⟨y,b,f⟩:=kO S (R t) g;refine ⟨y,?_,f⟩;simp only [RS.get]
    cases c:d.get t with
    |pointer a=>rw [c]at b;cases a<;>exact b
    |_=>rw [c]at b;cases b
  exact ⟨x::xs,by simp only [RS.all,o,j],.cons i k⟩
theorem tK {C:Cx} {ps:List PV} {xs:List Value} (h:aL C ps xs):RV C (eM ps) (fu xs):=by
 cases h with
 |nil=>exact .dG (xs:=[]) .nil
 |cons a b=>
  cases b with
  |nil=>exact a
  |cons b c=>exact .dG (xs:=_::_::_) (.cons a (.cons b c))
theorem o6.body {f:Nat} {F:AF} {args:List PV} {R:PV→PH→Prop} (y:O f=none) (A:E f=some F) (z:args.length=F.np) (k:PK E O h.length (tJ h.length F.res R) (.code F.body []) (PF.of args) h):o6 E O f args h R:=by
 intro Fz H c a S u;refine Ca.body y A (by rw [←u.length,z]) ?_
 have L:Live ⟨Fz,H,c,h⟩ ⟨Fz,H,c,h⟩:=⟨S,bf.refl _ _ _⟩
 refine (k.sound (C0:=⟨Fz,H,c,h⟩) rfl Fz H c (Fr.of a) L (dM.of u)).mono ?_;intro ex B m q;simp only [UP]at q;obtain ⟨fr,M,K,t,q,p,I⟩:=q
 have key:∀a,jf.all fr t F.res=some a→∀b h2,qx h.length (eM a) t b h2→R b h2→∃j,RS.all B m F.res=some j∧∃r l s o,R r l∧RV ⟨s,m,o,l⟩ r (fu j)∧bk ⟨s,m,o,l⟩∧bf h.length mV ⟨Fz,H,c,h⟩ ⟨s,m,o,l⟩:=by
  intro a e b h2 g d;obtain ⟨j,x,w⟩:=rF p.1 I e;obtain ⟨J,v,D,G,C⟩:=g _ _ _ _ p.1 (tK w);exact ⟨j,x,b,h2,J,v,d,G,D,C _ rfl p.2⟩
 cases ex with
 |exit i=>exact q.elim
 |normal=>obtain ⟨a,e,b,h2,g,d⟩:=q;exact key a e b h2 g d
 |ret=>obtain ⟨a,e,b,h2,g,d⟩:=q;exact key a e b h2 g d
@[simp]theorem wo (f:PF) (a b:Nat) (p:PV):(f.put a p).get b=if b=a then p else f.get b:=rfl
@[simp]theorem yh (l:List PV) (a:Nat):(PF.of l).get a=l.getD a .any:=rfl
@[simp]theorem AA (f:PF) (a:Nat) (p:PV):f.al (some a) p=f.put a p:=rfl
@[simp]theorem AB (f:PF) (p:PV):f.al none p=f:=rfl
@[simp]theorem C9 (f:PF) (a:Nat):cu f (.t a)=f.get a:=rfl
@[simp]theorem Da (f:PF) (v:Value):cu f (.k v)=js v:=rfl
@[simp]theorem Db (f:PF) (a:Nat):cu f (.f a)= .fn a [] []:=rfl
@[simp]theorem yi (k:IntKind) (a:Int):js (.int k a)= .v (.int k a):=rfl
@[simp]theorem wu (a:Bool):js (.bool a)= .v (.bool a):=rfl
@[simp]theorem yj (a:ByteArray):js (.string a)= .v (.string a):=rfl
@[simp]theorem AD (a:Option Addr) (b c:Nat):js (.slice a b c)= .v (.slice a b c):=rfl
@[simp]theorem yk (a:Option Addr):js (.pointer a)= .v (.pointer a):=rfl
@[simp]theorem yl (a:Option Nat):js (.map a)= .v (.map a):=rfl
@[simp]theorem AE:js .nilFunc= .v .nilFunc:=rfl
@[simp]theorem AG:js .nilIface= .v .nilIface:=rfl
@[simp]theorem ym (a:Array Value):js (.agg a)= .agg (a.toList.map .v):=rfl
@[simp]theorem AI (V:List Nat) (fr:PF) (h:PH):Mp.up .pl V fr h= .pl:=rfl
@[simp]theorem AJ (V:List Nat) (fr:PF) (h:PH):Mp.up .d0 V fr h= .d0:=rfl
@[simp]theorem AK (a:List AO) (ck:List (Nat×Nat×Nat)) (acc:List (PF×PH×List Nat)) (W V:List Nat) (fr:PF) (h:PH):Mp.up (.dr a ck acc W) V fr h= .dr a ck ((fr,h,V++W)::acc) (V++W):=rfl
@[simp]theorem yn:PK E O n Q (.code .skip ks) fr h↔PK E O n Q (.done .normal ks) fr h:=⟨fun k=>by cases k;assumption,.skip⟩
@[simp]theorem AL:PK E O n Q (.code .ret ks) fr h↔PK E O n Q (.done .ret ks) fr h:=⟨fun k=>by cases k;assumption,.ret⟩
@[simp]theorem yp (i:Nat):PK E O n Q (.code (.exit i) ks) fr h↔PK E O n Q (.done (.exit i) ks) fr h:=⟨fun k=>by cases k;assumption,.exit⟩
@[simp]theorem AM (l:List AO):PK E O n Q (.code (.aC l) ks) fr h↔PK E O n Q (.ops .pl l ks) fr h:=⟨fun k=>by cases k;assumption,.aC⟩
@[simp]theorem wv (l:List AO):PK E O n Q (.code (.ai l []) ks) fr h↔PK E O n Q (.ops .d0 l ks) fr h:=⟨fun k=>by cases k;assumption,.lQ⟩
@[simp]theorem AN (a b:AC):PK E O n Q (.code (.seq a b) ks) fr h↔PK E O n Q (.code a (.seq b::ks)) fr h:=⟨fun k=>by cases k;assumption,.seq⟩
@[simp]theorem wx (i:Nat) (a:AC):PK E O n Q (.code (.block i a) ks) fr h↔PK E O n Q (.code a (.bC i::ks)) fr h:=⟨fun k=>by cases k;assumption,.block⟩
def PC (E:Env) (O:dw) (n:Nat) (Q:Ex→PF→PH→Prop) (p:PV) (a b:AC) (ks:List Kp) (fr:PF) (h:PH):Prop:=∃t,p= .v (.bool t)∧PK E O n Q (.code (bif t then a else b) ks) fr h
@[simp]theorem yq (x:X) (a b:AC):PK E O n Q (.code (.cond x a b) ks) fr h↔PC E O n Q (cu fr x) a b ks fr h:=⟨fun k=>by cases k with|cond e q=>exact ⟨_,e,q⟩,fun⟨t,e,q⟩=>.cond e q⟩
@[simp]theorem wy (t:Bool) (a b:AC):PC E O n Q (.v (.bool t)) a b ks fr h↔br (t=true) (PK E O n Q (.code a ks) fr h) (PK E O n Q (.code b ks) fr h):=by
 unfold PC;cases t
 ·simp only [reduceCtorEq,zT]
  exact ⟨fun⟨t,e,q⟩=>by cases e;exact q,fun q=>⟨_,rfl,q⟩⟩
 ·simp only [zS]
  exact ⟨fun⟨t,e,q⟩=>by cases e;exact q,fun q=>⟨_,rfl,q⟩⟩
@[simp high]theorem FF (a b:AC):PC E O n Q (.v (.bool true)) a b ks fr h↔PK E O n Q (.code a ks) fr h:=by rw [wy];simp
@[simp high]theorem FG (a b:AC):PC E O n Q (.v (.bool false)) a b ks fr h↔PK E O n Q (.code b ks) fr h:=by rw [wy];simp
@[simp]theorem AP (ex:Ex):PK E O n Q (.done ex []) fr h↔Q ex fr h:=⟨fun k=>by cases k;assumption,.qu⟩
@[simp]theorem Dc (b:AC):PK E O n Q (.done .normal (.seq b::ks)) fr h↔PK E O n Q (.code b ks) fr h:=⟨fun k=>by cases k;assumption,.ye⟩
@[simp]theorem Dd (i:Nat):PK E O n Q (.done .normal (.bC i::ks)) fr h↔PK E O n Q (.done .normal ks) fr h:=⟨fun k=>by cases k;assumption,.yf⟩
@[simp]theorem De (i:Nat) (b:AC):PK E O n Q (.done (.exit i) (.seq b::ks)) fr h↔PK E O n Q (.done (.exit i) ks) fr h:=⟨fun k=>by cases k;assumption,.yg⟩
@[simp]theorem AQ (i:Nat):PK E O n Q (.done (.exit i) (.bC i::ks)) fr h↔PK E O n Q (.done .normal ks) fr h:=⟨fun k=>by cases k with|oE q=>exact q|qv q=>exact absurd rfl q,.oE⟩
@[simp]theorem Df (i k:Nat) (I:Nat→PF→PH→Prop):PK E O n Q (.done (.exit i) (.lp I k::ks)) fr h↔PK E O n Q (.done (.exit i) ks) fr h:=⟨fun k=>by cases k;assumption,.del⟩
@[simp]theorem FH (k:Kp):PK E O n Q (.done .ret (k::ks)) fr h↔PK E O n Q (.done .ret ks) fr h:=⟨fun k=>by cases k;assumption,.qw⟩
def tL (n:Nat) (I:Nat→PF→PH→Prop) (k:Nat) (fr:PF) (h:PH):Prop:=∃j,j<k∧∃b9 h2,Gh n fr h b9 h2∧I j b9 h2
@[simp]theorem Dg (I:Nat→PF→PH→Prop) (k:Nat):PK E O n Q (.done .normal (.lp I k::ks)) fr h↔tL n I k fr h:=
 ⟨fun q=>by cases q with|wm a b c=>exact ⟨_,a,_,_,b,c⟩,fun⟨_,a,_,_,b,c⟩=>.wm a b c⟩
def kQ (I:Nat→PF→PH→Prop) (N:Nat):Nat→PF→PH→Prop:=fun k fr h=>k≤N∧I (N- k) fr h
theorem tL.for {I:Nat→PF→PH→Prop} {N i:Nat} (hi:i<N) (a:I (i+1) fr h):tL n (kQ I N) (N- i) fr h:=
 ⟨N- (i+1),by omega,fr,h,Gh.refl _ _ _,by omega,by rw [show N- (N- (i+1))=i+1 by omega];exact a⟩
theorem tL.wz {I:Nat→PF→PH→Prop} {N i:Nat} {a:PF} {h2:PH} (hi:i<N) (g:Gh n fr h a h2) (b:I (i+1) a h2):tL n (kQ I N) (N- i) fr h:=
 ⟨N- (i+1),by omega,a,h2,g,by omega,by rw [show N- (N- (i+1))=i+1 by omega];exact b⟩
theorem oF {a:AC} {b:PF} {h2:PH} (I:Nat→PF→PH→Prop) (k:Nat) (g:Gh n fr h b h2) (c:I k b h2) (step:∀k fr h,I k fr h→PK E O n Q (.code a (.lp I k::ks)) fr h):PK E O n Q (.code (.loop a) ks) fr h:=.loop I k step g c
theorem qy {a:AC} {c:PF} {h2:PH} (I:Nat→PF→PH→Prop) (N:Nat) (g:Gh n fr h c h2) (d:I 0 c h2) (step:∀i fr h,i≤N→I i fr h→PK E O n Q (.code a (.lp (kQ I N) (N- i)::ks)) fr h):PK E O n Q (.code (.loop a) ks) fr h:=
 oF (kQ I N) N g ⟨GB _,by rw [Nat.sub_self];exact d⟩ fun k fr h b=>by
  have:=step (N- k) fr h (by omega) b.2;rwa [show N- (N- k)=k by have:=b.1;omega]at this
theorem et {a:AC} (I:Nat→PF→PH→Prop) (N:Nat) (b:I 0 fr h) (step:∀i fr h,i≤N→I i fr h→PK E O n Q (.code a (.lp (kQ I N) (N- i)::ks)) fr h):PK E O n Q (.code (.loop a) ks) fr h:=qy I N (Gh.refl _ _ _) b step
@[simp]theorem AR (res:List RS) (R:PV→PH→Prop):tJ n res R .normal fr h=∃vs,jf.all fr h res=some vs∧∃a h2,qx n (eM vs) h a h2∧R a h2:=rfl
@[simp]theorem AS (res:List RS) (R:PV→PH→Prop):tJ n res R .ret fr h=∃vs,jf.all fr h res=some vs∧∃a h2,qx n (eM vs) h a h2∧R a h2:=rfl
variable{m:Mp} {l:List AO} {d:Option Nat}
@[simp]theorem AT:PK E O n Q (.ops .pl [] ks) fr h↔PK E O n Q (.done .normal ks) fr h:=⟨fun k=>by cases k;assumption,.qt⟩
@[simp]theorem yr:PK E O n Q (.ops .d0 [] ks) fr h↔PK E O n Q (.done .normal ks) fr h:=⟨fun k=>by cases k;assumption,.lR⟩
def PG (E:Env) (O:dw) (n:Nat) (Q:Ex→PF→PH→Prop) (g:PV) (b:Bool) (m:Mp) (d:Option Nat) (p:aM) (l:List AO) (ks:List Kp) (fr:PF) (h:PH):Prop:=∃x,g= .v x∧br (dd b x=true) (PK E O n Q (.ops m (⟨none,d,p⟩::l) ks) fr h) (PK E O n Q (.ops (m.up [] (fr.al d (.v undef)) h) l ks) (fr.al d (.v undef)) h)
@[simp]theorem FI (t:Nat) (b:Bool) (p:aM):PK E O n Q (.ops m (⟨some (t,b),d,p⟩::l) ks) fr h↔PG E O n Q (fr.get t) b m d p l ks fr h:=by
 constructor
 ·intro k
  cases k with
  |wk e w q=>exact ⟨_,e,fun _=>q,fun k=>absurd w k⟩
  |oD e w q=>exact ⟨_,e,fun k=>(Bool.noConfusion (w.symm.trans k)),fun _=>q⟩
 ·rintro ⟨x,e,q⟩
  cases w:dd b x with
  |true=>exact .wk e w (q.1 w)
  |false=>exact .oD e w (q.2 (by simp [w]))
@[simp]theorem wA (t:Bool) (p:aM):PG E O n Q (.v (.bool t)) true m d p l ks fr h↔br (t=true) (PK E O n Q (.ops m (⟨none,d,p⟩::l) ks) fr h) (PK E O n Q (.ops (m.up [] (fr.al d (.v undef)) h) l ks) (fr.al d (.v undef)) h):=by
 unfold PG;exact ⟨fun⟨x,e,q⟩=>by cases e;simpa using q,fun q=>⟨_,rfl,by simpa using q⟩⟩
@[simp]theorem wB (t:Bool) (p:aM):PG E O n Q (.v (.bool t)) false m d p l ks fr h↔br (t=true) (PK E O n Q (.ops (m.up [] (fr.al d (.v undef)) h) l ks) (fr.al d (.v undef)) h) (PK E O n Q (.ops m (⟨none,d,p⟩::l) ks) fr h):=by
 unfold PG;refine ⟨fun⟨x,e,q⟩=>?_,fun q=>⟨_,rfl,?_⟩⟩
 ·cases e;cases t<;>simpa using q
 ·cases t<;>simpa using q
@[simp high]theorem Dh (p:aM):PG E O n Q (.v (.bool true)) true m d p l ks fr h↔PK E O n Q (.ops m (⟨none,d,p⟩::l) ks) fr h:=by rw [wA];simp
@[simp high]theorem Di (p:aM):PG E O n Q (.v (.bool false)) true m d p l ks fr h↔PK E O n Q (.ops (m.up [] (fr.al d (.v undef)) h) l ks) (fr.al d (.v undef)) h:=by rw [wA];simp
@[simp high]theorem Dj (p:aM):PG E O n Q (.v (.bool true)) false m d p l ks fr h↔PK E O n Q (.ops (m.up [] (fr.al d (.v undef)) h) l ks) (fr.al d (.v undef)) h:=by rw [wB];simp
@[simp high]theorem Dk (p:aM):PG E O n Q (.v (.bool false)) false m d p l ks fr h↔PK E O n Q (.ops m (⟨none,d,p⟩::l) ks) fr h:=by rw [wB];simp
@[simp]theorem FJ (b:Bool) (p:aM):PG E O n Q (.v undef) b m d p l ks fr h↔PK E O n Q (.ops (m.up [] (fr.al d (.v undef)) h) l ks) (fr.al d (.v undef)) h:=by
 unfold PG;refine ⟨fun⟨x,e,q⟩=>?_,fun q=>⟨_,rfl,by simpa using q⟩⟩;cases e;simpa using q
def PO (E:Env) (O:dw) (n:Nat) (Q:Ex→PF→PH→Prop) (r:Option (PV×PH)) (V:List Nat) (d:Option Nat) (m:Mp) (l:List AO) (ks:List Kp) (fr:PF):Prop:=∃v h',r=some (v,h')∧PK E O n Q (.ops (m.up V (fr.al d v) h') l ks) (fr.al d v) h'
@[simp]theorem FK (v:PV) (h':PH) (V:List Nat):PO E O n Q (some (v,h')) V d m l ks fr↔PK E O n Q (.ops (m.up V (fr.al d v) h') l ks) (fr.al d v) h':=⟨fun⟨_,_,e,q⟩=>by cases e;exact q,fun q=>⟨_,_,rfl,q⟩⟩
@[simp]theorem FL (V:List Nat):PO E O n Q none V d m l ks fr↔False:=⟨fun⟨_,_,e,_⟩=>(by cases e),False.elim⟩
def P1 (E:Env) (O:dw) (n:Nat) (Q:Ex→PF→PH→Prop) (r:Option PV) (d:Option Nat) (m:Mp) (l:List AO) (ks:List Kp) (fr:PF) (h:PH):Prop:=∃v,r=some v∧PK E O n Q (.ops (m.up [] (fr.al d v) h) l ks) (fr.al d v) h
@[simp]theorem FM (v:PV):P1 E O n Q (some v) d m l ks fr h↔PK E O n Q (.ops (m.up [] (fr.al d v) h) l ks) (fr.al d v) h:=⟨fun⟨_,e,q⟩=>by cases e;exact q,fun q=>⟨_,rfl,q⟩⟩
@[simp]theorem FN:P1 E O n Q none d m l ks fr h↔False:=⟨fun⟨_,e,_⟩=>(by cases e),False.elim⟩
def PS (E:Env) (O:dw) (n:Nat) (Q:Ex→PF→PH→Prop) (r:Option PH) (V:List Nat) (d:Option Nat) (m:Mp) (l:List AO) (ks:List Kp) (fr:PF):Prop:=∃h',r=some h'∧PK E O n Q (.ops (m.up V (fr.al d (.v undef)) h') l ks) (fr.al d (.v undef)) h'
@[simp]theorem FO (h':PH) (V:List Nat):PS E O n Q (some h') V d m l ks fr↔PK E O n Q (.ops (m.up V (fr.al d (.v undef)) h') l ks) (fr.al d (.v undef)) h':=⟨fun⟨_,e,q⟩=>by cases e;exact q,fun q=>⟨_,rfl,q⟩⟩
@[simp]theorem FP (V:List Nat):PS E O n Q none V d m l ks fr↔False:=⟨fun⟨_,e,_⟩=>(by cases e),False.elim⟩
theorem jU {p:aM} (a:p.ak=false):PK E O n Q (.ops m (⟨none,d,p⟩::l) ks) fr h↔PO E O n Q (pop p (cu fr) h) (jt p (cu fr)) d m l ks fr:=by
 constructor
 ·intro k
  cases k with
  |op e q=>exact ⟨_,_,e,q⟩
  |call=>cases a
  |callv=>cases a
 ·exact fun⟨_,_,e,q⟩=>.op e q
theorem tM (r:Option PV):PO E O n Q (r.map fun v=>(v,h)) [] d m l ks fr↔P1 E O n Q r d m l ks fr h:=by cases r<;>simp
theorem qz (r:Option PH) (V:List Nat):PO E O n Q (r.map fun a=>(.v undef,a)) V d m l ks fr↔PS E O n Q r V d m l ks fr:=by cases r<;>simp
theorem gP {p:aM} {r:Option PV} (a:p.ak=false) (e:pop p (cu fr) h=r.map fun v=>(v,h)) (w:jt p (cu fr)=[]):PK E O n Q (.ops m (⟨none,d,p⟩::l) ks) fr h↔P1 E O n Q r d m l ks fr h:=by rw [jU a,e,w,tM]
@[simp]theorem Dl (x:X):PK E O n Q (.ops m (⟨none,d,.mv x⟩::l) ks) fr h↔PK E O n Q (.ops (m.up [] (fr.al d (cu fr x)) h) l ks) (fr.al d (cu fr x)) h:=by rw [jU rfl];simp [pop,jt]
@[simp]theorem yt (c a b:X):PK E O n Q (.ops m (⟨none,d,.pick c a b⟩::l) ks) fr h↔P1 E O n Q (n4 (cu fr c) (cu fr a) (cu fr b)) d m l ks fr h:=gP rfl rfl rfl
@[simp]theorem wC (z:List Value):PK E O n Q (.ops m (⟨none,d,.alloc z⟩::l) ks) fr h↔PK E O n Q (.ops (m.up [] (fr.al d (.ref h.length 0 z.length)) (h++[.cells z.length (z.map .v)])) l ks) (fr.al d (.ref h.length 0 z.length)) (h++[.cells z.length (z.map .v)]):=by rw [jU rfl];simp [pop,jt]
@[simp]theorem AU (x:X):PK E O n Q (.ops m (⟨none,d,.box x⟩::l) ks) fr h↔PO E O n Q (p8 h (cu fr x)) [] d m l ks fr:=jU rfl
@[simp]theorem Dn (x:X):PK E O n Q (.ops m (⟨none,d,.ld x⟩::l) ks) fr h↔P1 E O n Q (rz h (cu fr x)) d m l ks fr h:=gP rfl rfl rfl
@[simp]theorem AV (k:Nat) (x:X):PK E O n Q (.ops m (⟨none,d,.ldn k x⟩::l) ks) fr h↔P1 E O n Q (iY k h (cu fr x)) d m l ks fr h:=gP rfl rfl rfl
@[simp]theorem Dp (k:Nat) (x v:X):PK E O n Q (.ops m (⟨none,d,.st k x v⟩::l) ks) fr h↔PS E O n Q (ti k h (cu fr x) (cu fr v)) (jt (.st k x v) (cu fr)) d m l ks fr:=by rw [jU rfl];exact qz _ _
@[simp]theorem AW (op:BinOp) (x y:X):PK E O n Q (.ops m (⟨none,d,.bin op x y⟩::l) ks) fr h↔P1 E O n Q (pY op (cu fr x) (cu fr y)) d m l ks fr h:=gP rfl rfl rfl
@[simp]theorem Dq (op:UnOp) (x:X):PK E O n Q (.ops m (⟨none,d,.un op x⟩::l) ks) fr h↔P1 E O n Q (x7 op (cu fr x)) d m l ks fr h:=gP rfl rfl rfl
@[simp]theorem AX (k:IntKind) (x:X):PK E O n Q (.ops m (⟨none,d,.hZ k x⟩::l) ks) fr h↔P1 E O n Q (p7 k (cu fr x)) d m l ks fr h:=gP rfl rfl rfl
@[simp]theorem Dr (off:Nat) (x:X):PK E O n Q (.ops m (⟨none,d,.fa off x⟩::l) ks) fr h↔P1 E O n Q (uF h off (cu fr x)) d m l ks fr h:=gP rfl rfl rfl
@[simp]theorem Ds (sz:Nat) (x i:X):PK E O n Q (.ops m (⟨none,d,.ia sz x i⟩::l) ks) fr h↔P1 E O n Q (wa h sz (cu fr x) (cu fr i)) d m l ks fr h:=gP rfl rfl rfl
@[simp]theorem AY (len sz:Nat) (x i:X):PK E O n Q (.ops m (⟨none,d,.eT len sz x i⟩::l) ks) fr h↔P1 E O n Q (n5 h len sz (cu fr x) (cu fr i)) d m l ks fr h:=gP rfl rfl rfl
@[simp]theorem yu (x:X):PK E O n Q (.ops m (⟨none,d,.dX x⟩::l) ks) fr h↔P1 E O n Q (lF h (cu fr x)) d m l ks fr h:=gP rfl rfl rfl
@[simp]theorem AZ (len k:Nat) (xs:List X):PK E O n Q (.ops m (⟨none,d,.xt (.jw len k) xs⟩::l) ks) fr h↔P1 E O n Q (o5 h (.jw len k) (xs.map (cu fr))) d m l ks fr h:=gP rfl rfl rfl
theorem jV {f:Nat} {«as»:List X} {args:List PV} {W:List Nat} (b:«as».map (cu fr)=args) (k:qq E O f args h (· ∈W) (fun r a=>PK E O n Q (.ops (m.up W (fr.al d r) a) l ks) (fr.al d r) a)):PK E O n Q (.ops m (⟨none,d,.call f «as»⟩::l) ks) fr h:=
 .call (b▸k) fun _ _ q=>q
end
attribute [simp] jP o5 p9 jQ n4 rz iY ti lE pY pZ p6 iZ x7 p7 tj uF bz wa n5 Am tk n6 ja lF lG n7 rA x8 gL lH n8 tn tp wb mD tq p8 aT fD jr jt eo iv kM jf.all jf.get eM
end P
namespace P
open Go Go.RowKit
def add (F:Nat→Prop) (h:PH) (φ:Nat→Nat) (A:Nat→Prop):Nat→Prop:=fun y=>F y∨∃b,A b∧ar h b∧φ b=y
def Vz (A:Nat→Prop) (h:PH) (p q:PV):Prop:=∀F H φ x,bk ⟨F,H,φ,h⟩→RV ⟨F,H,φ,h⟩ p x→RF (add F h φ A) H q x
def qA (A:Nat→Prop) (h:PH):List PV→List PV→Prop
 |[],[]=>True
 |p::ps,q::qs=>Vz A h p q∧qA A h ps qs
 |_,_=>False
def Vg (A:Nat→Prop) (σ:Nat→Nat) (h bs:PH) (p q:PV):Prop:=∀F H φ x,bk ⟨F,H,φ,h⟩→RV ⟨F,H,φ,h⟩ p x→RV ⟨add F h φ A,H,fun i=>φ (σ i),bs⟩ q x
def gQ (A:Nat→Prop) (σ:Nat→Nat) (h bs:PH):List PV→List PV→Prop
 |[],[]=>True
 |p::ps,q::qs=>Vg A σ h bs p q∧gQ A σ h bs ps qs
 |_,_=>False
variable{A:Nat→Prop} {σ:Nat→Nat} {h bs:PH}
theorem qA.ok:∀{ps c:List PV},qA A h ps c→∀{F H φ xs},bk ⟨F,H,φ,h⟩→aL ⟨F,H,φ,h⟩ ps xs→cK (add F h φ A) H c xs
 |[],[],_,F,H,φ,_,S,.nil=>.nil
 |p::ps,q::c,⟨a,b⟩,F,H,φ,_,S,.cons r s=>.cons (a F H φ _ S r) (qA.ok b S s)
theorem gQ.ok:∀{ps c:List PV},gQ A σ h bs ps c→∀{F H φ xs},bk ⟨F,H,φ,h⟩→aL ⟨F,H,φ,h⟩ ps xs→aL ⟨add F h φ A,H,fun i=>φ (σ i),bs⟩ c xs
 |[],[],_,F,H,φ,_,S,.nil=>.nil
 |p::ps,q::c,⟨a,b⟩,F,H,φ,_,S,.cons r s=>.cons (a F H φ _ S r) (gQ.ok b S s)
theorem oG {F:Nat→Prop} {H:AH} {φ:Nat→Nat} (x:Nat) (a:F x):add F h φ A x∧H.get x=H.get x:=⟨.inl a,rfl⟩
theorem wD (x:Value):Vz A h (.v x) (.v x):=fun F H a y S R=>by cases R;exact .v _
theorem rG (sz:Nat) (rows:List (List PV)):Vz A h (.fs sz rows) (.fs sz rows):=fun F H a y S R=>by cases R with|fs q=>exact q.mono rfl oG
theorem dT.of_flat {F:Nat→Prop} {H:AH} {sz:Nat}:∀{rows:List (List PV)} {ys:List Value},cK F H rows.flatten ys→(∀r∈rows,r.length=sz)→∃rs,dT F H rows rs∧rs.flatten=ys∧∀r∈rs,r.length=sz
 |[],ys,h,_=>by cases h;exact ⟨[],.nil,rfl,by simp⟩
 |r::rows,ys,h,e=>by
  rw [List.flatten_cons]at h;have f:cK F H r (ys.take sz):=by have:=h.take r.length;rwa [List.take_left,e r (by simp)]at this
  have h2:cK F H rows.flatten (ys.drop sz):=by have:=h.drop r.length;rwa [List.drop_left,e r (by simp)]at this
  obtain ⟨rs,a,b,c⟩:=dT.of_flat h2 fun q d=>e q (by simp [d])
  refine ⟨ys.take sz::rs,.cons f a,by rw [List.flatten_cons,b,List.take_append_drop],fun q d=>?_⟩;rcases GQ.1 d with rfl|d
  ·rw [←f.length,e r (by simp)]
  ·exact c q d
theorem wE {sz b o n c z:Nat} {cs:List PV} {rows:List (List PV)} (B:A b) (a:h[b]?=some (.cells z cs)) (g:(o+c)*sz=cs.length) (C:0<sz) (s:sz≤z) (y:n≤c) (j:rows.length=n) (w:∀r∈rows,r.length=sz) (u:qA A h ((cs.drop (o*sz)).take (n*sz)) rows.flatten):Vz A h (.sl sz b o n c) (.fs sz rows):=fun F H I x S R=>by
 rcases fG R a g with⟨rfl,rfl,d,rfl,O⟩|⟨P,rfl⟩
 ·obtain rfl:rows=[]:=G4.1 j
  exact .fs (rows:=[]) (rs:=[]) ⟨_,_,rfl,by simp⟩ (G3 _) (fun e l=>⟨.inr rfl,.inl rfl⟩) .nil
 ·have m:cs≠[]:=by
   rintro rfl;have:=Nat.mul_pos (show 0<o+c by omega) C;simp at g;omega
  obtain ⟨J,k,f,D⟩:=S.cells (t:=0) a (List.length_pos_iff.2 m);have L:=f.length;obtain ⟨rs,p,G,a3⟩:=dT.of_flat (u.ok S ((f.drop (o*sz)).take (n*sz))) w;have v:=p.length;have T:(o+c)*sz=o*sz+c*sz:=Nat.add_mul ..;rw [←j];refine .fs (rs:=rs) ⟨_,_,by rw [v],fun i r hi=>⟨_,_,rfl,?_⟩⟩ (by omega) (fun e l=>?_) p
  ·obtain ⟨E,Q⟩:=eL a3 hi
   have N:=(GD.1 hi).1;have q:(i+1)*sz≤n*sz:=Nat.mul_le_mul_right _ (by omega);have K:n*sz≤c*sz:=Nat.mul_le_mul_right _ y;rw [Nat.succ_mul]at q;rw [eK k D (by omega),←E,G,List.drop_take,List.drop_drop,List.take_take,Nat.min_eq_left (by omega)]
  ·cases l
   refine ⟨.inl rfl,?_⟩;by_cases M:n=0
   ·left;omega
   ·right
    refine ⟨.inr ⟨b,B,aI a m,rfl⟩,?_⟩;unfold AH.eS;rw [k];simp [s]
theorem tN {p q:PV} (k:Vz A h p q):Vg A σ h bs p q:=fun F H a x S R=>(k F H a x S R).fJ (C:=⟨_,_,_,_⟩)
@[simp]theorem A0 (x:Value):Vg A σ h bs (.v x) (.v x)↔True:=⟨fun _=>trivial,fun _=>tN (wD x)⟩
@[simp]theorem wF (sz:Nat) (rows:List (List PV)):Vg A σ h bs (.fs sz rows) (.fs sz rows)↔True:=⟨fun _=>trivial,fun _=>tN (rG sz rows)⟩
@[simp]theorem yv:qA A h [] []↔True:=Iff.rfl
@[simp]theorem wG (p q:PV) (ps qs:List PV):qA A h (p::ps) (q::qs)↔Vz A h p q∧qA A h ps qs:=Iff.rfl
@[simp]theorem yw:gQ A σ h bs [] []↔True:=Iff.rfl
@[simp]theorem wH (p q:PV) (ps qs:List PV):gQ A σ h bs (p::ps) (q::qs)↔Vg A σ h bs p q∧gQ A σ h bs ps qs:=Iff.rfl
@[simp]theorem wI (cells:List PV):Vg A σ h bs (.fp cells) (.fp cells)↔True:=⟨fun _=>trivial,fun _ F H d x S R=>by
 cases R with|fp a b c=>exact .fp (.inl a) b (c.mono rfl oG)⟩
theorem tO {ps a:List PV} (k:gQ A σ h bs ps a):Vg A σ h bs (.agg ps) (.agg a):=fun F H b x S R=>by cases R with|agg r=>exact .agg (k.ok S r)
theorem oH {ps a:List PV} (k:gQ A σ h bs ps a):Vg A σ h bs (.dG ps) (.dG a):=fun F H b x S R=>by cases R with|dG r=>exact .dG (k.ok S r)
theorem wJ {f:Nat} {ps b ps' a:List PV} (k:gQ A σ h bs ps b) (d:gQ A σ h bs ps' a):Vg A σ h bs (.fn f ps ps') (.fn f b a):=fun F H e x S R=>by cases R with|fn r c=>exact .fn (k.ok S r) (d.ok S c)
theorem tP {t:Nat} {p q:PV} (k:Vg A σ h bs p q):Vg A σ h bs (.g8 t p) (.g8 t q):=fun F H a x S R=>by cases R with|g8 r=>exact .g8 (k F H a _ S r)
theorem jg {h:PH} {b T t:Nat} (e:bz h b=some T):At h b t↔T=t:=by
 unfold bz at e;split at e
 ·rename_i z cs a
  cases e;constructor
  ·rintro ⟨c,d,e,rfl⟩;rw [a]at e;cases e;rfl
  ·rintro rfl;exact ⟨z,cs,a,rfl⟩
 ·cases e
theorem lS {h:PH} {b T t:Nat} (e:bz h b=some T):Le h b t↔t≤T:=by
 unfold bz at e;split at e
 ·rename_i z cs a
  cases e;exact ⟨fun k=>k z cs a,fun k c d e=>by rw [a]at e;cases e;exact k⟩
 ·cases e
theorem qB {h:PH} {b T:Nat} (e:bz h b=some T):b<h.length:=by
 unfold bz at e;split at e
 ·rename_i z cs a;exact (GD.1 a).1
 ·cases e
theorem tQ {b i o t T:Nat} (c:bz h b=some T) (h2:bz bs i=some T) (d:σ i=b):Vg A σ h bs (.ref b o t) (.ref i o t):=fun F H g x S R=>by
 cases R with|ref a j e f=>
 subst d;refine .ref a (qB h2) ((lS h2).2 ((lS c).1 e)) fun k=>?_
 exact f ((jg c).2 ((jg h2).1 k))
def gR (A:Nat→Prop) (σ:Nat→Nat) (h bs:PH) (o:Option PB):PB→Prop
 | .cells z qs=>qs=[]∨∃ps,o=some (.cells z ps)∧gQ A σ h bs ps qs
 | .map fs=>∃es,o=some (.map es)∧es.map (·.1)=fs.map (·.1)∧gQ A σ h bs (es.map (·.2)) (fs.map (·.2))
 | .dead=>True
structure fK (A:Nat→Prop) (σ:Nat→Nat) (h bs:PH):Prop where
 bC:∀i P,bs[i]?=some P→gR A σ h bs h[σ i]? P
 inj:∀i j,i<bs.length→j<bs.length→ar bs i→ar bs j→σ i=σ j→i=j
 off:∀i,i<bs.length→ar bs i→¬ A (σ i)
theorem gQ.length:∀{ps a:List PV},gQ A σ h bs ps a→ps.length=a.length
 |[],[],_=>rfl
 |_::_,_::_,⟨_,b⟩=>by simp [gQ.length b]
theorem fK.ar (K:fK A σ h bs) {i:Nat} (s:P.ar bs i):P.ar h (σ i):=by
 rcases dB s with⟨es,e⟩|⟨z,cs,e,b⟩
 ·obtain ⟨d,a,_⟩:=K.bC i _ e
  exact bE a
 ·rcases K.bC i _ e with q|⟨ps,a,c⟩
  ·exact absurd q b
  ·exact aI a (by rintro rfl;have:=c.length;exact b (G4.1 this.symm))
theorem fK.ok (K:fK A σ h bs) {F:Nat→Prop} {H:AH} {φ:Nat→Nat} (S:bk ⟨F,H,φ,h⟩):bk ⟨add F h φ A,H,fun i=>φ (σ i),bs⟩where
 wf:=S.wf
 fz:=fun x l=>by
  rcases l with l|⟨b,_,f,rfl⟩
  ·exact S.fz x l
  ·exact S.lt f
 inj:=fun i j s t e=>K.inj i j (aO s) (aO t) s t (S.inj _ _ (K.ar s) (K.ar t) e)
 bC:=fun i z y e m=>by
  have s:=aI e m;rcases K.bC i _ e with q|⟨ps,p,k⟩
  ·exact absurd q m
  obtain ⟨u,a,b,c,d⟩:=S.bC (σ i) z ps p (by rintro rfl;have:=k.length;exact m (G4.1 this.symm));refine ⟨u,a,k.ok S b,c,?_⟩;rintro (q|⟨w,n,f,o⟩)
  ·exact d q
  ·exact K.off i (aO s) s (S.inj _ _ f (K.ar s) o▸n)
 mC:=fun i B e=>by
  have s:=bE e;obtain ⟨es,p,v,k⟩:=K.bC i _ e;obtain ⟨r,a,b,c,d,g⟩:=S.mC (σ i) es p;refine ⟨r,a,v.symm.trans b,k.ok S c,d,?_⟩;rintro (q|⟨w,n,f,o⟩)
  ·exact g q
  ·exact K.off i (aO s) s (S.inj _ _ f (K.ar s) o▸n)
theorem fK.none (A:Nat→Prop) (σ:Nat→Nat) (h:PH):fK A σ h []:=⟨fun i P e=>by simp at e,fun i j hi=>by simp at hi,fun i hi=>by simp at hi⟩
mutual
def sh (k:Nat):PV→PV
 | .ref b o t=>.ref (b+k) o t
 | .sl sz b o n c=>.sl sz (b+k) o n c
 | .mp b=>.mp (b+k)
 | .agg cs=>.agg (ka k cs)
 | .dG cs=>.dG (ka k cs)
 | .fn f a b=>.fn f (ka k a) (ka k b)
 | .g8 t p=>.g8 t (sh k p)
 | .v x=>.v x
 | .fs sz rows=>.fs sz rows
 | .fp cells=>.fp cells
 | .any=>.any
def ka (k:Nat):List PV→List PV
 |[]=>[]
 |p::ps=>sh k p::ka k ps
end
def jh (k:Nat):PB→PB
 | .cells z cs=>.cells z (ka k cs)
 | .map es=>.map (es.map fun e=>(e.1,sh k e.2))
 | .dead=>.dead
theorem cn (k:Nat):∀l:List PV,(ka k l).length=l.length
 |[]=>rfl
 |_::l=>by simp [ka,cn k l]
theorem lT (k:Nat):∀es:List (Value×PV),(es.map fun e=>(e.1,sh k e.2)).map (·.2)=ka k (es.map (·.2))
 |[]=>rfl
 |_::l=>by simp only [List.map_cons,ka,lT k l]
theorem eN {h bs:PH} (b:Nat):(h++bs.map (jh h.length))[b+h.length]?=(bs[b]?).map (jh h.length):=by
 rw [GP (by omega),Nat.add_sub_cancel,G5]
theorem oI {h bs:PH} {b t:Nat}:At (h++bs.map (jh h.length)) (b+h.length) t↔At bs b t:=by
 unfold At;rw [eN];constructor
 ·rintro ⟨z,cs,e,rfl⟩
  obtain ⟨P,a,e⟩:=GI.1 e
  cases P with
  |cells d c=>cases e;exact ⟨_,c,a,(cn _ _).symm⟩
  |_=>cases e
 ·rintro ⟨z,cs,e,rfl⟩
  exact ⟨z,ka h.length cs,by rw [e];rfl,cn _ _⟩
theorem rH {h bs:PH} {b t:Nat}:Le (h++bs.map (jh h.length)) (b+h.length) t↔Le bs b t:=by
 unfold Le;rw [eN];constructor
 ·intro k z cs e
  have:=k z (ka h.length cs) (by rw [e];rfl);rwa [cn]at this
 ·intro k z cs e
  obtain ⟨P,a,e⟩:=GI.1 e
  cases P with
  |cells d c=>cases e;rw [cn];exact k _ c a
  |_=>cases e
theorem jW {h bs:PH} {b:Nat}:cS (h++bs.map (jh h.length)) (b+h.length)↔cS bs b:=by
 unfold cS;rw [eN];constructor
 ·rintro ⟨es,e⟩
  obtain ⟨P,c,e⟩:=GI.1 e
  cases P with
  |map a=>exact ⟨a,c⟩
  |_=>cases e
 ·rintro ⟨es,e⟩
  exact ⟨_,by rw [e];rfl⟩
theorem oJ {h bs:PH} {b:Nat}:ar (h++bs.map (jh h.length)) (b+h.length)↔ar bs b:=by
 unfold ar;simp only [jW,oI]
def join (h:PH) (φ ψ:Nat→Nat):Nat→Nat:=fun b=>if b<h.length then φ b else ψ (b- h.length)
theorem fV (h:PH) (φ a:Nat→Nat) (b:Nat):join h φ a (b+h.length)=a b:=by
 unfold join;rw [if_neg (by omega),Nat.add_sub_cancel]
theorem ji {h:PH} {φ a:Nat→Nat} {b:Nat} (c:b<h.length):join h φ a b=φ b:=if_pos c
theorem oK {h bs:PH} {b:Nat} (a:b<bs.length):b+h.length<(h++bs.map (jh h.length)).length:=by
 rw [GH,List.length_map];omega
mutual
theorem oL {F:Nat→Prop} {H:AH} {φ g:Nat→Nat} {h bs:PH}:∀{p:PV} {x:Value},RV ⟨F,H,g,bs⟩ p x→RV ⟨F,H,join h φ g,h++bs.map (jh h.length)⟩ (sh h.length p) x
 |_,_, .v x=> .v x
 |_,_, .ref a d f e=> .ref a (oK d) (rH.2 f) fun k=>by
  have:=e (oI.1 k)
  simpa [fV]using this
 |_,_, .sl a d f e=> .sl a (oK d) (rH.2 f) fun k=>by
  have:=e (oI.1 k)
  simpa [fV]using this
 |_,_, .mp a d e=> .mp a (oK d) fun k=>by
  have:=e (jW.1 k)
  simpa [fV]using this
 |_,_, .fs k=> .fs k
 |_,_, .fp a b c=> .fp a b c
 |_,_, .agg k=> .agg (eu k)
 |_,_, .dG k=> .dG (eu k)
 |_,_, .fn a b=> .fn (eu a) (eu b)
 |_,_, .g8 a=> .g8 (oL a)
 |_,_, .any x=> .any x
theorem eu {F:Nat→Prop} {H:AH} {φ c:Nat→Nat} {h bs:PH}:∀{p:List PV} {x:List Value},aL ⟨F,H,c,bs⟩ p x→aL ⟨F,H,join h φ c,h++bs.map (jh h.length)⟩ (ka h.length p) x
 |_,_, .nil=> .nil
 |_,_, .cons a b=> .cons (oL a) (eu b)
end
end P
namespace P
open Go Go.RowKit
variable{E:Env} {O:dw}
def bJ (h:PH):List Nat→PH
 |[]=>h
 |b::L=>bJ (h.set b .dead) L
theorem b7:∀(L:List Nat) (h:PH),(bJ h L).length=h.length
 |[],h=>rfl
 |b::L,h=>by rw [bJ,b7 L];simp
theorem dK:∀(L:List Nat) (h:PH) (c:Nat),(bJ h L)[c]?=if c∈L∧c<h.length then some .dead else h[c]?
 |[],h,c=>by simp [bJ]
 |b::L,h,c=>by
  rw [bJ,dK L];by_cases d:c<h.length
  ·by_cases a:c∈L
   ·simp [a,d]
   ·by_cases h2:c=b
    ·subst h2;simp [a,d]
    ·rw [if_neg (fun q=>a q.1),if_neg (fun q=>(GQ.1 q.1).elim h2 a),bw h2]
  ·rw [if_neg (by simp;omega),if_neg (by simp;omega),Hh (by simp;omega),Hh (by omega)]
theorem cq {h:PH} {L:List Nat} {b:Nat} (s:ar (bJ h L) b):ar h b∧b∉L:=by
 have d:=aO s;rw [b7]at d;have e:=dK L h b;by_cases a:b∈L
 ·rw [if_pos ⟨a,d⟩]at e
  rcases dB s with⟨es,c⟩|⟨z,cs,c,_⟩<;>rw [e]at c<;>cases c
 ·rw [if_neg (fun q=>a q.1)]at e
  exact ⟨(bq e).1 s,a⟩
theorem mH {F:Nat→Prop} {H:AH} {φ:Nat→Nat} {h:PH} (S:bk ⟨F,H,φ,h⟩) (L:List Nat):bk ⟨add F h φ (· ∈L),H,φ,bJ h L⟩∧bf h.length (fun _=>False) ⟨F,H,φ,h⟩ ⟨add F h φ (· ∈L),H,φ,bJ h L⟩:=by
 have same:∀b,b∉L→(bJ h L)[b]?=h[b]?:=fun b f=>by rw [dK,if_neg (fun q=>f q.1)]
 have dead:∀b,b∈L→b<h.length→(bJ h L)[b]?=some .dead:=fun b f g=>by rw [dK,if_pos ⟨f,g⟩]
 have T:bf h.length (fun _=>False) ⟨F,H,φ,h⟩ ⟨add F h φ (· ∈L),H,φ,bJ h L⟩:={
  n0:=rfl
  nx:=GB _
  fz:=fun x i=>⟨.inl i,rfl⟩
  fo:=fun x i hi n=>by
   rcases n with n|⟨b,_,s,rfl⟩
   ·exact n
   ·exact absurd ⟨b,trivial,s,rfl⟩ hi
  out:=fun _ _ _=>rfl
  loc:=fun b f=>.inr ⟨(cq f).1,rfl⟩
  len:=fun k=>by rw [b7];exact k
  le:=fun b _ g t v=>by
   by_cases f:b∈L
   ·intro z cs e;rw [dead b f g]at e;cases e
   ·exact (gJ (same b f)).2 v
  j9:=fun b _ g t _ j=>by
   by_cases f:b∈L
   ·obtain ⟨z,cs,e,_⟩:=j;rw [dead b f g]at e;cases e
   ·exact ⟨(gI (same b f)).1 j,rfl⟩
  kL:=fun b _ g j=>by
   by_cases f:b∈L
   ·obtain ⟨es,e⟩:=j;rw [dead b f g]at e;cases e
   ·exact ⟨(cm (same b f)).1 j,rfl⟩}
 have o:∀b,ar h b→b∉L→¬ add F h φ (· ∈L) (φ b):=by
  rintro b s f (q|⟨l,w,m,e⟩)
  ·exact (S.old s).2 q
  ·exact f (S.inj _ _ m s e▸w)
 refine ⟨⟨S.wf,fun x i=>?_,fun b l s m e=>S.inj _ _ (cq s).1 (cq m).1 e,fun b z cs e p=>?_,fun b es e=>?_⟩,T⟩
 ·rcases i with i|⟨b,_,s,rfl⟩
  ·exact S.fz x i
  ·exact S.lt s
 ·obtain ⟨s,f⟩:=cq (aI e p)
  rw [show(bJ h L)[b]?=_ from same b f]at e;obtain ⟨u,a,l,c,_⟩:=S.bC b z cs e p;exact ⟨u,a,l.step T,c,o b s f⟩
 ·obtain ⟨s,f⟩:=cq (bE e)
  rw [show(bJ h L)[b]?=_ from same b f]at e;obtain ⟨r,a,l,c,d,_⟩:=S.mC b es e;exact ⟨r,a,l,c.step T,d,o b s f⟩
theorem qC {F u:Nat→Prop} {H r:AH} {φ i:Nat→Nat} {h f:PH} {W:Nat→Prop} (S:bk ⟨F,H,φ,h⟩) (y:bk ⟨u,r,i,f⟩) (T:bf 0 mV ⟨F,H,φ,[]⟩ ⟨u,r,i,f⟩):
 bk ⟨u,r,join h φ i,h++f.map (jh h.length)⟩∧bf h.length W ⟨F,H,φ,h⟩ ⟨u,r,join h φ i,h++f.map (jh h.length)⟩:=by
 have Q:∀{V:Nat→Prop} {x:Nat},¬ im ⟨F,H,φ,[]⟩ V x:=by
  rintro V x ⟨b,_,s,_⟩;have:=aO s;simp at this
 have same:∀x,x<H.nx→r.get x=H.get x:=fun x n=>T.out x n Q
 have fo:∀x,x<H.nx→u x→F x:=fun x n D=>T.fo x n Q D
 have lo:∀{b},b<h.length→(h++f.map (jh h.length))[b]?=h[b]?:=fun d=>GL d
 have new:∀b,ar f b→H.nx≤i b:=fun b s=>by
  rcases T.loc b s with q|⟨q,_⟩
  ·exact q
  ·have:=aO q;simp at this
 have split:∀b,ar (h++f.map (jh h.length)) b→(b<h.length∧ar h b∧join h φ i b=φ b)∨∃c,b=c+h.length∧ar f c∧join h φ i b=i c:=by
  intro b s;by_cases d:b<h.length
  ·exact .inl ⟨d,(bq (lo d)).1 s,ji d⟩
  ·refine .inr ⟨b- h.length,by omega,?_,?_⟩
   ·rw [show b=(b- h.length)+h.length by omega]at s
    exact oJ.1 s
   ·rw [show b=(b- h.length)+h.length by omega,fV,Nat.add_sub_cancel]
 have M:bf h.length W ⟨F,H,φ,h⟩ ⟨u,r,join h φ i,h++f.map (jh h.length)⟩:={
  n0:=T.n0
  nx:=T.nx
  fz:=T.fz
  fo:=fun x n _ D=>fo x n D
  out:=fun x n _=>same x n
  loc:=fun b d=>by
   rcases split b d with⟨v,h2,a⟩|⟨c,rfl,h2,a⟩
   ·exact .inr ⟨h2,a⟩
   ·left;show _≤join h φ i _;rw [a];exact new c h2
  len:=fun _=>by simp
  le:=fun b d _ t U=>(gJ (lo d)).2 U
  j9:=fun b d _ t _ I=>⟨(gI (lo d)).1 I,ji d⟩
  kL:=fun b d _ I=>⟨(cm (lo d)).1 I,ji d⟩}
 refine ⟨⟨y.wf,y.fz,fun b L s N e=>?_,fun b z cs e G=>?_,fun b es e=>?_⟩,M⟩
 ·dsimp only at e
  rcases split b s with⟨v,h2,a⟩|⟨c,rfl,h2,a⟩
  ·rcases split L N with⟨X,p,o⟩|⟨R,rfl,p,o⟩
   ·rw [a,o]at e;exact S.inj _ _ h2 p e
   ·rw [a,o]at e
    have Z:φ b<H.nx:=S.lt h2;have:=new R p;omega
  ·rcases split L N with⟨X,p,o⟩|⟨R,rfl,p,o⟩
   ·rw [a,o]at e
    have Z:φ L<H.nx:=S.lt p;have:=new c h2;omega
   ·rw [a,o]at e
    rw [y.inj _ _ h2 p e]
 ·rcases split b (aI e G)with⟨v,h2,a⟩|⟨c,rfl,h2,a⟩
  ·have g:=e
   rw [show(h++f.map (jh h.length))[b]?=_ from lo v]at g;obtain ⟨B,m,l,k,j⟩:=S.bC b z cs g G;dsimp only;rw [a];exact ⟨B,(same _ (S.lt h2)).trans m,l.step M,T.n0▸k,fun q=>j (fo _ (S.lt h2) q)⟩
  ·have g:=e
   rw [show(h++f.map (jh h.length))[c+h.length]?=_ from eN c]at g;obtain ⟨P,J,w⟩:=GI.1 g
   cases P with
   |cells z' Y=>
    cases w;obtain ⟨B,m,l,k,j⟩:=y.bC c _ Y J (by rintro rfl;exact G rfl);dsimp only;rw [a];exact ⟨B,m,eu l,k,j⟩
   |_=>cases w
 ·rcases split b (bE e)with⟨v,h2,a⟩|⟨c,rfl,h2,a⟩
  ·have g:=e
   rw [show(h++f.map (jh h.length))[b]?=_ from lo v]at g;obtain ⟨A,m,l,k,j,C⟩:=S.mC b es g;dsimp only;rw [a];exact ⟨A,(same _ (S.lt h2)).trans m,l,k.step M,T.n0▸j,fun q=>C (fo _ (S.lt h2) q)⟩
  ·have g:=e
   rw [show(h++f.map (jh h.length))[c+h.length]?=_ from eN c]at g;obtain ⟨P,J,w⟩:=GI.1 g
   cases P with
   |map K=>
    cases w;obtain ⟨A,m,l,k,j,C⟩:=y.mC c K J;dsimp only;rw [a];refine ⟨A,m,?_,?_,j,C⟩
    ·rw [←l];simp [List.map_map,Function.comp_def]
    ·rw [lT];exact eu k
   |_=>cases w
theorem o6.pure {f:Nat} {args d:List PV} {h:PH} (L:List Nat) {R:PV→PH→Prop} (k:o6 E O f d [] R) (j:gQ (· ∈L) id h [] args d):
 qq E O f args h (· ∈[]) (fun r n=>∃a b,R a b∧r=sh h.length a∧n=bJ h L++b.map (jh h.length)):=by
 intro F H φ i S u;obtain ⟨s,o⟩:=mH S L;have t:=(fK.none (· ∈L) id h).ok S;refine (k _ H _ i t (j.ok S u)).mono ?_;rintro x y ⟨a,b,v,w,m,l,p,T⟩;obtain ⟨g,e⟩:=qC (W:=(· ∈[])) s p T;have c:=b7 L h;rw [c]at g e;refine ⟨_,_,v,_,⟨a,b,m,rfl,rfl⟩,?_,g,(o.trans e (by exact GB _) (fun _ q=>q.elim) (fun _ q=>q))⟩;have:=oL (φ:=φ) (h:=bJ h L) l;rw [c]at this;exact this
mutual
def oM:PV→Bool
 | .v _=>true
 | .agg cs=>jj cs
 | .dG cs=>jj cs
 | .g8 _ p=>oM p
 |_=>false
def jj:List PV→Bool
 |[]=>true
 |p::ps=>oM p&&jj ps
end
def eO (A:Nat→Prop) (σ:Nat→Nat) (h bs:PH):Nat→PH→Prop
 |_,[]=>True
 |i,P::l=>gR A σ h bs h[σ i]? P∧eO A σ h bs (i+1) l
@[simp]theorem uJ (A:Nat→Prop) (a:Nat→Nat) (h b:PH) (i:Nat):eO A a h b i []↔True:=Iff.rfl
@[simp]theorem tR (A:Nat→Prop) (a:Nat→Nat) (h b:PH) (i:Nat) (P:PB) (l:PH):eO A a h b i (P::l)↔gR A a h b h[a i]? P∧eO A a h b (i+1) l:=Iff.rfl
theorem eO.ok {A:Nat→Prop} {a:Nat→Nat} {h b:PH}:∀{l:PH} {i:Nat},eO A a h b i l→∀j P,l[j]?=some P→gR A a h b h[a (i+j)]? P
 |[],i,_,j,P,e=>by simp at e
 |Q::l,i,k,0,P,e=>by simp at e;subst e;exact k.1
 |Q::l,i,k,j+1,P,e=>by
  have:=eO.ok k.2 j P (by simpa using e);rwa [show i+1+j=i+(j+1) by omega]at this
@[simp]theorem rI (A:Nat→Prop) (b:Nat→Nat) (h d:PH) (z c:Nat) (ps a:List PV):gR A b h d (some (.cells z ps)) (.cells c a)↔a=[]∨(z=c∧gQ A b h d ps a):=by
 unfold gR;constructor
 ·rintro (q|⟨f,e,k⟩)
  ·exact .inl q
  ·cases e;exact .inr ⟨rfl,k⟩
 ·rintro (q|⟨rfl,k⟩)
  ·exact .inl q
  ·exact .inr ⟨_,rfl,k⟩
@[simp]theorem tS (A:Nat→Prop) (a:Nat→Nat) (h b:PH) (o:Option PB):gR A a h b o .dead↔True:=Iff.rfl
def rJ:Option PB→Option PB→Prop
 |some (.cells _ cs),some (.cells _ a7)=>cs.length=a7.length
 |_,_=>False
@[simp]theorem Dv (z b:Nat) (cs a:List PV):rJ (some (.cells z cs)) (some (.cells b a))↔cs.length=a.length:=Iff.rfl
theorem oN {h g:PH} {A:Nat→Prop} {f:Nat→Nat} (K:fK A f h g) {F:Nat→Prop} {H:AH} {φ:Nat→Nat} {C0:Cx} (j:C0.h.length=0) (T:bf 0 mV C0 ⟨F,H,φ,h⟩):bf 0 mV C0 ⟨add F h φ A,H,fun i=>φ (f i),g⟩:=by
 have k:C0.h=[]:=G4.1 j;have no:∀{b:Nat},¬ ar C0.h b:=fun s=>by have:=aO s;omega
 refine ⟨T.n0,T.nx,fun y c=>⟨.inl (T.fz y c).1,(T.fz y c).2⟩,fun y c hi d=>?_,T.out,fun b a=>?_,fun _=>G3 _,fun b a=>absurd a (GZ _),fun b a=>absurd a (GZ _),fun b a=>absurd a (GZ _)⟩
 ·rcases d with d|⟨b,_,s,e⟩
  ·exact T.fo y c hi d
  ·rcases T.loc b s with q|⟨q,_⟩
   ·dsimp only at q;omega
   ·exact absurd q no
 ·rcases T.loc _ (K.ar a)with q|⟨q,_⟩
  ·exact .inl q
  ·exact absurd q no
theorem oO {r b:PV} {h bs:PH} (A:Nat→Prop) (a:Nat→Nat) (K:fK A a h bs) (V:Vg A a h bs r b):qx 0 r h b bs:=by
 intro F H c x S R;exact ⟨_,_,K.ok S,V F H c x S R,fun e d T=>oN K d T⟩
theorem oP {n:Nat} {r u:PV} {h bs:PH} (i:Nat→Nat) (K:fK (fun _=>False) i h bs) (V:Vg (fun _=>False) i h bs r u) (A:n≤bs.length) (k:∀b,b<n→i b=b∧(bz bs b=none∨bz bs b=bz h b)∧(cS bs b→cS h b)) (h2:∀b,n≤b→b<bs.length→n≤i b) (B:∀b,b<n→∀t,Le h b t→Le bs b t):qx n r h u bs:=by
 intro F H w x S R;refine ⟨_,_,K.ok S,V F H w x S R,fun D C T=>?_⟩
 have s:∀{h:PH} {b t:Nat},At h b t↔bz h b=some t:=by
  intro h b t;constructor
  ·rintro ⟨z,cs,e,rfl⟩;unfold bz;rw [e]
  ·intro e;exact (jg e).2 rfl
 refine ⟨T.n0,T.nx,fun y j=>⟨.inl (T.fz y j).1,(T.fz y j).2⟩,fun y j hi o=>?_,T.out,fun b a=>?_,fun _=>A,fun b a f t m=>B b a t (T.le b a f t m),fun b a f t m c=>?_,fun b a f c=>?_⟩
 ·rcases o with o|⟨b,q,_⟩
  ·exact T.fo y j hi o
  ·exact q.elim
 ·rcases T.loc _ (K.ar a)with q|⟨q,e⟩
  ·exact .inl q
  ·by_cases v:b<n
   ·rw [(k b v).1]at q e
    exact .inr ⟨q,by dsimp only;rw [(k b v).1];exact e⟩
   ·have:=h2 b (by omega) (aO a)
    have:=aO q;omega
 ·obtain ⟨p,g,_⟩:=k b a
  rw [s]at c
  have e:bz h b=some t:=by
   rcases g with g|g
   ·rw [g]at c;cases c
   ·rw [←g];exact c
  obtain ⟨l,d⟩:=T.j9 b a f t m (s.2 e);exact ⟨l,by dsimp only at d⊢;rw [p];exact d⟩
 ·obtain ⟨p,_,a3⟩:=k b a
  obtain ⟨l,d⟩:=T.kL b a f (a3 c);exact ⟨l,by dsimp only at d⊢;rw [p];exact d⟩
def lU (h bs:PH) (b:Nat):Prop:=bs[b]?=some .dead∨rJ h[b]? bs[b]?
theorem oQ {n:Nat} {r o:PV} {h bs:PH} (L:List Nat) (C:L.length+n=bs.length) (a:L.Nodup) (l:∀b∈L,n≤b) (k:∀b,b<n→lU h bs b) (K:eO (fun _=>False) (fun i=>if i<n then i else L.getD (i- n) 0) h bs 0 bs) (V:Vg (fun _=>False) (fun i=>if i<n then i else L.getD (i- n) 0) h bs r o):qx n r h o bs:=by
 have getD:∀i,n≤i→i<bs.length→L[i- n]?=some (L.getD (i- n) 0):=fun i d h2=>by
  rw [List.getD_eq_getElem?_getD,Gx (by omega)];rfl
 have w:fK (fun _=>False) (fun i=>if i<n then i else L.getD (i- n) 0) h bs:=by
  refine ⟨fun i P e=>by simpa using K.ok i P e,fun i j hi p _ _ e=> ?_,fun _ _ _ q=>q⟩;by_cases d:i<n
  · rw [if_pos d]at e
    by_cases h2:j<n
    · rwa [if_pos h2]at e
    · rw [if_neg h2]at e
      have:=l _ (GC (getD j (by omega) p));omega
  · rw [if_neg d]at e
    by_cases h2:j<n
    · rw [if_pos h2]at e
      have:=l _ (GC (getD i (by omega) hi));omega
    · rw [if_neg h2]at e
      have s:=getD i (by omega) hi;have v:=getD j (by omega) p;rw [e]at s
      have key:∀(L:List Nat),L.Nodup→∀(i j b:Nat),L[i]?=some b→L[j]?=some b→i=j:=by
       intro L
       induction L with
       |nil=>intro _ i j b e;simp at e
       |cons x L ih=>
        intro a i j b e g;rw [List.nodup_cons]at a
        cases i with
        |zero=>cases j with
         |zero=>rfl
         |succ j=>simp at e g;subst e;exact absurd (GC g) a.1
        |succ i=>cases j with
         |zero=>simp at e g;subst g;exact absurd (GC e) a.1
         |succ j=>rw [ih a.2 i j b (by simpa using e) (by simpa using g)]
      have:=key L a _ _ _ s v;omega
 refine oP _ w V (by omega) (fun b c=>⟨if_pos c, ?_, ?_⟩) (fun b d h2=> ?_) (fun b c t u=> ?_)
 · rcases k b c with q|q
   · left;unfold bz;rw [q]
   · right
     unfold rJ at q;split at q
     · rename_i z cs B G m f
       unfold bz;rw [m,f];simp only [q]
     · exact q.elim
 · rintro ⟨es,e⟩
   rcases k b c with q|q
   · rw [q]at e;cases e
   · rw [e]at q;unfold rJ at q;split at q
     · rename_i f;cases f
     · exact q.elim
 · rw [if_neg (by omega)]
   exact l _ (GC (getD b d h2))
 · intro z cs e
   rcases k b c with q|q
   · rw [q]at e;cases e
   · rw [e]at q
     unfold rJ at q;split at q
     · rename_i A F y D m f
       cases f;have:=u _ _ m;omega
     · exact q.elim
theorem aB {r a:PV} {h:PH} (V:Vg mV id h [] r a):qx 0 r h a []:=oO _ _ (fK.none _ _ _) V
def PF.uK:List (Nat×PV)→PF
 |[]=>⟨fun _=>.any⟩
 |(t,p)::l=>⟨fun a=>if a=t then p else(PF.uK l).g a⟩
@[simp]theorem yx (a:Nat):(PF.uK []).get a= .any:=rfl
@[simp]theorem oR (t a:Nat) (p:PV) (l:List (Nat×PV)):(PF.uK ((t,p)::l)).get a=if a=t then p else(PF.uK l).get a:=rfl
def jY (A:Nat→Prop) (σ:Nat→Nat) (h bs:PH) (fr:PF):List (Nat×PV)→Prop
 |[]=>True
 |(t,p)::l=>Vg A σ h bs (fr.get t) p∧jY A σ h bs fr l
@[simp]theorem wK (A:Nat→Prop) (a:Nat→Nat) (h c:PH) (b:PF):jY A a h c b []↔True:=Iff.rfl
@[simp]theorem uL (A:Nat→Prop) (a:Nat→Nat) (h c:PH) (b:PF) (t:Nat) (p:PV) (l:List (Nat×PV)):jY A a h c b ((t,p)::l)↔Vg A a h c (b.get t) p∧jY A a h c b l:=Iff.rfl
end P
namespace P
open Go Go.RowKit
mutual
def fW:PV→Bool
 | .v _=>true
 | .fs _ _=>true
 | .fp _=>true
 | .agg cs=>b5 cs
 | .dG cs=>b5 cs
 | .fn _ a b=>b5 a&&b5 b
 | .g8 _ p=>fW p
 |_=>false
def b5:List PV→Bool
 |[]=>true
 |p::ps=>fW p&&b5 ps
end
attribute [simp] sh ka oM jj
@[simp]theorem Dw (x:Value):fW (.v x)=true↔True:=⟨fun _=>trivial,fun _=>rfl⟩
@[simp]theorem A1 (sz:Nat) (rows:List (List PV)):fW (.fs sz rows)=true↔True:=⟨fun _=>trivial,fun _=>rfl⟩
@[simp]theorem yy (cs:List PV):fW (.agg cs)=true↔b5 cs=true:=by rw [fW]
@[simp]theorem yz (cs:List PV):fW (.dG cs)=true↔b5 cs=true:=by rw [fW]
@[simp]theorem yA (t:Nat) (p:PV):fW (.g8 t p)=true↔fW p=true:=by rw [fW]
@[simp]theorem A2:b5 []=true↔True:=⟨fun _=>trivial,fun _=>rfl⟩
@[simp]theorem jk (p:PV) (ps:List PV):b5 (p::ps)=true↔fW p=true∧b5 ps=true:=by rw [b5,GA]
theorem jZ:∀l:List PV,b5 l=l.all fW
 |[]=>rfl
 |p::l=>by simp [b5,jZ l]
theorem fH (a b:List PV):b5 (a++b)=true↔b5 a=true∧b5 b=true:=by simp [jZ]
theorem j0 {p:PV} (a:fW p=true):∀{l:List PV} {k:Nat},b5 l=true→b5 (l.set k p)=true
 |[],k,_=>rfl
 |q::l,0,h=>by rw [jk]at h;exact (jk _ _).2 ⟨a,h.2⟩
 |q::l,k+1,h=>by rw [jk]at h;exact (jk _ _).2 ⟨h.1,j0 a h.2⟩
attribute [simp] j0
mutual
theorem kR (k:Nat):∀{p:PV},fW p=true→sh k p=p
 | .v _,_=>rfl
 | .fs _ _,_=>rfl
 | .fp _,_=>rfl
 | .agg cs,h=>by rw [sh,eP k (by simpa using h)]
 | .dG cs,h=>by rw [sh,eP k (by simpa using h)]
 | .fn f a b,h=>by
  simp only [fW,GA]at h;rw [sh,eP k h.1,eP k h.2]
 | .g8 t p,h=>by rw [sh,kR k (by simpa using h)]
theorem eP (k:Nat):∀{l:List PV},b5 l=true→ka k l=l
 |[],_=>rfl
 |p::l,h=>by
  simp only [b5,GA]at h;rw [ka,kR k h.1,eP k h.2]
end
section
variable{A:Nat→Prop} {σ:Nat→Nat} {h bs:PH}
mutual
theorem jl:∀{p:PV},fW p=true→Vg A σ h bs p p
 | .v _,_=>(A0 _).2 trivial
 | .fs _ _,_=>(wF _ _).2 trivial
 | .fp _,_=>(wI _).2 trivial
 | .agg cs,h=>tO (c8 (by simpa using h))
 | .dG cs,h=>oH (c8 (by simpa using h))
 | .fn f a b,h=>by
  simp only [fW,GA]at h;exact wJ (c8 h.1) (c8 h.2)
 | .g8 t p,h=>tP (jl (by simpa using h))
theorem c8:∀{l:List PV},b5 l=true→gQ A σ h bs l l
 |[],_=>trivial
 |p::l,h=>by
  simp only [b5,GA]at h;exact ⟨jl h.1,c8 h.2⟩
end
@[simp]theorem wL {l:List PV} (k:b5 l=true):gQ A σ h bs l l↔True:=⟨fun _=>trivial,fun _=>c8 k⟩
@[simp]theorem yB {p:PV} (k:fW p=true):Vg A σ h bs p p↔True:=⟨fun _=>trivial,fun _=>jl k⟩
theorem qD {b i:Nat} (k:rJ h[b]? bs[i]?):∃T,bz h b=some T∧bz bs i=some T:=by
 unfold rJ at k;split at k
 ·rename_i z cs d e c a
  exact ⟨cs.length,by unfold bz;rw [c],by unfold bz;rw [a,k]⟩
 ·exact k.elim
@[simp]theorem yC {b i o t:Nat} (a:σ i=b) (k:rJ h[b]? bs[i]?):Vg A σ h bs (.ref b o t) (.ref i o t)↔True:=⟨fun _=>trivial,fun _=>by
 obtain ⟨T,c,h2⟩:=qD k
 exact tQ c h2 a⟩
def isVoid (bs:PH) (i:Nat):Bool:=match bs[i]? with
 |some (.cells _ [])=>true
 |_=>false
def A3:PV→Bool
 | .v _=>true
 | .fs _ _=>true
 |_=>false
theorem tT {p:PV} (k:A3 p=true):Vz A h p p:=by
 cases p<;>first
  |exact wD _
  |exact rG _ _
  |cases k
theorem lV:∀{l:List PV},l.all A3=true→qA A h l l
 |[],_=>trivial
 |p::l,k=>by
  simp only [List.all_cons,GA]at k;exact ⟨tT k.1,lV k.2⟩
end
section
variable{E:Env} {O:dw} {n:Nat} {Q:Ex→PF→PH→Prop} {ks:List Kp} {fr:PF} {h:PH} {m:Mp} {l:List AO} {d:Option Nat}
def Fz (E:Env) (O:dw) (f:Nat) (args:List PV) (r:PV):Prop:=o6 E O f args [] (fun r' h'=>r'=r∧h'=[]∧fW r=true)
def qE (res:List RS) (r:PV):Ex→PF→PH→Prop
 | .exit _,_,_=>False
 |_,fr,h=>(jf.all fr h res).map eM=some r
@[simp]theorem A4 (res:List RS) (r:PV):qE res r .normal fr h=((jf.all fr h res).map eM=some r):=rfl
@[simp]theorem A5 (res:List RS) (r:PV):qE res r .ret fr h=((jf.all fr h res).map eM=some r):=rfl
theorem PK.wM {Q i:Ex→PF→PH→Prop} (j:∀ex fr h,Q ex fr h→i ex fr h) {f:Cf} {fr:PF} {h:PH} (k:PK E O n Q f fr h):PK E O n i f fr h:=by
 induction k with
 |skip _ ih=>exact .skip ih
 |ret _ ih=>exact .ret ih
 |exit _ ih=>exact .exit ih
 |aC _ ih=>exact .aC ih
 |ai _ ih=>exact .ai ih
 |seq _ ih=>exact .seq ih
 |block _ ih=>exact .block ih
 |cond e _ ih=>exact .cond e ih
 |loop I k _ g o ih=>exact .loop I k ih g o
 |qt _ ih=>exact .qt ih
 |oC e _ ih=>exact .oC e ih
 |lQ _ ih=>exact .lQ ih
 |lR _ ih=>exact .lR ih
 |op e _ ih=>exact .op e ih
 |wk e w _ ih=>exact .wk e w ih
 |oD e w _ ih=>exact .oD e w ih
 |call c _ ih=>exact .call c ih
 |callv e c _ ih=>exact .callv e c ih
 |qu q=>exact .qu (j _ _ _ q)
 |ye _ ih=>exact .ye ih
 |yf _ ih=>exact .yf ih
 |wm a b c=>exact .wm a b c
 |yg _ ih=>exact .yg ih
 |oE _ ih=>exact .oE ih
 |qv e _ ih=>exact .qv e ih
 |del _ ih=>exact .del ih
 |qw _ ih=>exact .qw ih
theorem Fz.body {f:Nat} {F:AF} {args:List PV} {r:PV} (o:O f=none) (s:E f=some F) (p:args.length=F.np) (c:fW r=true) (k:PK E O 0 (qE F.res r) (.code F.body []) (PF.of args) []):Fz E O f args r:=by
 refine o6.body o s p (PK.wM ?_ k);intro ex fr h q
 have:∀ex,qE F.res r ex fr h→(∀i,ex≠ .exit i)→∃a,jf.all fr h F.res=some a∧∃b h2,qx 0 (eM a) h b h2∧b=r∧h2=[]∧fW r=true:=by
  intro ex q j
  have g:(jf.all fr h F.res).map eM=some r:=by
   cases ex with
   |exit i=>exact absurd rfl (j i)
   |normal=>exact q
   |ret=>exact q
  obtain ⟨a,e,t⟩:=GI.1 g;exact ⟨a,e,r,[],by rw [t];exact aB (jl c),rfl,rfl,c⟩
 cases ex with
 |exit i=>exact q
 |normal=>exact this _ q (fun i=>by simp)
 |ret=>exact this _ q (fun i=>by simp)
def lW (h:PH) (sz k:Nat) (cs:List PV):PV→Prop
 | .sl bN b o n' c=>bN=sz∧o=0∧n'=k∧c=k∧h[b]?=some (.cells sz cs)
 | .v (.slice none 0 0)=>k=0∧cs=[]
 |_=>False
def wN (res:List RS) (sz k:Nat) (cs:List PV):Ex→PF→PH→Prop
 | .exit _,_,_=>False
 |_,fr,h=>∃vs,jf.all fr h res=some vs∧lW h sz k cs (eM vs)
@[simp]theorem A6 (res:List RS) (sz k:Nat) (cs:List PV):wN res sz k cs .normal fr h=∃vs,jf.all fr h res=some vs∧lW h sz k cs (eM vs):=rfl
@[simp]theorem A7 (res:List RS) (sz k:Nat) (cs:List PV):wN res sz k cs .ret fr h=∃vs,jf.all fr h res=some vs∧lW h sz k cs (eM vs):=rfl
theorem Fz.call {f:Nat} {args b:List PV} {r:PV} (k:Fz E O f b r) (L:List Nat) (e:gQ (· ∈L) id h [] args b):qq E O f args h (· ∈[]) (fun r' a=>r'=r∧a=bJ h L):=
 (o6.pure L k e).mono (by
  rintro r' a ⟨g,i,⟨rfl,rfl,c⟩,rfl,rfl⟩
  exact ⟨kR _ c,by simp⟩)
theorem ct {f:Nat} {«as»:List X} {args:List PV} {r:PV} (k:Fz E O f args r) (b:«as».map (cu fr)=args) (a:b5 args=true) (next:PK E O n Q (.ops (m.up [] (fr.al d r) h) l ks) (fr.al d r) h):PK E O n Q (.ops m (⟨none,d,.call f «as»⟩::l) ks) fr h:=
 jV (W:=[]) b ((k.call [] (c8 a)).mono (by rintro c e ⟨rfl,rfl⟩;exact next))
theorem tU {f:Nat} {«as»:List X} {args:List PV} {r:PV} (L:List Nat) (k:Fz E O f args r) (a:gQ (· ∈L) id h [] («as».map (cu fr)) args) (next:PK E O n Q (.ops (m.up [] (fr.al d r) (bJ h L)) l ks) (fr.al d r) (bJ h L)):PK E O n Q (.ops m (⟨none,d,.call f «as»⟩::l) ks) fr h:=
 jV (W:=[]) rfl ((k.call L a).mono (by rintro b c ⟨rfl,rfl⟩;exact next))
end
abbrev pi (n:Int):PV:=.v (.int .i64 n)
abbrev pb (b:Bool):PV:=.v (.bool b)
abbrev ps (s:ByteArray):PV:=.v (.string s)
def ir (l:List Int):List (List PV):=l.map fun n=>[pi n]
@[simp]theorem uM (l:List Int):(ir l).length=l.length:=by simp [ir]
theorem bm (l:List Int) (i:Nat):(ir l)[i]?=(l[i]?).map fun n=>[pi n]:=by simp [ir]
@[simp]theorem qF (l:List Int):(ir l).flatten=l.map pi:=by
 induction l with
 |nil=>rfl
 |cons a l ih=>simp_all [ir]
abbrev hX (l:List Int):PV:=.fs 1 (ir l)
attribute [simp] yd yc ot tD mG qo jT jd tC pX
attribute [simp] isVoid lW
end P
namespace P
open Go Go.RowKit
variable{E:Env} {O:dw}
mutual
def yD (τ:Nat→Nat):PV→PV
 | .ref b o t=>.ref (τ b) o t
 | .sl sz b o n c=>.sl sz (τ b) o n c
 | .mp b=>.mp (τ b)
 | .agg cs=>.agg (kS τ cs)
 | .dG cs=>.dG (kS τ cs)
 | .fn f a b=>.fn f (kS τ a) (kS τ b)
 | .g8 t p=>.g8 t (yD τ p)
 | .v x=>.v x
 | .fs sz rows=>.fs sz rows
 | .fp cells=>.fp cells
 | .any=>.any
def kS (τ:Nat→Nat):List PV→List PV
 |[]=>[]
 |p::ps=>yD τ p::kS τ ps
end
attribute [simp] yD kS
def tV (τ:Nat→Nat):PB→PB
 | .cells z cs=>.cells z (kS τ cs)
 | .map es=>.map (es.map fun e=>(e.1,yD τ e.2))
 | .dead=>.dead
section
variable{τ:Nat→Nat} {bs h:PH}
end
def kT:PH→List Nat→PH→PH
 |h,[],_=>h
 |h,_::_,[]=>h
 |h,b::L,P::Ps=>kT (h.set b P) L Ps
def A8 (L:List Nat) (m:Nat):Nat→Nat:=fun i=>if i<L.length then L.getD i 0 else m+(i- L.length)
def merge (h:PH) (L:List Nat) (hs:PH):PH:=kT h L ((hs.take L.length).map (tV (A8 L h.length)))++(hs.drop L.length).map (tV (A8 L h.length))
def qG:Option PB→Option PB→Prop
 |some (.cells _ cs),some (.cells _ a7)=>cs.length=a7.length
 |some (.map _),some (.map _)=>True
 |_,_=>False
@[simp]theorem A9 (z b:Nat) (cs a:List PV):qG (some (.cells z cs)) (some (.cells b a))↔cs.length=a.length:=Iff.rfl
@[simp]theorem Ba (es es':List (Value×PV)):qG (some (.map es)) (some (.map es'))↔True:=Iff.rfl
def yE (h hs:PH):Nat→List Nat→Prop
 |_,[]=>True
 |i,b::L=>qG h[b]? hs[i]?∧yE h hs (i+1) L
@[simp]theorem yF (h a:PH) (i:Nat):yE h a i []↔True:=Iff.rfl
@[simp]theorem wO (h a:PH) (i b:Nat) (L:List Nat):yE h a i (b::L)↔qG h[b]? a[i]?∧yE h a (i+1) L:=Iff.rfl
section
variable{n:Nat} {Q:Ex→PF→PH→Prop} {ks:List Kp} {fr:PF} {h:PH} {m:Mp} {l:List AO} {d:Option Nat}
end
attribute [simp] A8 merge kT tV
end P
namespace P
open Go Go.RowKit
variable{E:Env} {O:dw}
theorem jY.list {A:Nat→Prop} {a:Nat→Nat} {h c:PH} {b:PF}:∀{l:List (Nat×PV)},jY A a h c b l→gQ A a h c (l.map fun e=>b.get e.1) (l.map (·.2))
 |[],_=>trivial
 |(t,p)::l,k=>⟨k.1,jY.list k.2⟩
theorem lX {C:Cx} {b:Fr}:∀{l:List (Nat×PV)},aL C (l.map (·.2)) (l.map fun e=>b.get e.1)→dM C (PF.uK l) b
 |[],_,t=>.any _
 |(a,p)::l,k,t=>by
  cases k with|cons d c=>
  rw [oR];split
  ·rename_i e;subst e;exact d
  ·exact lX c t
theorem oS {C:Cx} {b:PF} {c:Fr} (R:dM C b c):∀l:List (Nat×PV),aL C (l.map fun e=>b.get e.1) (l.map fun e=>c.get e.1)
 |[]=>.nil
 |(a,p)::l=>.cons (R a) (oS R l)
theorem lY {n:Nat} {c:PF} {h h2:PH} (L:List Nat) (l:List (Nat×PV)) (p:L.length+n=h2.length) (j:L.Nodup) (o:∀b∈L,n≤b) (m:∀b,b<n→lU h h2 b) (K:eO (fun _=>False) (fun i=>if i<n then i else L.getD (i- n) 0) h h2 0 h2) (V:jY (fun _=>False) (fun i=>if i<n then i else L.getD (i- n) 0) h h2 c l):Gh n c h (PF.uK l) h2:=by
 intro F H g a S R;obtain ⟨s,f,q,d,T⟩:=oQ L p j o m K (oH V.list) F H g (.tuple (l.map fun e=>a.get e.1).toArray) S (.dG (oS R l));refine ⟨s,f,q,?_,T⟩;generalize k:(Value.tuple (l.map fun e=>a.get e.1).toArray)=v at d
 cases d with|dG r=>
 rename_i xs
 have:xs=l.map fun e=>a.get e.1:=by
  have:=Value.tuple.inj k;exact (congrArg Array.toList this).symm
 subst this;exact lX r
section
variable{n:Nat} {Q:Ex→PF→PH→Prop} {ks:List Kp} {fr:PF} {h:PH} {m:Mp} {l:List AO} {d:Option Nat}
end
end P
namespace P
open Go Go.RowKit
section
variable{T:Type} {enc:TypeId×Value→T} {P:Program} {W:World}
def F0 (W:World):Nat→Prop:=fun b=>b<W.heap.size
theorem FR (W:World) (φ:Nat→Nat):bk ⟨F0 W,H0 W,φ,[]⟩where
 wf:=GB _
 fz:=fun x a=>a
 inj:=fun b c s=>by have:=aO s;simp at this
 bC:=fun b z cs e=>by simp at e
 mC:=fun b es e=>by simp at e
def Dx (v:Value):Prop:=∃a n c,v= .slice a n c∧n≤c∧(c=0∨∀x,a=some x→x.spot=none)
theorem mI {e:Nat} {c v:Value} (h:c= .slice none 0 0∨∃a len cap,c= .slice (some a) len cap∧len≤cap) (b:aj e c=some v):Dx v:=by
 rcases h with rfl|⟨a,len,cap,rfl,g⟩
 ·simp [aj,flat]at b;subst b;exact ⟨_,_,_,rfl,GB _,.inl rfl⟩
 ·simp only [aj]at b
  cases d:(decide (a.block<e)&&a.spot.isNone)with
  |true=>rw [d]at b;simp only [cond_true,Gy]at b;subst b;exact ⟨_,_,_,rfl,g,.inr fun x f=>by cases f;simp only [GA]at d;exact Option.isNone_iff_eq_none.1 d.2⟩
  |false=>
   rw [d]at b;simp only [cond_false]at b
   cases h2:Nat.beq len 0 with
   |true=>rw [h2]at b;simp only [cond_true,Gy]at b;subst b;exact ⟨_,_,_,rfl,GB _,.inl rfl⟩
   |false=>rw [h2]at b;simp at b
theorem Bb {b z:Nat} {c:List Value} (h:(H0 W).get b=some (.cells z c)):z=1048576:=by
 have h2:il W b=some (.cells z c):=by
  rw [AH.bA (AH.dW h)]at h;rw [←kG];exact h
 unfold il at h2;split at h2
 ·cases h2;rfl
 ·cases h2
theorem Bc {b o sz:Nat} {r:List Value} (h:(H0 W).ldn ⟨b,o,none⟩ sz=some r) (a:sz≤1048576):F0 W b∧(H0 W).eS b sz=true:=by
 unfold AH.ldn at h;split at h
 ·rename_i z c _ e
  have:=Bb e;refine ⟨AH.dW e,?_⟩;unfold AH.eS;rw [show(H0 W).get b=_ from e];exact decide_eq_true (by omega)
 ·cases h
theorem kU {α:Type} {F:Nat→Prop} {H:AH} {d:α→List PV} {ok:α→Prop}:∀{rows:List (List Value)} {ys:List α},iX (fun l y=>cK F H (d y) l∧ok y) rows ys→dT F H (ys.map d) rows∧∀y∈ys,ok y
 |_,_, .nil=>⟨.nil,by simp⟩
 |_,_, .cons a b=>⟨.cons a.1 (kU b).1,fun y c=>by
    rcases GQ.1 c with rfl|c
    · exact a.2
    · exact (kU b).2 y c⟩
theorem rK {α:Type} (g:α→List PV) {ok:α→Prop} {t e:TypeId} {fuel:Nat} {c:Value} {d:DataW T} (p:P.underlying t=some (.slice e)) (K:0<P.cellsOf e) (J:P.cellsOf e≤1048576) (L:0<P.bytesOf e)
 (h:Rd enc P W fuel t [c] d) (D:nY P t d) (rd:∀m z w,m<fuel→Rd enc P W m e z w→nY P e w→∃l y,ae W.heap.size z=some l∧cK (F0 W) (H0 W) (g y) l∧ok y):
 ∃(v:Value) (ys:List α),ae W.heap.size [c]=some [v]∧RF (F0 W) (H0 W) (.fs (P.cellsOf e) (ys.map g)) v∧(∀y∈ys,ok y)∧ys.length*P.bytesOf e≤reachBytes:=by
 obtain ⟨v,rows,ys,f,u,j,N⟩:=pV (C:=fun l y=>cK (F0 W) (H0 W) (g y) l∧ok y) p K L h D rd;obtain ⟨B,A⟩:=kU j
 have F:Dx v:=by
  obtain ⟨ps,h⟩:=h;simp only [ae]at f
  cases h2:aj W.heap.size c with
  |none=>rw [h2]at f;simp at f
  |some x=>
   rw [h2]at f;simp only [Gy,List.cons.injEq,and_true]at f;subst f;refine mI ?_ h2;rcases DataW.trod_slice p h with⟨e,_⟩|⟨a,len,cap,_,_,_,_,e,_,_,I,_⟩
   ·simp only [List.cons.injEq,and_true]at e;exact .inl e
   ·simp only [List.cons.injEq,and_true]at e;exact .inr ⟨a,len,cap,e,I⟩
 refine ⟨v,ys,f,?_,A,by rw [←j.length];exact N⟩;obtain ⟨a,n,S,rfl,H,E⟩:=F;have O:=u;obtain ⟨V,U,e,k⟩:=u.is;cases e;have i:(ys.map g).length=rows.length:=by rw [List.length_map,j.length]
 have:RF (F0 W) (H0 W) (.fs (P.cellsOf e) (ys.map g)) (.slice a (ys.map g).length S):=by
  refine .fs (by rw [i];exact O) (by rw [i];exact H) (fun d s=>⟨?_,?_⟩) B
  ·rcases E with q|q
   ·exact .inr q
   ·exact .inl (q d s)
  ·rw [i]
   by_cases M:rows.length=0
   ·exact .inl M
   ·obtain ⟨r,G⟩:∃r,rows[0]?=some r:=⟨_,Gx (by omega)⟩
    obtain ⟨b,o,R,Q⟩:=k 0 r G;subst R;cases s;exact .inr (Bc Q J)
 rw [i]at this;exact this
end
end P
set_option maxRecDepth 10000
namespace P
open Go Go.RowKit Go.WideShapes Go.ChangeShapes
structure Sy where
 n:Int
 p:Int
 ew:List Int
 st:List Int
 en:List Int
 nx:List (Int×Int)
def wP (l:List (Int×Int)):List (List PV):=l.map fun x=>[pi x.1,pi x.2]
def eV (l:List (Int×Int)):PV:=.fs 2 (wP l)
def aP (s:Sy):List PV:=[pi s.n,pi s.p,hX s.ew,hX s.st,hX s.en,eV s.nx]
def qH (l:List Int):Prop:=l.length<2^60∧∀n∈l,mz n
structure yG (s:Sy):Prop where
 n:mz s.n
 p:mz s.p
 ew:qH s.ew
 st:qH s.st
 en:qH s.en
 nx:s.nx.length<2^60∧∀x∈s.nx,mz x.1∧mz x.2
@[simp]theorem yH (l:List Int):fW (hX l)=true:=by simp [hX]
@[simp]theorem tW (l:List (Int×Int)):(wP l).length=l.length:=by simp [wP]
@[simp]theorem yI (l:List (Int×Int)):fW (eV l)=true:=rfl
@[simp]theorem wQ (s:Sy):b5 (aP s)=true:=rfl
section
variable{T:Type} {enc:TypeId×Value→T} {W:World}
theorem cI:Try.prog.cellsOf 3=1:=by kernel_rfl
theorem FV:Try.prog.cellsOf 22=1:=by kernel_rfl
theorem yJ:Try.prog.cellsOf 56=2:=by kernel_rfl
theorem Bd:Try.prog.cellsOf 23=1:=by kernel_rfl
theorem cY:Try.prog.cellsOf 25=6:=by kernel_rfl
theorem wR {n k:Nat} (h:n*k≤reachBytes) (a:0<k):n<2^60:=by
 have b:n*1≤n*k:=Nat.mul_le_mul_left _ a;have:reachBytes<2^47:=reachBytes_lt;omega
theorem wS {α:Type} {l:List α} (h:l.length=6):∃a b c d e f,l=[a,b,c,d,e,f]:=by
 match l,h with
 |[a,b,c,d,e,f],_=>exact ⟨a,b,c,d,e,f,rfl⟩
theorem jm {n:Nat} {c:Value} {d:DataW T} (h:Rd enc Try.prog W n 22 [c] d) (g:nY Try.prog 22 d):∃v l,ae W.heap.size [c]=some [v]∧RF (F0 W) (H0 W) (hX l) v∧qH l:=by
 obtain ⟨v,f,p,a,o,j⟩:=rK (fun y:Int=>[pi y]) (ok:=mz) Try.underlying22 (by rw [cI];omega) (by rw [cI];omega) (by decide+kernel) h g (fun k t s r i q=>by
  obtain ⟨m,e,b⟩:=gH Try.underlying3 i;subst e
  exact ⟨_,m,cl rfl,.cons (.v _) .nil,wf_i64 b⟩)
 rw [cI]at a;exact ⟨v,f,p,a,wR j (by decide+kernel),o⟩
theorem oT {n:Nat} {c:Value} {d:DataW T} (h:Rd enc Try.prog W n 23 [c] d) (u:nY Try.prog 23 d):∃v l,ae W.heap.size [c]=some [v]∧RF (F0 W) (H0 W) (eV l) v∧l.length<2^60∧∀x∈l,mz x.1∧mz x.2:=by
 obtain ⟨v,r,A,i,z,w⟩:=rK (fun y:Int×Int=>[pi y.1,pi y.2]) (ok:=fun x=>mz x.1∧mz x.2) Try.underlying23 (by rw [yJ];omega) (by rw [yJ];omega) (by decide+kernel) h u (fun k J I H e F=>by
  obtain ⟨ps,e⟩:=e;obtain ⟨xs,m,G,E,f,D,g⟩:=DataW.trod_array Try.underlying56 e;rw [yJ]at f;obtain ⟨a,b,rfl⟩:=vY f;have o:=g 0 (by omega);have j:=g 1 (by omega);rw [cI,Gx (by omega)]at o j;obtain ⟨t,q,C⟩:=gH Try.underlying3 ⟨(xs[0]'(by omega)).2,o⟩;obtain ⟨s,p,B⟩:=gH Try.underlying3 ⟨(xs[1]'(by omega)).2,j⟩;simp at q p;subst q;subst p
  exact ⟨_,(t,s),cl (cl rfl),.cons (.v _) (.cons (.v _) .nil),wf_i64 C,wf_i64 B⟩)
 rw [yJ]at i;exact ⟨v,r,A,i,wR w (by decide+kernel),z⟩
theorem tX (n:Nat) (cs:List Value) (d:DataW T) (h:Rd enc Try.prog W n 25 cs d) (S:nY Try.prog 25 d):∃l s,ae W.heap.size cs=some l∧cK (F0 W) (H0 W) (aP s) l∧yG s:=by
 obtain ⟨r,m,X,c⟩:=mB Try.underlying25 h S;rw [cY]at r;obtain ⟨c0,c1,c2,c3,c4,c5,rfl⟩:=wS r;obtain ⟨d0,j,x⟩:=c 0 _ rfl;obtain ⟨d1,i,w⟩:=c 1 _ rfl;obtain ⟨d2,h2,q⟩:=c 2 _ rfl;obtain ⟨d3,g,p⟩:=c 3 _ rfl;obtain ⟨Z,f,o⟩:=c 4 _ rfl;obtain ⟨Y,e,k⟩:=c 5 _ rfl;simp only [List.getElem_toArray,List.getElem_cons_zero,List.getElem_cons_succ]at j i h2 g f e x w q p o k;rw [cI]at j i;rw [FV]at h2 g f;rw [Bd]at e;obtain ⟨a,u,V⟩:=gH Try.underlying3 j;obtain ⟨b,t,U⟩:=gH Try.underlying3 i;obtain ⟨B,N,J,F,R⟩:=jm (by simpa using h2) q;obtain ⟨A,M,I,E,Q⟩:=jm (by simpa using g) p;obtain ⟨z,L,H,D,P⟩:=jm (by simpa using f) o;obtain ⟨y,K,G,C,O⟩:=oT (by simpa using e) k;simp at u t;subst u;subst t;exact ⟨[.int .i64 a,.int .i64 b,B,A,z,y],⟨a,b,N,M,L,K⟩,cl (cl (dA J (dA I (dA H G)))),.cons (.v _) (.cons (.v _) (.cons F (.cons E (.cons D (.cons C .nil))))),⟨wf_i64 V,wf_i64 U,R,Q,P,O⟩⟩
end
end P
set_option maxHeartbeats 2000000
namespace P
open Go Go.RowKit
def g9 (P:Nat→Bool):Nat→Bool
 |0=>true
 |n+1=>g9 P n&&P n
theorem fX {P:Nat→Bool}:∀{n:Nat},g9 P n=true↔∀i,i<n→P i=true
 |0=>by simp [g9]
 |n+1=>by
  rw [g9,GA,fX];refine ⟨fun⟨a,b⟩ i hi=>?_,fun h=>⟨fun i hi=>h i (by omega),h n (by omega)⟩⟩;by_cases e:i=n
  ·subst e;exact b
  ·exact a i (by omega)
theorem kV {P:Nat→Bool} {n i:Nat} (hi:i<n) (h:P i=false):g9 P n=false:=by
 cases e:g9 P n with
 |false=>rfl
 |true=>rw [fX.1 e i hi]at h;cases h
theorem bV {P:Nat→Bool} {n:Nat} (h:g9 P n=true) (h2:P n=true):g9 P (n+1)=true:=by rw [g9,h,h2];rfl
def fi (p:Int):Bool:=decide (0≤p)&&decide (p≤4)
theorem qI (p:Int):Fz E O 26 [pi p] (pb (fi p)):=by
 refine Fz.body (F:=xq) rfl rfl rfl rfl ?_;simp (maxSteps:=9^7)-implicitDefEqProofs+contextual [-getElem?_pos,Gw,xq,fi]
theorem wT {p:Int} (h:0≤p∧p≤8):bB .shl (.int .i64 1) (.int .u64 p)=some (.int .i64 (2^p.toNat)):=by
 have:p=0∨p=1∨p=2∨p=3∨p=4∨p=5∨p=6∨p=7∨p=8:=by omega
 rcases this with rfl|rfl|rfl|rfl|rfl|rfl|rfl|rfl|rfl<;>rfl
def fL (p:Int) (l:List Int) (i:Nat):Bool:=decide (0≤l.getD i 0)&&decide (l.getD i 0<2^p.toNat)
def dV (p:Int) (l:List Int):Bool:=g9 (fL p l) l.length&&decide (0<l.length)
theorem tY {p:Int} {l:List Int} (r:0≤p∧p≤8) (s:l.length<2^60):Fz E O 27 [pi p,hX l] (pb (dV p l)):=by
 refine Fz.body (F:=xu) rfl rfl rfl rfl ?_;simp (maxSteps:=9^7)-implicitDefEqProofs+contextual [-getElem?_pos,Gw,xu];refine et (fun i d h=>h=[]∧g9 (fL p l) i=true∧d.get 0=pi p∧d.get 1=hX l∧d.get 5=pi i) l.length ?_ ?_
 ·exact ⟨rfl,rfl,by simp,by simp,by simp⟩
 rintro i d h hi ⟨rfl,o,b,a,f⟩;by_cases h:i<l.length
 ·obtain ⟨x,c⟩:∃x,l[i]?=some x:=⟨_,Gx h⟩
  have m:l.getD i 0=x:=by rw [List.getD_eq_getElem?_getD,c];rfl
  have q:IntKind.i64.wrap ((i:Int)+1)=((i+1:Nat):Int):=bI ⟨by omega,by omega⟩;have j:IntKind.u64.wrap p=p:=by rw [IntKind.wrap_u64];omega
  have k:=wT r;by_cases g:x<0
  ·have e:dV p l=false:=by rw [dV,kV h (by rw [fL,m];simp;omega)];rfl
   simp (maxSteps:=9^7)-implicitDefEqProofs [-getElem?_pos,Gw,b,a,f,h,bm,c,j,k,g,e]
  by_cases n:2^p.toNat≤x
  ·have e:dV p l=false:=by rw [dV,kV h (by rw [fL,m];simp;omega)];rfl
   simp (maxSteps:=9^7)-implicitDefEqProofs [-getElem?_pos,Gw,b,a,f,h,bm,c,j,k,g,n,e]
  ·simp (maxSteps:=9^7)-implicitDefEqProofs [-getElem?_pos,Gw,b,a,f,h,bm,c,j,k,g,n,q]
   exact .for h ⟨rfl,bV o (by rw [fL,m];simp;omega),by simp [b],by simp [a],by simp⟩
 ·obtain rfl:i=l.length:=by omega
  simp (maxSteps:=9^7)-implicitDefEqProofs+contextual [-getElem?_pos,Gw,b,a,f,dV,o]
def iy (n:Int) (l:List Int) (i:Nat):Bool:=decide (0≤l.getD i 0)&&decide (l.getD i 0<n)&&(decide (i=0)||decide (l.getD (i- 1) 0<l.getD i 0))
def fj (n:Int) (l:List Int):Bool:=g9 (iy n l) l.length
theorem b8 {α:Type} {l:List α} {i:Nat} {x d:α} (h:l[i]?=some x):l.getD i d=x:=by rw [List.getD_eq_getElem?_getD,h];rfl
theorem fk {n:Int} {l:List Int} {i:Nat} {x:Int} (a:l[i]?=some x) (h:x<0∨n≤x∨(0<i∧x≤l.getD (i- 1) 0)):fj n l=false:=by
 refine kV (i:=i) (GD.1 a).1 ?_;rw [iy,b8 a];simp only [Bool.and_eq_false_iff,decide_eq_false_iff_not,Bool.or_eq_false_iff];omega
theorem fY {n:Int} {l:List Int} {i:Nat} {x:Int} (a:l[i]?=some x) (c:0≤x) (b:x<n) (h2:i=0∨l.getD (i- 1) 0<x):iy n l i=true:=by
 rw [iy,b8 a];simp only [GA,GK,Bool.or_eq_true];omega
theorem j1 {n:Int} {l:List Int} (u:l.length<2^60):Fz E O 28 [hX l,pi n] (pb (fj n l)):=by
 refine Fz.body (F:=xv) rfl rfl rfl rfl ?_;simp (maxSteps:=9^7)-implicitDefEqProofs+contextual [-getElem?_pos,Gw,xv];refine et (fun i m h=>h=[]∧g9 (iy n l) i=true∧m.get 0=hX l∧m.get 1=pi n∧m.get 5=pi i) l.length ?_ ?_
 ·exact ⟨rfl,rfl,by simp,by simp,by simp⟩
 rintro i m h hi ⟨rfl,p,c,b,f⟩;by_cases h:i<l.length
 ·obtain ⟨x,a⟩:∃x,l[i]?=some x:=⟨_,Gx h⟩
  have s:IntKind.i64.wrap ((i:Int)+1)=((i+1:Nat):Int):=bI ⟨by omega,by omega⟩;by_cases d:x<0
  ·have e:=fk (n:=n) a (.inl d)
   simp (maxSteps:=9^7)-implicitDefEqProofs [-getElem?_pos,Gw,c,b,f,h,bm,a,d,e]
  by_cases g:n≤x
  ·have e:=fk (n:=n) a (.inr (.inl g))
   simp (maxSteps:=9^7)-implicitDefEqProofs [-getElem?_pos,Gw,c,b,f,h,bm,a,d,g,e]
  by_cases k:0<i
  ·obtain ⟨y,o⟩:∃y,l[i- 1]?=some y:=⟨_,Gx (by omega)⟩
   have r:IntKind.i64.wrap ((i:Int)- 1)=((i- 1:Nat):Int):=by rw [bI ⟨by omega,by omega⟩];omega
   have v:l.getD (i- 1) 0=y:=b8 o;have t:i- 1<l.length:=by omega
   have j:(0:Int)<i:=by omega
   by_cases q:x≤y
   ·have e:=fk (n:=n) a (.inr (.inr ⟨k,by omega⟩))
    simp (maxSteps:=9^7)-implicitDefEqProofs [-getElem?_pos,Gw,c,b,f,h,bm,a,d,g,k,j,r,t,o,q,e]
   ·simp (maxSteps:=9^7)-implicitDefEqProofs [-getElem?_pos,Gw,c,b,f,h,bm,a,d,g,k,j,r,t,o,q,s]
    exact .for h ⟨rfl,bV p (fY a (by omega) (by omega) (by omega)),by simp [c],by simp [b],by simp⟩
  ·have j:¬ (0:Int)<i:=by omega
   simp (maxSteps:=9^7)-implicitDefEqProofs [-getElem?_pos,Gw,c,b,f,h,bm,a,d,g,k,j,s];exact .for h ⟨rfl,bV p (fY a (by omega) (by omega) (by omega)),by simp [c],by simp [b],by simp⟩
 ·obtain rfl:i=l.length:=by omega
  simp (maxSteps:=9^7)-implicitDefEqProofs+contextual [-getElem?_pos,Gw,c,b,f,fj,p]
theorem j2 {n:Int} {l:List Int} (w:l.length<2^60):Fz E O 29 [hX l,pi n] (pb (fj n l)):=by
 refine Fz.body (F:=xw) rfl rfl rfl rfl ?_;simp (maxSteps:=9^7)-implicitDefEqProofs+contextual [-getElem?_pos,Gw,xw];refine et (fun i j h=>h=[]∧g9 (iy n l) i=true∧j.get 0=hX l∧j.get 1=pi n∧j.get 7=hX l∧j.get 8=pi l.length∧j.get 9=pi i) l.length ?_ ?_
 ·exact ⟨rfl,rfl,by simp,by simp,by simp,by simp,by simp⟩
 rintro i j h hi ⟨rfl,r,f,d,c,b,k⟩;by_cases h:i<l.length
 ·obtain ⟨x,a⟩:∃x,l[i]?=some x:=⟨_,Gx h⟩
  have u:IntKind.i64.wrap ((i:Int)+1)=((i+1:Nat):Int):=bI ⟨by omega,by omega⟩;by_cases g:x<0
  ·have e:=fk (n:=n) a (.inl g)
   simp (maxSteps:=9^7)-implicitDefEqProofs [-getElem?_pos,Gw,f,d,c,b,k,h,bm,a,g,e]
  by_cases m:n≤x
  ·have e:=fk (n:=n) a (.inr (.inl m))
   simp (maxSteps:=9^7)-implicitDefEqProofs [-getElem?_pos,Gw,f,d,c,b,k,h,bm,a,g,m,e]
  by_cases p:0<i
  ·obtain ⟨y,q⟩:∃y,l[i- 1]?=some y:=⟨_,Gx (by omega)⟩
   have t:IntKind.i64.wrap ((i:Int)- 1)=((i- 1:Nat):Int):=by rw [bI ⟨by omega,by omega⟩];omega
   have z:l.getD (i- 1) 0=y:=b8 q;have v:i- 1<l.length:=by omega
   have o:(0:Int)<i:=by omega
   by_cases s:x≤y
   ·have e:=fk (n:=n) a (.inr (.inr ⟨p,by omega⟩))
    simp (maxSteps:=9^7)-implicitDefEqProofs [-getElem?_pos,Gw,f,d,c,b,k,h,bm,a,g,m,p,o,t,v,q,s,e]
   ·simp (maxSteps:=9^7)-implicitDefEqProofs [-getElem?_pos,Gw,f,d,c,b,k,h,bm,a,g,m,p,o,t,v,q,s,u]
    exact .for h ⟨rfl,bV r (fY a (by omega) (by omega) (by omega)),by simp [f],by simp [d],by simp [c],by simp [b],by simp⟩
  ·have o:¬ (0:Int)<i:=by omega
   simp (maxSteps:=9^7)-implicitDefEqProofs [-getElem?_pos,Gw,f,d,c,b,k,h,bm,a,g,m,p,o,u];exact .for h ⟨rfl,bV r (fY a (by omega) (by omega) (by omega)),by simp [f],by simp [d],by simp [c],by simp [b],by simp⟩
 ·obtain rfl:i=l.length:=by omega
  simp (maxSteps:=9^7)-implicitDefEqProofs+contextual [-getElem?_pos,Gw,f,d,c,b,k,fj,r]
set_option maxHeartbeats 1000000
open Go Go.RowKit
def eQ:List Int→List Int→Int
 |[],[]=>0
 |[],_::_=>-1
 |_::_,[]=>1
 |a::l,b::m=>if a<b then-1 else if b<a then 1 else eQ l m
theorem lZ (a:Int):Fz E O 82 [pi a] (pb false):=by
 refine Fz.body (F:=xB) rfl rfl rfl rfl ?_;simp (maxSteps:=9^7)-implicitDefEqProofs+contextual [-getElem?_pos,Gw,xB]
theorem wU (a b:Int):Fz E O 76 [pi a,pi b] (pi (if a<b then-1 else if b<a then 1 else 0)):=by
 refine Fz.body (F:=xA) rfl rfl rfl rfl ?_;simp (maxSteps:=9^7)-implicitDefEqProofs+contextual [-getElem?_pos,Gw,xA];refine ct (lZ a) ?_ ?_ ?_
 iterate 2· simp (maxDischargeDepth:=8)-implicitDefEqProofs [-getElem?_pos,Gw]
 simp (maxSteps:=9^7)-implicitDefEqProofs+contextual [-getElem?_pos,Gw];refine ct (lZ b) ?_ ?_ ?_
 iterate 2· simp (maxDischargeDepth:=8)-implicitDefEqProofs [-getElem?_pos,Gw]
 by_cases c:a<b
 ·simp (maxSteps:=9^7)-implicitDefEqProofs [-getElem?_pos,Gw,c]
 ·by_cases h2:b<a
  ·simp (maxSteps:=9^7)-implicitDefEqProofs [-getElem?_pos,Gw,c,h2]
  ·simp (maxSteps:=9^7)-implicitDefEqProofs [-getElem?_pos,Gw,c,h2]
theorem mJ {l m:List Int} (s:l.length<2^60) (r:m.length<2^60):Fz E O 61 [hX l,hX m] (pi (eQ l m)):=by
 refine Fz.body (F:=xz) rfl rfl rfl rfl ?_;simp (maxSteps:=9^7)-implicitDefEqProofs+contextual [-getElem?_pos,Gw,xz];refine et (fun i e h=>h=[]∧i≤m.length∧eQ (l.drop i) (m.drop i)=eQ l m∧e.get 0=hX l∧e.get 1=hX m∧e.get 9=hX l∧e.get 10=pi l.length∧e.get 11=pi i) l.length ?_ ?_
 ·exact ⟨rfl,by omega,rfl,by simp,by simp,by simp,by simp,by simp⟩
 rintro i e h hi ⟨rfl,t,a,d,c,b,f10,f11⟩;by_cases h:i<l.length
 ·obtain ⟨x,f⟩:∃x,l[i]?=some x:=⟨_,Gx h⟩
  have n:IntKind.i64.wrap ((i:Int)+1)=((i+1:Nat):Int):=bI ⟨by omega,by omega⟩;have q:l.drop i=x::l.drop (i+1):=by rw [List.drop_eq_getElem_cons h];congr 1;exact (GD.1 f).2
  rw [q]at a;by_cases h2:i<m.length
  ·obtain ⟨y,g⟩:∃y,m[i]?=some y:=⟨_,Gx h2⟩
   have p:m.drop i=y::m.drop (i+1):=by rw [List.drop_eq_getElem_cons h2];congr 1;exact (GD.1 g).2
   rw [p,eQ]at a;have o:¬ (m.length:Int)≤i:=by omega
   simp (maxSteps:=9^7)-implicitDefEqProofs [-getElem?_pos,Gw,d,c,b,f10,f11,h,h2,o,bm,f,g];refine ct (wU x y) ?_ ?_ ?_
   iterate 2· simp (maxDischargeDepth:=8)-implicitDefEqProofs [-getElem?_pos,Gw]
   by_cases k:x<y
   ·rw [if_pos k]at a⊢
    simp (maxSteps:=9^7)-implicitDefEqProofs [-getElem?_pos,Gw,d,c,b,f10,f11,a.symm]
   ·rw [if_neg k]at a⊢
    by_cases j:y<x
    ·rw [if_pos j]at a⊢
     simp (maxSteps:=9^7)-implicitDefEqProofs [-getElem?_pos,Gw,d,c,b,f10,f11,a.symm]
    ·rw [if_neg j]at a⊢
     simp (maxSteps:=9^7)-implicitDefEqProofs [-getElem?_pos,Gw,d,c,b,f10,f11,n];exact .for h ⟨rfl,by omega,a,by simp [d],by simp [c],by simp [b],by simp [f10],by simp⟩
  ·obtain rfl:i=m.length:=by omega
   rw [List.drop_length,eQ]at a;simp (maxSteps:=9^7)-implicitDefEqProofs [-getElem?_pos,Gw,d,c,b,f10,f11,h,bm,f,a]
 ·obtain rfl:i=l.length:=by omega
  rw [List.drop_length]at a;by_cases h2:l.length<m.length
  ·have:eQ l m=-1:=by
    rw [←a,List.drop_eq_getElem_cons h2,eQ]
   simp (maxSteps:=9^7)-implicitDefEqProofs [-getElem?_pos,Gw,d,c,b,f10,f11,h2,this]
  ·have:eQ l m=0:=by
    rw [←a,List.drop_eq_nil_of_le (by omega),eQ]
   simp (maxSteps:=9^7)-implicitDefEqProofs [-getElem?_pos,Gw,d,c,b,f10,f11,h2,this]
theorem qJ {A:Nat→Prop} {h:PH} {b z:Nat} {l:List Int} (a:0<z) (d:A b) (c:h[b]?=some (.cells z (l.map pi))):Vz A h (.sl 1 b 0 l.length l.length) (hX l):=
 wE d c (by simp) Nat.one_pos a (GB _) (by simp) (by simp [ir]) (by simp only [Nat.zero_mul,List.drop_zero];rw [GF (by simp),qF];exact lV (by simp [A3]))
theorem l6 {A:Nat→Prop} {a:Nat→Nat} {h e:PH} {b:Nat} {x y:Int} (d:A b) (c:h[b]?=some (.cells 2 [pi x,pi y])):Vg A a h e (.sl 1 b 0 2 2) (hX [x,y]):=tN (qJ (l:=[x,y]) (z:=2) (by omega) d c)
def lexB (x y:Int×Int):Bool:=decide (x.1<y.1)||(decide (x.1=y.1)&&decide (x.2<y.2))
def mK (x y:Int×Int):Int:=eQ [x.1,x.2] [y.1,y.2]
theorem l7 {x y:Int×Int}:mK x y<0↔lexB x y=true:=by
 unfold mK eQ lexB eQ eQ;simp;split
 ·simp;omega
 ·split
  ·simp;omega
  ·split
   ·simp;omega
   ·split<;>simp<;>omega
theorem oU (x y:Int×Int):Fz E O 30 [.agg [pi x.1,pi x.2],.agg [pi y.1,pi y.2]] (pi (mK x y)):=by
 refine Fz.body (F:=xy) rfl rfl rfl rfl ?_;simp (maxSteps:=9^7)-implicitDefEqProofs+contextual [-getElem?_pos,Gw,xy];refine tU [0,1] (mJ (l:=[x.1,x.2]) (m:=[y.1,y.2]) (by simp) (by simp)) ?_ ?_
 ·exact ⟨l6 (by simp) rfl,l6 (by simp) rfl,trivial⟩
 simp (maxSteps:=9^7)-implicitDefEqProofs+contextual [-getElem?_pos,Gw,mK]
end P
namespace P
open Go Go.RowKit
def eR (s:Sy) (i:Nat):Bool:=
 decide (0≤(s.nx.getD i (0,0)).1)&&decide ((s.nx.getD i (0,0)).1<s.n)&&(decide (0≤(s.nx.getD i (0,0)).2)&&decide ((s.nx.getD i (0,0)).2<s.n))&&(decide (i=0)||lexB (s.nx.getD (i- 1) (0,0)) (s.nx.getD i (0,0)))
structure Dy (s:Sy):Prop where
 n:1≤s.n∧s.n≤256
 p:0≤s.p∧s.p≤4
 len:(s.ew.length:Int)=s.n
 ew:g9 (fL s.p s.ew) s.ew.length=true
 st:fj s.n s.st=true
 en:fj s.n s.en=true
 nl:s.nx.length≤200000
 nx:g9 (eR s) s.nx.length=true
def oV (s:Sy):Bool:=decide (1≤s.n∧s.n≤256)&&decide (0≤s.p∧s.p≤4)&&decide ((s.ew.length:Int)=s.n)&&g9 (fL s.p s.ew) s.ew.length&&fj s.n s.st&&fj s.n s.en&&decide (s.nx.length≤200000)&&g9 (eR s) s.nx.length
theorem jn {s:Sy}:oV s=true↔Dy s:=by
 unfold oV;simp only [GA,GK];exact ⟨fun⟨⟨⟨⟨⟨⟨⟨a,b⟩,c⟩,d⟩,e⟩,f⟩,g⟩,h⟩=>⟨a,b,c,d,e,f,g,h⟩,fun⟨a,b,c,d,e,f,g,h⟩=>⟨⟨⟨⟨⟨⟨⟨a,b⟩,c⟩,d⟩,e⟩,f⟩,g⟩,h⟩⟩
theorem bn {s:Sy} (h:¬ Dy s):oV s=false:=by
 cases e:oV s with
 |false=>rfl
 |true=>exact absurd (jn.1 e) h
theorem bd (l:List (Int×Int)) (i:Nat):(wP l)[i]?=(l[i]?).map fun x=>[pi x.1,pi x.2]:=by simp [wP]
theorem rL {s:Sy} {i:Nat} {x:Int×Int} (a:s.nx[i]?=some x) (h:eR s i=false):oV s=false:=bn fun k=>by
 have:=fX.1 k.nx i (GD.1 a).1;rw [h]at this;cases this
def YL (s:Sy) (i:Nat):List (Nat×PV):=[(1,.ref 0 0 6),(3,pi i)]
def YI (s:Sy) (i:Nat) (fr:PF) (h:PH):Prop:=h=[.cells 6 (aP s)]∧g9 (eR s) i=true∧fr.get 1= .ref 0 0 6∧fr.get 3=pi i
theorem Be {s:Sy} (ok:yG s):Fz E O 9 [.agg (aP s)] (pb (oV s)):=by
 refine o6.body (F:=a9) rfl rfl rfl ?_;simp (maxSteps:=9^7)-implicitDefEqProofs+contextual [-getElem?_pos,Gw,a9,aP];by_cases I:s.n<1
 ·have e:=bn (s:=s) fun k=>by have:=k.n;omega
  simp (maxSteps:=9^7)-implicitDefEqProofs [-getElem?_pos,Gw,I,e];refine aB ?_;simp
 by_cases P:256<s.n
 ·have e:=bn (s:=s) fun k=>by have:=k.n;omega
  simp (maxSteps:=9^7)-implicitDefEqProofs [-getElem?_pos,Gw,I,P,e];refine aB ?_;simp
 simp (maxSteps:=9^7)-implicitDefEqProofs [-getElem?_pos,Gw,I,P];refine ct (qI s.p) ?_ ?_ ?_
 iterate 2· simp (maxDischargeDepth:=8)-implicitDefEqProofs [-getElem?_pos,Gw]
 by_cases J:0≤s.p∧s.p≤4
 case neg=>
  have e:=bn (s:=s) fun k=>J k.p
  have C:fi s.p=false:=by simp [fi];omega
  simp (maxSteps:=9^7)-implicitDefEqProofs [-getElem?_pos,Gw,e,C];refine aB ?_;simp
 have C:fi s.p=true:=by simp [fi];omega
 by_cases z:(s.ew.length:Int)=s.n
 case neg=>
  have e:=bn (s:=s) fun k=>z k.len
  simp (maxSteps:=9^7)-implicitDefEqProofs [-getElem?_pos,Gw,e,C,z];refine aB ?_;simp
 simp (maxSteps:=9^7)-implicitDefEqProofs [-getElem?_pos,Gw,C,z];refine ct (tY (l:=s.ew) ⟨J.1,by omega⟩ ok.ew.1) ?_ ?_ ?_
 iterate 2· simp (maxDischargeDepth:=8)-implicitDefEqProofs [-getElem?_pos,Gw]
 by_cases w:g9 (fL s.p s.ew) s.ew.length=true
 case neg=>
  have e:=bn (s:=s) fun k=>w k.ew
  have M:dV s.p s.ew=false:=by simp [dV,w]
  simp (maxSteps:=9^7)-implicitDefEqProofs [-getElem?_pos,Gw,e,M];refine aB ?_;simp
 have M:dV s.p s.ew=true:=by simp [dV,w];omega
 simp (maxSteps:=9^7)-implicitDefEqProofs [-getElem?_pos,Gw,M];refine ct (j1 (n:=s.n) ok.st.1) ?_ ?_ ?_
 iterate 2· simp (maxDischargeDepth:=8)-implicitDefEqProofs [-getElem?_pos,Gw]
 cases R:fj s.n s.st with
 |false=>
  have e:=bn (s:=s) fun k=>by have:=k.st;rw [R]at this;cases this
  simp (maxSteps:=9^7)-implicitDefEqProofs [-getElem?_pos,Gw,e];refine aB ?_;simp
 |true=>
 simp (maxSteps:=9^7)-implicitDefEqProofs [-getElem?_pos,Gw];refine ct (j1 (n:=s.n) ok.en.1) ?_ ?_ ?_
 iterate 2· simp (maxDischargeDepth:=8)-implicitDefEqProofs [-getElem?_pos,Gw]
 cases h2:fj s.n s.en with
 |false=>
  have e:=bn (s:=s) fun k=>by have:=k.en;rw [h2]at this;cases this
  simp (maxSteps:=9^7)-implicitDefEqProofs [-getElem?_pos,Gw,e];refine aB ?_;simp
 |true=>
 by_cases X:200000<s.nx.length
 ·have e:=bn (s:=s) fun k=>by have:=k.nl;omega
  have L:(200000:Int)<s.nx.length:=by omega
  simp (maxSteps:=9^7)-implicitDefEqProofs [-getElem?_pos,Gw,e,L,eV];refine aB ?_;simp
 have L:¬ (200000:Int)<s.nx.length:=by omega
 simp (maxSteps:=9^7)-implicitDefEqProofs [-getElem?_pos,Gw,L,eV];refine et (YI s) s.nx.length ⟨rfl,rfl,by simp,by simp⟩ ?_;rintro i u h hi ⟨rfl,Q,a,d⟩;by_cases h:i<s.nx.length
 ·obtain ⟨⟨j,q⟩,c⟩:∃x,s.nx[i]?=some x:=⟨_,Gx h⟩
  have H:IntKind.i64.wrap ((i:Int)+1)=((i+1:Nat):Int):=bI ⟨by omega,by omega⟩;have A:s.nx.getD i (0,0)=(j,q):=b8 c;have no:=rL c;rw [eR,A]at no;by_cases f:j<0
  ·have e:=no (by simp;omega)
   simp (maxSteps:=9^7)-implicitDefEqProofs [-getElem?_pos,Gw,a,d,h,aP,eV,bd,c,f,e];refine aB ?_;simp
  by_cases g:s.n≤j
  ·have e:=no (by simp;omega)
   simp (maxSteps:=9^7)-implicitDefEqProofs [-getElem?_pos,Gw,a,d,h,aP,eV,bd,c,f,g,e];refine aB ?_;simp
  by_cases a3:q<0
  ·have e:=no (by simp;omega)
   simp (maxSteps:=9^7)-implicitDefEqProofs [-getElem?_pos,Gw,a,d,h,aP,eV,bd,c,f,g,a3,e];refine aB ?_;simp
  by_cases o:s.n≤q
  ·have e:=no (by simp;omega)
   simp (maxSteps:=9^7)-implicitDefEqProofs [-getElem?_pos,Gw,a,d,h,aP,eV,bd,c,f,g,a3,o,e];refine aB ?_;simp
  have fin:∀u:PF,u.get 1= .ref 0 0 6→u.get 3=pi ((i+1:Nat):Int)→eR s i=true→tL 0 (kQ (YI s) s.nx.length) (s.nx.length- i) u [.cells 6 (aP s),.cells 2 [pi j,pi q]]:=fun u T S V=>by
   refine .wz h (lY (h2:=[.cells 6 (aP s)]) [0] (YL s (i+1)) ?_ ?_ ?_ ?_ ?_ ?_) ⟨rfl,bV Q V,by simp [YL],by simp [YL]⟩
   ·simp [YL,aP,T,S]
   iterate 2· simp
   ·intro b W;omega
   iterate 2· simp (maxDischargeDepth:=8)-implicitDefEqProofs [fH,Gw,YL,aP,T,S]
  by_cases r:0<i
  ·obtain ⟨⟨G,N⟩,t⟩:∃y,s.nx[i- 1]?=some y:=⟨_,Gx (by omega)⟩
   have v:IntKind.i64.wrap ((i:Int)- 1)=((i- 1:Nat):Int):=by rw [bI ⟨by omega,by omega⟩];omega
   have B:i- 1<s.nx.length:=by omega
   have m:(0:Int)<i:=by omega
   have K:s.nx.getD (i- 1) (0,0)=(G,N):=b8 t;rw [K]at no;by_cases D:j<G
   ·have e:=no (by simp [lexB];omega)
    simp (maxSteps:=9^7)-implicitDefEqProofs [-getElem?_pos,Gw,a,d,h,aP,eV,bd,c,f,g,a3,o,r,m,v,B,t,D,e];refine aB ?_;simp
   by_cases U:j=G
   ·subst U
    by_cases c3:q≤N
    ·have e:=no (by simp [lexB];omega)
     simp (maxSteps:=9^7)-implicitDefEqProofs [-getElem?_pos,Gw,a,d,h,aP,eV,bd,c,f,g,a3,o,r,m,v,B,t,D,c3,e];refine aB ?_;simp
    ·simp (maxSteps:=9^7)-implicitDefEqProofs [-getElem?_pos,Gw,a,d,h,aP,eV,bd,c,f,g,a3,o,r,m,v,B,t,D,c3,H]
     exact fin _ (by simp [a]) (by simp) (by rw [eR,A,K];simp [lexB];omega)
   ·simp (maxSteps:=9^7)-implicitDefEqProofs [-getElem?_pos,Gw,a,d,h,aP,eV,bd,c,f,g,a3,o,r,m,v,B,t,D,U,H]
    exact fin _ (by simp [a]) (by simp) (by rw [eR,A,K];simp [lexB];omega)
  ·have m:¬ (0:Int)<i:=by omega
   simp (maxSteps:=9^7)-implicitDefEqProofs [-getElem?_pos,Gw,a,d,h,aP,eV,bd,c,f,g,a3,o,r,m,H];exact fin _ (by simp [a]) (by simp) (by rw [eR,A];simp;omega)
 ·obtain rfl:i=s.nx.length:=by omega
  have e:oV s=true:=jn.2 {n:=by omega,p:=J,len:=z,ew:=w,st:=R,en:=h2,nl:=by omega,nx:=Q};simp (maxSteps:=9^7)-implicitDefEqProofs [-getElem?_pos,Gw,a,d,aP,eV,e];refine aB ?_;simp
theorem wV {p:Int} (h:0≤p∧p≤8):bB .shl (.int .i64 1) (.int .i64 p)=some (.int .i64 (2^p.toNat)):=by
 have:p=0∨p=1∨p=2∨p=3∨p=4∨p=5∨p=6∨p=7∨p=8:=by omega
 rcases this with rfl|rfl|rfl|rfl|rfl|rfl|rfl|rfl|rfl<;>rfl
def hY (s:Sy):Int:=if oV s=true then 0 else 250
def tZ (s:Sy) (i:Nat):List (Nat×PV):=[(1,.ref 0 0 6),(72,eV s.nx),(73,pi s.nx.length),(74,pi i)]
def Dz (s:Sy) (i:Nat) (fr:PF) (h:PH):Prop:=h=[.cells 6 (aP s)]∧g9 (eR s) i=true∧fr.get 1= .ref 0 0 6∧fr.get 72=eV s.nx∧fr.get 73=pi s.nx.length∧fr.get 74=pi i
theorem l8 {s:Sy} (ok:yG s):Fz E O 10 [.agg (aP s)] (pi (hY s)):=by
 refine o6.body (F:=oZ) rfl rfl rfl ?_;have bad:oV s=false→hY s=250:=fun h=>by simp [hY,h]
 by_cases g:s.n<1
 ·have e:=bad (bn fun k=>by have:=k.n;omega)
  simp (maxSteps:=9^7)-implicitDefEqProofs [-getElem?_pos,Gw,oZ,aP,g,e];refine aB ?_;simp
 by_cases o:256<s.n
 ·have e:=bad (bn fun k=>by have:=k.n;omega)
  simp (maxSteps:=9^7)-implicitDefEqProofs [-getElem?_pos,Gw,oZ,aP,g,o,e];refine aB ?_;simp
 by_cases v:s.p<0
 ·have e:=bad (bn fun k=>by have:=k.p;omega)
  simp (maxSteps:=9^7)-implicitDefEqProofs [-getElem?_pos,Gw,oZ,aP,g,o,v,e];refine aB ?_;simp
 by_cases D:4<s.p
 ·have e:=bad (bn fun k=>by have:=k.p;omega)
  simp (maxSteps:=9^7)-implicitDefEqProofs [-getElem?_pos,Gw,oZ,aP,g,o,v,D,e];refine aB ?_;simp
 by_cases r:(s.ew.length:Int)=s.n
 case neg=>
  have e:=bad (bn fun k=>r k.len);simp (maxSteps:=9^7)-implicitDefEqProofs [-getElem?_pos,Gw,oZ,aP,g,o,v,D,e,r];refine aB ?_;simp
 by_cases h3:200000<s.nx.length
 ·have e:=bad (bn fun k=>by have:=k.nl;omega)
  have J:(200000:Int)<s.nx.length:=by omega
  simp (maxSteps:=9^7)-implicitDefEqProofs [-getElem?_pos,Gw,oZ,aP,g,o,v,D,r,e,J,eV];refine aB ?_;simp
 have J:¬ (200000:Int)<s.nx.length:=by omega
 simp (maxSteps:=9^7)-implicitDefEqProofs [-getElem?_pos,Gw,oZ,aP,g,o,v,D,r,J,eV];refine et (fun i d h=>h=[.cells 6 (aP s)]∧g9 (fL s.p s.ew) i=true∧d.get 1= .ref 0 0 6∧d.get 41=hX s.ew∧d.get 42=pi s.n∧d.get 43=pi i) s.ew.length ⟨rfl,rfl,by simp,by simp,by simp,by simp⟩ ?_;rintro i d h hi ⟨rfl,N,a,f41,f42,f43⟩;by_cases h:i<s.ew.length
 ·obtain ⟨x,f⟩:∃x,s.ew[i]?=some x:=⟨_,Gx h⟩
  have t:s.ew.getD i 0=x:=b8 f;have w:(i:Int)<s.n:=by omega
  have C:IntKind.i64.wrap ((i:Int)+1)=((i+1:Nat):Int):=bI ⟨by omega,by omega⟩;have P:=wV (p:=s.p) ⟨by omega,by omega⟩
  have no:fL s.p s.ew i=false→hY s=250:=fun q=>bad (bn fun k=>by
   have:=fX.1 k.ew i h;rw [q]at this
   cases this)
  rw [fL,t]at no;by_cases B:x<0
  ·have e:=no (by simp;omega)
   simp (maxSteps:=9^7)-implicitDefEqProofs [-getElem?_pos,Gw,a,f41,f42,f43,h,w,aP,bm,f,B,e];refine aB ?_;simp
  by_cases H:2^s.p.toNat≤x
  ·have e:=no (by simp;omega)
   simp (maxSteps:=9^7)-implicitDefEqProofs [-getElem?_pos,Gw,a,f41,f42,f43,h,w,aP,bm,f,B,H,P,e];refine aB ?_;simp
  ·simp (maxSteps:=9^7)-implicitDefEqProofs [-getElem?_pos,Gw,a,f41,f42,f43,h,w,aP,bm,f,B,H,P,C]
   exact .for h ⟨rfl,bV N (by rw [fL,t];simp;omega),by simp [a],by simp [f41],by simp [f42],by simp⟩
 obtain rfl:i=s.ew.length:=by omega
 have w:¬ (s.ew.length:Int)<s.n:=by omega
 simp (maxSteps:=9^7)-implicitDefEqProofs [-getElem?_pos,Gw,a,f41,f42,f43,w,r,aP];refine ct (j2 (n:=s.n) ok.st.1) ?_ ?_ ?_
 iterate 2· simp (maxDischargeDepth:=8)-implicitDefEqProofs [-getElem?_pos,Gw]
 cases R:fj s.n s.st with
 |false=>
  have e:=bad (bn fun k=>by have:=k.st;rw [R]at this;cases this);simp (maxSteps:=9^7)-implicitDefEqProofs [-getElem?_pos,Gw,e];refine aB ?_;simp
 |true=>
 simp (maxSteps:=9^7)-implicitDefEqProofs [-getElem?_pos,Gw,a];refine ct (j2 (n:=s.n) ok.en.1) ?_ ?_ ?_
 iterate 2· simp (maxDischargeDepth:=8)-implicitDefEqProofs [-getElem?_pos,Gw]
 cases h2:fj s.n s.en with
 |false=>
  have e:=bad (bn fun k=>by have:=k.en;rw [h2]at this;cases this);simp (maxSteps:=9^7)-implicitDefEqProofs [-getElem?_pos,Gw,e];refine aB ?_;simp
 |true=>
 simp (maxSteps:=9^7)-implicitDefEqProofs [-getElem?_pos,Gw,a,eV];refine et (Dz s) s.nx.length ⟨rfl,rfl,by simp [a],by simp [eV],by simp,by simp⟩ ?_;clear a f41 f42 f43 d h;rintro i d h hi ⟨rfl,M,a,f72,f73,f74⟩;by_cases h:i<s.nx.length
 ·obtain ⟨⟨x1,x2⟩,f⟩:∃x,s.nx[i]?=some x:=⟨_,Gx h⟩
  have C:IntKind.i64.wrap ((i:Int)+1)=((i+1:Nat):Int):=bI ⟨by omega,by omega⟩;have t:s.nx.getD i (0,0)=(x1,x2):=b8 f;have no:=fun q=>bad (rL f q)
  rw [eR,t]at no
  have fin:∀d:PF,d.get 1= .ref 0 0 6→d.get 72=eV s.nx→d.get 73=pi s.nx.length→d.get 74=pi ((i+1:Nat):Int)→eR s i=true→tL 0 (kQ (Dz s) s.nx.length) (s.nx.length- i) d [.cells 6 (aP s),.cells 2 [pi x1,pi x2]]:=fun d V U T S X=>by
   refine .wz h (lY (h2:=[.cells 6 (aP s)]) [0] (tZ s (i+1)) ?_ ?_ ?_ ?_ ?_ ?_) ⟨rfl,bV M X,by simp [tZ],by simp [tZ],by simp [tZ],by simp [tZ]⟩
   ·simp [tZ,aP,V,U,T,S]
   iterate 2· simp
   ·intro b z;omega
   iterate 2· simp (maxDischargeDepth:=8)-implicitDefEqProofs [fH,Gw,tZ,aP,V,U,T,S]
  by_cases B:x1<0
  ·have e:=no (by simp;omega)
   have j:¬ 0≤x1:=by omega
   simp (maxSteps:=9^7)-implicitDefEqProofs [-getElem?_pos,Gw,a,f72,f73,f74,h,aP,eV,bd,f,B,j,e];refine aB ?_;simp
  have j:0≤x1:=by omega
  by_cases H:s.n≤x1
  ·have e:=no (by simp;omega)
   have u:¬ x1<s.n:=by omega
   simp (maxSteps:=9^7)-implicitDefEqProofs [-getElem?_pos,Gw,a,f72,f73,f74,h,aP,eV,bd,f,j,H,u,e];refine aB ?_;simp
  have u:x1<s.n:=by omega
  by_cases a3:x2<0
  ·have e:=no (by simp;omega)
   have A:¬ 0≤x2:=by omega
   simp (maxSteps:=9^7)-implicitDefEqProofs [-getElem?_pos,Gw,a,f72,f73,f74,h,aP,eV,bd,f,j,u,a3,A,e];refine aB ?_;simp
  have A:0≤x2:=by omega
  by_cases a4:s.n≤x2
  ·have e:=no (by simp;omega)
   have G:¬ x2<s.n:=by omega
   simp (maxSteps:=9^7)-implicitDefEqProofs [-getElem?_pos,Gw,a,f72,f73,f74,h,aP,eV,bd,f,j,u,A,a4,G,e];refine aB ?_;simp
  have G:x2<s.n:=by omega
  by_cases K:0<i
  ·obtain ⟨⟨m,l⟩,L⟩:∃y,s.nx[i- 1]?=some y:=⟨_,Gx (by omega)⟩
   have W:IntKind.i64.wrap ((i:Int)- 1)=((i- 1:Nat):Int):=by rw [bI ⟨by omega,by omega⟩];omega
   have Y:i- 1<s.nx.length:=by omega
   have I:(0:Int)<i:=by omega
   have Q:s.nx.getD (i- 1) (0,0)=(m,l):=b8 L;rw [Q]at no;simp (maxSteps:=9^7)-implicitDefEqProofs [-getElem?_pos,Gw,a,f72,f73,f74,h,aP,eV,bd,f,j,u,A,G,K,I,W,Y,L];refine ct (oU (m,l) (x1,x2)) ?_ ?_ ?_
   iterate 2· simp (maxDischargeDepth:=8)-implicitDefEqProofs [-getElem?_pos,Gw]
   cases z:lexB (m,l) (x1,x2)with
   |false=>
    have e:=no (by simp [z];omega)
    have c:0≤mK (m,l) (x1,x2):=by
     refine Int.not_lt.1 fun q=>?_
     have:=l7.1 q;rw [z]at this;cases this
    simp (maxSteps:=9^7)-implicitDefEqProofs [-getElem?_pos,Gw,c,e];refine aB ?_;simp
   |true=>
    have c:¬ 0≤mK (m,l) (x1,x2):=by
     have:=(l7 (x:=(m,l)) (y:=(x1,x2))).2 z;omega
    simp (maxSteps:=9^7)-implicitDefEqProofs [-getElem?_pos,Gw,c,a,f72,f73,f74,C];exact fin _ (by simp [a]) (by simp [f72]) (by simp [f73]) (by simp) (by rw [eR,t,Q];simp [z];omega)
  ·have I:¬ (0:Int)<i:=by omega
   simp (maxSteps:=9^7)-implicitDefEqProofs [-getElem?_pos,Gw,a,f72,f73,f74,h,aP,eV,bd,f,j,u,A,G,K,I,C];exact fin _ (by simp [a]) (by simp [f72]) (by simp [f73]) (by simp) (by rw [eR,t];simp;omega)
 ·obtain rfl:i=s.nx.length:=by omega
  have e:oV s=true:=jn.2 {n:=by omega,p:=by omega,len:=r,ew:=N,st:=R,en:=h2,nl:=by omega,nx:=M};have Z:hY s=0:=by simp [hY,e]
  simp (maxSteps:=9^7)-implicitDefEqProofs [-getElem?_pos,Gw,a,f72,f73,f74,Z];refine aB ?_;simp
open Go Go.RowKit
theorem Fz.wX {f:Nat} {args:List PV} {y:Value} (k:∀F H φ vs,H.n0≤H.nx→aL ⟨F,H,φ,[]⟩ args vs→Ca E O f vs H (fun x d=>x=y∧Ext H d)):Fz E O f args (.v y):=by
 intro F H φ vs S g;refine (k F H φ vs S.wf g).mono ?_;rintro x d ⟨rfl,X⟩
 have T:bf 0 mV ⟨F,H,φ,[]⟩ ⟨F,d,φ,[]⟩:=⟨X.n0,X.nx,fun x c=>⟨c,X.old x (S.fz x c)⟩,fun _ _ _ h=>h,fun x c _=>X.old x c,fun b a=>absurd (aO a) (GZ _),fun _=>GB _,fun b a=>absurd a (GZ _),fun b a=>absurd a (GZ _),fun b a=>absurd a (GZ _)⟩
 exact ⟨_,[],F,φ,⟨rfl,rfl,rfl⟩,.v _,⟨X.wf S.wf,fun x c=>GW (S.fz x c) X.nx,fun b i s=>absurd (aO s) (GZ _),fun b z cs e=>by simp at e,fun b es e=>by simp at e⟩,T⟩
theorem l9:Fz E O 11 [] (pb true):=Fz.wX fun F H b c w a=>by
 cases a;exact Ca.Ef (g:=fun z H=>match z with|[]=>some (.bool true,H)|_=>none) (by rfl) rfl ⟨rfl,Ext.refl _⟩
theorem kW {s:Sy} (ok:yG s):Fz E O 3 [.agg (aP s)] (pb true):=by
 refine o6.body (F:=a3) rfl rfl rfl ?_;simp (maxSteps:=9^7)-implicitDefEqProofs [-getElem?_pos,Gw,a3,aP];refine ct (Be ok) ?_ ?_ ?_
 iterate 2· simp (maxDischargeDepth:=8)-implicitDefEqProofs [-getElem?_pos,Gw,aP]
 cases h:oV s with
 |false=>
  have e:hY s=250:=by simp [hY,h]
  simp (maxSteps:=9^7)-implicitDefEqProofs [-getElem?_pos,Gw,aP];refine ct (l8 ok) ?_ ?_ ?_
  iterate 2· simp (maxDischargeDepth:=8)-implicitDefEqProofs [-getElem?_pos,Gw,aP]
  simp (maxSteps:=9^7)-implicitDefEqProofs [-getElem?_pos,Gw,e];refine ct (l9) ?_ ?_ ?_
  iterate 2· simp (maxDischargeDepth:=8)-implicitDefEqProofs [-getElem?_pos,Gw]
  simp (maxSteps:=9^7)-implicitDefEqProofs [-getElem?_pos,Gw];refine aB ?_;simp
 |true=>
  have e:hY s=0:=by simp [hY,h]
  simp (maxSteps:=9^7)-implicitDefEqProofs [-getElem?_pos,Gw,aP];refine ct (l8 ok) ?_ ?_ ?_
  iterate 2· simp (maxDischargeDepth:=8)-implicitDefEqProofs [-getElem?_pos,Gw,aP]
  simp (maxSteps:=9^7)-implicitDefEqProofs [-getElem?_pos,Gw,e];refine ct (l9) ?_ ?_ ?_
  iterate 2· simp (maxDischargeDepth:=8)-implicitDefEqProofs [-getElem?_pos,Gw]
  simp (maxSteps:=9^7)-implicitDefEqProofs [-getElem?_pos,Gw];refine aB ?_;simp
theorem Fz.FW {f:Nat} {args:List PV} {x:Value} {W:World} {vs:List Value} (k:Fz E O f args (.v x)) (h:aL ⟨F0 W,H0 W,id,[]⟩ args vs):Ca E O f vs (H0 W) (fun y _=>y=x):=by
 refine (k (F0 W) (H0 W) id vs (FR W id) h).mono ?_;rintro y c ⟨r,b,d,a,⟨rfl,_⟩,R,_⟩;cases R;rfl
theorem cK.arg {W:World} {ps:List PV} {l:List Value} (h:cK (F0 W) (H0 W) ps l):RV ⟨F0 W,H0 W,id,[]⟩ (.agg ps) (.agg l.toArray):=.agg (h.fJ (C:=⟨_,_,_,_⟩))
end P
end Go.Proofs.Ytediokhgklkhnaa.A
