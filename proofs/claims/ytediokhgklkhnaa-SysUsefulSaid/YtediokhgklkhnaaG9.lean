/- Texts that stand one behind the other: AbsB, AbsC, AbsD, AbsE, AbsF, AbsG, AbsH, AbsI, AbsJ, AbsK, AbsL, AbsM. -/
import Derived.Test.YtediokhgklkhnaaG8
import Derived.Deep.LoopGhost
import Derived.Orders
set_option linter.unusedVariables false
set_option linter.unusedSimpArgs false
namespace Go.Proofs.Ytediokhgklkhnaa.A
section
open Go Go.RowKit
section
variable{P:Program}
def x3 (P:Program) (f:Nat) (as:List Value) (H:AH) (v:Value) (H':AH):Prop:=
 ∀(w0:World) (φ:aF) (w:World) (as':Array Value),Rel w0 φ H w→iw φ H→VL φ as as'.toList→
  Calls P f as' w fun e w'=>∃bl v',e= .returned v'∧V bl v v'∧Rel w0 bl H' w'∧bx φ H w bl H' w'
def hJ (P:Program) (call:Cl):Prop:=∀f as H v H',call f as H=some (v,H')→nz P f∧x3 P f as H v H'
theorem V.qd {φ:aF} {v:Value} {b:Bool} (h:V φ v (.bool b)):v= .bool b:=by
 cases h;rfl
theorem qe {φ:aF} {fr:Fr} {a:Act} (F:eR φ fr a) {f:Array Oper} {o:Oper} {g:Option (Nat×Bool)} {d:Option Nat} {p:aY} (e:kL f o.guard=some g):
 Region.wanted o (yielded f a.tmps)=AO.wanted ⟨g,d,p⟩ fr:=by
 unfold Region.wanted AO.wanted
 cases m:o.guard with
 |none=>rw [m]at e;simp [kL]at e;subst e;rfl
 |some n=>
  obtain ⟨j,b⟩:=n;rw [m]at e;simp only [kL]at e
  cases k:(f[j]?).bind (·.dst)with
  |none=>simp [k]at e
  |some t=>
   simp [k]at e;subst e;dsimp only;have h:=F t
   have q:yielded f a.tmps j=match a.tmps[t]? with|some (.bool b)=>some b|_=>none:=by
    unfold yielded;rw [k];rfl
   rw [q]
   cases l:fr.get t with
   |bool c=>
    rw [l]at h;have:=h.bool
    have h2:a.tmps[t]?=some (.bool c):=by
     cases i:a.tmps[t]? with
     |none=>simp [i,undef]at this
     |some u=>simp [i]at this;rw [this]
    rw [h2];simp
   |_=>
    have:∀c,a.tmps[t]?≠some (.bool c):=by
     intro c r;have h2:a.tmps.getD t undef= .bool c:=by simp [r]
     rw [h2]at h;have:=h.qd;rw [this]at l;cases l
    dsimp only
    cases i:a.tmps[t]? with
    |none=>rfl
    |some u=>cases u<;>first|rfl|exact absurd i (this _)
theorem dZ {p:aY} {a:X→Value} {H b:AH} {f:Nat} {as:List Value} (h:aB p a H=some (.enter f as,b)):bU p= .ei:=by
 cases p<;>first
  |rfl
  |(exfalso
    simp only [aB,Bool.cond_eq_ite]at h
    (repeat' split at h)<;>simp at h)
theorem rC {call:Cl} (fJ:hJ P call) {nt:Nat} {A:Array Oper} {i:Nat} {o:Oper} {I:AO} (hi:A[i]?=some o) (c:wi P nt A o=some I)
 {w0 w:World} {φ:aF} {H J:AH} {q D:Fr} {a:Act} (F:eR φ q a) (R:Rel w0 φ H w) (S:φ.m H.nx=none) (N:bU I.o= .ei→iw φ H) (M:a.tmps.size=nt) (hd:a.defers=[]) (h:ep call I q H=some (D,J))
 {Q:Exit→Act→World→Prop} {K:Act→World→Prop}
 (y:∀b v v' w',Rel w0 b J w'→bx φ H w b J w'→V b v v'→D=q.aw o.dst v→eR b D (a.put o.dst v')→(a.put o.dst v').tmps.size=nt→(a.put o.dst v').defers=[]→K (a.put o.dst v') w'):
 wpOp P A Q i K a w:=by
 unfold wpOp;simp only [hi];unfold wi at c;split at c
 case h_2=>cases c
 rename_i g hg;obtain ⟨O,c⟩:=ai c;cases c
 obtain ⟨p,B⟩:∃p,ud P o=p:=⟨_,rfl⟩
 rw [B]at h N
 have u:∀n,o.dst=some n→n<a.tmps.size:=by
  intro n l;rw [l]at O;rw [M]
  simpa [wh]using O
 have t:∀v,(a.put o.dst v).tmps.size=nt:=by
  intro v;cases hq:o.dst<;>simp [Act.put,M]
 have s:∀v,(a.put o.dst v).defers=[]:=by
  intro v;cases hq:o.dst<;>simp [Act.put,hd]
 have hw:=qe F (o:=o) (d:=o.dst) (p:=p) hg;rw [hw];unfold ep at h
 cases L:AO.wanted ⟨g,o.dst,p⟩ q with
 |false=>
  simp only [L,cond_false,OH,OP]at h;obtain ⟨rfl,rfl⟩:=h;simp only [Bool.false_eq_true,if_false];exact y φ undef undef w R (bx.refl _ _ _) (jk _) rfl (F.aw u (jk _)) (t _) (s _)
 |true=>
  simp only [L,cond_true]at h;simp only [if_true];left;unfold Oper.wp
  cases k:aB p (X.ev q) H with
  |none=>simp [k]at h
  |some rr=>
   obtain ⟨res,T⟩:=rr;simp only [k]at h
   cases res with
   |v x=>
    simp only [OH,OP]at h;obtain ⟨rfl,rfl⟩:=h;obtain ⟨b,w',nx,E,z,G,l⟩:=rB F R S B k (fun f as h=>by cases h);rw [E];rcases l with⟨Y,rfl,j⟩|⟨rfl,rfl⟩
    ·rw [Oper.upon_value]
     exact y b x Y w' z G j rfl ((F.mono G.le).aw u j) (t _) (s _)
    ·rw [Oper.upon_skip]
     exact y b undef undef w' z G (jk _) rfl ((F.mono G.le).aw u (jk _)) (t _) (s _)
   |enter f as=>
    simp only at h
    cases C:call f as T with
    |none=>simp [C]at h
    |some vv=>
     obtain ⟨x,H2⟩:=vv;simp only [C,OH,OP]at h;obtain ⟨rfl,rfl⟩:=h;obtain ⟨hf,FV⟩:=fJ f as T x H2 C;obtain ⟨b,w',nx,E,z,G,r,rfl,l⟩:=rB F R S B k (fun f' r h=>by cases h;exact hf);rw [E,Oper.upon_enter];refine (FV w0 b w' r z (G.fresh (N (dZ k))) l).mono ?_;rintro e Z ⟨W,v',rfl,j,R2,U⟩;exact y W x v' Z R2 (G.trans U) j rfl ((F.mono (G.trans U).le).aw u j) (t _) (s _)
def FW:Ex→Exit
 | .normal=>.normal
 | .exit i=>.exit i
 | .ret=>.ret
def rD (w0:World) (φ:aF) (w:World) (H:AH) (nt:Nat) (ex:Ex) (aS:Fr) (H':AH) (e:Exit) (a':Act) (w':World):Prop:=
 e=FW ex∧∃bl,Rel w0 bl H' w'∧bx φ H w bl H' w'∧eR bl aS a'∧a'.tmps.size=nt∧a'.defers=[]
theorem rE {call:Cl} (z:hJ P call) {d:Nat} {c:Array Oper} {w0:World} {Q:Exit→Act→World→Prop}:∀(l:List Oper) (n:List AO) (k:Nat) {w:World} {φ:aF} {H f:AH} {e i:Fr} {a:Act},
 gn P d c l=some n→(∀j o,l[j]?=some o→c[k+j]?=some o)→ops call n e H=some (i,f)→eR φ e a→Rel w0 φ H w→iw φ H→a.tmps.size=d→a.defers=[]→
 (∀q a' w',Rel w0 q f w'→bx φ H w q f w'→eR q i a'→a'.tmps.size=d→a'.defers=[]→Q .normal a' w')→wpOps P c Q (List.range' k l.length) a w
 |[],n,k,w,φ,H,f,e,i,a,b,_,h,F,R,p,s,u,x=>by
  simp [gn]at b;subst b;simp only [ops,OH,OP]at h;obtain ⟨rfl,rfl⟩:=h;exact x φ a w R (bx.refl _ _ _) F s u
 |o::l,n,k,w,φ,H,f,e,i,a,b,hi,h,F,R,p,s,u,x=>by
  simp only [gn]at b
  cases g:wi P d c o with
  |none=>simp [g]at b
  |some L=>
   cases t:gn P d c l with
   |none=>simp [g,t]at b
   |some m=>
    simp [g,t]at b;subst b;simp only [ops]at h
    cases y:ep call L e H with
    |none=>simp [y]at h
    |some r=>
     obtain ⟨Y,Z⟩:=r;simp only [y]at h;simp only [List.length_cons,List.range'_succ,wpOps_cons];refine rC z (by simpa using hi 0 o (by simp)) g F R (p _ (OL _)) (fun _=>p) s u y ?_;intro V v X W O A _ _ U G K;refine rE z l m (k+1) t (fun j D I=>by have:=hi (j+1) D (by simpa using I);rwa [show k+(j+1)=k+1+j by omega]at this) h U O (A.fresh p) G K ?_;intro B M C N S T E J;exact x B M C N (A.trans S) T E J
def eT (l:List AO) (dp:List (List Nat)):List Nat→List (Nat×Nat)→List Row
 |[],_=>[]
 |j::r,am=>match nth l j,nth dp j with
  |some o,some d=>⟨o,bU o.o,j,d,fS am d⟩::eT l dp r ((j,fS am d)::am)
  |_,_=>[]
theorem mb {α:Type} (l:List AO) (a:List (List Nat)):∀(ord:List Nat) (am:List (Nat×Nat)) (k:List Row→α),ox l a ord am k=k (eT l a ord am)
 |[],am,k=>rfl
 |j::r,am,k=>by
  simp only [ox,eT]
  cases b:nth l j with
  |none=>rfl
  |some o=>
   cases c:nth a j with
   |none=>rfl
   |some d=>
    simp only [force_eq];rw [mb l a r]
theorem jt {b id:Nat} {a:Array Oper} {ac:AC} (h:bC P b (.region id a true)=some ac):
 ∃l ord,gn P b a a.toList=some l∧nm l.length (eT l (a.toList.map ue) ord [])=true∧
  ac= .ak ((eT l (a.toList.map ue) ord []).map (·.o)) (kh 0 (eT l (a.toList.map ue) ord [])):=by
 simp only [bC]at h
 cases c:gn P b a a.toList with
 |none=>simp [c]at h
 |some l=>
  simp only [c,wj,mb]at h;obtain ⟨d,h2⟩:=ai h;cases h2;exact ⟨l,_,rfl,d,rfl⟩
theorem nE {b id:Nat} {a:Array Oper} {ac:AC} (h:bC P b (.region id a true)=some ac):∃l ck,ac= .ak l ck:=by
 obtain ⟨_,_,_,_,e⟩:=jt h;exact ⟨_,_,e⟩
def rF (P:Program) (call:Cl):Prop:=∀(nt:Nat) (id:Nat) (aT:Array Oper) (ac:AC),bC P nt (.region id aT true)=some ac→∀(l:List AO) (ck:List (Nat×Nat×Nat)),ac= .ak l ck→
 ∀(w0 w:World) (φ:aF) (H H':AH) (fr aS:Fr) (a:Act),qY call l ck fr H=some (aS,H')→eR φ fr a→Rel w0 φ H w→iw φ H→a.tmps.size=nt→a.defers=[]→
  (Code.region id aT true).wp P (rD w0 φ w H nt .normal aS H') a w
theorem cD {call:Cl}:∀{n m:Nat} {c:AC} {e:Fr} {H:AH} {r:Ex×Fr×AH},n≤m→ah call n c e H=some r→ah call m c e H=some r:=by
 intro n
 induction n with
 |zero=>intro m c e H r _ h;simp [ah]at h
 |succ n ih=>
  intro m c e H r o h
  obtain ⟨m,rfl⟩:∃k,m=k+1:=⟨m- 1,by omega⟩
  have f:n≤m:=by omega
  cases c with
  |seq a b=>
   simp only [ah]at h⊢
   cases d:ah call n a e H with
   |none=>simp [d]at h
   |some q=>
    rw [ih f d];obtain ⟨ex,g,j⟩:=q
    cases ex<;>simp only [d]at h⊢<;>first
     |exact ih f h
     |exact h
  |cond x a b=>
   simp only [ah]at h⊢
   cases l:x.ev e<;>simp only [l]at h⊢<;>first
    |(cases h;done)
    |skip
   rename_i t;cases t<;>exact ih f h
  |block i a=>
   simp only [ah]at h⊢
   cases d:ah call n a e H with
   |none=>simp [d]at h
   |some q=>
    rw [ih f d];obtain ⟨ex,g,j⟩:=q;cases ex<;>simp only [d]at h⊢<;>exact h
  |loop a=>
   simp only [ah]at h⊢
   cases d:ah call n a e H with
   |none=>simp [d]at h
   |some q=>
    rw [ih f d];obtain ⟨ex,g,j⟩:=q
    cases ex<;>simp only [d]at h⊢<;>first
     |exact ih f h
     |exact h
  |_=>simpa only [ah]using h
theorem uw {call:Cl} (fJ:hJ P call) (A7:rF P call) {s:Nat} {w0:World}:∀(m:Nat) (c:Code) (ac:AC) {w:World} {φ:aF} {H S:AH} {A N:Fr} {a:Act} {ex:Ex},
 bC P s c=some ac→ah call m ac A H=some (ex,N,S)→eR φ A a→Rel w0 φ H w→iw φ H→a.tmps.size=s→a.defers=[]→c.wp P (rD w0 φ w H s ex N S) a w:=by
 intro m
 induction m with
 |zero=>intro c ac w φ H S A N a ex _ h;simp [ah]at h
 |succ m ih=>
  intro c ac w φ H S A N a ex d h F R D u v
  cases c with
  |skip=>
   simp [bC]at d;subst d;simp only [ah,OH,OP]at h;obtain ⟨rfl,rfl,rfl⟩:=h;exact wp_skip ⟨rfl,φ,R,bx.refl _ _ _,F,u,v⟩
  |region id V draw=>
   cases draw with
   |false=>
    simp only [bC]at d
    cases hl:gn P s V V.toList with
    |none=>simp [hl]at d
    |some l=>
     simp [hl]at d;subst d;simp only [ah]at h
     cases f:ops call l A H with
     |none=>simp [f]at h
     |some r=>
      obtain ⟨t,p⟩:=r;simp only [f,OH,OP]at h;obtain ⟨rfl,rfl,rfl⟩:=h;refine wp_region ?_;have:=rE (Q:=rD w0 φ w H s .normal t p) fJ V.toList l 0 hl (fun j o W=>by simpa using W) f F R D u v (fun bl a' w' R' G F' xN A8=>⟨rfl,bl,R',G,F',xN,A8⟩);rwa [Array.length_toList,←List.range_eq_range']at this
   |true=>
    have kO:=d;obtain ⟨l,ck,A9⟩:=nE d;rw [A9]at h;simp only [ah]at h;split at h
    case h_2=>cases h
    rename_i t p f;simp only [OH,OP]at h;obtain ⟨rfl,rfl,rfl⟩:=h;exact A7 s id V _ kO _ _ A9 w0 w φ H p A t a f F R D u v
  |refuse r=>
   simp only [bC,OH]at d;subst d;simp only [ah,X.ev]at h;cases h
  |seq x y=>
   simp only [bC]at d
   cases g:bC P s x with
   |none=>simp [g]at d
   |some B=>
    cases K:bC P s y with
    |none=>simp [g,K]at d
    |some ay=>
     simp [g,K]at d;subst d;simp only [ah]at h;refine wp_seq ?_
     cases f:ah call m B A H with
     |none=>simp [f]at h
     |some r=>
      obtain ⟨Ba,t,p⟩:=r;have k:=ih x B g f F R D u v
      cases Ba with
      |normal=>
       simp only [f]at h;refine wp_mono k ?_;rintro e C k ⟨rfl,J,R1,E,F1,Z,A6⟩;refine wp_mono (ih y ay K h F1 R1 (E.fresh D) Z A6) ?_;rintro e a2 Y ⟨he,I,O,T,U,L,M⟩;exact ⟨he,I,O,E.trans T,U,L,M⟩
      |exit i=>
       simp only [f,OH,OP]at h;obtain ⟨rfl,rfl,rfl⟩:=h;refine wp_mono k ?_;rintro e C k ⟨rfl,q⟩;exact ⟨rfl,q⟩
      |ret=>
       simp only [f,OH,OP]at h;obtain ⟨rfl,rfl,rfl⟩:=h;refine wp_mono k ?_;rintro e C k ⟨rfl,q⟩;exact ⟨rfl,q⟩
  |cond x y z=>
   simp only [bC]at d;split at d
   case h_2=>cases d
   rename_i xx ay az g K hz;cases d;simp only [ah]at h;have hv:=bc F g;cases hq:xx.ev A<;>simp [hq]at h;rename_i b;rw [hq]at hv;refine wp_cond hv.bool ?_;cases b
   ·simp only [Bool.false_eq_true,if_false]
    exact ih z az hz h F R D u v
   ·simp only [if_true]
    exact ih y ay K h F R D u v
  |block i x=>
   simp only [bC]at d
   cases g:bC P s x with
   |none=>simp [g]at d
   |some B=>
    simp [g]at d;subst d;simp only [ah]at h;refine wp_block ?_
    cases f:ah call m B A H with
    |none=>simp [f]at h
    |some r=>
     obtain ⟨Ba,t,p⟩:=r;have k:=ih x B g f F R D u v;refine wp_mono k ?_;rintro e C w3 ⟨rfl,q⟩
     cases Ba with
     |normal=>
      simp only [f,OH,OP]at h;obtain ⟨rfl,rfl,rfl⟩:=h;exact ⟨rfl,q⟩
     |ret=>
      simp only [f,OH,OP]at h;obtain ⟨rfl,rfl,rfl⟩:=h;exact ⟨rfl,q⟩
     |exit j=>
      simp only [f,nb,Bool.cond_decide]at h;show Exit.inBlock i _ (.exit j) C w3;simp only [Exit.inBlock];by_cases W:j=i
      ·rw [if_pos W]at h⊢
       simp only [OH,OP]at h;obtain ⟨rfl,rfl,rfl⟩:=h;exact ⟨rfl,q⟩
      ·rw [if_neg W]at h⊢
       simp only [OH,OP]at h;obtain ⟨rfl,rfl,rfl⟩:=h;exact ⟨rfl,q⟩
  |loop x=>
   simp only [bC]at d
   cases g:bC P s x with
   |none=>simp [g]at d
   |some B=>
    simp [g]at d;subst d;refine wp_loop_ghost (fun n C k=>n≤m+1∧∃t p J,ah call n (.loop B) t p=some (ex,N,S)∧eR J t C∧Rel w0 J p k∧bx φ H w J p k∧C.tmps.size=s∧C.defers=[]) (m+1) ⟨OL _,A,H,φ,h,F,R,bx.refl _ _ _,u,v⟩ ?_;rintro n C k ⟨hn,t,p,J,f,F1,R1,E,Z,A6⟩
    cases n with
    |zero=>simp [ah]at f
    |succ n=>
     simp only [ah]at f
     cases h2:ah call n B t p with
     |none=>simp [h2]at f
     |some r=>
      obtain ⟨Ac,da,H2⟩:=r;have mono:ah call m B t p=some (Ac,da,H2):=cD (by omega) h2;have Y:=ih x B g mono F1 R1 (E.fresh D) Z A6;refine wp_mono Y ?_;rintro e a2 Y ⟨rfl,I,O,T,U,L,M⟩
      cases Ac with
      |normal=>
       simp only [h2]at f;exact ⟨n,by omega,by omega,da,H2,I,f,U,O,E.trans T,L,M⟩
      |exit j=>
       simp only [h2,OH,OP]at f;obtain ⟨rfl,rfl,rfl⟩:=f;exact ⟨rfl,I,O,E.trans T,U,L,M⟩
      |ret=>
       simp only [h2,OH,OP]at f;obtain ⟨rfl,rfl,rfl⟩:=f;exact ⟨rfl,I,O,E.trans T,U,L,M⟩
  |exit i=>
   simp [bC]at d;subst d;simp only [ah,OH,OP]at h;obtain ⟨rfl,rfl,rfl⟩:=h;exact wp_exit ⟨rfl,φ,R,bx.refl _ _ _,F,u,v⟩
  |ret=>
   simp [bC]at d;subst d;simp only [ah,OH,OP]at h;obtain ⟨rfl,rfl,rfl⟩:=h;exact wp_ret ⟨rfl,φ,R,bx.refl _ _ _,F,u,v⟩
  |_=>simp [bC]at d
end
end
section
open Go
theorem qf {p:aY} {e wC:X→Value} (h:∀x∈p.xs,e x=wC x) (H:AH):aB p e H=aB p wC H:=by
 have g:∀(l:List X),(∀x∈l,e x=wC x)→l.map e=l.map wC:=fun l i=>List.map_congr_left i
 have mp:∀(l:List (Nat×Nat×X)),(∀x∈l.map (fun p=>p.2.2),e x=wC x)→(l.map fun p=>(p.1,p.2.1,e p.2.2))=l.map fun p=>(p.1,p.2.1,wC p.2.2):=
  fun l i=>List.map_congr_left fun p m=>by rw [i _ (Pe.2 ⟨p,m,rfl⟩)]
 have j:∀(l:Option X),(∀x∈l.toList,e x=wC x)→l.map e=l.map wC:=fun l i=>by cases l<;>simp_all
 cases p
 case build z ps=>simp only [aB];rw [mp ps h]
 case bsl a b c ps=>simp only [aB];rw [mp ps h]
 case mkf f a b=>
  simp only [aB];rw [g a fun x d=>h x (by simp [aY.xs,d]),g b fun x d=>h x (by simp [aY.xs,d])]
 case call f as=>simp only [aB];rw [g as h]
 case xt k l=>simp only [aB];rw [g l h]
 case callv x as=>
  simp only [aB];rw [g as fun x d=>h x (by simp [aY.xs,d]),h x (by simp [aY.xs])]
 case mxl x as=>
  simp only [aB];rw [g as fun x d=>h x (by simp [aY.xs,d]),h x (by simp [aY.xs])]
 case mnl x as=>
  simp only [aB];rw [g as fun x d=>h x (by simp [aY.xs,d]),h x (by simp [aY.xs])]
 case sl sz x lo hi mx=>
  simp only [aB];rw [h x (by simp [aY.xs]),j lo fun x d=>h x (by simp [aY.xs]at d⊢;simp [d]),j hi fun x d=>h x (by simp [aY.xs]at d⊢;simp [d]),j mx fun x d=>h x (by simp [aY.xs]at d⊢;simp [d])]
 all_goals
  simp only [aY.xs,OZ,Ph,or_false,forall_eq_or_imp,forall_eq,implies_true,false_imp_iff]at h;simp only [aB,h]
theorem nG {sz:Nat} {H H1:AH} {x:Value} {hi mx:Option Value}:a5 sz H1 x none hi mx=a5 sz H x none hi mx:=by
 cases x<;>try rfl
 rename_i a len cap;simp only [a5]
 cases b:aJ len cap none hi mx with
 |none=>rfl
 |some r=>
  obtain ⟨l,h,m⟩:=r
  have c:l=0:=by
   unfold aJ at b;simp only [OS]at b;obtain ⟨_,_,_,_,_,e,d⟩:=b;simp at e d;omega
  subst c;simp
theorem hM {p:aY} {g:X→Value} {H i:AH} {r:dw} (d:bU p= .pure) (h:aB p g H=some (r,i)):
 i=H∧∀H1:AH,aB p g H1=some (r,H1):=by
 cases p
 case sl sz x lo hi mx=>
  cases lo with
  |some l=>simp [bU]at d
  |none=>
   simp only [aB,Option.map_none,OR]at h⊢;obtain ⟨v,j,e⟩:=h;cases e;exact ⟨rfl,fun H1=>⟨v,nG.trans j,rfl⟩⟩
 case eqk k neg x y=>
  simp only [aB,OR]at h⊢;obtain ⟨b,f,e⟩:=h;cases e;exact ⟨rfl,fun H1=>⟨b,f,rfl⟩⟩
 case xt k l=>
  cases k<;>first
   |(simp [bU]at d;done)
   |skip
  all_goals
   simp only [aB,kJ]at h⊢
   split at h<;>simp_all<;>first
    |(obtain ⟨a,⟨m,b,c,rfl,rfl⟩,h2⟩:=h;exact ⟨rfl,fun _=>⟨_,⟨m,c⟩,h2⟩⟩)
    |(obtain ⟨_,c,_,_⟩:=h;simp_all;done)
    |(obtain ⟨_,_,c,_,_⟩:=h;simp_all;done)
    |skip
 case eqs neg offs x y=>
  simp only [aB]at h⊢;split at h
  · simp only [OR]at h⊢
    obtain ⟨b,f,e⟩:=h;cases e;exact ⟨rfl,fun H1=>⟨b,f,rfl⟩⟩
  · cases h
 all_goals first
  |(simp [bU]at d;done)
  |(simp only [aB,Bool.cond_eq_ite,OR]at h⊢
    (repeat' split at h)<;>simp_all<;>try(obtain ⟨_,_,c,h2⟩:=h;simp_all))
theorem ew {p:aY} {d:X→Value} {H f:AH} {r:dw} (a:bU p= .alloc) (h:aB p d H=some (r,f)):
 ∃bF,f=H.alloc bF∧∀H1:AH,H1.nx=H.nx→aB p d H1=some (r,H1.alloc bF):=by
 cases p
 case sl sz x lo hi mx=>cases lo<;>simp [bU]at a
 case xt k l=>cases k<;>simp [bU]at a
 all_goals first
  |(simp [bU]at a;done)
  |skip
 case alloc z=>
  simp only [aB,OH,OP]at h⊢;obtain ⟨rfl,rfl⟩:=h;exact ⟨_,rfl,fun H1 e=>⟨by rw [e],rfl⟩⟩
 case box x=>
  simp only [aB,Bool.cond_eq_ite]at h⊢;split at h
  ·cases h
  ·rename_i g
   simp only [OH,OP]at h;obtain ⟨rfl,rfl⟩:=h;exact ⟨_,rfl,fun H1 e=>by rw [if_neg g,e]⟩
 case bsl len sz z ps=>
  simp only [aB,OR]at h⊢;obtain ⟨c,b,e⟩:=h;cases e;exact ⟨_,rfl,fun H1 e=>⟨c,b,by rw [e]⟩⟩
 case mkmap=>
  simp only [aB,OH,OP]at h⊢;obtain ⟨rfl,rfl⟩:=h;exact ⟨_,rfl,fun H1 e=>⟨by rw [e],rfl⟩⟩
 case mksl sz bytes z x=>
  simp only [aB,Bool.cond_eq_ite]at h⊢;split at h
  ·split at h
   ·rename_i b
    simp only [OH,OP]at h;obtain ⟨rfl,rfl⟩:=h;exact ⟨_,rfl,fun H1 e=>by rw [if_pos b,e]⟩
   ·cases h
  ·cases h
theorem fK {a:Nat}:∀{l m:List Value},al a l=some m→m.length=l.length
 |[],m,h=>by simp [al]at h;subst h;rfl
 |v::l,m,h=>by
  simp only [al]at h;split at h
  ·rename_i x c d b
   cases h;simp [fK b]
  ·cases h
theorem bQ {H:AH} {a:Addr} {n:Nat} {vs:List Value} (h:H.ldn a n=some vs):(H.get a.block).isSome=true∧vs.length=n:=by
 unfold AH.ldn at h;split at h
 case h_2=>cases h
 rename_i z c e b;obtain ⟨d,h⟩:=ai h;simp at d;refine ⟨by simp [b],?_⟩;simp only [Bool.cond_eq_ite]at h;split at h
 ·rw [fK h];simp;omega
 ·cases h;simp;omega
theorem cm {H H1:AH} {a:Addr} {n:Nat} (b:H1.get a.block=H.get a.block) (c:H1.n0=H.n0):H1.ldn a n=H.ldn a n:=by
 unfold AH.ldn;rw [b,c]
theorem rG {H:AH} {a:Addr} {v:Value}:H.ld a=some v↔H.ldn a 1=some [v]:=by
 unfold AH.ld AH.ldn
 cases g:a.spot with
 |some x=>simp
 |none=>
  cases h:H.get a.block with
  |none=>simp
  |some b=>
   cases b with
   |map es=>simp
   |cells z c=>
    simp only
    cases d:c[a.off]? with
    |none=>
     have:=List.getElem?_eq_none_iff.1 d;have:decide (a.off+1≤c.length)=false:=by simp;omega
     simp [this]
    |some u=>
     have e:=(ON.1 d).1;have f:decide (a.off+1≤c.length)=true:=by simp;omega
     have h2:List.take 1 (List.drop a.off c)=[u]:=by
      have:=(ON.1 d).2;rw [List.drop_eq_getElem_cons e,this];rfl
     simp only [f,cond_true,h2]
     cases i:decide (a.block<H.n0)with
     |false=>simp
     |true=>
      simp only [cond_true,al];cases au H.n0 u<;>simp
theorem hU {o:AO} {i:Fr} {H m:AH} {r:dw} (f:bU o.o= .load) (h:aB o.o (X.ev i) H=some (r,m)):
 m=H∧∃a vs,et o i H=some (a,vs)∧bg o i=some a.block∧H.ldn a vs.length=some vs∧∀H1:AH,H1.ldn a vs.length=some vs→aB o.o (X.ev i) H1=some (r,H1):=by
 obtain ⟨g,d,p⟩:=o;dsimp only at f h;unfold et bg;dsimp only;cases p
 case sl sz x lo hi mx=>cases lo<;>simp [bU]at f
 case xt k l=>cases k<;>simp [bU]at f
 all_goals first
  |(simp [bU]at f;done)
  |skip
 case ld x=>
  simp only [aB]at h⊢;split at h
  case h_2=>cases h
  rename_i a q;simp only [OR]at h;obtain ⟨v,b,e⟩:=h;cases e;have c:=rG.1 b;refine ⟨rfl,a,[v],?_,rfl,c,fun H1 j=>?_⟩
  ·rw [c];rfl
  ·rw [rG.2 j];rfl
 case ldn n x=>
  simp only [aB]at h⊢;split at h
  case h_2=>cases h
  rename_i a q;simp only [OR]at h;obtain ⟨vs,b,e⟩:=h;cases e;have c:=(bQ b).2;subst c;refine ⟨rfl,a,vs,?_,rfl,b,fun H1 j=>?_⟩
  ·rw [b];rfl
  ·rw [j];rfl
theorem ux {H d:AH} {a:Addr} {vs:List Value} (h:H.st a vs=some d):(H.get a.block).isSome=true∧∃z c',d=H.put a.block (some (.cells z c'))∧
 ∀H1:AH,H1.get a.block=H.get a.block→H1.n0=H.n0→H1.st a vs=some (H1.put a.block (some (.cells z c'))):=by
 unfold AH.st at h;split at h
 case h_2=>cases h
 rename_i z c e b;obtain ⟨f,h⟩:=ai h;cases h;refine ⟨by simp [b],z,_,rfl,fun H1 g h2=>?_⟩;unfold AH.st;rw [g,h2,b,e];simp only [f,cond_true]
theorem kS {o:AO} {f:Fr} {H i:AH} {r:dw} (c:bU o.o= .st) (h:aB o.o (X.ev f) H=some (r,i)):
 ∃b bF,bg o f=some b∧(H.get b).isSome=true∧i=H.put b bF∧∀H1:AH,H1.get b=H.get b→H1.n0=H.n0→aB o.o (X.ev f) H1=some (r,H1.put b bF):=by
 obtain ⟨g,d,p⟩:=o;dsimp only at c h;unfold bg;dsimp only;cases p
 case sl sz x lo hi mx=>cases lo<;>simp [bU]at c
 case xt k l=>cases k<;>simp [bU]at c
 all_goals first
  |(simp [bU]at c;done)
  |skip
 case st n x v=>
  simp only [aB]at h⊢;split at h
  case h_2=>cases h
  rename_i a w;obtain ⟨m,h⟩:=ai h;simp only [OR]at h;obtain ⟨y,h2,e⟩:=h;cases e;obtain ⟨j,z,u,rfl,q⟩:=ux h2;refine ⟨a.block,some (.cells z u),rfl,j,rfl,fun H1 t s=>?_⟩;rw [m,cond_true,q H1 t s];rfl
theorem rH {H:AH} {b sz:Nat} (h:H.get b=none):H.gj b sz=false:=by
 unfold AH.gj;rw [h]
theorem hX {o:AO} {s:Fr} {H y:AH} {r:dw} (w:bU o.o= .read) (h:aB o.o (X.ev s) H=some (r,y)):
 y=H∧∀H1:AH,(∀b,bg o s=some b→(H.get b).isSome=true→H1.get b=H.get b)→H1.n0=H.n0→aB o.o (X.ev s) H1=some (r,H1):=by
 obtain ⟨g,d,p⟩:=o;dsimp only at w h;unfold bg;dsimp only;cases p
 case sl sz x lo hi mx=>
  simp only [aB,OR]at h⊢;obtain ⟨v,f,e⟩:=h;cases e;refine ⟨rfl,fun H1 j h2=>⟨v,?_,rfl⟩⟩;rw [←f];cases u:x.ev s<;>try rfl
  rename_i a len cap;rw [u]at f j;simp only [a5]at f⊢;split
  ·rfl
  ·cases a with
   |none=>rfl
   |some a=>
    rename_i l I m D;rw [D]at f;simp only at f⊢
    have n:(a.spot.isNone&&(Nat.beq l 0||H1.gj a.block sz))=(a.spot.isNone&&(Nat.beq l 0||H.gj a.block sz))∨H.get a.block=none:=by
     cases B:a.spot.isNone with
     |false=>left;simp
     |true=>
      cases i:H.get a.block with
      |none=>exact .inr rfl
      |some b=>
       left;have:=j a.block (by simp [B]) (by simp [i]);unfold AH.gj;rw [this]
    rcases n with n|n
    ·rw [n]
    ·obtain ⟨E,f⟩:=ai f
     rw [E];simp only [cond_true];split
     ·rfl
     ·rename_i C
      rw [if_neg C]at f;obtain ⟨t,f⟩:=ai f;rw [rH n,Bool.or_false]at t;simp only [OK]at t;simp [t.1,t.2]
 case look kk z x k ok=>
  simp only [aB]at h⊢;cases u:x.ev s<;>simp only [u]at h⊢<;>try(cases h;done)
  rename_i A
  cases A with
  |none=>
   simp only at h⊢;obtain ⟨j,h⟩:=ai h;cases h;exact ⟨rfl,fun H1 _ _=>by rw [j];rfl⟩
  |some q=>
   simp only at h⊢
   cases i:H.get q with
   |none=>simp [i]at h
   |some b=>
    cases b with
    |cells z c=>simp [i]at h
    |map es=>
     simp only [i]at h;obtain ⟨j,h⟩:=ai h;refine ⟨?_,fun H1 G F=>?_⟩
     ·split at h<;>first|(cases h;rfl)|cases h
     ·have:=G q rfl (by simp [i])
      rw [this,i,F];simp only [j,cond_true];split at h
      ·cases h;rfl
      ·cases h;rfl
      ·cases h
 case xt k l=>cases k<;>simp [bU]at w
 all_goals first
  |(simp [bU]at w;done)
  |skip
theorem rI:∀{a b:Value},jf a b=true→a=b:=by
 intro a b h;cases a<;>cases b<;>simp [jf]at h<;>simp_all;exact ByteArray.ext h
theorem ju:∀{a b:List Value},dd a b=true→a=b
 |[],[],_=>rfl
 |a::l,b::m,h=>by
  simp only [dd,OK]at h;rw [rI h.1,ju h.2]
 |[],_::_,h=>by simp [dd]at h
 |_::_,[],h=>by simp [dd]at h
theorem qg {H:AH} {a:Addr} {vs:List Value} (h:sameAt H (a,vs)=true):H.ldn a vs.length=some vs:=by
 unfold sameAt at h;dsimp only at h;split at h
 ·rename_i m b
  rw [b,ju h]
 ·cases h
theorem rJ {x y:Option jZ} (h:gm x y=true):x=y:=by
 unfold gm at h;split at h
 ·simp only [OK,Nat.beq_eq]at h
  rw [h.1,ju h.2]
 ·rfl
 ·cases h
open Go
theorem eU {n:Nat}:∀{l:List Nat},lY n l=true↔n∈l
 |[]=>by simp [lY]
 |x::l=>by
  simp only [lY,Bool.or_eq_true,nb,OT,OZ];rw [eU (l:=l)];constructor
  ·rintro (h|h)
   ·exact .inl h.symm
   ·exact .inr h
  ·rintro (h|h)
   ·exact .inl h.symm
   ·exact .inr h
theorem eV {x y:AO} (h:dP x y=true):(∀d,x.d=some d→d∉tmpsOf y)∧(∀d,x.d=some d→y.d≠some d):=by
 unfold dP at h
 cases f:x.d with
 |none=>exact ⟨fun _ h=>(by cases h),fun _ h=>(by cases h)⟩
 |some d=>
  simp only [f,OK,Bool.not_eq_true']at h;refine ⟨fun e a=>?_,fun e a=>?_⟩
  ·cases a
   intro c;rw [eU.2 c]at h;cases h.1
  ·cases a
   intro b;rw [b]at h;simp at h
theorem Fr.dg {f:Fr} {d:Option Nat} {v:Value} {x:Nat}:(f.aw d v).get x=if d=some x then v else f.get x:=by
 cases d with
 |none=>simp [Fr.aw]
 |some k=>
  simp only [Fr.aw,Fr.aN,OH];by_cases h:x=k
  ·simp [h]
  ·rw [if_neg h,if_neg (fun e=>h e.symm)]
inductive One (call:Cl) (o:AO) (fr:Fr) (H:AH) (x:Value) (H':AH):Prop where
 |off (h:o.wanted fr=false) (e:x=undef) (e2:H'=H)
 |val (h:o.wanted fr=true) (e:aB o.o (X.ev fr) H=some (.v x,H'))
 |call (h:o.wanted fr=true) (f:Nat) (as:List Value) (H1:AH) (e:aB o.o (X.ev fr) H=some (.enter f as,H1)) (e2:call f as H1=some (x,H'))
theorem bG {call:Cl} {o:AO} {b k:Fr} {H H':AH}:ep call o b H=some (k,H')↔∃x,k=b.aw o.d x∧One call o b H x H':=by
 unfold ep;constructor
 ·intro h
  cases a:o.wanted b with
  |false=>
   simp only [a,cond_false,OH,OP]at h;exact ⟨undef,h.1.symm,.off a rfl h.2.symm⟩
  |true=>
   simp only [a,cond_true]at h
   cases c:aB o.o (X.ev b) H with
   |none=>simp [c]at h
   |some l=>
    obtain ⟨res,j⟩:=l;simp only [c]at h
    cases res with
    |v x=>
     simp only [OH,OP]at h;obtain ⟨rfl,rfl⟩:=h;exact ⟨x,rfl,.val a c⟩
    |enter f as=>
     simp only at h
     cases g:call f as j with
     |none=>simp [g]at h
     |some r=>
      obtain ⟨x,m⟩:=r;simp only [g,OH,OP]at h;obtain ⟨rfl,rfl⟩:=h;exact ⟨x,rfl,.call a f as j c g⟩
 ·rintro ⟨x,rfl,h⟩
  cases h with
  |off h e i=>subst e;subst i;simp [h]
  |val h e=>simp [h,e]
  |call h f as j e i=>simp [h,e,i]
def iz (o:AO) (fr da:Fr):Prop:=∀t∈tmpsOf o,da.get t=fr.get t
theorem iz.ev {o:AO} {b a:Fr} (h:iz o b a):∀x∈o.o.xs,X.ev a x=X.ev b x:=by
 intro x c
 cases x with
 |t n=>
  exact h n (by
   unfold tmpsOf
   exact List.mem_append_right _ (List.mem_filterMap.2 ⟨.t n,c,rfl⟩))
 |k v=>rfl
 |f n=>rfl
theorem iz.wanted {o:AO} {fr a:Fr} (h:iz o fr a):o.wanted a=o.wanted fr:=by
 unfold AO.wanted
 cases d:o.g with
 |none=>rfl
 |some c=>
  obtain ⟨t,b⟩:=c;simp only;rw [h t (by unfold tmpsOf;rw [d];simp)]
theorem iz.one {call:Cl} {o:AO} {e d:Fr} {H H':AH} {x:Value} (h:iz o e d) (k:One call o e H x H'):One call o d H x H':=by
 have g:∀H,aB o.o (X.ev d) H=aB o.o (X.ev e) H:=fun H=>qf h.ev H
 cases k with
 |off a b c=>exact .off (h.wanted.trans a) b c
 |val a b=>exact .val (h.wanted.trans a) ((g _).trans b)
 |call a f as i b c=>exact .call (h.wanted.trans a) f as i ((g _).trans b) c
theorem rK {o:AO} {fr b:Fr} (h:iz o fr b):bg o b=bg o fr:=by
 have a:=h.ev;unfold bg;cases c:o.o<;>simp only [c,aY.xs,OZ,Ph,or_false,forall_eq_or_imp,forall_eq]at a⊢;all_goals (simp only [a])
structure g8 (call:Cl) (O:Nat→AO) (n:Nat) (sF:Nat→Fr) (sH:Nat→AH) (jv:Nat→Nat→Prop):Prop where
 step:∀t,t<n→ep call (O t) (sF t) (sH t)=some (sF (t+1),sH (t+1))
 n0:∀t,t<n→(sH (t+1)).n0=(sH t).n0
 nx:∀t,t<n→(sH t).nx≤(sH (t+1)).nx
 pair:∀p q,p<q→q<n→jv p q∨(dP (O p) (O q)=true∧dP (O q) (O p)=true∧bE (bU (O p).o) (bU (O q).o)=true)
 c0:∀p q,p<q→q<n→¬ jv p q→(O p).wanted (sF p)=true→(O q).wanted (sF q)=true→bU (O p).o= .load→bU (O q).o= .ei→
  ∃x,et (O p) (sF p) (sH p)=some x∧sameAt (sH (q+1)) x=true
 c1:∀p q,p<q→q<n→¬ jv p q→(O p).wanted (sF p)=true→(O q).wanted (sF q)=true→bU (O p).o= .alloc→bU (O q).o= .ei→
  (sH (q+1)).get (sH p).nx=(sH (p+1)).get (sH p).nx
 c2:∀p q,p<q→q<n→¬ jv p q→(O p).wanted (sF p)=true→(O q).wanted (sF q)=true→(bU (O p).o= .load∨bU (O p).o= .read∨bU (O p).o= .st)→bU (O q).o= .st→
  ∀b b',bg (O p) (sF p)=some b→bg (O q) (sF q)=some b'→b≠b'
section
variable{call:Cl} {O:Nat→AO} {n:Nat} {sF:Nat→Fr} {sH:Nat→AH} {jv:Nat→Nat→Prop} (R:g8 call O n sF sH jv)
include R
theorem g8.Ad (t:Nat) (h:t≤n):(sH t).n0=(sH 0).n0:=by
 induction t with
 |zero=>rfl
 |succ t ih=>exact (R.n0 t (by omega)).trans (ih (by omega))
theorem g8.Lt {t:Nat} (k:Nat) (h:t+k≤n):(sH t).nx≤(sH (t+k)).nx:=by
 induction k with
 |zero=>exact OL _
 |succ k ih=>exact O3 (ih (by omega)) (R.nx (t+k) (by omega))
theorem g8.cS {t u:Nat} (h:t≤u) (a:u≤n):(sH t).nx≤(sH u).nx:=by
 have:=R.Lt (t:=t) (u- t) (by omega);rwa [show t+(u- t)=u by omega]at this
omit R in
def kT (O:Nat→AO) (sF:Nat→Fr) (t:Nat):Value:=(sF (t+1)).get ((O t).d.getD 0)
omit R in
def kU (O:Nat→AO) (sF:Nat→Fr) (S:Nat→Bool):Nat→Fr
 |0=>sF 0
 |t+1=>bif S t then(kU O sF S t).aw (O t).d (kT O sF t)else kU O sF S t
theorem g8.frame {t:Nat} (a:t<n) (x:Nat):(sF (t+1)).get x=if(O t).d=some x then kT O sF t else(sF t).get x:=by
 obtain ⟨v,b,_⟩:=bG.1 (R.step t a);by_cases h:(O t).d=some x
 ·rw [if_pos h]
  unfold kT;rw [h];rfl
 ·rw [if_neg h,b,Fr.dg,if_neg h]
theorem g8.one {t:Nat} (a:t<n):∃x,One call (O t) (sF t) (sH t) x (sH (t+1))∧∀f:Fr,f.aw (O t).d x=f.aw (O t).d (kT O sF t):=by
 obtain ⟨v,b,e⟩:=bG.1 (R.step t a);refine ⟨v,e,fun f=>?_⟩
 cases c:(O t).d with
 |none=>rfl
 |some k=>
  have:kT O sF t=v:=by
   unfold kT;rw [b,c];simp [Fr.aw,Fr.aN]
  rw [this]
omit R in
theorem kV {S S':Nat→Bool} {x m:Nat} (h:∀p,p<m→(O p).d=some x→S p=S' p):(kU O sF S m).get x=(kU O sF S' m).get x:=by
 induction m with
 |zero=>rfl
 |succ m ih=>
  have ih:=ih fun p b=>h p (by omega)
  simp only [kU];by_cases a:(O m).d=some x
  ·have:=h m (by omega) a
   rw [this];cases S' m
   ·exact ih
   ·simp only [cond_true,Fr.dg,if_pos a]
  ·cases S m<;>cases S' m<;>simp only [cond_true,cond_false,Fr.dg,if_neg a]<;>exact ih
omit R in
theorem jw {S:Nat→Bool} {x t m:Nat} (e:t≤m) (h:∀p,t≤p→p<m→S p=true→(O p).d≠some x):(kU O sF S m).get x=(kU O sF S t).get x:=by
 induction m with
 |zero=>obtain rfl:t=0:=by omega
        rfl
 |succ m ih=>
  rcases Nat.lt_or_ge m t with a|a
  · obtain rfl:t=m+1:=by omega
    rfl
  · have ih:=ih a fun p b f=>h p b (by omega)
    simp only [kU]
    cases c:S m with
    |false=>exact ih
    |true=>simp only [cond_true,Fr.dg,if_neg (h m a (by omega) c)];exact ih
theorem g8.oK {m:Nat} (a:m≤n) (x:Nat):(kU O sF (fun _=>true) m).get x=(sF m).get x:=by
 induction m with
 |zero=>rfl
 |succ m ih=>
  rw [R.frame (by omega),kU,cond_true,Fr.dg,ih (by omega)]
omit R in
structure Bb (n:Nat) (jv:Nat→Nat→Prop) (S:Nat→Bool) (t:Nat):Prop where
 lt:t<n
 out:S t=false
 Lu:∀p,p<t→jv p t→S p=true
 cls:∀p q,p<q→q<n→S q=true→jv p q→S p=true
variable{S:Nat→Bool} {t:Nat} (C:Bb n jv S t)
include C
theorem g8.before {p:Nat} (a:p<t) (c:S p=false):¬ jv p t∧dP (O p) (O t)=true∧dP (O t) (O p)=true∧bE (bU (O p).o) (bU (O t).o)=true:=by
 have b:¬ jv p t:=fun h=>by rw [C.Lu p a h]at c;cases c
 exact ⟨b,(R.pair p t a C.lt).resolve_left b⟩
theorem g8.behind {p:Nat} (b:t<p) (a:p<n) (d:S p=true):¬ jv t p∧dP (O t) (O p)=true∧dP (O p) (O t)=true∧bE (bU (O t).o) (bU (O p).o)=true:=by
 have c:¬ jv t p:=fun h=>by have:=C.cls t p b a d h;rw [C.out]at this;cases this
 exact ⟨c,(R.pair t p b a).resolve_left c⟩
theorem g8.km:iz (O t) (sF t) (kU O sF S n):=by
 intro x d;rw [jw (t:=t) (Nat.le_of_lt C.lt),←R.oK (Nat.le_of_lt C.lt)]
 ·refine kV fun p b c=>?_
  cases a:S p with
  |true=>rfl
  |false=>exact absurd d ((eV (R.before C b a).2.1).1 x c)
 ·intro p b e a c
  rcases Nat.lt_or_eq_of_le b with h|h
  ·exact (eV (R.behind C h e a).2.2.1).1 x c d
  ·subst h;rw [C.out]at a;cases a
omit R C in
def ins (S:Nat→Bool) (t:Nat):Nat→Bool:=fun p=>bif Nat.beq p t then true else S p
omit R C in
theorem cn:ins S t t=true:=by simp [ins]
omit R C in
theorem cO {p:Nat} (h:p≠t):ins S t p=S p:=by
 unfold ins;rw [nb,decide_eq_false h];rfl
theorem g8.uy (x:Nat):(kU O sF (ins S t) n).get x=((kU O sF S n).aw (O t).d (kT O sF t)).get x:=by
 rw [Fr.dg];by_cases a:(O t).d=some x
 ·rw [if_pos a,jw (t:=t+1) C.lt]
  ·rw [kU,cn,cond_true,Fr.dg,if_pos a]
  ·intro p f c b
   rw [cO (by omega)]at b;have:=(eV (R.behind C (by omega) c b).2.1).2 x a;exact this
 ·rw [if_neg a]
  refine kV fun p f g=>?_
  exact cO (fun e=>a (e▸g))
end
end
section
open Go
inductive qh (O:Nat→AO) (sF:Nat→Fr) (sH:Nat→AH) (t b:Nat):Prop where
 |alloc (w:(O t).wanted (sF t)=true) (k:bU (O t).o= .alloc) (e:b=(sH t).nx)
 |st (w:(O t).wanted (sF t)=true) (k:bU (O t).o= .st) (e:bg (O t) (sF t)=some b)
 |ei (w:(O t).wanted (sF t)=true) (k:bU (O t).o= .ei)
open Classical in
noncomputable def gS (O:Nat→AO) (sF:Nat→Fr) (sH:Nat→AH) (S:Nat→Bool):Nat→Nat→Option jZ
 |0=>(sH 0).raw
 |t+1=>fun b=>if S t=true∧qh O sF sH t b then(sH (t+1)).raw b else gS O sF sH S t b
noncomputable def gB (O:Nat→AO) (sF:Nat→Fr) (sH:Nat→AH) (S:Nat→Bool):Nat→Option (Nat×ByteArray)
 |0=>(sH 0).bs
 |t+1=>if S t=true∧(O t).wanted (sF t)=true∧bU (O t).o= .ei then(sH (t+1)).bs else gB O sF sH S t
noncomputable def lQ (O:Nat→AO) (sF:Nat→Fr) (sH:Nat→AH) (S:Nat→Bool) (m nx:Nat):AH:=⟨gS O sF sH S m,(sH 0).n0,nx,.nil,gB O sF sH S m⟩
section
variable{call:Cl} {O:Nat→AO} {n:Nat} {sF:Nat→Fr} {sH:Nat→AH} {jv:Nat→Nat→Prop}
theorem oL (S:Nat→Bool) (m a b:Nat):(lQ O sF sH S m a).raw b=gS O sF sH S m b:=rfl
theorem fm (S:Nat→Bool) (m a b:Nat) (h:b<a):(lQ O sF sH S m a).get b=gS O sF sH S m b:=by
 rw [AH.b6 (by exact h)];rfl
theorem oM {S S':Nat→Bool} {b m:Nat} (h:∀p,p<m→qh O sF sH p b→S p=S' p):gS O sF sH S m b=gS O sF sH S' m b:=by
 induction m with
 |zero=>rfl
 |succ m ih=>
  have ih:=ih fun p c=>h p (by omega)
  simp only [gS];by_cases a:qh O sF sH m b
  ·rw [h m (by omega) a,ih]
  ·rw [if_neg (fun e=>a e.2),if_neg (fun e=>a e.2),ih]
theorem iO {S:Nat→Bool} {b t m:Nat} (d:t≤m) (h:∀p,t≤p→p<m→S p=true→¬ qh O sF sH p b):gS O sF sH S m b=gS O sF sH S t b:=by
 induction m with
 |zero=>obtain rfl:t=0:=by omega
        rfl
 |succ m ih=>
  rcases Nat.lt_or_ge m t with a|a
  · obtain rfl:t=m+1:=by omega
    rfl
  · have ih:=ih a fun p c f=>h p c (by omega)
    simp only [gS];rw [if_neg (fun e=>h m a (by omega) e.1 e.2),ih]
theorem oN {S S':Nat→Bool} {m:Nat} (h:∀p,p<m→(O p).wanted (sF p)=true→bU (O p).o= .ei→S p=S' p):gB O sF sH S m=gB O sF sH S' m:=by
 induction m with
 |zero=>rfl
 |succ m ih=>
  have ih:=ih fun p b=>h p (by omega)
  simp only [gB];by_cases a:(O m).wanted (sF m)=true∧bU (O m).o= .ei
  ·rw [h m (by omega) a.1 a.2,ih]
  ·rw [if_neg (fun e=>a e.2),if_neg (fun e=>a e.2),ih]
theorem kW {S:Nat→Bool} {t m:Nat} (c:t≤m) (h:∀p,t≤p→p<m→S p=true→(O p).wanted (sF p)=true→bU (O p).o≠ .ei):gB O sF sH S m=gB O sF sH S t:=by
 induction m with
 |zero=>obtain rfl:t=0:=by omega
        rfl
 |succ m ih=>
  rcases Nat.lt_or_ge m t with a|a
  · obtain rfl:t=m+1:=by omega
    rfl
  · have ih:=ih a fun p b d=>h p b (by omega)
    simp only [gB];rw [if_neg (fun e=>h m a (by omega) e.1 e.2.1 e.2.2),ih]
variable(R:g8 call O n sF sH jv)
include R
theorem g8.x4 {t:Nat} (g:t<n) (h:¬ ((O t).wanted (sF t)=true∧bU (O t).o= .ei)):(sH (t+1)).bs=(sH t).bs:=by
 obtain ⟨x,i,_⟩:=R.one g
 cases i with
 |off a e d=>rw [d]
 |call a f as j e d=>exact absurd ⟨a,dZ e⟩ h
 |val a e=>
  cases b:bU (O t).o with
  |pure=>rw [(hM b e).1]
  |load=>rw [(hU b e).1]
  |read=>rw [(hX b e).1]
  |ei=>exact absurd ⟨a,b⟩ h
  |alloc=>
   obtain ⟨bF,d,_⟩:=ew b e;rw [d];rfl
  |st=>
   obtain ⟨c,bF,h2,_,d,_⟩:=kS b e;rw [d];rfl
theorem g8.rL {m:Nat} (a:m≤n):gB O sF sH (fun _=>true) m=(sH m).bs:=by
 induction m with
 |zero=>rfl
 |succ m ih=>
  simp only [gB];by_cases h:(O m).wanted (sF m)=true∧bU (O m).o= .ei
  ·rw [if_pos (by first|exact ⟨rfl,h⟩|exact ⟨trivial,h⟩)]
  ·rw [if_neg (fun e=>h e.2),ih (by omega),R.x4 (by omega) h]
theorem g8.still {t:Nat} (j:t<n) {b:Nat} (h:¬ qh O sF sH t b):(sH (t+1)).raw b=(sH t).raw b:=by
 obtain ⟨x,k,_⟩:=R.one j
 cases k with
 |off a e g=>rw [g]
 |call a f as l e g=>exact absurd (.ei a (dZ e)) h
 |val a e=>
  cases d:bU (O t).o with
  |pure=>rw [(hM d e).1]
  |load=>rw [(hU d e).1]
  |read=>rw [(hX d e).1]
  |ei=>exact absurd (.ei a d) h
  |alloc=>
   obtain ⟨bF,g,_⟩:=ew d e;rw [g,AH.aV,if_neg];exact fun i=>h (.alloc a d i)
  |st=>
   obtain ⟨c,bF,h2,_,g,_⟩:=kS d e;rw [g,AH.aW,if_neg];intro i;subst i;exact h (.st a d h2)
theorem g8.rM {m:Nat} (a:m≤n) (b:Nat):gS O sF sH (fun _=>true) m b=(sH m).raw b:=by
 induction m with
 |zero=>rfl
 |succ m ih=>
  simp only [gS];by_cases h:qh O sF sH m b
  ·rw [if_pos ⟨rfl,h⟩]
  ·rw [if_neg (fun e=>h e.2),ih (by omega),R.still (by omega) h]
theorem g8.bP {t:Nat} (c:t<n) (w:(O t).wanted (sF t)=true) (k:bU (O t).o= .alloc):(sH (t+1)).nx=(sH t).nx+1:=by
 obtain ⟨x,d,_⟩:=R.one c
 cases d with
 |off a e b=>rw [w]at a;cases a
 |call a f as g e b=>rw [dZ e]at k;cases k
 |val a e=>
  obtain ⟨bF,b,_⟩:=ew k e;rw [b];rfl
structure FY (O:Nat→AO) (n:Nat) (sF:Nat→Fr) (sH:Nat→AH) (S:Nat→Bool) (Dm:Nat→Prop):Prop where
 rN:∀b,Dm b→b<(sH 0).nx∨∃t,t<n∧S t=true∧(sH t).nx≤b∧b<(sH (t+1)).nx
 FZ:∀p,p<n→S p=true→(O p).wanted (sF p)=true→bU (O p).o= .st→∀b,bg (O p) (sF p)=some b→Dm b
variable{S:Nat→Bool} {Dm:Nat→Prop} (D:FY O n sF sH S Dm)
include D
theorem g8.kX {p:Nat} (c:p<n) (d:S p=false) (w:(O p).wanted (sF p)=true) (k:bU (O p).o= .alloc):¬ Dm (sH p).nx:=by
 intro h;rcases D.rN _ h with h|⟨t,e,b,f,h2⟩
 ·have:=R.cS (O9 p) (by omega);omega
 ·rcases Nat.lt_trichotomy t p with a|a|a
  ·have:=R.cS (show t+1≤p by omega) (by omega);omega
  ·subst a;rw [d]at b;cases b
  ·have:=R.cS (show p+1≤t by omega) (by omega)
   rw [R.bP c w k]at this;omega
variable{t:Nat} (C:Bb n jv S t)
include C
theorem g8.ahead {b:Nat} (j:Dm b) (h:∀p,p<t→S p=false→(O p).wanted (sF p)=true→bU (O p).o= .st→bU (O t).o= .st→bg (O p) (sF p)≠some b):gS O sF sH S t b=(sH t).raw b:=by
 rw [←R.rM (Nat.le_of_lt C.lt)];refine oM fun p d g=>?_
 cases f:S p with
 |true=>rfl
 |false=>
  exfalso;obtain ⟨_,_,_,a⟩:=R.before C d f;have i:p<n:=Nat.lt_trans d C.lt
  cases g with
  |alloc w k e=>subst e;exact R.kX D i f w k j
  |st w k e=>
   rw [k]at a
   cases c:bU (O t).o<;>rw [c]at a<;>first
    |(simp [bE,m3.dO]at a;done)
    |exact h p d f w k c e
  |ei w k=>
   rw [k]at a;cases c:bU (O t).o<;>rw [c]at a<;>simp [bE,m3.dO]at a
theorem g8.load {a:Addr} {vs:List Value} (w:(O t).wanted (sF t)=true) (k:bU (O t).o= .load) (z:et (O t) (sF t) (sH t)=some (a,vs)) (B:bg (O t) (sF t)=some a.block) (f:(sH t).ldn a vs.length=some vs) (A:Dm a.block):
 (lQ O sF sH S n (sH n).nx).ldn a vs.length=some vs:=by
 have l:a.block<(sH t).nx:=by
  obtain ⟨x,s⟩:=Pk.1 (bQ f).1;exact AH.eM s
 have key:∀m,t≤m→m≤n→(lQ O sF sH S m (sH n).nx).ldn a vs.length=some vs:=by
  intro m y
  induction m with
  |zero=>
   intro v;obtain rfl:t=0:=by omega
   rw [←f];refine cm ?_ rfl;rw [fm _ _ _ _ (by have:=R.cS (O9 n) (OL _);omega),AH.b6 l];rfl
  |succ m ih=>
   intro v;rcases Nat.lt_or_eq_of_le y with q|q
   ·have ih:=ih (by omega) (by omega)
    have h:a.block<(sH n).nx:=by have:=R.cS (Nat.le_of_lt C.lt) (OL _);omega
    by_cases b:S m=true∧qh O sF sH m a.block
    ·obtain ⟨b,u⟩:=b
     have g:t<m:=by
      rcases Nat.lt_or_eq_of_le (show t≤m by omega)with h2|h2
      ·exact h2
      ·subst h2;rw [C.out]at b;cases b
     obtain ⟨j,_,_,H⟩:=R.behind C g (by omega) b
     cases u with
     |alloc c d e=>
      have:=R.cS (show t≤m by omega) (by omega);omega
     |st c d e=>exact absurd rfl (R.c2 t m g (by omega) j w c (.inl k) d a.block a.block B e)
     |ei c d=>
      obtain ⟨x,r,F⟩:=R.c0 t m g (by omega) j w c k d;rw [z]at r;cases r;have E:=qg F;rw [←E];refine cm ?_ (R.Ad (m+1) (by omega)).symm;rw [fm _ _ _ _ h];have:a.block<(sH (m+1)).nx:=by have:=R.cS (show t≤m+1 by omega) (by omega);omega
      rw [AH.b6 this];simp only [gS];rw [if_pos ⟨b,.ei c d⟩]
    ·rw [←ih]
     refine cm ?_ rfl;rw [fm _ _ _ _ h,fm _ _ _ _ h];simp only [gS];rw [if_neg b]
   ·subst q
    rw [←f];refine cm ?_ (R.Ad _ (by omega)).symm;rw [fm _ _ _ _ (by have:=R.cS (show m+1≤n by omega) (OL _);omega),AH.b6 l];exact R.ahead D C A fun p G b c d i=>by rw [k]at i;cases i
 exact key n (Nat.le_of_lt C.lt) (OL _)
theorem g8.look {b:Nat} (w:(O t).wanted (sF t)=true) (k:bU (O t).o= .read∨bU (O t).o= .st) (l:bg (O t) (sF t)=some b) (s:((sH t).get b).isSome=true) (v:Dm b):
 (lQ O sF sH S n (sH n).nx).get b=(sH t).get b:=by
 have u:b<(sH t).nx:=by
  obtain ⟨x,q⟩:=Pk.1 s;exact AH.eM q
 rw [fm _ _ _ _ (by have:=R.cS (Nat.le_of_lt C.lt) (OL _);omega),AH.b6 u,iO (t:=t) (Nat.le_of_lt C.lt)]
 ·refine R.ahead D C v fun p f d c a m e=>?_
  obtain ⟨g,_⟩:=R.before C f d;exact absurd rfl (R.c2 p t f C.lt g c w (.inr (.inr a)) m b b e l)
 ·intro p f j d r
  have i:t<p:=by
   rcases Nat.lt_or_eq_of_le f with h2|h2
   ·exact h2
   ·subst h2;rw [C.out]at d;cases d
  obtain ⟨g,_,_,h⟩:=R.behind C i j d
  cases r with
  |alloc c a e=>
   have:=R.cS (show t≤p by omega) (by omega);omega
  |st c a e=>
   exact absurd rfl (R.c2 t p i j g w c (.inr k) a b b l e)
  |ei c a=>
   rw [a]at h;rcases k with k|k<;>rw [k]at h<;>simp [bE,m3.dO]at h
omit R D C in
theorem hY {b:Nat} (h:¬ qh O sF sH t b):gS O sF sH (ins S t) n b=gS O sF sH S n b:=
 oM fun p c a=>cO (fun e=>h (e▸a))
theorem g8.jx {b:Nat} (h:qh O sF sH t b):gS O sF sH (ins S t) n b=(sH (t+1)).raw b:=by
 have stop:(∀p,t<p→p<n→S p=true→¬ qh O sF sH p b)→gS O sF sH (ins S t) n b=(sH (t+1)).raw b:=by
  intro u;rw [iO (t:=t+1) C.lt]
  ·simp only [gS]
   rw [if_pos ⟨cn,h⟩]
  ·intro p i g a
   rw [cO (by omega)]at a;exact u p (by omega) g a
 cases h with
 |ei w k=>
  refine stop fun p i g a l=>?_
  obtain ⟨q,_,_,d⟩:=R.behind C i g a;rw [k]at d;cases s:bU (O p).o<;>rw [s]at d<;>simp [bE,m3.dO]at d
 |st w k e=>
  refine stop fun p i g a l=>?_
  obtain ⟨q,_,_,d⟩:=R.behind C i g a
  cases l with
  |alloc f c j=>rw [k,c]at d;simp [bE,m3.dO]at d
  |ei f c=>rw [k,c]at d;simp [bE,m3.dO]at d
  |st f c j=>exact absurd rfl (R.c2 t p i g q w f (.inr (.inr k)) c b b e j)
 |alloc w k e=>
  have key:∀m,t+1≤m→m≤n→gS O sF sH (ins S t) m b=(sH (t+1)).raw b:=by
   intro m d
   induction m with
   |zero=>omega
   |succ m ih=>
    intro x;rcases Nat.lt_or_eq_of_le d with v|v
    ·have ih:=ih (by omega) (by omega)
     simp only [gS];by_cases a:ins S t m=true∧qh O sF sH m b
     ·rw [if_pos a]
      obtain ⟨a,l⟩:=a;rw [cO (by omega)]at a;obtain ⟨q,_,_,_⟩:=R.behind C (show t<m by omega) (by omega) a
      cases l with
      |alloc f c j=>
       have h2:=R.cS (show t+1≤m by omega) (by omega);rw [R.bP C.lt w k]at h2;omega
      |st f c j=>
       have:=D.FZ m (by omega) a f c b j;subst e;exact absurd this (R.kX D C.lt C.out w k)
      |ei f c=>
       have r:=R.c1 t m (by omega) (by omega) q w f k c;have h2:=R.bP C.lt w k;have y:=R.cS (show t+1≤m+1 by omega) (by omega);rw [AH.b6 (by omega),AH.b6 (by omega)]at r;rw [e];exact r
     ·rw [if_neg a,ih]
    ·have:m=t:=by omega
     subst this;simp only [gS];rw [if_pos ⟨cn,.alloc w k e⟩]
  exact key n C.lt (OL _)
end
end
section
open Go
section
variable{call:Cl} {O:Nat→AO} {n:Nat} {sF:Nat→Fr} {sH:Nat→AH} {jv:Nat→Nat→Prop}
structure Step (call:Cl) (O:Nat→AO) (n:Nat) (sF:Nat→Fr) (sH:Nat→AH) (S:Nat→Bool) (Dm:Nat→Prop) (t:Nat) (Hx Hy:AH):Prop where
 run:ep call (O t) (kU O sF S n) Hx=some ((kU O sF S n).aw (O t).d (kT O sF t),Hy)
 pre:∀b,Dm b→Hx.raw b=gS O sF sH S n b
 IV:Hx.n0=(sH 0).n0
 post:∀b,gS O sF sH (ins S t) n b=Hy.raw b
 IW:Hy.n0=(sH 0).n0
 IX:Hx.bs=gB O sF sH S n
 IY:gB O sF sH (ins S t) n=Hy.bs
 lo:(sH 0).nx≤Hx.nx
 hi:Hy.nx≤(sH n).nx
 out:¬ Dm Hx.nx
 fresh:bU (O t).o= .ei→∀b,Hx.nx≤b→¬ Dm b
 new:∀b,Hx.nx≤b→b<Hy.nx→(sH t).nx≤b∧b<(sH (t+1)).nx
variable(R:g8 call O n sF sH jv) {S:Nat→Bool} {Dm:Nat→Prop} (D:FY O n sF sH S Dm) {t:Nat} (C:Bb n jv S t)
include R D
theorem g8.iP {b:Nat} (h:(sH n).nx≤b):¬ Dm b:=by
 intro a;rcases D.rN b a with c|⟨p,d,_,c,h2⟩
 ·have:=R.cS (O9 n) (OL _);omega
 ·have:=R.cS (show p+1≤n by omega) (OL _);omega
include C
omit R D C in
theorem nH (h:¬ ((O t).wanted (sF t)=true∧bU (O t).o= .ei)):gB O sF sH (ins S t) n=gB O sF sH S n:=
 oN fun p _ w k=>cO (fun e=>h (e▸⟨w,k⟩))
theorem g8.same {x:Value} (c:∀f:Fr,f.aw (O t).d x=f.aw (O t).d (kT O sF t)) (a:∀b,¬ qh O sF sH t b)
 (h:One call (O t) (sF t) (lQ O sF sH S n (sH n).nx) x (lQ O sF sH S n (sH n).nx)):Step call O n sF sH S Dm t (lQ O sF sH S n (sH n).nx) (lQ O sF sH S n (sH n).nx)where
 run:=bG.2 ⟨x,(c _).symm,(R.km C).one h⟩
 pre:=fun b _=>rfl
 IV:=rfl
 post:=fun b=>hY (a b)
 IW:=rfl
 IX:=rfl
 IY:=nH fun e=>a 0 (.ei e.1 e.2)
 lo:=R.cS (O9 n) (OL _)
 hi:=OL _
 out:=R.iP D (OL _)
 fresh:=fun _ b g=>R.iP D g
 new:=fun b i h2=>by omega
theorem g8.x5 (I:(O t).wanted (sF t)=true→∀b,bg (O t) (sF t)=some b→Dm b):∃J Hy,Step call O n sF sH S Dm t J Hy:=by
 obtain ⟨x,z,r⟩:=R.one C.lt;have V:=R.cS (show t+1≤n from C.lt) (OL _);have Of:=R.cS (show t≤n by have:=C.lt;omega) (OL _);have N:=R.cS (O9 t) (Nat.le_of_lt C.lt);have L:(lQ O sF sH S n (sH n).nx).n0=(sH t).n0:=(R.Ad t (Nat.le_of_lt C.lt)).symm
 have P:(O t).wanted (sF t)=true→bU (O t).o= .ei→∃J Hy,Step call O n sF sH S Dm t J Hy:=by
  intro w k
  have B:∀p,t<p→p<n→S p=true→False:=by
   intro p l u g;obtain ⟨_,_,_,y⟩:=R.behind C l u g;rw [k]at y;cases d:bU (O p).o<;>rw [d]at y<;>simp [bE,m3.dO]at y
  have fresh:∀b,(sH t).nx≤b→¬ Dm b:=by
   intro b j U;rcases D.rN b U with h2|⟨p,l,g,h2,q⟩
   ·omega
   ·rcases Nat.lt_trichotomy p t with i|i|i
    ·have:=R.cS (show p+1≤t by omega) (Nat.le_of_lt C.lt);omega
    ·subst i;rw [C.out]at g;cases g
    ·exact B p i l g
  have X:(sH t).bs=gB O sF sH S n:=by
   rw [kW (t:=t) (Nat.le_of_lt C.lt),←R.rL (Nat.le_of_lt C.lt)]
   ·refine oN fun p l F E=>?_
    cases g:S p with
    |true=>rfl
    |false=>
     obtain ⟨_,_,_,y⟩:=R.before C l g;rw [k,E]at y;simp [bE,m3.dO]at y
   ·intro p l u g F E
    rcases Nat.lt_or_eq_of_le l with i|i
    ·exact B p i u g
    ·subst i;rw [C.out]at g;cases g
  have W:gB O sF sH (ins S t) n=(sH (t+1)).bs:=by
   rw [kW (t:=t+1) C.lt]
   ·simp only [gB]
    rw [if_pos ⟨cn,w,k⟩]
   ·intro p l u g F E
    rw [cO (by omega)]at g;exact B p (by omega) u g
  refine ⟨sH t,sH (t+1),?_,?_,R.Ad t (Nat.le_of_lt C.lt),?_,R.Ad (t+1) C.lt,X,W,N,V,fresh _ (OL _),fun _=>fresh,fun b h2 q=>⟨h2,q⟩⟩
  ·exact bG.2 ⟨x,(r _).symm,(R.km C).one z⟩
  ·intro b j
   rw [iO (t:=t) (Nat.le_of_lt C.lt)]
   ·exact (R.ahead D C j fun p l g F E K=>by rw [k]at K;cases K).symm
   ·intro p l u g
    rcases Nat.lt_or_eq_of_le l with i|i
    ·exact (B p i u g).elim
    ·subst i;rw [C.out]at g;cases g
  ·intro b
   exact R.jx D C (.ei w k)
 cases z with
 |off w e A=>
  exact ⟨_,_,R.same D C r (fun b s=>by
   have:(O t).wanted (sF t)=true:=by cases s<;>assumption
   rw [w]at this
   cases this) (.off w e rfl)⟩
 |call w f as H1 e A=>exact P w (dZ e)
 |val w e=>
  have quiet:(bU (O t).o≠ .alloc)→(bU (O t).o≠ .st)→(bU (O t).o≠ .ei)→∀b,¬ qh O sF sH t b:=by
   intro h2 q i b s
   cases s with
   |alloc _ k _=>exact h2 k
   |st _ k _=>exact q k
   |ei _ k=>exact i k
  cases d:bU (O t).o with
  |ei=>exact P w d
  |pure=>
   exact ⟨_,_,R.same D C r (quiet (by simp [d]) (by simp [d]) (by simp [d])) (.val w ((hM d e).2 _))⟩
  |load=>
   obtain ⟨_,a,Y,T,m,Q,v⟩:=hU d e;exact ⟨_,_,R.same D C r (quiet (by simp [d]) (by simp [d]) (by simp [d])) (.val w (v _ (R.load D C w d T m Q (I w _ m))))⟩
  |read=>
   obtain ⟨_,v⟩:=hX d e;exact ⟨_,_,R.same D C r (quiet (by simp [d]) (by simp [d]) (by simp [d])) (.val w (v _ (fun b m G=>R.look D C w (.inl d) m G (I w _ m)) L))⟩
  |st=>
   obtain ⟨c,bF,m,G,A,v⟩:=kS d e;have q:=v (lQ O sF sH S n (sH n).nx) (R.look D C w (.inr d) m G (I w _ m)) L;have H:One call (O t) (sF t) (lQ O sF sH S n (sH n).nx) x ((lQ O sF sH S n (sH n).nx).put c bF):=.val w q;refine ⟨_,_,bG.2 ⟨x,(r _).symm,(R.km C).one H⟩,fun b _=>rfl,rfl,fun b=>?_,rfl,rfl,nH (fun e=>by rw [d]at e;cases e.2),R.cS (O9 n) (OL _),OL _,R.iP D (OL _),fun _ b j=>R.iP D j,fun b z h2=>?_⟩
   ·rw [AH.aW]
    by_cases j:b=c
    ·subst j
     rw [if_pos rfl,R.jx D C (.st w d m),A,AH.aW,if_pos rfl]
    ·rw [if_neg j,hY]
     ·rfl
     ·intro s
      cases s with
      |alloc _ k _=>rw [d]at k;cases k
      |ei _ k=>rw [d]at k;cases k
      |st _ _ e=>rw [m]at e;cases e;exact j rfl
   ·have:b<(sH n).nx:=h2
    have:(sH n).nx≤b:=z;omega
  |alloc=>
   obtain ⟨bF,A,v⟩:=ew d e;have q:=v (lQ O sF sH S n (sH t).nx) rfl;have H:One call (O t) (sF t) (lQ O sF sH S n (sH t).nx) x ((lQ O sF sH S n (sH t).nx).alloc bF):=.val w q;have Z:=R.bP C.lt w d;refine ⟨_,_,bG.2 ⟨x,(r _).symm,(R.km C).one H⟩,fun b _=>rfl,rfl,fun b=>?_,rfl,rfl,nH (fun e=>by rw [d]at e;cases e.2),N,?_,R.kX D C.lt C.out w d,fun h=>?_,fun b z h2=>?_⟩
   ·rw [AH.aV]
    by_cases j:b=(lQ O sF sH S n (sH t).nx).nx
    ·have M:b=(sH t).nx:=j
     rw [if_pos j,R.jx D C (.alloc w d M),A,AH.aV,if_pos M]
    ·rw [if_neg j,hY]
     ·rfl
     ·intro s
      cases s with
      |alloc _ k e=>exact j e
      |ei _ k=>rw [d]at k;cases k
      |st _ k e=>rw [d]at k;cases k
   ·show(sH t).nx+1≤_
    omega
   ·rw [d]at h;cases h
   ·have wm:(sH t).nx≤b:=z
    have uo:b<(sH t).nx+1:=h2;omega
end
end
section
open Go
theorem kY {α:Type}:∀(l:List α) (n:Nat),nth l n=l[n]?
 |[],n=>by simp [nth]
 |x::l,0=>by simp [nth]
 |x::l,n+1=>by simp [nth,kY l n]
theorem hZ {call:Cl}:∀(l:List AO) (a:Fr) (H:AH) (b:List (Fr×AH)),eO call l a H=some b→
 b.length=l.length∧de (a,H) b=(((a,H)::b)[l.length]?).getD (a,H)∧
 ∀t o,l[t]?=some o→∃s c,((a,H)::b)[t]?=some s∧((a,H)::b)[t+1]?=some c∧ep call o s.1 s.2=some c
 |[],a,H,b,h=>by
  simp only [eO,OH]at h;subst h;exact ⟨rfl,rfl,fun t o h=>(by simp at h)⟩
 |o::l,a,H,b,h=>by
  simp only [eO]at h
  cases e:ep call o a H with
  |none=>simp [e]at h
  |some r=>
   obtain ⟨f,g⟩:=r;simp only [e]at h
   cases h2:eO call l f g with
   |none=>simp [h2]at h
   |some i=>
    simp only [h2,OH]at h;subst h;obtain ⟨j,p,n⟩:=hZ l f g i h2;refine ⟨by simp [j],?_,fun t k d=>?_⟩
    ·simp only [de,p,List.length_cons,List.getElem?_cons_succ]
     cases m:((f,g)::i)[l.length]? with
     |some q=>rfl
     |none=>
      have:=List.getElem?_eq_none_iff.1 m;simp only [List.length_cons,j]at this;omega
    ·cases t with
     |zero=>
      simp only [OF,OH]at d;subst d;exact ⟨_,_,rfl,rfl,e⟩
     |succ t=>
      obtain ⟨s,c,w,v,u⟩:=n t k (by simpa using d);exact ⟨s,c,by simpa using w,by simpa using v,u⟩
theorem fY:∀(l:List (Fr×AH)),chain l=true→∀t s c,l[t]?=some s→l[t+1]?=some c→c.2.n0=s.2.n0∧s.2.nx≤c.2.nx
 |[],_,t,s,c,h,_=>by simp at h
 |[a],_,t,s,c,_,h=>by simp at h
 |a::b::l,d,t,s,c,e,h2=>by
  simp only [chain,OK,nb,OT,Nat.ble_eq]at d
  cases t with
  |zero=>
   simp at e h2;subst e;subst h2;exact ⟨d.1.1.symm,d.1.2⟩
  |succ t=>exact fY (b::l) d.2 t s c (by simpa using e) (by simpa using h2)
theorem ey {l:List AO} {f:List (List Nat)}:∀(ord:List Nat) (am:List (Nat×Nat)) (t:Nat) (r:Row),(eT l f ord am)[t]?=some r→
 l[r.j]?=some r.o∧r.k=bU r.o.o∧f[r.j]?=some r.dep∧
  ∀i,r.m.testBit i=true→∃e∈r.dep,e=i∨(∃q<t,∃r':Row,(eT l f ord am)[q]?=some r'∧r'.j=e∧r'.m.testBit i=true)∨(kg e am).testBit i=true
 |[],am,t,r,h=>by simp [eT]at h
 |j::ord,am,t,r,h=>by
  simp only [eT]at h⊢
  cases c:nth l j with
  |none=>simp [c]at h
  |some o=>
   cases g:nth f j with
   |none=>simp [c,g]at h
   |some d=>
    simp only [c,g]at h⊢
    cases t with
    |zero=>
     simp only [OF,OH]at h;subst h;refine ⟨by rw [←kY];exact c,rfl,by rw [←kY];exact g,fun i hi=>?_⟩
     have key:∀(d:List Nat),(fS am d).testBit i=true→∃e∈d,e=i∨(kg e am).testBit i=true:=by
      intro d
      induction d with
      |nil=>intro h;simp [fS]at h
      |cons e d ih=>
       intro h;simp only [fS,Nat.testBit_or,Bool.or_eq_true]at h;rcases h with h|h|h
       ·obtain ⟨y,b,h2⟩:=ih h
        exact ⟨y,List.mem_cons_of_mem _ b,h2⟩
       ·refine ⟨e,List.mem_cons_self,.inl ?_⟩
        rw [Nat.one_shiftLeft,Nat.testBit_two_pow]at h
        simpa using h
       ·exact ⟨e,List.mem_cons_self,.inr h⟩
     obtain ⟨e,b,h2⟩:=key d hi;exact ⟨e,b,h2.imp id .inr⟩
    |succ t=>
     simp only [List.getElem?_cons_succ]at h;obtain ⟨b,h2,x,w⟩:=ey ord _ t r h;refine ⟨b,h2,x,fun i hi=>?_⟩;obtain ⟨e,p,a⟩:=w i hi;refine ⟨e,p,?_⟩;rcases a with a|⟨q,z,r',v,u,s⟩|a
     ·exact .inl a
     ·exact .inr (.inl ⟨q+1,by omega,r',by simpa using v,u,s⟩)
     ·simp only [kg,nb,Bool.cond_decide]at a
      split at a
      ·rename_i n
       exact .inr (.inl ⟨0,by omega,_,rfl,n,a⟩)
      ·exact .inr (.inr a)
theorem jy:∀(rs:List Row) (done:List Nat),oy rs done=true→∀(t:Nat) (r:Row),rs[t]?=some r→
 (r.j∉done∧∀(q:Nat) (r':Row),q<t→rs[q]?=some r'→r'.j≠r.j)∧∀e∈r.dep,e∈done∨∃q<t,∃r':Row,rs[q]?=some r'∧r'.j=e
 |[],_,_,t,r,h=>by simp at h
 |y::rs,done,h,t,r,a=>by
  simp only [oy,OK,Bool.not_eq_true',OX]at h;obtain ⟨⟨k,h2⟩,p⟩:=h
  cases t with
  |zero=>
   simp only [OF,OH]at a;subst a;refine ⟨⟨fun c=>?_,fun q _ g=>by omega⟩,fun e d=>.inl (eU.1 (h2 e d))⟩;rw [eU.2 c]at k;cases k
  |succ t=>
   simp only [List.getElem?_cons_succ]at a;obtain ⟨⟨i,o⟩,n⟩:=jy rs _ p t r a;refine ⟨⟨fun c=>i (List.mem_cons_of_mem _ c),fun q r' g b=>?_⟩,fun e d=>?_⟩
   ·cases q with
    |zero=>
     simp only [OF,OH]at b;subst b;exact fun e=>i (by rw [←e];exact List.mem_cons_self)
    |succ q=>exact o q r' (by omega) (by simpa using b)
   ·rcases n e d with f|⟨q,g,r',m,l⟩
    ·rcases OZ.1 f with rfl|f
     ·exact .inr ⟨0,by omega,y,rfl,rfl⟩
     ·exact .inl f
    ·exact .inr ⟨q+1,by omega,r',by simpa using m,l⟩
theorem oP:∀(rs:List Row),pw rs=true→∀(p q:Nat) (x y:Row),p<q→rs[p]?=some x→rs[q]?=some y→q6 x y=true
 |[],_,p,q,x,y,_,h,_=>by simp at h
 |z::rs,h,p,q,x,y,c,b,a=>by
  simp only [pw,OK,OX]at h
  cases q with
  |zero=>omega
  |succ q=>
   simp only [List.getElem?_cons_succ]at a
   cases p with
   |zero=>
    simp only [OF,OH]at b;subst b;exact h.1 y (OM a)
   |succ p=>exact oP rs h.2 p q x y (by omega) (by simpa using b) a
theorem iB {p:Nat} {x:Row}:∀(rs:List Row) (a q:Nat) (y:Row),rs[q]?=some y→∀c∈nk p (a+q) x y,c∈kM p x a rs
 |[],a,q,y,h,c,_=>by simp at h
 |z::rs,a,q,y,h,c,b=>by
  simp only [kM]
  cases q with
  |zero=>
   simp only [OF,OH]at h;subst h;exact List.mem_append_left _ (by simpa using b)
  |succ q=>
   exact List.mem_append_right _ (iB rs (a+1) q y (by simpa using h) c (by rwa [show a+1+q=a+(q+1) by omega]))
theorem jz:∀(rs:List Row) (a p q:Nat) (x y:Row),p<q→rs[p]?=some x→rs[q]?=some y→∀c∈nk (a+p) (a+q) x y,c∈kh a rs
 |[],_,p,q,x,y,_,h,_,_,_=>by simp at h
 |z::rs,a,p,q,x,y,e,d,b,c,f=>by
  simp only [kh]
  cases q with
  |zero=>omega
  |succ q=>
   simp only [List.getElem?_cons_succ]at b
   cases p with
   |zero=>
    simp only [OF,OH]at d;subst d;exact List.mem_append_left _ (iB rs (a+1) q y b c (by rwa [show a+1+q=a+(q+1) by omega]))
   |succ p=>
    refine List.mem_append_right _ (jz rs (a+1) p q x y (by omega) (by simpa using d) b c ?_);rwa [show a+1+p=a+(p+1) by omega,show a+1+q=a+(q+1) by omega]
theorem rO {n i:Nat} (h:i<n):i∈uf n:=by
 induction n with
 |zero=>omega
 |succ n ih=>
  simp only [uf,OZ];by_cases e:i=n
  ·exact .inl e
  ·exact .inr (ih (by omega))
def Bf:Row:=⟨⟨none,none,.mkmap⟩,.pure,0,[],0⟩
def rowAt (rs:List Row) (t:Nat):Row:=(rs[t]?).getD Bf
def Bg (rs:List Row) (p q:Nat):Prop:=(rowAt rs q).m.testBit (rowAt rs p).j=true
theorem aM {rs:List Row} {t:Nat} (h:t<rs.length):rs[t]?=some (rowAt rs t):=by
 unfold rowAt;rw [OG h];rfl
def qO (s0:Fr×AH) (ss:List (Fr×AH)) (t:Nat):Fr:=(((s0::ss)[t]?).getD s0).1
def nI (s0:Fr×AH) (ss:List (Fr×AH)) (t:Nat):AH:=(((s0::ss)[t]?).getD s0).2
theorem x8 {call:Cl} {rs:List Row} (u:∀(t:Nat) (r:Row),rs[t]?=some r→r.k=bU r.o.o) (K:pw rs=true) {d:Fr} {H:AH} {a:List (Fr×AH)} (P:eO call (rs.map (·.o)) d H=some a) (D:chain ((d,H)::a)=true)
 (L:(kh 0 rs).all (kK (rs.map (·.o)) ((d,H)::a))=true):
 g8 call (fun t=>(rowAt rs t).o) rs.length (qO (d,H) a) (nI (d,H) a) (Bg rs):=by
 obtain ⟨C,_,J⟩:=hZ _ _ _ _ P
 have st:∀t,t<rs.length→∃s s',((d,H)::a)[t]?=some s∧((d,H)::a)[t+1]?=some s'∧ep call (rowAt rs t).o s.1 s.2=some s':=
  fun t v=>J t (rowAt rs t).o (by rw [Pb,aM v];rfl)
 have z:∀p q,p<q→q<rs.length→∀c∈nk p q (rowAt rs p) (rowAt rs q),kK (rs.map (·.o)) ((d,H)::a) c=true:=by
  intro p q f e c M;exact OX.1 L c (jz rs 0 p q _ _ f (aM (by omega)) (aM e) c (by simpa using M))
 have un:∀p q k,p<q→q<rs.length→(rowAt rs p).o.wanted (qO (d,H) a p)=true→(rowAt rs q).o.wanted (qO (d,H) a q)=true→kK (rs.map (·.o)) ((d,H)::a) (k,p,q)=true→
  (match k with
   |0=>match et (rowAt rs p).o (qO (d,H) a p) (nI (d,H) a p)with|some x=>sameAt (nI (d,H) a (q+1)) x|none=>false
   |1=>gm ((nI (d,H) a (p+1)).get (nI (d,H) a p).nx) ((nI (d,H) a (q+1)).get (nI (d,H) a p).nx)
   |_=>match bg (rowAt rs p).o (qO (d,H) a p),bg (rowAt rs q).o (qO (d,H) a q)with|some b,some E=>!Nat.beq b E|_,_=>true)=true:=by
  intro p q k f e wp l h;obtain ⟨V,U,B,G,_⟩:=st p (by omega);obtain ⟨T,S,A,F,_⟩:=st q e;have R:(rs.map (·.o))[p]?=some (rowAt rs p).o:=by rw [Pb,aM (by omega)];rfl
  have Q:(rs.map (·.o))[q]?=some (rowAt rs q).o:=by rw [Pb,aM e];rfl
  unfold qO nI at*;rw [B,Option.getD_some]at wp;rw [A,Option.getD_some]at l;unfold kK at h;simp only [kY,R,Q,B,G,A,F,wp,l,Bool.not_true,Bool.false_or]at h;rw [B,G,A,F];simp only [Option.getD_some];exact h
 refine ⟨fun t v=>?_,fun t v=>?_,fun t v=>?_,fun p q f e=>?_,?_,?_,?_⟩
 ·obtain ⟨s,s',i,h2,y⟩:=st t v
  unfold qO nI;rw [i,h2];exact y
 ·obtain ⟨s,s',i,h2,y⟩:=st t v
  unfold nI;rw [i,h2];exact (fY _ D t s s' i h2).1
 ·obtain ⟨s,s',i,h2,y⟩:=st t v
  unfold nI;rw [i,h2];exact (fY _ D t s s' i h2).2
 ·have:=oP rs K p q _ _ f (aM (by omega)) (aM e)
  simp only [q6,Bool.or_eq_true,OK]at this;rw [←u p _ (aM (by omega)),←u q _ (aM e)];rcases this with h|⟨⟨i,h2⟩,y⟩
  ·exact .inl h
  ·exact .inr ⟨i,h2,y⟩
 ·intro p q f e w wp l g n
  rw [←u p _ (aM (by omega))]at g;rw [←u q _ (aM e)]at n
  have:=un p q 0 f e wp l (z p q f e _ (by
   unfold nk;rw [show(rowAt rs q).m.testBit (rowAt rs p).j=false from Pl.2 w,g,n]
   simp))
  simp only at this;split at this
  ·rename_i x I
   exact ⟨x,I,this⟩
  ·cases this
 ·intro p q f e w wp l g n
  rw [←u p _ (aM (by omega))]at g;rw [←u q _ (aM e)]at n
  have:=un p q 1 f e wp l (z p q f e _ (by
   unfold nk;rw [show(rowAt rs q).m.testBit (rowAt rs p).j=false from Pl.2 w,g,n]
   simp))
  exact (rJ this).symm
 ·intro p q f e w wp l g n b E O N
  rw [←u p _ (aM (by omega))]at g;rw [←u q _ (aM e)]at n
  have:=un p q 2 f e wp l (z p q f e _ (by
   unfold nk;rw [show(rowAt rs q).m.testBit (rowAt rs p).j=false from Pl.2 w,n]
   rcases g with g|g|g<;>rw [g]<;>simp))
  simp only [O,N,nb]at this
  simpa using this
open Go Go.RowKit
section
variable{P:Program}
theorem Rel.jA {w0 w:World} {φ:aF} {H H1:AH} (R:Rel w0 φ H w) (h:∀b,φ.m b≠none→H1.raw b=H.raw b) (B:H1.n0=H.n0) (r:φ.n0≤H1.nx) (u:H1.bs=H.bs):Rel w0 φ H1 w where
 n0:=B.trans R.n0
 j1:=R.j1
 iN:=r
 c0:=R.c0
 below:=R.below
 l8:=R.l8
 dz:=R.dz
 eG:=fun b z cs a d=>R.eG b z cs a (by rw [←h b (by rw [R.dz b a];simp)];exact d)
 cells:=fun b l z cs a c d=>R.cells b l z cs a c (by rw [←h b (by rw [c];simp)];exact d)
 maps:=fun b l es a c d=>R.maps b l es a c (by rw [←h b (by rw [c];simp)];exact d)
 inj:=fun j i q p x v f h2 o n t=>R.inj j i q p x v f h2 (by rw [←h j (by rw [f];simp)];exact o) (by rw [←h i (by rw [h2];simp)];exact n) t
 j9:=fun b s e=>by
  obtain ⟨f,h2,l,g,A,y⟩:=R.j9 b s (by rw [←u];exact e);exact ⟨f,by rw [h b (by rw [g];simp)];exact h2,l,g,A,y.jh rfl (fun _ _ _=>rfl) fun C F E k D=>.inl ⟨E,k,by rw [←h C (by rw [k];simp)];exact D⟩⟩
theorem bx.comp {φ a f:aF} {H d o n:AH} {w i g:World} (h:bx φ H w a d i) (k:bx a o i f n g) (q:H.nx≤o.nx) (h2:n.nx≤d.nx):bx φ H w f d g where
 le:=aF.le_trans h.le k.le
 n0:=k.n0.trans h.n0
 c0:=k.c0.trans h.c0
 nx:=h.nx
 new:=fun b l e j=>by
  cases c:a.m b with
  |none=>exact ⟨O3 q (k.new b l c j).1,O4 (k.new b l c j).2 h2⟩
  |some p=>exact h.new b p e c
 size:=O3 h.size k.size
theorem kZ {φ:aF} {b:Fr} {a:Act} (F:eR φ b a) {x:X} (h:xA x=true) {d:Addr} (e:x.ev b= .pointer (some d)):φ.m d.block≠none:=by
 cases x with
 |t n=>
  have:=F n;rw [show b.get n= .pointer (some d) from e]at this;obtain ⟨l,_,c,_⟩:=this.l7;rw [c];simp
 |k v=>rw [show v= .pointer (some d) from e]at h;cases h
 |f n=>cases e
theorem uz {φ:aF} {b:Fr} {a:Act} (F:eR φ b a) {x:X} (h:xA x=true) {d:Nat} (e:x.ev b= .map (some d)):φ.m d≠none:=by
 cases x with
 |t n=>
  have:=F n;rw [show b.get n= .map (some d) from e]at this;obtain ⟨l,c,_⟩:=this.Fu;rw [c];simp
 |k v=>rw [show v= .map (some d) from e]at h;cases h
 |f n=>cases e
theorem x9 {φ:aF} {b:Fr} {a:Act} (F:eR φ b a) {x:X} (h:xA x=true) {d:Addr} {n c:Nat} (e:x.ev b= .slice (some d) n c) (i:d.spot=none):φ.m d.block≠none:=by
 cases x with
 |t m=>
  have:=F m;rw [show b.get m= .slice (some d) n c from e]at this;rcases this.qG with⟨l,o,_,j,_⟩|⟨g,_⟩
  ·rw [j];simp
  ·rw [i]at g;cases g
 |k v=>rw [show v= .slice (some d) n c from e]at h;cases h
 |f n=>cases e
theorem rP {φ:aF} {d:Fr} {a:Act} (F:eR φ d a) {o:AO} (h:o.o.xs.all xA=true) {b:Nat} (e:bg o d=some b):φ.m b≠none:=by
 unfold bg at e;cases g:o.o<;>simp only [g,aY.xs,List.all_cons,OK]at h e<;>(try(cases e;done))
 case st n x v=>
  split at e<;>cases e;rename_i c;exact kZ F h.1 c
 case ld x=>
  split at e<;>cases e;rename_i c;exact kZ F h.1 c
 case ldn n x=>
  split at e<;>cases e;rename_i c;exact kZ F h.1 c
 case look kk z x k ok=>
  split at e<;>cases e;rename_i c;exact uz F h.1 c
 case sl sz x lo hi mx=>
  split at e
  ·rename_i c
   obtain ⟨f,e⟩:=ai e;cases e;exact x9 F h.1 c (by simpa using f)
  ·cases e
def m6 (S:Nat→Bool):Nat→Nat
 |0=>0
 |m+1=>m6 S m+(bif S m then 0 else 1)
theorem me {S:Nat→Bool}:∀{m:Nat},m6 S m=0→∀t,t<m→S t=true
 |0,_,t,h=>by omega
 |m+1,h,t,b=>by
  simp only [m6]at h;by_cases e:t=m
  ·subst e
   cases a:S t with
   |true=>rfl
   |false=>rw [a]at h;simp at h
  ·exact me (m:=m) (by omega) t (by omega)
theorem k6 {S S':Nat→Bool}:∀{m:Nat},(∀t,t<m→S t=true→S' t=true)→m6 S' m≤m6 S m
 |0,_=>OL _
 |m+1,h=>by
  have:=k6 (S:=S) (S':=S') (m:=m) fun t b=>h t (by omega)
  simp only [m6]
  cases a:S m with
  |true=>rw [h m (by omega) a];simpa using this
  |false=>cases S' m<;>simp<;>omega
theorem oQ {S:Nat→Bool} {t:Nat} (a:S t=false):∀{m:Nat},t<m→m6 (ins S t) m+1≤m6 S m
 |0,h=>by omega
 |m+1,h=>by
  simp only [m6];by_cases e:t=m
  ·subst e
   rw [cn,a]
   have:=k6 (S:=S) (S':=ins S t) (m:=t) fun p _ b=>by
    by_cases e:p=t
    ·subst e;exact cn
    ·rw [cO e];exact b
   simp;omega
  ·rw [cO (fun h=>e h.symm)]
   have:=oQ a (m:=m) (by omega);omega
theorem uA {m:Nat}:m6 (fun _=>false) m=m:=by
 induction m with
 |zero=>rfl
 |succ m ih=>simp [m6,ih]
def j6 (rs:List Row) (aP:Array Bool) (t:Nat):Bool:=aP.getD (rowAt rs t).j false
structure uB (w0 w:World) (φ:aF) (O:Nat→AO) (n:Nat) (sF:Nat→Fr) (sH:Nat→AH) (nt:Nat) (S:Nat→Bool) (eK:aF) (a1:Act) (w1:World):Prop where
 rel:Rel w0 eK (lQ O sF sH S n (sH n).nx) w1
 Bh:eR eK (kU O sF S n) a1
 size:a1.tmps.size=nt
 defs:a1.defers=[]
 rN:FY O n sF sH S (fun b=>eK.m b≠none)
 grow:bx φ (sH 0) w eK (sH n) w1
theorem Bi {call:Cl} (W:hJ P call) {O:Nat→AO} {n:Nat} {y:Nat→Fr} {g:Nat→AH} {G:Nat→Nat→Prop} (R:g8 call O n y g G) {w0 w:World} {φ:aF} (c:φ.n0≤(g 0).nx) {A:Nat} {S:Nat→Bool} {t:Nat} (C:Bb n G S t)
 {f:aF} {J:Act} {w1:World} (I:uB w0 w φ O n y g A S f J w1) {z:Array Oper} {j:Nat} {o:Oper} (U:z[j]?=some o) (X:wi P A z o=some (O t)) (D:(O t).o.xs.all xA=true)
 {Q:Exit→Act→World→Prop} {K:Act→World→Prop} (Y:∀d H q,uB w0 w φ O n y g A (ins S t) d H q→K H q):wpOp P z Q j K J w1:=by
 obtain ⟨Hx,Hy,a⟩:=R.x5 I.rN C (fun _ b c=>rP I.Bh D (by rw [rK (R.km C)];exact c));have M:f.n0≤Hx.nx:=by rw [I.grow.n0];exact O3 c a.lo
 refine rC W U X I.Bh (I.rel.jA (fun b c=>a.pre b c) a.IV M a.IX) (Classical.not_not.1 a.out) (fun T b c=>Classical.not_not.1 (a.fresh T b c)) I.size I.defs a.run ?_;intro d v v' q Z u hv eH F2 L V;refine Y d _ q ⟨?_,?_,L,V,?_,I.grow.comp u a.lo a.hi⟩
 ·refine Z.jA (fun b _=>a.post b) a.IW.symm ?_ a.IY
  show d.n0≤(g n).nx;rw [u.n0,I.grow.n0];exact O3 c (R.cS (O9 n) (OL _))
 ·intro x
  rw [R.uy C x];exact F2 x
 ·refine ⟨fun b c=>?_,fun p B r w k b E=>?_⟩
  ·by_cases i:f.m b=none
   ·obtain ⟨l,N⟩:∃l,d.m b=some l:=by
     cases h2:d.m b with
     |none=>exact absurd h2 c
     |some l=>exact ⟨l,rfl⟩
    have s:=u.new b l i N;have F:=a.new b s.1 s.2;exact .inr ⟨t,C.lt,cn,F.1,F.2⟩
   ·rcases I.rN.rN b i with h|⟨p,B,r,h2,s⟩
    ·exact .inl h
    ·refine .inr ⟨p,B,?_,h2,s⟩
     by_cases e:p=t
     ·subst e;exact cn
     ·rw [cO e];exact r
  ·have up:∀b,f.m b≠none→d.m b≠none:=by
    intro b h
    cases i:f.m b with
    |none=>exact absurd i h
    |some l=>rw [u.le _ _ i];simp
   by_cases e:p=t
   ·subst e
    exact up b (rP I.Bh D (by rw [rK (R.km C)];exact E))
   ·rw [cO e]at r
    exact up b (I.rN.FZ p B r w k b E)
theorem mf {d:Nat} {c:Array Oper}:∀{l:List Oper} {a:List AO},gn P d c l=some a→a.length=l.length∧∀(j:Nat) (o:Oper) (b:AO),l[j]?=some o→a[j]?=some b→wi P d c o=some b
 |[],a,h=>by
  simp [gn]at h;subst h;exact ⟨rfl,fun j o b h=>(by simp at h)⟩
 |x::l,a,h=>by
  simp only [gn]at h
  cases e:wi P d c x with
  |none=>simp [e]at h
  |some y=>
   cases h2:gn P d c l with
   |none=>simp [e,h2]at h
   |some m=>
    simp only [e,h2,OH]at h;subst h;obtain ⟨k,i⟩:=mf h2;refine ⟨by simp [k],fun j o b f g=>?_⟩
    cases j with
    |zero=>
     simp at f g;subst f;subst g;exact e
    |succ j=>exact i j o b (by simpa using f) (by simpa using g)
theorem k7 {o:Oper} {i:Nat}:i∈ue o↔∃e∈o.after,Region.binds .any e=true∧e.on=i:=by
 unfold ue;rw [List.mem_filterMap];constructor
 ·rintro ⟨e,b,h⟩
  cases a:Region.binds .any e with
  |false=>rw [a]at h;cases h
  |true=>rw [a]at h;cases h;exact ⟨e,by simpa using b,a,rfl⟩
 ·rintro ⟨e,b,a,rfl⟩
  exact ⟨e,by simpa using b,by rw [a];rfl⟩
theorem ya (hm:P.follows .mixedOrders=true) {call:Cl} (fJ:hJ P call):rF P call:=by
 intro W id g ac hc l ck I0 Q w A H H' fr aS a h F R R0 hs hd;obtain ⟨qN,ord,hl,A1,Bj⟩:=jt hc;generalize Du:eT qN (g.toList.map ue) ord []=rs at A1 Bj;rw [Bj]at I0;cases I0;simp only [nm,OK,nb,OT,OX]at A1;obtain ⟨⟨⟨⟨F6,Z⟩,F7⟩,F8⟩,F4⟩:=A1;obtain ⟨wD,Bk⟩:=mf hl;have hn:rs.length=g.size:=by rw [Z,wD];simp
 have row:∀t,t<rs.length→∃o,g[(rowAt rs t).j]?=some o∧wi P W g o=some (rowAt rs t).o∧(rowAt rs t).dep=ue o∧(rowAt rs t).o.o.xs.all xA=true:=by
  intro t f;have hg:=aM f;obtain ⟨d,h2,N,_⟩:=ey ord [] t (rowAt rs t) (by rw [Du];exact hg);rw [Pb]at N
  cases n:g.toList[(rowAt rs t).j]? with
  |none=>simp [n]at N
  |some o=>
   simp [n]at N;exact ⟨o,by simpa using n,Bk _ o _ n d,N.symm,OX.2 (F6 _ (OM hg))⟩
 have Bl:∀t,t<rs.length→∀i,(rowAt rs t).m.testBit i=true→∃e∈(rowAt rs t).dep,e=i∨∃q<t,(rowAt rs q).j=e∧(rowAt rs q).m.testBit i=true:=by
  intro t f i hi;obtain ⟨_,_,_,h4⟩:=ey ord [] t (rowAt rs t) (by rw [Du];exact aM f);obtain ⟨e,k,B⟩:=h4 i hi;refine ⟨e,k,?_⟩;rcases B with B|⟨q,s,r',h6,h7,h8⟩|B
  ·exact .inl B
  ·rw [Du]at h6
   have:rowAt rs q=r':=by unfold rowAt;rw [h6];rfl
   exact .inr ⟨q,s,by rw [this];exact h7,by rw [this];exact h8⟩
  ·simp [kg]at B
 have F9:∀t,t<rs.length→(∀q,q<t→(rowAt rs q).j≠(rowAt rs t).j)∧∀e∈(rowAt rs t).dep,∃q<t,(rowAt rs q).j=e:=by
  intro t f;obtain ⟨⟨_,d⟩,h2⟩:=jy rs [] F8 t _ (aM f);refine ⟨fun q s=>d q _ s (aM (by omega)),fun e k=>?_⟩;rcases h2 e k with N|⟨q,s,r',h4,B⟩
  ·cases N
  ·exact ⟨q,s,by unfold rowAt;rw [h4];exact B⟩
 have I1:∀i,i<g.size→∃t,t<rs.length∧(rowAt rs t).j=i:=by
  intro i hi;have:=eU.1 (F7 i (rO (by rw [wD];simpa using hi)));obtain ⟨r,Y,e⟩:=Pe.1 this;obtain ⟨t,f,e2⟩:=List.mem_iff_getElem.1 Y;refine ⟨t,f,?_⟩;unfold rowAt;rw [OG f,Option.getD_some,e2];exact e
 have Ga:∀t,t<rs.length→(rowAt rs t).j<g.size:=by
  intro t f;obtain ⟨o,n,_⟩:=row t f;exact (OV.1 n).1
 unfold qY at h
 cases hT:eO call (rs.map (·.o)) fr H with
 |none=>simp [hT]at h
 |some J=>
  simp only [hT]at h;obtain ⟨qL,h⟩:=ai h;simp only [OK]at qL;have D:=x8 (fun t r Y=>(ey ord [] t r (by rw [Du];exact Y)).2.1) F4 hT qL.1 qL.2;have mg:=(hZ _ _ _ _ hT).2.1;rw [List.length_map]at mg;simp only [OH]at h;rw [mg]at h;have Ly:qO (fr,H) J rs.length=aS:=by unfold qO;rw [h]
  have I3:nI (fr,H) J rs.length=H':=by unfold nI;rw [h]
  have Lz:qO (fr,H) J 0=fr:=rfl;have v:nI (fr,H) J 0=H:=rfl;generalize qO (fr,H) J=U at*;generalize nI (fr,H) J=T at*
  have main:∀(fuel:Nat) (aP:Array Bool) (z:aF) (y:Act) (w1:World),aP.size=g.size→m6 (j6 rs aP) rs.length≤fuel→
   (∀(j:Nat) (o:Oper),g[j]?=some o→aP.getD j false=true→∀e∈ue o,aP.getD e false=true)→
   uB Q w A (fun t=>(rowAt rs t).o) rs.length U T W (j6 rs aP) z y w1→
   wpAny P .any g (rD Q A w H W .normal aS H') fuel aP y w1:=by
   have fin:∀(aP:Array Bool) (z:aF) (y:Act) (w1:World),(∀t,t<rs.length→j6 rs aP t=true)→
    uB Q w A (fun t=>(rowAt rs t).o) rs.length U T W (j6 rs aP) z y w1→rD Q A w H W .normal aS H' .normal y w1:=by
    intro aP z y w1 L I;refine ⟨rfl,z,?_,?_,?_,I.size,I.defs⟩
    ·rw [←I3]
     refine I.rel.jA (fun b _=>?_) (by rw [D.Ad _ (OL _)];rfl) ?_ (by rw [←D.rL (OL _)];exact oN fun p c _ _=>(L p c).symm)
     ·rw [oL,←D.rM (OL _)]
      exact oM fun p c _=>(L p c).symm
     ·rw [I.grow.n0]
      exact O3 R.iN (by rw [←v];exact D.cS (O9 _) (OL _))
    ·rw [←I3,←v];exact I.grow
    ·intro x
     rw [←Ly,←D.oK (OL _)];rw [kV (S:=fun _=>true) (S':=j6 rs aP) fun p c _=>(L p c).symm];exact I.Bh x
   intro fuel
   induction fuel with
   |zero=>
    intro aP z y w1 X I4 Dv I;have L:=me (Nat.le_zero.1 I4);refine ⟨?_,fin aP z y w1 L I⟩;rw [List.eq_nil_iff_forall_not_mem];intro i hi;obtain ⟨h0,o,n,_⟩:=mem_ready.1 hi;obtain ⟨t,f,rfl⟩:=I1 i (OV.1 n).1;have d:=L t f;unfold j6 at d;have K:(rowAt rs t).j<aP.size:=by rw [X];exact Ga t f
    simp [K]at h0 d;rw [h0]at d;cases d
   |succ fuel ih=>
    intro aP z y w1 X I4 Dv I;refine ⟨fun Y=>?_,fun i hi=>?_⟩
    ·refine fin aP z y w1 ?_ I
     intro t
     induction t using Nat.strongRecOn with
     |_ t LA=>
      intro f
      cases u:j6 rs aP t with
      |true=>rfl
      |false=>
       exfalso;obtain ⟨o,n,_,yb,_⟩:=row t f
       have:(rowAt rs t).j∈Region.ready .any g aP:=by
        refine mem_ready.2 ⟨?_,o,n,fun e k hb=>?_⟩
        ·have K:(rowAt rs t).j<aP.size:=by rw [X];exact Ga t f
         unfold j6 at u;simp [K]at u⊢;exact u
        ·obtain ⟨q,s,e2⟩:=(F9 t f).2 e.on (by rw [yb];exact k7.2 ⟨e,k,hb,rfl⟩)
         have:=LA q s (by omega);unfold j6 at this;rw [e2]at this;exact this
       rw [Y]at this;cases this
    ·obtain ⟨h0,o',Gb,wE⟩:=mem_ready.1 hi
     obtain ⟨t,f,rfl⟩:=I1 i (OV.1 Gb).1;obtain ⟨o,n,Gc,yb,hx⟩:=row t f;rw [n]at Gb;cases Gb;have K:(rowAt rs t).j<aP.size:=by rw [X];exact Ga t f
     have Bc:j6 rs aP t=false:=by
      unfold j6;simp [K]at h0⊢;exact h0
     have closed:∀q,q<rs.length→(∀e∈(rowAt rs q).dep,aP.getD e false=true)→∀i,(rowAt rs q).m.testBit i=true→aP.getD i false=true:=by
      intro q
      induction q using Nat.strongRecOn with
      |_ q LB=>
       intro s Dw i hi;obtain ⟨e,k,B⟩:=Bl q s i hi;rcases B with rfl|⟨p,c,h6,h7⟩
       ·exact Dw _ k
       ·refine LB p c (by omega) (fun e' LC=>?_) i h7
        obtain ⟨op,j3,_,FX,_⟩:=row p (by omega);exact Dv _ op j3 (by rw [h6];exact Dw e k) e' (by rw [←FX];exact LC)
     have C:Bb rs.length (Bg rs) (j6 rs aP) t:=by
      refine ⟨f,Bc,fun p c ha=>?_,fun p q mc s LD ha=>?_⟩
      ·refine closed t f (fun e k=>?_) _ ha
       rw [yb]at k;obtain ⟨ed,d,h2,rfl⟩:=k7.1 k;exact wE ed d h2
      ·refine closed q s (fun e k=>?_) _ ha
       obtain ⟨oq,LF,_,Dw,_⟩:=row q s;exact Dv _ oq LF LD e (by rw [←Dw];exact k)
     have M:∀p,p<rs.length→j6 rs (aP.setIfInBounds (rowAt rs t).j true) p=ins (j6 rs aP) t p:=by
      intro p c;unfold j6;by_cases e:p=t
      ·subst e
       rw [cn];simp [K]
      ·rw [cO e]
       refine getD_set_ne false ?_;rcases Nat.lt_or_gt_of_ne e with d|d
       ·exact fun h2=>(F9 t f).1 p d h2.symm
       ·exact (F9 p c).1 t d
     refine Bi (O:=fun t=>(rowAt rs t).o) fJ D (by rw [v];exact R.iN) C I n Gc hx ?_;intro fi a2 w2 E;refine ih _ fi a2 w2 (by simp [X]) ?_ ?_ ?_
     ·have d:=oQ Bc f
      have h2:m6 (j6 rs (aP.setIfInBounds (rowAt rs t).j true)) rs.length≤m6 (ins (j6 rs aP) t) rs.length:=
       k6 fun p c h=>by rw [M p c];exact h
      omega
     ·intro j oj Gd hj e k
      by_cases ej:(rowAt rs t).j=j
      ·subst ej
       rw [n]at Gd;cases Gd;obtain ⟨ed,d,h2,rfl⟩:=k7.1 k;exact getD_set_true (wE ed d h2)
      ·rw [getD_set_ne false ej]at hj
       exact getD_set_true (Dv j oj Gd hj e k)
     ·have eF:∀x,(kU (fun t=>(rowAt rs t).o) U (j6 rs (aP.setIfInBounds (rowAt rs t).j true)) rs.length).get x=(kU (fun t=>(rowAt rs t).o) U (ins (j6 rs aP) t) rs.length).get x:=
       fun x=>kV fun p c _=>M p c
      refine ⟨E.rel.jA (fun b _=>oM fun p c _=>M p c) rfl E.rel.iN (oN fun p c _ _=>M p c),fun x=>by rw [eF];exact E.Bh x,E.size,E.defs,⟨fun b hb=>?_,fun p c u=>?_⟩,E.grow⟩
      ·rcases E.rN.rN b hb with d|⟨p,c,u,h2⟩
       ·exact .inl d
       ·exact .inr ⟨p,c,by rw [M p c];exact u,h2⟩
      ·rw [M p c]at u
       exact E.rN.FZ p c u
  refine wp_region_any hm ?_
  have Dx:∀t,j6 rs (Array.replicate g.size false) t=false:=by
   intro t;unfold j6;by_cases h:(rowAt rs t).j<g.size<;>simp [h]
  refine main g.size _ A a _ (by simp) ?_ ?_ ?_
  ·rw [←hn]
   have:m6 (j6 rs (Array.replicate g.size false)) rs.length≤m6 (fun _=>false) rs.length:=k6 fun p _ h=>by cases h
   rw [uA]at this;rwa [hn]at this⊢
  ·intro j o _ h
   exfalso;by_cases h2:j<g.size<;>simp [h2]at h
  ·have R':Rel Q A H {w with drawn:=w.drawn+1}:=R.drew rfl rfl rfl rfl
   refine ⟨R'.jA (fun b _=>?_) (by show(T 0).n0=_;rw [v]) ?_ ?_,fun x=>?_,hs,hd,⟨fun b hb=>.inl ?_,fun p c u=>?_⟩,?_⟩
   ·rw [oL,iO (t:=0) (O9 _)]
    ·show(T 0).raw b=_;rw [v]
    ·intro p _ _ h;rw [Dx]at h;cases h
   ·refine O3 R.iN ?_
    rw [←v];exact D.cS (O9 _) (OL _)
   ·show gB _ _ _ _ _=_
    rw [kW (t:=0) (O9 _)]
    ·show(T 0).bs=_;rw [v]
    ·intro p _ _ h;rw [Dx]at h;cases h
   ·rw [jw (t:=0) (O9 _)]
    ·show V A ((U 0).get x) _;rw [Lz];exact F x
    ·intro p _ _ h;rw [Dx]at h;cases h
   ·rw [v]
    rcases Nat.lt_or_ge b H.nx with d|d
    ·exact d
    ·exact absurd (R0 b d) hb
   ·rw [Dx]at u;cases u
   ·have G:bx A H w A H {w with drawn:=w.drawn+1}:=bx.of_heap rfl
    rw [v];refine ⟨G.le,G.n0,G.c0,?_,fun b l d h2=>(by rw [d]at h2;cases h2),G.size⟩;rw [←v];exact D.cS (O9 _) (OL _)
end
end
section
open Go Go.RowKit
section
variable{P:Program}
def ib (tmps:Array Value):ResultVar→Sem Value
 | .tmp t=>pure (tmps.getD t undef)
 | .cell a t=>do loadVar t (←asAddr (tmps.getD a undef))
theorem k8 (fn:Func) (tmps:Array Value):results fn tmps=(do
 let vs←fn.results.toList.mapM (ib tmps)
 pure (if h:vs.toArray.size=1 then vs.toArray[0]else .tuple vs.toArray)):=by
 have e:results fn tmps=(do
  let vs←fn.results.mapM (ib tmps)
  pure (if h:vs.size=1 then vs[0]else .tuple vs)):=rfl
 rw [e,Array.mapM_eq_mapM_toList];simp
theorem iQ {w0 w:World} {φ:aF} {H:AH} {g:Fr} {a:Act} (F:eR φ g a) (R:Rel w0 φ H w):∀(l:List ResultVar) (m:List RS) (vs:List Value),lZ P l=some m→RS.all g H m=some vs→
 ∃e,(l.mapM (ib a.tmps)).run P w= .ok e w∧VL φ vs e
 |[],m,vs,c,h=>by
  simp [lZ]at c;subst c;simp [RS.all]at h;subst h;exact ⟨[],by simp,.nil⟩
 | .tmp t::l,m,vs,c,h=>by
  simp only [lZ,OR]at c;obtain ⟨f,k,rfl⟩:=c;simp only [RS.all,RS.get]at h
  cases b:RS.all g H f with
  |none=>simp [b]at h
  |some us=>
   simp only [b,OH]at h;subst h;obtain ⟨e,o,h2⟩:=iQ F R l f us k b;refine ⟨a.tmps.getD t undef::e,?_,.cons (F t) h2⟩;simp [List.mapM_cons,ib,o]
 | .cell t ty::l,m,vs,c,h=>by
  simp only [lZ]at c;split at c
  ·rename_i n f r B k
   cases c;simp only [RS.all,RS.get]at h;cases j:g.get t<;>simp [j]at h;rename_i p;cases p<;>simp at h;rename_i z
   cases d:H.ldn z n with
   |none=>simp [d]at h
   |some ws=>
    cases b:RS.all g H f with
    |none=>simp [d,b]at h
    |some us=>
     simp [d,b]at h;subst h;obtain ⟨e,o,h2⟩:=iQ F R l f us k b;have i:=F t;rw [j]at i;obtain ⟨q,A,y,u,s,G,E⟩:=rb R i d;have C:=run_loadCells_list (P:=P) w q A E;rw [u]at C;refine ⟨.agg A.toArray::e,?_,.cons (.agg (by simpa using s) (by simpa using G)) h2⟩;have x:a.tmps.getD t undef= .pointer (some q):=y;simp only [List.mapM_cons,ib,x];simp [asAddr,loadVar,dY r,aQ B,C,o]
  ·rename_i n f r B k
   cases c;simp only [RS.all,RS.get]at h;cases j:g.get t<;>simp [j]at h;rename_i p;cases p<;>simp at h;rename_i z
   cases d:H.ld z with
   |none=>simp [d]at h
   |some v=>
    cases b:RS.all g H f with
    |none=>simp [d,b]at h
    |some us=>
     simp [d,b]at h;subst h;obtain ⟨e,o,h2⟩:=iQ F R l f us k b;have i:=F t;rw [j]at i;obtain ⟨q,D,y,u,s⟩:=wk R i d;refine ⟨D::e,?_,.cons s h2⟩;have x:a.tmps.getD t undef= .pointer (some q):=y;simp only [List.mapM_cons,ib,x];simp [asAddr,loadVar,dY r,u,o]
  ·cases c
theorem iC {w0 w:World} {φ:aF} {H:AH} {b:Fr} {a:Act} (F:eR φ b a) (R:Rel w0 φ H w) {fn:Func} {m:List RS} {vs:List Value} (c:lZ P fn.results.toList=some m) (h:RS.all b H m=some vs):
 ∃v',(results fn a.tmps).run P w= .ok v' w∧V φ (iu vs) v':=by
 obtain ⟨e,d,h2⟩:=iQ F R _ _ _ c h;rw [k8];simp only [Sem.run_bind,d,Result.andThen_ok,Sem.run_pure]
 cases h2 with
 |nil=>exact ⟨_,rfl,.tuple .nil⟩
 |cons x y=>
  cases y with
  |nil=>exact ⟨_,rfl,x⟩
  |cons y z=>
   refine ⟨_,rfl,?_⟩;simp only [List.size_toArray,List.length_cons];rw [dif_neg (by omega)];exact .tuple (.cons x (.cons y z))
theorem Fr.jB:∀(l:List Value) (i:Nat) (f:Fr) (t:Nat),(Fr.jd i l f).get t=if i≤t∧t<i+l.length then l.getD (t- i) undef else f.get t
 |[],i,f,t=>by
  simp only [Fr.jd,List.length_nil];rw [if_neg (by omega)]
 |v::l,i,f,t=>by
  simp only [Fr.jd,List.length_cons];rw [Fr.jB l,Fr.aN];by_cases a:t=i
  ·subst a
   rw [if_neg (by omega),if_pos rfl,if_pos (by omega)];simp
  ·by_cases h2:i+1≤t∧t<i+1+l.length
   ·rw [if_pos h2,if_pos (by omega)]
    obtain ⟨k,b⟩:∃k,t- i=k+1:=⟨t- i- 1,by omega⟩
    rw [b,show t- (i+1)=k by omega];simp
   ·rw [if_neg h2,if_neg a,if_neg (by omega)]
theorem Fr.get_nil (t:Nat):(⟨.nil⟩:Fr).get t=undef:=by
 unfold Fr.get;cases t<;>rfl
theorem Fr.b6 (l:List Value) (t:Nat):(Fr.of l).get t=l.getD t undef:=by
 unfold Fr.of;rw [Fr.jB,Fr.get_nil];split
 ·rfl
 ·rename_i h
  simp only [List.getD_eq_getElem?_getD];rw [Pn (by omega)];rfl
theorem mh {φ:aF} {as:List Value} {as':Array Value} (k:Nat) (h:VL φ as as'.toList) (t:Nat):V φ ((Fr.of as).get t) ((as'++Array.replicate k undef).getD t undef):=by
 rw [Fr.b6];have f:=h.length;simp only [List.getD_eq_getElem?_getD]
 cases b:as[t]? with
 |some v=>
  obtain ⟨v',e,c⟩:=h.get t v b
  have d:t<as'.size:=by
   have:=(ON.1 e).1
   simpa using this
  have a:(as'++Array.replicate k undef).getD t undef=v':=by
   rw [Array.getD_eq_getD_getElem?,Array.getElem?_append_left d];simp only [Array.getElem?_toList]at e;rw [e];rfl
  rw [a];exact c
 |none=>
  have g:=List.getElem?_eq_none_iff.1 b
  have a:(as'++Array.replicate k undef).getD t undef=undef:=by
   rw [Array.getD_eq_getD_getElem?,Array.getElem?_append_right (by rw [←Array.length_toList,←f];exact g)];rw [Array.getElem?_replicate];split<;>rfl
  rw [a];exact jk _
def mi (P:Program) (E:Env):Prop:=∀f F,E f=some F→∃fn,P.funcs[f]?=some fn∧ab P fn=some F
abbrev ea:=Nat→Option (List Value→AH→Option (Value×AH))
def mj (P:Program) (O:ea):Prop:=∀f g,O f=some g→∀as H v H',g as H=some (v,H')→nz P f∧x3 P f as H v H'
theorem k9 (D:P.follows .mixedOrders=true) {E:Env} {O:ea} (K:mi P E) (J:mj P O):∀n,hJ P (ca E O n)
 |0=>fun f as H v N h=>by simp [ca]at h
 |n+1=>fun f as H v N h=>by
  have ih:=k9 D K J n;simp only [ca]at h
  cases s:O f with
  |some g=>
   simp only [s]at h;exact J f g s as H v N h
  |none=>
   simp only [s]at h
   cases u:E f with
   |none=>simp [u]at h
   |some F=>
    simp only [u]at h;obtain ⟨b,h⟩:=ai h;obtain ⟨fn,G,d⟩:=K f F u;unfold ab at d
    cases o:fn.body with
    |none=>simp [o]at d
    |some c=>
     simp only [o]at d;split at d
     case h_2=>cases d
     rename_i x r U B;split at d
     case isTrue=>cases d
     rename_i C;cases d;simp only [Bool.or_eq_true,not_or,Bool.not_eq_true,decide_eq_false_iff_not,Nat.not_lt]at C;refine ⟨⟨fn,G,by rw [o];rfl,C.1⟩, ?_⟩;intro w0 φ w k R W A;refine calls_of_wp G o ?_
     have Y:k.size=fn.params.size+fn.nfree:=by
      have:=A.length;rw [nb]at b;simp at b this;omega
     cases m:ah (ca E O n) n x (Fr.of as) H with
     |none=>simp [m]at h
     |some q=>
      obtain ⟨ex,L,M⟩:=q;have V:=uw ih (ya D ih) n c x (w0:=w0) (w:=w) (φ:=φ) (a:={tmps:=k++Array.replicate (fn.ntmps- k.size) undef,defers:=[]}) U m (fun t=>mh _ A t) R W (by simp;omega) rfl;refine wp_mono V ?_;rintro e a2 X ⟨rfl,z,p,Q,S,Z,I⟩
      cases ex with
      |exit i=>simp [m]at h
      |normal=>
       simp only [m]at h
       cases j:RS.all L M r with
       |none=>simp [j]at h
       |some T=>
        simp only [j,OH,OP]at h;obtain ⟨rfl,rfl⟩:=h;obtain ⟨l,y,h2⟩:=iC S p B j;exact ⟨I,l,y,z,l,rfl,h2,p,Q⟩
      |ret=>
       simp only [m]at h
       cases j:RS.all L M r with
       |none=>simp [j]at h
       |some T=>
        simp only [j,OH,OP]at h;obtain ⟨rfl,rfl⟩:=h;obtain ⟨l,y,h2⟩:=iC S p B j;exact ⟨I,l,y,z,l,rfl,h2,p,Q⟩
end
end
section
open Go
def qj (c d:Cl):Prop:=∀f as H r,c f as H=some r→d f as H=some r
theorem iR {c d:Cl} (h:qj c d) {o:AO} {g:Fr} {H:AH} {r:Fr×AH} (k:ep c o g H=some r):ep d o g H=some r:=by
 obtain ⟨j,l⟩:=r;obtain ⟨x,e,k⟩:=bG.1 k;refine bG.2 ⟨x,e,?_⟩
 cases k with
 |off a b c=>exact .off a b c
 |val a b=>exact .val a b
 |call a f as i b c=>exact .call a f as i b (h _ _ _ _ c)
theorem la {c d:Cl} (h:qj c d):∀{l:List AO} {a:Fr} {H:AH} {r:Fr×AH},ops c l a H=some r→ops d l a H=some r
 |[],a,H,r,k=>k
 |o::l,a,H,r,k=>by
  simp only [ops]at k⊢
  cases b:ep c o a H with
  |none=>simp [b]at k
  |some q=>
   rw [iR h b];simp only [b]at k;exact la h k
theorem iS {c d:Cl} (h:qj c d):∀{l:List AO} {a:Fr} {H:AH} {r:List (Fr×AH)},eO c l a H=some r→eO d l a H=some r
 |[],a,H,r,k=>k
 |o::l,a,H,r,k=>by
  simp only [eO]at k⊢
  cases b:ep c o a H with
  |none=>simp [b]at k
  |some q=>
   rw [iR h b];simp only [b]at k⊢
   cases h2:eO c l q.1 q.2 with
   |none=>simp [h2]at k
   |some e=>rw [iS h h2];simpa [h2]using k
theorem bH {c d:Cl} (h:qj c d):∀{n:Nat} {a:AC} {f:Fr} {H:AH} {r:Ex×Fr×AH},ah c n a f H=some r→ah d n a f H=some r:=by
 intro n
 induction n with
 |zero=>intro a f H r k;simp [ah]at k
 |succ n ih=>
  intro a f H r k
  cases a with
  |aA l=>
   simp only [ah]at k⊢
   cases e:ops c l f H with
   |none=>simp [e]at k
   |some q=>rw [la h e];simpa [e]using k
  |ak l o=>
   simp only [ah,qY]at k⊢
   cases e:eO c l f H with
   |none=>simp [e]at k
   |some q=>rw [iS h e];simpa [e]using k
  |seq a b=>
   simp only [ah]at k⊢
   cases e:ah c n a f H with
   |none=>simp [e]at k
   |some q=>
    rw [ih e];obtain ⟨ex,g,j⟩:=q
    cases ex<;>simp only [e]at k⊢<;>first
     |exact ih k
     |exact k
  |cond x a b=>
   simp only [ah]at k⊢
   cases m:x.ev f<;>simp only [m]at k⊢<;>first
    |(cases k;done)
    |skip
   rename_i t;cases t<;>exact ih k
  |block i a=>
   simp only [ah]at k⊢
   cases e:ah c n a f H with
   |none=>simp [e]at k
   |some q=>
    rw [ih e];obtain ⟨ex,g,j⟩:=q;cases ex<;>simp only [e]at k⊢<;>exact k
  |loop a=>
   simp only [ah]at k⊢
   cases e:ah c n a f H with
   |none=>simp [e]at k
   |some q=>
    rw [ih e];obtain ⟨ex,g,j⟩:=q
    cases ex<;>simp only [e]at k⊢<;>first
     |exact ih k
     |exact k
  |_=>simpa only [ah]using k
theorem kn {E:Env} {O:ea}:∀n,qj (ca E O n) (ca E O (n+1))
 |0=>fun f as H r k=>by simp [ca]at k
 |n+1=>fun f as H r k=>by
  have ih:=kn (E:=E) (O:=O) n;rw [ca]at k⊢
  cases b:O f with
  |some g=>simpa [b]using k
  |none=>
   simp only [b]at k⊢
   cases c:E f with
   |none=>simp [c]at k
   |some F=>
    simp only [c]at k⊢;obtain ⟨d,k⟩:=ai k;rw [d,cond_true]
    cases a:ah (ca E O n) n F.body (Fr.of as) H with
    |none=>simp [a]at k
    |some q=>
     rw [cD (O8 n) (bH ih a)]
     simpa [a]using k
theorem bm {E:Env} {O:ea} {n m:Nat} (h:n≤m):qj (ca E O n) (ca E O m):=by
 induction m with
 |zero=>obtain rfl:n=0:=by omega
        exact fun _ _ _ _ k=>k
 |succ m ih=>
  rcases Nat.lt_or_eq_of_le h with a|a
  · exact fun f as H r k=>kn m f as H r (ih (by omega) f as H r k)
  · subst a;exact fun _ _ _ _ k=>k
section
variable(E:Env) (O:ea)
def Ca (f:Nat) (as:List Value) (H:AH) (Q:Value→AH→Prop):Prop:=∃n x H',ca E O n f as H=some (x,H')∧Q x H'
def Wp (c:AC) (fr:Fr) (H:AH) (Q:Ex→Fr→AH→Prop):Prop:=∃n ex aS H',ah (ca E O n) n c fr H=some (ex,aS,H')∧Q ex aS H'
def jC (o:AO) (fr:Fr) (H:AH) (Q:Fr→AH→Prop):Prop:=∃n aS H',ep (ca E O n) o fr H=some (aS,H')∧Q aS H'
def Wo (l:List AO) (fr:Fr) (H:AH) (Q:Fr→AH→Prop):Prop:=∃n aS H',ops (ca E O n) l fr H=some (aS,H')∧Q aS H'
def Wt (l:List AO) (fr:Fr) (H:AH) (Q:List (Fr×AH)→Prop):Prop:=∃n ss,eO (ca E O n) l fr H=some ss∧Q ss
variable{E O}
theorem Ca.mono {f:Nat} {as:List Value} {H:AH} {Q Q':Value→AH→Prop} (h:Ca E O f as H Q) (k:∀x a,Q x a→Q' x a):Ca E O f as H Q':=
 let⟨n,x,a,e,q⟩:=h;⟨n,x,a,e,k _ _ q⟩
theorem Wp.mono {c:AC} {d:Fr} {H:AH} {Q Q':Ex→Fr→AH→Prop} (h:Wp E O c d H Q) (k:∀ex a b,Q ex a b→Q' ex a b):Wp E O c d H Q':=
 let⟨n,x,a,b,e,q⟩:=h;⟨n,x,a,b,e,k _ _ _ q⟩
theorem gF {n m:Nat} (h:n≤m) {c:AC} {a:Fr} {H:AH} {r:Ex×Fr×AH} (k:ah (ca E O n) n c a H=some r):ah (ca E O m) m c a H=some r:=
 cD h (bH (bm h) k)
theorem Wp.skip {a:Fr} {H:AH} {Q:Ex→Fr→AH→Prop} (h:Q .normal a H):Wp E O .skip a H Q:=⟨1,_,_,_,rfl,h⟩
theorem Wp.ret {a:Fr} {H:AH} {Q:Ex→Fr→AH→Prop} (h:Q .ret a H):Wp E O .ret a H Q:=⟨1,_,_,_,rfl,h⟩
theorem Wp.exit {i:Nat} {a:Fr} {H:AH} {Q:Ex→Fr→AH→Prop} (h:Q (.exit i) a H):Wp E O (.exit i) a H Q:=⟨1,_,_,_,rfl,h⟩
def rQ (k:Fr→AH→Prop) (Q:Ex→Fr→AH→Prop):Ex→Fr→AH→Prop
 | .normal,fr,H=>k fr H
 |ex,fr,H=>Q ex fr H
theorem Wp.seq {a b:AC} {d:Fr} {H:AH} {Q:Ex→Fr→AH→Prop} (h:Wp E O a d H (rQ (fun k r=>Wp E O b k r Q) Q)):Wp E O (.seq a b) d H Q:=by
 obtain ⟨n,ex,c,f,e,q⟩:=h
 cases ex with
 |normal=>
  obtain ⟨m,l,j,p,o,g⟩:=q;refine ⟨max n m+1,l,j,p,?_,g⟩;simp only [ah];rw [bH (bm (O8 _)) (gF (Nat.le_max_left n m) e)];exact bH (bm (O8 _)) (gF (Nat.le_max_right n m) o)
 |exit i=>
  refine ⟨n+1,_,c,f,?_,q⟩;simp only [ah];rw [bH (bm (O8 _)) e]
 |ret=>
  refine ⟨n+1,_,c,f,?_,q⟩;simp only [ah];rw [bH (bm (O8 _)) e]
theorem Wp.cond {x:X} {a b:AC} {c:Fr} {H:AH} {Q:Ex→Fr→AH→Prop} {t:Bool} (d:x.ev c= .bool t) (h:Wp E O (bif t then a else b) c H Q):Wp E O (.cond x a b) c H Q:=by
 obtain ⟨n,ex,f,g,e,q⟩:=h;refine ⟨n+1,ex,f,g,?_,q⟩;simp only [ah,d];cases t<;>exact bH (bm (O8 _)) e
def rR (i:Nat) (Q:Ex→Fr→AH→Prop):Ex→Fr→AH→Prop
 | .exit j,fr,H=>if j=i then Q .normal fr H else Q (.exit j) fr H
 |ex,fr,H=>Q ex fr H
theorem Wp.block {i:Nat} {a:AC} {g:Fr} {H:AH} {Q:Ex→Fr→AH→Prop} (h:Wp E O a g H (rR i Q)):Wp E O (.block i a) g H Q:=by
 obtain ⟨n,ex,c,f,e,q⟩:=h;have d:=bH (bm (O8 n)) e
 cases ex with
 |normal=>exact ⟨n+1,_,c,f,by simp only [ah];rw [d],q⟩
 |ret=>exact ⟨n+1,_,c,f,by simp only [ah];rw [d],q⟩
 |exit j=>
  simp only [rR]at q;by_cases b:j=i
  ·rw [if_pos b]at q
   refine ⟨n+1,_,c,f,?_,q⟩;simp only [ah];rw [d];simp [nb,b]
  ·rw [if_neg b]at q
   refine ⟨n+1,_,c,f,?_,q⟩;simp only [ah];rw [d];simp [nb,b]
theorem Wp.Bm {a:AC} {c:Fr} {H:AH} {Q:Ex→Fr→AH→Prop} (h:Wp E O a c H (rQ (fun j p=>Wp E O (.loop a) j p Q) Q)):Wp E O (.loop a) c H Q:=by
 obtain ⟨n,ex,b,d,e,q⟩:=h
 cases ex with
 |normal=>
  obtain ⟨m,k,g,o,l,f⟩:=q;refine ⟨max n m+1,k,g,o,?_,f⟩;simp only [ah];rw [bH (bm (O8 _)) (gF (Nat.le_max_left n m) e)];exact bH (bm (O8 _)) (gF (Nat.le_max_right n m) l)
 |exit i=>
  refine ⟨n+1,_,b,d,?_,q⟩;simp only [ah];rw [bH (bm (O8 _)) e]
 |ret=>
  refine ⟨n+1,_,b,d,?_,q⟩;simp only [ah];rw [bH (bm (O8 _)) e]
theorem Wp.loop {a:AC} {Q:Ex→Fr→AH→Prop} (I:Nat→Fr→AH→Prop) (step:∀k b H,I k b H→Wp E O a b H (rQ (fun c d=>∃j,j<k∧I j c d) Q)) (k:Nat) {b:Fr} {H:AH} (h:I k b H):Wp E O (.loop a) b H Q:=by
 induction k using Nat.strongRecOn generalizing b H with
 |_ k ih=>
  refine Wp.Bm ((step k b H h).mono ?_);intro ex c d q
  cases ex with
  |normal=>obtain ⟨j,e,f⟩:=q;exact ih j e f
  |exit i=>exact q
  |ret=>exact q
theorem Wp.aA {l:List AO} {a:Fr} {H:AH} {Q:Ex→Fr→AH→Prop} (h:Wo E O l a H (Q .normal)):Wp E O (.aA l) a H Q:=by
 obtain ⟨n,b,c,e,q⟩:=h;refine ⟨n+1,_,b,c,?_,q⟩;simp only [ah];rw [la (bm (O8 _)) e]
theorem Wo.nil {a:Fr} {H:AH} {Q:Fr→AH→Prop} (h:Q a H):Wo E O [] a H Q:=⟨0,a,H,rfl,h⟩
theorem Wo.cons {o:AO} {l:List AO} {a:Fr} {H:AH} {Q:Fr→AH→Prop} (h:jC E O o a H (fun c g=>Wo E O l c g Q)):Wo E O (o::l) a H Q:=by
 obtain ⟨n,i,j,e,m,b,f,d,q⟩:=h;refine ⟨max n m,b,f,?_,q⟩;simp only [ops];rw [iR (bm (Nat.le_max_left n m)) e];exact la (bm (Nat.le_max_right n m)) d
theorem jC.val {o:AO} {a:Fr} {H b:AH} {x:Value} {Q:Fr→AH→Prop} (c:o.wanted a=true) (h:aB o.o (X.ev a) H=some (.v x,b)) (q:Q (a.aw o.d x) b):jC E O o a H Q:=
 ⟨0,_,_,bG.2 ⟨x,rfl,.val c h⟩,q⟩
theorem jC.off {o:AO} {a:Fr} {H:AH} {Q:Fr→AH→Prop} (b:o.wanted a=false) (q:Q (a.aw o.d undef) H):jC E O o a H Q:=
 ⟨0,_,_,bG.2 ⟨undef,rfl,.off b rfl rfl⟩,q⟩
theorem jC.call {o:AO} {a:Fr} {H H1:AH} {f:Nat} {as:List Value} {Q:Fr→AH→Prop} (c:o.wanted a=true) (h:aB o.o (X.ev a) H=some (.enter f as,H1)) (q:Ca E O f as H1 (fun x b=>Q (a.aw o.d x) b)):jC E O o a H Q:=by
 obtain ⟨n,x,b,e,q⟩:=q;exact ⟨n,_,_,bG.2 ⟨x,rfl,.call c f as H1 h e⟩,q⟩
theorem Wp.ak {l:List AO} {ck:List (Nat×Nat×Nat)} {a:Fr} {H:AH} {Q:Ex→Fr→AH→Prop}
 (h:Wt E O l a H (fun b=>(chain ((a,H)::b)=true∧ck.all (kK l ((a,H)::b))=true)∧Q .normal (de (a,H) b).1 (de (a,H) b).2)):Wp E O (.ak l ck) a H Q:=by
 obtain ⟨n,b,e,⟨c,h2⟩,q⟩:=h;refine ⟨n+1,_,_,_,?_,q⟩;simp only [ah,qY];rw [iS (bm (O8 _)) e];simp [c,h2]
theorem Wt.nil {a:Fr} {H:AH} {Q:List (Fr×AH)→Prop} (h:Q []):Wt E O [] a H Q:=⟨0,[],rfl,h⟩
theorem Wt.cons {o:AO} {l:List AO} {c:Fr} {H:AH} {Q:List (Fr×AH)→Prop} (h:jC E O o c H (fun b d=>Wt E O l b d (fun a=>Q ((b,d)::a)))):Wt E O (o::l) c H Q:=by
 obtain ⟨n,g,i,e,m,a,f,q⟩:=h;refine ⟨max n m,_,?_,q⟩;simp only [eO];rw [iR (bm (Nat.le_max_left n m)) e];simp only;rw [iS (bm (Nat.le_max_right n m)) f]
def rS (r:List RS) (Q:Value→AH→Prop):Ex→Fr→AH→Prop
 | .exit _,_,_=>False
 |_,fr,H=>∃vs,RS.all fr H r=some vs∧Q (iu vs) H
theorem Ca.body {f:Nat} {F:AF} {as:List Value} {H:AH} {Q:Value→AH→Prop} (b:O f=none) (d:E f=some F) (c:as.length=F.np) (h:Wp E O F.body (Fr.of as) H (rS F.res Q)):Ca E O f as H Q:=by
 obtain ⟨n,ex,j,k,e,q⟩:=h
 cases ex with
 |exit i=>exact q.elim
 |normal=>
  obtain ⟨g,a,q⟩:=q;refine ⟨n+1,_,_,?_,q⟩;simp only [ca,b,d];rw [nb,decide_eq_true c,cond_true,e];simp [a]
 |ret=>
  obtain ⟨g,a,q⟩:=q;refine ⟨n+1,_,_,?_,q⟩;simp only [ca,b,d];rw [nb,decide_eq_true c,cond_true,e];simp [a]
theorem Ca.LG {f:Nat} {g:List Value→AH→Option (Value×AH)} {as:List Value} {H a:AH} {x:Value} {Q:Value→AH→Prop} (b:O f=some g) (h:g as H=some (x,a)) (q:Q x a):Ca E O f as H Q:=
 ⟨1,x,a,by simp [ca,b,h],q⟩
end
end
section
open Go Go.RowKit
def ko (W:World) (b:Nat):Option jZ:=match W.heap[b]? with
 |some (.cells cs _ _)=>some (.cells 1048576 cs.toList)
 |_=>none
def H0 (W:World):AH:=⟨ko W,W.heap.size,W.heap.size,.nil,none⟩
def jD (W:World):aF:=⟨W.heap.size,W.heap.size,fun b=>if b<W.heap.size then some ⟨b,0,0,1⟩else none⟩
theorem nJ (W:World) (b:Nat):(H0 W).raw b=ko W b:=rfl
theorem Gf (W:World):∀b,b<(jD W).n0→(jD W).m b=some ⟨b,0,0,1⟩:=fun b a=>if_pos a
theorem Gg {W:World} (i:p6 W):Rel W (jD W) (H0 W) W where
 n0:=rfl
 j1:=OL _
 iN:=OL _
 c0:=rfl
 below:=Below.refl _ _
 dz:=fun b c=>if_pos c
 eG:=fun b z cs c a=>by
  rw [nJ]at a;unfold ko at a;split at a
  ·rename_i p e j g
   cases a;exact ⟨e,j,by rw [g]⟩
  ·cases a
 cells:=fun b l z cs c d a=>by
  have:¬ b<W.heap.size:=Nat.not_lt.2 c;simp only [jD,if_neg this]at d;cases d
 maps:=fun b l es c d a=>by
  have:¬ b<W.heap.size:=Nat.not_lt.2 c;simp only [jD,if_neg this]at d;cases d
 inj:=fun k q n m h o f h2 _ _ _=>by
  have:¬ k<W.heap.size:=Nat.not_lt.2 h;simp only [jD,if_neg this]at f;cases f
 j9:=fun b s e=>by cases e
 l8:=i
theorem ye (W:World):iw (jD W) (H0 W):=fun b a=>if_neg (Nat.not_lt.2 a)
theorem mn {P:Program} {E:Env} {O:ea} {W:World} (d:p6 W) (b:P.follows .mixedOrders=true) (i:mi P E) (g:mj P O) {f:Nat} {as:List Value} {as':Array Value} (a:VL (jD W) as as'.toList)
 (h:Ca E O f as (H0 W) (fun x _=>x= .bool true)):Calls P f as' W fun e w'=>e= .returned (.bool true)∧Below W.heap.size W w':=by
 obtain ⟨n,x,l,e,rfl⟩:=h;refine ((k9 b i g n f as _ _ _ e).2 W (jD W) W as' (Gg d) (ye W) a).mono ?_;rintro e w' ⟨j,k,rfl,c,R,G⟩;rw [c.bool];exact ⟨rfl,R.below⟩
def Good (P:Program) (f:Nat) (F:AF):Prop:=∃fn,P.funcs[f]?=some fn∧ab P fn=some F
def nK (P:Program) (g:Nat→Nat) (t:T (Option AF)):Prop:=∀k F,t.get none k=some F→Good P (g k) F
theorem nK.nil {P:Program} {g:Nat→Nat}:nK P g .nil:=fun k F h=>by cases k<;>cases h
theorem nK.node {P:Program} {g:Nat→Nat} {v:Option AF} {l r:T (Option AF)} (h:∀F,v=some F→Good P (g 0) F) (c:nK P (fun k=>g (2*k+1)) l) (b:nK P (fun k=>g (2*k+2)) r):nK P g (.node v l r):=by
 intro k F a;simp only [T.get,nb,Bool.cond_decide]at a;split at a
 ·rename_i e
  subst e;exact h F a
 ·split at a
  ·have:=c _ F a
   simp only at this;rwa [show 2*(k/2)+1=k by omega]at this
  ·have:=b _ F a
   simp only at this;rwa [show 2*(k/2- 1)+2=k by omega]at this
open Go Go.RowKit
theorem Rel.Bn {w0 w w':World} {φ:aF} {H:AH} (R:Rel w0 φ H w) (B:Below w.heap.size w w'):Rel w0 φ H w' where
 n0:=R.n0
 j1:=R.j1
 iN:=R.iN
 c0:=R.c0
 below:=⟨B.os.trans R.below.os,B.tape.trans R.below.tape,B.output.trans R.below.output,O3 R.below.size B.size,fun k i=>(B.block k (O4 i R.below.size)).trans (R.below.block k i)⟩
 dz:=R.dz
 eG:=fun b z cs f d=>by
  obtain ⟨e,r,o⟩:=R.eG b z cs f d;exact ⟨e,r,(B.block b (OV.1 o).1).trans o⟩
 cells:=fun b l z cs f j d=>by
  obtain ⟨h,h2,m,arr,e,a,g,q,p⟩:=R.cells b l z cs f j d;exact ⟨h,h2,m,arr,e,(B.block l.c (OV.1 a).1).trans a,g,q,p⟩
 maps:=fun b l es f j d=>by
  obtain ⟨h,n,t,a,g⟩:=R.maps b l es f j d;exact ⟨h,n,t,(B.block l.c (OV.1 a).1).trans a,g⟩
 inj:=R.inj
 l8:=R.l8
 j9:=fun b s e=>by
  obtain ⟨h,h2,l,m,a,g⟩:=R.j9 b s e;exact ⟨h,h2,l,m,a,g.jh rfl (fun k i _=>B.block k i) fun A y x v u=>.inl ⟨x,v,u⟩⟩
def He:AH:=⟨fun _=>none,0,0,.nil,none⟩
def isTrue:Option (Value×AH)→Bool
 |some (.bool true,_)=>true
 |_=>false
theorem nL {P:Program} {E:Env} {O:ea} (o:P.follows .mixedOrders=true) (r:mi P E) (q:mj P O) {n f:Nat} (h:isTrue (ca E O n f [] He)=true) (H:AH):nz P f∧x3 P f [] H (.bool true) H:=by
 unfold isTrue at h;split at h
 case h_2=>cases h
 rename_i v e;obtain ⟨t,h2⟩:=k9 o r q n f [] He (.bool true) v e;refine ⟨t,?_⟩;intro y i w a R J m
 have u:Rel w ⟨0,w.heap.size,fun _=>none⟩ He w:=⟨rfl,O9 _,OL _,rfl,Below.refl _ _,fun b d=>absurd d (O7 _),fun b z cs d=>absurd d (O7 _),
  fun b l z cs _ c=>(by cases c),fun b l es _ c=>(by cases c),fun I F D C _ _ c=>(by cases c),fun b s e=>(by cases e),R.l8.below R.below⟩
 have j:VL ⟨0,w.heap.size,fun _=>none⟩ [] a.toList:=by
  have:=m.length;have e:a.toList=[]:=Pf this.symm;rw [e];exact .nil
 refine (h2 w _ w a u (fun _ _=>rfl) j).mono ?_;rintro e A ⟨x,B,rfl,p,g,G⟩;rw [p.bool];refine ⟨i,_,rfl,.same rfl,R.Bn g.below,aF.le_refl _,rfl,rfl,OL _,fun b l h k=>(by rw [h]at k;cases k),g.below.size⟩
def uC (f:Nat):ea:=fun g=>bif Nat.beq g f then some (fun as H=>match as with|[]=>some (.bool true,H)|_=>none)else none
theorem uD {P:Program} {E:Env} (d:P.follows .mixedOrders=true) (i:mi P E) {n f:Nat} (h:isTrue (ca E (fun _=>none) n f [] He)=true):mj P (uC f):=by
 intro g k c as H v j b;by_cases e:g=f
 case neg=>simp [uC,nb,e]at c
 subst e;simp only [uC,nb,decide_true,cond_true,OH]at c;subst c
 cases as with
 |nil=>
  simp only [OH,OP]at b;obtain ⟨rfl,rfl⟩:=b;exact nL d i (fun f g h=>by cases h) h H
 |cons a l=>simp at b
end
section
open Go Go.RowKit
section
variable{E:Env} {O:ea}
def uE (E:Env) (O:ea) (r:Option (dw×AH)) (Q:Value→AH→Prop):Prop:=match r with
 |some (.v x,H)=>Q x H
 |some (.enter f as,H)=>Ca E O f as H Q
 |none=>False
theorem uF (a:Fr) (H:AH) (Q:Ex→Fr→AH→Prop):Wp E O .skip a H Q↔Q .normal a H:=by
 refine ⟨fun⟨n,ex,b,c,e,q⟩=>?_,Wp.skip⟩
 cases n with
 |zero=>simp [ah]at e
 |succ n=>simp only [ah,OH,OP]at e;obtain ⟨rfl,rfl,rfl⟩:=e;exact q
theorem yf (a:Fr) (H:AH) (Q:Ex→Fr→AH→Prop):Wp E O .ret a H Q↔Q .ret a H:=by
 refine ⟨fun⟨n,ex,b,c,e,q⟩=>?_,Wp.ret⟩
 cases n with
 |zero=>simp [ah]at e
 |succ n=>simp only [ah,OH,OP]at e;obtain ⟨rfl,rfl,rfl⟩:=e;exact q
theorem yg (l:List AO) (a:Fr) (H:AH) (Q:Ex→Fr→AH→Prop):Wp E O (.aA l) a H Q↔Wo E O l a H (Q .normal):=by
 refine ⟨fun⟨n,ex,b,c,e,q⟩=>?_,Wp.aA⟩
 cases n with
 |zero=>simp [ah]at e
 |succ n=>
  simp only [ah]at e
  cases h:ops (ca E O (n+1)) l a H with
  |none=>simp [h]at e
  |some r=>
   simp only [h,OH,OP]at e;obtain ⟨rfl,rfl,rfl⟩:=e;exact ⟨n+1,_,_,h,q⟩
theorem yh (a b:AC) (d:Fr) (H:AH) (Q:Ex→Fr→AH→Prop):Wp E O (.seq a b) d H Q↔Wp E O a d H (rQ (fun f g=>Wp E O b f g Q) Q):=by
 refine ⟨fun⟨n,ex,f,g,e,q⟩=>?_,Wp.seq⟩
 cases n with
 |zero=>simp [ah]at e
 |succ n=>
  simp only [ah]at e
  cases h:ah (ca E O (n+1)) n a d H with
  |none=>simp [h]at e
  |some r=>
   obtain ⟨j,k,l⟩:=r;have c:=cD (O8 n) h
   cases j with
   |normal=>
    simp only [h]at e;exact ⟨n+1,_,_,_,c,n+1,_,_,_,cD (O8 n) e,q⟩
   |exit i=>
    simp only [h,OH,OP]at e;obtain ⟨rfl,rfl,rfl⟩:=e;exact ⟨n+1,_,_,_,c,q⟩
   |ret=>
    simp only [h,OH,OP]at e;obtain ⟨rfl,rfl,rfl⟩:=e;exact ⟨n+1,_,_,_,c,q⟩
theorem mq (o:AO) (l:List AO) (a:Fr) (H:AH) (Q:Fr→AH→Prop):Wo E O (o::l) a H Q↔jC E O o a H (fun b c=>Wo E O l b c Q):=by
 refine ⟨fun⟨n,b,c,e,q⟩=>?_,Wo.cons⟩;simp only [ops]at e
 cases h:ep (ca E O n) o a H with
 |none=>simp [h]at e
 |some r=>
  simp only [h]at e;exact ⟨n,_,_,h,n,_,_,e,q⟩
theorem lf (o:AO) (g:Fr) (H:AH) (Q:Fr→AH→Prop) (j:o.wanted g=true):jC E O o g H Q↔uE E O (aB o.o (X.ev g) H) (fun x k=>Q (g.aw o.d x) k):=by
 constructor
 ·rintro ⟨n,m,k,e,q⟩
  obtain ⟨x,rfl,h⟩:=bG.1 e
  cases h with
  |off a _ _=>rw [j]at a;cases a
  |val a b=>rw [b];exact q
  |call a f as l b c=>rw [b];exact ⟨n,x,k,c,q⟩
 ·intro h
  cases i:aB o.o (X.ev g) H with
  |none=>rw [i]at h;exact h.elim
  |some r=>
   obtain ⟨res,l⟩:=r;rw [i]at h
   cases res with
   |v x=>exact jC.val j i h
   |enter f as=>exact jC.call j i h
inductive Ko where
 |seq (b:AC)
 |bF (i:Nat)
def Un (E:Env) (O:ea):Ex→List Ko→Fr→AH→(Ex→Fr→AH→Prop)→Prop
 |ex,[],fr,H,Q=>Q ex fr H
 | .normal,.seq b::ks,fr,H,Q=>Wp E O b fr H (fun ex aS H'=>Un E O ex ks aS H' Q)
 | .normal,.bF _::ks,fr,H,Q=>Un E O .normal ks fr H Q
 | .exit j,.seq _::ks,fr,H,Q=>Un E O (.exit j) ks fr H Q
 | .exit j,.bF i::ks,fr,H,Q=>if j=i then Un E O .normal ks fr H Q else Un E O (.exit j) ks fr H Q
 | .ret,_::ks,fr,H,Q=>Un E O .ret ks fr H Q
def Wk (E:Env) (O:ea) (c:AC) (ks:List Ko) (fr:Fr) (H:AH) (Q:Ex→Fr→AH→Prop):Prop:=Wp E O c fr H (fun ex aS H'=>Un E O ex ks aS H' Q)
def Wr (E:Env) (O:ea) (l:List AO) (ks:List Ko) (fr:Fr) (H:AH) (Q:Ex→Fr→AH→Prop):Prop:=Wo E O l fr H (fun aS H'=>Un E O .normal ks aS H' Q)
def yi (l:List AO) (ck:List (Nat×Nat×Nat)) (acc:List (Fr×AH)):Bool:=chain acc.reverse&&ck.all (kK l acc.reverse)
def Wd (E:Env) (O:ea) (l0:List AO) (ck:List (Nat×Nat×Nat)) (acc:List (Fr×AH)) (l:List AO) (ks:List Ko) (fr:Fr) (H:AH) (Q:Ex→Fr→AH→Prop):Prop:=
 Wt E O l fr H (fun ss=>yi l0 ck (ss.reverse++acc)=true∧Un E O .normal ks (de (fr,H) ss).1 (de (fr,H) ss).2 Q)
variable{ks:List Ko} {fr:Fr} {H:AH} {Q:Ex→Fr→AH→Prop}
@[simp]theorem yj (ex:Ex):Un E O ex [] fr H Q=Q ex fr H:=by cases ex<;>rfl
@[simp]theorem I6 (b:AC):Un E O .normal (.seq b::ks) fr H Q=Wk E O b ks fr H Q:=rfl
@[simp]theorem I7 (i:Nat):Un E O .normal (.bF i::ks) fr H Q=Un E O .normal ks fr H Q:=rfl
@[simp]theorem I8 (j:Nat) (b:AC):Un E O (.exit j) (.seq b::ks) fr H Q=Un E O (.exit j) ks fr H Q:=rfl
@[simp]theorem Gi (k:Ko):Un E O .ret (k::ks) fr H Q=Un E O .ret ks fr H Q:=by cases k<;>rfl
@[simp]theorem uG:Wk E O .skip ks fr H Q↔Un E O .normal ks fr H Q:=uF _ _ _
@[simp]theorem yk:Wk E O .ret ks fr H Q↔Un E O .ret ks fr H Q:=yf _ _ _
@[simp]theorem yl (l:List AO):Wk E O (.aA l) ks fr H Q↔Wr E O l ks fr H Q:=yg _ _ _ _
@[simp]theorem ym (a b:AC):Wk E O (.seq a b) ks fr H Q↔Wk E O a (.seq b::ks) fr H Q:=by
 unfold Wk;rw [yh]
 have e:rQ (fun c d=>Wp E O b c d fun ex c d=>Un E O ex ks c d Q) (fun ex c d=>Un E O ex ks c d Q)=fun ex c d=>Un E O ex (.seq b::ks) c d Q:=by
  funext ex c d;cases ex<;>rfl
 rw [e]
theorem iD {x:X} {a b:AC} {c:Bool} {Q:Ex→Fr→AH→Prop} (d:x.ev fr= .bool c):Wp E O (.cond x a b) fr H Q↔Wp E O (bif c then a else b) fr H Q:=by
 refine ⟨?_,Wp.cond d⟩;rintro ⟨n,ex,f,g,e,q⟩
 cases n with
 |zero=>simp [ah]at e
 |succ n=>
  simp only [ah,d]at e;cases c<;>exact ⟨n+1,_,_,_,cD (O8 n) e,q⟩
@[simp]theorem rT {x:X} {a b:AC} (c:x.ev fr= .bool true):Wk E O (.cond x a b) ks fr H Q↔Wk E O a ks fr H Q:=iD c
@[simp]theorem rU {x:X} {a b:AC} (c:x.ev fr= .bool false):Wk E O (.cond x a b) ks fr H Q↔Wk E O b ks fr H Q:=iD c
@[simp]theorem yn:Wr E O [] ks fr H Q↔Un E O .normal ks fr H Q:=by
 refine ⟨fun⟨n,a,b,e,q⟩=>?_,fun q=>Wo.nil q⟩;simp only [ops,OH,OP]at e;obtain ⟨rfl,rfl⟩:=e;exact q
def aY.av:aY→Bool
 | .call _ _| .callv _ _=>true
 |_=>false
def wF:Option (dw×AH)→Bool
 |some (.v _,_)=>true
 |_=>false
def valOf:Option (dw×AH)→Value
 |some (.v x,_)=>x
 |_=>undef
def fZ (H:AH):Option (dw×AH)→AH
 |some (_,H')=>H'
 |none=>H
@[simp]theorem I9 (x:Value) (H:AH):wF (some (.v x,H))=true:=rfl
@[simp]theorem Dy (x:Value) (H:AH):valOf (some (.v x,H))=x:=rfl
@[simp]theorem Bo (x:Value) (H H':AH):fZ H (some (.v x,H'))=H':=rfl
theorem oR (r:Option (dw×AH)) (b:∀f as a,r≠some (.enter f as,a)) (Q:Value→AH→Prop):uE E O r Q↔wF r=true∧Q (valOf r) (fZ H r):=by
 cases r with
 |none=>simp [uE,wF]
 |some q=>
  obtain ⟨res,a⟩:=q
  cases res with
  |v x=>simp [uE]
  |enter f as=>exact absurd rfl (b f as a)
theorem oS {p:aY} {b:X→Value} (h:p.av=false):∀f as a,aB p b H≠some (.enter f as,a):=by
 intro f as a e
 cases p<;>first
  |(simp [aY.av]at h;done)
  |(simp only [aB,Bool.cond_eq_ite]at e
    (repeat' split at e)<;>simp at e)
@[simp]theorem Gj (d:Nat) (p:aY) (l:List AO) (h:p.av=false):Wr E O (⟨none,some d,p⟩::l) ks fr H Q↔
  wF (aB p (X.ev fr) H)=true∧Wr E O l ks (fr.put d (valOf (aB p (X.ev fr) H))) (fZ H (aB p (X.ev fr) H)) Q:=by
 unfold Wr;rw [mq,lf _ _ _ _ rfl,oR _ (oS h)];rfl
variable{l0:List AO} {ck:List (Nat×Nat×Nat)} {acc:List (Fr×AH)}
theorem dh (o:AO) (l:List AO) (fr:Fr) (H:AH) (Q:List (Fr×AH)→Prop):Wt E O (o::l) fr H Q↔jC E O o fr H (fun b c=>Wt E O l b c (fun a=>Q ((b,c)::a))):=by
 refine ⟨fun⟨n,a,e,q⟩=>?_,Wt.cons⟩;simp only [eO]at e
 cases h:ep (ca E O n) o fr H with
 |none=>simp [h]at e
 |some r=>
  simp only [h]at e
  cases h2:eO (ca E O n) l r.1 r.2 with
  |none=>simp [h2]at e
  |some d=>
   simp only [h2,OH]at e;subst e;exact ⟨n,_,_,h,n,_,h2,q⟩
theorem rV (o:AO) (l:List AO):Wd E O l0 ck acc (o::l) ks fr H Q↔jC E O o fr H (fun a b=>Wd E O l0 ck ((a,b)::acc) l ks a b Q):=by
 unfold Wd;rw [dh];simp only [de,List.reverse_cons,O6,List.singleton_append]
@[simp]theorem Gk (d:Nat) (p:aY) (l:List AO) (h:p.av=false):Wd E O l0 ck acc (⟨none,some d,p⟩::l) ks fr H Q↔
  wF (aB p (X.ev fr) H)=true∧Wd E O l0 ck ((fr.put d (valOf (aB p (X.ev fr) H)),fZ H (aB p (X.ev fr) H))::acc) l ks (fr.put d (valOf (aB p (X.ev fr) H))) (fZ H (aB p (X.ev fr) H)) Q:=by
 rw [rV,lf _ _ _ _ rfl,oR _ (oS h)];rfl
theorem Ca.Bp {f:Nat} {F:AF} {as:List Value} {H:AH} {Q:Value→AH→Prop} (a:O f=none) (c:E f=some F) (b:as.length=F.np) (h:Wk E O F.body [] (Fr.of as) H (rS F.res Q)):Ca E O f as H Q:=
 Ca.body a c b (Wp.mono h fun ex fr H q=>by simpa using q)
def rW (E:Env) (O:ea) (I:Nat→Fr→AH→Prop) (k:Nat) (ks:List Ko) (Q:Ex→Fr→AH→Prop):Ex→Fr→AH→Prop
 | .normal,fr,H=>∃j,j<k∧I j fr H
 | .exit i,fr,H=>Un E O (.exit i) ks fr H Q
 | .ret,fr,H=>Un E O .ret ks fr H Q
@[simp]theorem Dz (I:Nat→Fr→AH→Prop) (k:Nat):rW E O I k ks Q .normal fr H=∃j,j<k∧I j fr H:=rfl
@[simp]theorem DA (I:Nat→Fr→AH→Prop) (k i:Nat):rW E O I k ks Q (.exit i) fr H=Un E O (.exit i) ks fr H Q:=rfl
@[simp]theorem DB (I:Nat→Fr→AH→Prop) (k:Nat):rW E O I k ks Q .ret fr H=Un E O .ret ks fr H Q:=rfl
attribute [simp] Fr.aN Fr.b6 X.ev iu RS.all RS.get
@[simp]theorem Gl (r:List RS) (Q:Value→AH→Prop):rS r Q .normal fr H=∃vs,RS.all fr H r=some vs∧Q (iu vs) H:=rfl
@[simp]theorem Gm (r:List RS) (Q:Value→AH→Prop):rS r Q .ret fr H=∃vs,RS.all fr H r=some vs∧Q (iu vs) H:=rfl
@[simp]theorem Ah (x:X):(aY.mv x).av=false:=rfl
@[simp]theorem wG (c a b:X):(aY.pick c a b).av=false:=rfl
@[simp]theorem uH (z:List Value):(aY.alloc z).av=false:=rfl
@[simp]theorem yp (x:X):(aY.box x).av=false:=rfl
@[simp]theorem uI (z:List Value) (ps:List (Nat×Nat×X)):(aY.build z ps).av=false:=rfl
@[simp]theorem yq (len sz:Nat) (z:List Value) (ps:List (Nat×Nat×X)):(aY.bsl len sz z ps).av=false:=rfl
@[simp]theorem Ai (x:X):(aY.ld x).av=false:=rfl
@[simp]theorem yr (n:Nat) (x:X):(aY.ldn n x).av=false:=rfl
@[simp]theorem Aj (n:Nat) (x v:X):(aY.st n x v).av=false:=rfl
@[simp]theorem wH (x:X):(aY.cM x).av=false:=rfl
@[simp]theorem yt (op:BinOp) (x y:X):(aY.bin op x y).av=false:=rfl
@[simp]theorem yu (k:Nat) (neg:Bool) (x y:X):(aY.eqk k neg x y).av=false:=rfl
@[simp]theorem Ak (op:UnOp) (x:X):(aY.un op x).av=false:=rfl
@[simp]theorem yv (k:IntKind) (x:X):(aY.j0 k x).av=false:=rfl
@[simp]theorem yw (x:X):(aY.zZ x).av=false:=rfl
@[simp]theorem yx (f:Nat) (first cap:List X):(aY.mkf f first cap).av=false:=rfl
@[simp]theorem uJ:aY.mkmap.av=false:=rfl
@[simp]theorem wI (sz bytes:Nat) (z:List Value) (x:X):(aY.mksl sz bytes z x).av=false:=rfl
@[simp]theorem Al (sz:Nat) (x:X) (lo hi mx:Option X):(aY.sl sz x lo hi mx).av=false:=rfl
@[simp]theorem Am (off:Nat) (x:X):(aY.fa off x).av=false:=rfl
@[simp]theorem An (sz:Nat) (x i:X):(aY.ia sz x i).av=false:=rfl
@[simp]theorem yy (len sz:Nat) (x i:X):(aY.cv len sz x i).av=false:=rfl
@[simp]theorem Ao (x i:X):(aY.ix x i).av=false:=rfl
@[simp]theorem wJ (kk:Nat) (z:Value) (x k:X) (ok:Bool):(aY.look kk z x k ok).av=false:=rfl
@[simp]theorem yz (kk:Nat) (x k v:X):(aY.qF kk x k v).av=false:=rfl
@[simp]theorem yA (x:X) (i:Nat):(aY.ext x i).av=false:=rfl
@[simp]theorem yB (sz bytes:Nat) (s x:X):(aY.app sz bytes s x).av=false:=rfl
@[simp]theorem wK (sz:Nat) (d s:X):(aY.copy sz d s).av=false:=rfl
@[simp]theorem wL (x:X):(aY.lens x).av=false:=rfl
@[simp]theorem wM (x:X):(aY.eo x).av=false:=rfl
@[simp]theorem yC (t:Nat) (x:X):(aY.z0 t x).av=false:=rfl
@[simp]theorem yD (x:X) (l:List X):(aY.mxl x l).av=false:=rfl
@[simp]theorem yE (x:X) (l:List X):(aY.mnl x l).av=false:=rfl
@[simp]theorem yF (neg:Bool) (offs:List (Nat×Nat)) (x y:X):(aY.eqs neg offs x y).av=false:=rfl
@[simp]theorem DC (b:Bool):wb .not (.bool b)=some (.bool !b):=rfl
@[simp]theorem DD (k:IntKind) (n:Int):wb .neg (.int k n)=some (.int k (k.wrap (0- n))):=rfl
@[simp]theorem Bq (k:IntKind) (a b:Int):ba .add (.int k a) (.int k b)=some (.int k (k.wrap (a+b))):=by simp [ba,cg,fD]
@[simp]theorem Br (k:IntKind) (a b:Int):ba .sub (.int k a) (.int k b)=some (.int k (k.wrap (a- b))):=by simp [ba,cg,fD]
@[simp]theorem Bs (k:IntKind) (a b:Int):ba .eql (.int k a) (.int k b)=some (.bool (decide (a=b))):=by simp [ba,cg,fD];rfl
@[simp]theorem Bt (k:IntKind) (a b:Int):ba .neq (.int k a) (.int k b)=some (.bool (!decide (a=b))):=by simp [ba,cg,fD];rfl
@[simp]theorem Bu (k:IntKind) (a b:Int):ba .lss (.int k a) (.int k b)=some (.bool (decide (a<b))):=by simp [ba,cg,fD]
@[simp]theorem Bv (k:IntKind) (a b:Int):ba .leq (.int k a) (.int k b)=some (.bool (decide (a≤b))):=by simp [ba,cg,fD]
@[simp]theorem Bw (k:IntKind) (a b:Int):ba .gtr (.int k a) (.int k b)=some (.bool (decide (a>b))):=by simp [ba,cg,fD]
@[simp]theorem Bx (k:IntKind) (a b:Int):ba .geq (.int k a) (.int k b)=some (.bool (decide (a≥b))):=by simp [ba,cg,fD]
def wN (a b:ByteArray):Bool:=a.data.toList==b.data.toList
@[simp]theorem By (a b:ByteArray):ba .eql (.string a) (.string b)=some (.bool (wN a b)):=rfl
@[simp]theorem Bz (a b:ByteArray):ba .neq (.string a) (.string b)=some (.bool (!wN a b)):=rfl
def rX (s:ByteArray) (i:Nat):Int:=((s[i]?).getD 0).toNat
theorem rY {x i:X} {a:X→Value} {H:AH} {s:ByteArray} {n:Nat} (b:a x= .string s) (hi:a i= .int .i64 n) (h:n<s.size):aB (.ix x i) a H=some (.v (.int .u8 (rX s n)),H):=by
 simp only [aB,b,hi];rw [if_pos (by omega)];simp only [Int.toNat_natCast];unfold rX;have:s[n]?=some s[n]:=getElem?_pos s n h;rw [this];rfl
end
end
end Go.Proofs.Ytediokhgklkhnaa.A
