/- Texts that stand one behind the other: AbsB, AbsC, AbsD, AbsE, AbsF, AbsG, AbsH, AbsI, AbsJ, AbsK, AbsL, AbsM. -/
import Derived.Test.YtppcmpmnglaleaaGreatDoorG8
import Derived.Deep.LoopGhost
import Derived.Orders
set_option linter.unusedVariables false
set_option linter.unusedSimpArgs false
namespace Go.Proofs.YtppcmpmnglaleaaGreatDoor.A
section
open Go Go.RowKit
section
variable{P:Program}
def Fs (P:Program) (f:Nat) (as:List Value) (H:AH) (v:Value) (H':AH):Prop:=
 ∀(w0:World) (φ:bD) (w:World) (as':Array Value),Rel w0 φ H w→qb φ H→VL φ as as'.toList→
  Calls P f as' w fun e w'=>∃dy v',e= .returned v'∧V dy v v'∧Rel w0 dy H' w'∧Grow φ H w dy H' w'
def px (P:Program) (call:Cl):Prop:=∀f as H v H',call f as H=some (v,H')→C6 P f∧Fs P f as H v H'
theorem V.C7 {φ:bD} {v:Value} {b:Bool} (h:V φ v (.bool b)):v= .bool b:=by
 cases h;rfl
theorem C8 {φ:bD} {fr:Fr} {a:Act} (F:kZ φ fr a) {f:Array Oper} {o:Oper} {g:Option (Nat×Bool)} {d:Option Nat} {p:cl} (e:uB f o.guard=some g):
 Region.wanted o (yielded f a.tmps)=AO.wanted ⟨g,d,p⟩ fr:=by
 unfold Region.wanted AO.wanted
 cases m:o.guard with
 |none=>rw [m]at e;simp [uB]at e;subst e;rfl
 |some n=>
  obtain ⟨j,b⟩:=n;rw [m]at e;simp only [uB]at e
  cases k:(f[j]?).bind (·.dst)with
  |none=>simp [k]at e
  |some t=>
   simp [k]at e;subst e;dsimp only;have h:=F t
   have q:yielded f a.tmps j=match a.tmps[t]? with|some (.bool b)=>some b|_=>none:=by
    unfold yielded;rw [k];rfl
   rw [q]
   cases l:fr.get t with
   |bool c=>
    rw [l]at h;have:=h.bool
    have h2:a.tmps[t]?=some (.bool c):=by
     cases i:a.tmps[t]? with
     |none=>simp [i,undef]at this
     |some u=>simp [i]at this;rw [this]
    rw [h2];simp
   |_=>
    have:∀c,a.tmps[t]?≠some (.bool c):=by
     intro c r;have h2:a.tmps.getD t undef= .bool c:=by simp [r]
     rw [h2]at h;have:=h.C7;rw [this]at l;cases l
    dsimp only
    cases i:a.tmps[t]? with
    |none=>rfl
    |some u=>cases u<;>first|rfl|exact absurd i (this _)
theorem iD {p:cl} {a:X→Value} {H H':AH} {f:Nat} {as:List Value} (h:ar p a H=some (.enter f as,H')):eB p= .jJ:=by
 cases p<;>first
  |rfl
  |(exfalso
    simp only [ar,Bool.cond_eq_ite]at h
    (repeat' split at h)<;>simp at h)
theorem Ft {call:Cl} (kI:px P call) {nt:Nat} {A:Array Oper} {i:Nat} {o:Oper} {J:AO} (hi:A[i]?=some o) (c:Nl P nt A o=some J)
 {w0 w:World} {φ:bD} {H H':AH} {q E:Fr} {a:Act} (F:kZ φ q a) (R:Rel w0 φ H w) (S:φ.m H.nx=none) (N:eB J.o= .jJ→qb φ H) (M:a.tmps.size=nt) (hd:a.defers=[]) (h:jw call J q H=some (E,H'))
 {Q:Exit→Act→World→Prop} {K:Act→World→Prop}
 (y:∀b v v' w',Rel w0 b H' w'→Grow φ H w b H' w'→V b v v'→E=q.aN o.dst v→kZ b E (a.put o.dst v')→(a.put o.dst v').tmps.size=nt→(a.put o.dst v').defers=[]→K (a.put o.dst v') w'):
 wpOp P A Q i K a w:=by
 unfold wpOp;simp only [hi];unfold Nl at c;split at c
 case h_2=>cases c
 rename_i g hg;obtain ⟨O,c⟩:=aw c;cases c
 obtain ⟨p,C⟩:∃p,JF P o=p:=⟨_,rfl⟩
 rw [C]at h N
 have u:∀n,o.dst=some n→n<a.tmps.size:=by
  intro n l;rw [l]at O;rw [M]
  simpa [Nk]using O
 have t:∀v,(a.put o.dst v).tmps.size=nt:=by
  intro v;cases hq:o.dst<;>simp [Act.put,M]
 have s:∀v,(a.put o.dst v).defers=[]:=by
  intro v;cases hq:o.dst<;>simp [Act.put,hd]
 have hw:=C8 F (o:=o) (d:=o.dst) (p:=p) hg;rw [hw];unfold jw at h
 cases L:AO.wanted ⟨g,o.dst,p⟩ q with
 |false=>
  simp only [L,cond_false,aqV,aq2]at h;obtain ⟨rfl,rfl⟩:=h;simp only [Bool.false_eq_true,if_false];exact y φ undef undef w R (Grow.refl _ _ _) (rA _) rfl (F.aN u (rA _)) (t _) (s _)
 |true=>
  simp only [L,cond_true]at h;simp only [if_true];left;unfold Oper.wp
  cases k:ar p (X.ev q) H with
  |none=>simp [k]at h
  |some rr=>
   obtain ⟨res,T⟩:=rr;simp only [k]at h
   cases res with
   |v x=>
    simp only [aqV,aq2]at h;obtain ⟨rfl,rfl⟩:=h;obtain ⟨b,w',nx,I,z,G,l⟩:=Fq F R S C k (fun f as h=>by cases h);rw [I];rcases l with⟨Y,rfl,j⟩|⟨rfl,rfl⟩
    ·rw [Oper.upon_value]
     exact y b x Y w' z G j rfl ((F.mono G.le).aN u j) (t _) (s _)
    ·rw [Oper.upon_skip]
     exact y b undef undef w' z G (rA _) rfl ((F.mono G.le).aN u (rA _)) (t _) (s _)
   |enter f as=>
    simp only at h
    cases D:call f as T with
    |none=>simp [D]at h
    |some vv=>
     obtain ⟨x,H2⟩:=vv;simp only [D,aqV,aq2]at h;obtain ⟨rfl,rfl⟩:=h;obtain ⟨hf,B⟩:=kI f as T x H2 D;obtain ⟨b,w',nx,I,z,G,r,rfl,l⟩:=Fq F R S C k (fun f' r h=>by cases h;exact hf);rw [I,Oper.upon_enter];refine (B w0 b w' r z (G.fresh (N (iD k))) l).mono ?_;rintro e Z ⟨W,v',rfl,j,R2,U⟩;exact y W x v' Z R2 (G.trans U) j rfl ((F.mono (G.trans U).le).aN u j) (t _) (s _)
def abO:Ex→Exit
 | .normal=>.normal
 | .exit i=>.exit i
 | .ret=>.ret
def Fu (w0:World) (φ:bD) (w:World) (H:AH) (nt:Nat) (ex:Ex) (bP:Fr) (H':AH) (e:Exit) (a':Act) (w':World):Prop:=
 e=abO ex∧∃dy,Rel w0 dy H' w'∧Grow φ H w dy H' w'∧kZ dy bP a'∧a'.tmps.size=nt∧a'.defers=[]
theorem Fv {call:Cl} (y:px P call) {d:Nat} {c:Array Oper} {w0:World} {Q:Exit→Act→World→Prop}:∀(l:List Oper) (i:List AO) (k:Nat) {w:World} {φ:bD} {H H':AH} {e g:Fr} {a:Act},
 nQ P d c l=some i→(∀j o,l[j]?=some o→c[k+j]?=some o)→ops call i e H=some (g,H')→kZ φ e a→Rel w0 φ H w→qb φ H→a.tmps.size=d→a.defers=[]→
 (∀p a' w',Rel w0 p H' w'→Grow φ H w p H' w'→kZ p g a'→a'.tmps.size=d→a'.defers=[]→Q .normal a' w')→wpOps P c Q (List.range' k l.length) a w
 |[],i,k,w,φ,H,H',e,g,a,b,_,h,F,R,n,q,t,u=>by
  simp [nQ]at b;subst b;simp only [ops,aqV,aq2]at h;obtain ⟨rfl,rfl⟩:=h;exact u φ a w R (Grow.refl _ _ _) F q t
 |o::l,i,k,w,φ,H,H',e,g,a,b,hi,h,F,R,n,q,t,u=>by
  simp only [nQ]at b
  cases f:Nl P d c o with
  |none=>simp [f]at b
  |some K=>
   cases s:nQ P d c l with
   |none=>simp [f,s]at b
   |some m=>
    simp [f,s]at b;subst b;simp only [ops]at h
    cases x:jw call K e H with
    |none=>simp [x]at h
    |some r=>
     obtain ⟨X,Y⟩:=r;simp only [x]at h;simp only [List.length_cons,List.range'_succ,wpOps_cons];refine Ft y (by simpa using hi 0 o (by simp)) f F R (n _ (aqY _)) (fun _=>n) q t x ?_;intro U v W V N z _ _ T E J;refine Fv y l m (k+1) s (fun j C G=>by have:=hi (j+1) C (by simpa using G);rwa [show k+(j+1)=k+1+j by omega]at this) h T N (z.fresh n) E J ?_;intro A L B M O S D I;exact u A L B M (z.trans O) S D I
def lb (l:List AO) (dp:List (List Nat)):List Nat→List (Nat×Nat)→List Row
 |[],_=>[]
 |j::r,am=>match nth l j,nth dp j with
  |some o,some d=>⟨o,eB o.o,j,d,mV am d⟩::lb l dp r ((j,mV am d)::am)
  |_,_=>[]
theorem wO {α:Type} (l:List AO) (a:List (List Nat)):∀(ord:List Nat) (am:List (Nat×Nat)) (k:List Row→α),AT l a ord am k=k (lb l a ord am)
 |[],am,k=>rfl
 |j::r,am,k=>by
  simp only [AT,lb]
  cases b:nth l j with
  |none=>rfl
  |some o=>
   cases c:nth a j with
   |none=>rfl
   |some d=>
    simp only [force_eq];rw [wO l a r]
theorem rJ {b id:Nat} {a:Array Oper} {ac:AC} (h:dP P b (.region id a true)=some ac):
 ∃l ord,nQ P b a a.toList=some l∧zg l.length (lb l (a.toList.map JG) ord [])=true∧
  ac= .bQ ((lb l (a.toList.map JG) ord []).map (·.o)) (tN 0 (lb l (a.toList.map JG) ord [])):=by
 simp only [dP]at h
 cases c:nQ P b a a.toList with
 |none=>simp [c]at h
 |some l=>
  simp only [c,Nn,wO]at h;obtain ⟨d,h2⟩:=aw h;cases h2;exact ⟨l,_,rfl,d,rfl⟩
theorem zr {b id:Nat} {a:Array Oper} {ac:AC} (h:dP P b (.region id a true)=some ac):∃l ck,ac= .bQ l ck:=by
 obtain ⟨_,_,_,_,e⟩:=rJ h;exact ⟨_,_,e⟩
def Fw (P:Program) (call:Cl):Prop:=∀(nt:Nat) (id:Nat) (cm:Array Oper) (ac:AC),dP P nt (.region id cm true)=some ac→∀(l:List AO) (ck:List (Nat×Nat×Nat)),ac= .bQ l ck→
 ∀(w0 w:World) (φ:bD) (H H':AH) (fr bP:Fr) (a:Act),wG call l ck fr H=some (bP,H')→kZ φ fr a→Rel w0 φ H w→qb φ H→a.tmps.size=nt→a.defers=[]→
  (Code.region id cm true).wp P (Fu w0 φ w H nt .normal bP H') a w
theorem fv {call:Cl}:∀{n m:Nat} {c:AC} {e:Fr} {H:AH} {r:Ex×Fr×AH},n≤m→aD call n c e H=some r→aD call m c e H=some r:=by
 intro n
 induction n with
 |zero=>intro m c e H r _ h;simp [aD]at h
 |succ n ih=>
  intro m c e H r o h
  obtain ⟨m,rfl⟩:∃k,m=k+1:=⟨m- 1,by omega⟩
  have f:n≤m:=by omega
  cases c with
  |seq a b=>
   simp only [aD]at h⊢
   cases d:aD call n a e H with
   |none=>simp [d]at h
   |some q=>
    rw [ih f d];obtain ⟨ex,g,j⟩:=q
    cases ex<;>simp only [d]at h⊢<;>first
     |exact ih f h
     |exact h
  |cond x a b=>
   simp only [aD]at h⊢
   cases l:x.ev e<;>simp only [l]at h⊢<;>first
    |(cases h;done)
    |skip
   rename_i t;cases t<;>exact ih f h
  |block i a=>
   simp only [aD]at h⊢
   cases d:aD call n a e H with
   |none=>simp [d]at h
   |some q=>
    rw [ih f d];obtain ⟨ex,g,j⟩:=q;cases ex<;>simp only [d]at h⊢<;>exact h
  |loop a=>
   simp only [aD]at h⊢
   cases d:aD call n a e H with
   |none=>simp [d]at h
   |some q=>
    rw [ih f d];obtain ⟨ex,g,j⟩:=q
    cases ex<;>simp only [d]at h⊢<;>first
     |exact ih f h
     |exact h
  |_=>simpa only [aD]using h
theorem JT {call:Cl} (kI:px P call) (Up:Fw P call) {s:Nat} {w0:World}:∀(m:Nat) (c:Code) (ac:AC) {w:World} {φ:bD} {H H':AH} {A N:Fr} {a:Act} {ex:Ex},
 dP P s c=some ac→aD call m ac A H=some (ex,N,H')→kZ φ A a→Rel w0 φ H w→qb φ H→a.tmps.size=s→a.defers=[]→c.wp P (Fu w0 φ w H s ex N H') a w:=by
 intro m
 induction m with
 |zero=>intro c ac w φ H H' A N a ex _ h;simp [aD]at h
 |succ m ih=>
  intro c ac w φ H H' A N a ex d h F R D u v
  cases c with
  |skip=>
   simp [dP]at d;subst d;simp only [aD,aqV,aq2]at h;obtain ⟨rfl,rfl,rfl⟩:=h;exact wp_skip ⟨rfl,φ,R,Grow.refl _ _ _,F,u,v⟩
  |region id U draw=>
   cases draw with
   |false=>
    simp only [dP]at d
    cases Z:nQ P s U U.toList with
    |none=>simp [Z]at d
    |some l=>
     simp [Z]at d;subst d;simp only [aD]at h
     cases f:ops call l A H with
     |none=>simp [f]at h
     |some r=>
      obtain ⟨t,p⟩:=r;simp only [f,aqV,aq2]at h;obtain ⟨rfl,rfl,rfl⟩:=h;refine wp_region ?_;have:=Fv (Q:=Fu w0 φ w H s .normal t p) kI U.toList l 0 Z (fun j o V=>by simpa using V) f F R D u v (fun dy a' w' R' G F' wv Uq=>⟨rfl,dy,R',G,F',wv,Uq⟩);rwa [Array.length_toList,←List.range_eq_range']at this
   |true=>
    have qd:=d;obtain ⟨l,ck,Ur⟩:=zr d;rw [Ur]at h;simp only [aD]at h;split at h
    case h_2=>cases h
    rename_i t p f;simp only [aqV,aq2]at h;obtain ⟨rfl,rfl,rfl⟩:=h;exact Up s id U _ qd _ _ Ur w0 w φ H p A t a f F R D u v
  |refuse r=>
   simp only [dP,aqV]at d;subst d;simp only [aD,X.ev]at h;cases h
  |seq x y=>
   simp only [dP]at d
   cases g:dP P s x with
   |none=>simp [g]at d
   |some B=>
    cases K:dP P s y with
    |none=>simp [g,K]at d
    |some ay=>
     simp [g,K]at d;subst d;simp only [aD]at h;refine wp_seq ?_
     cases f:aD call m B A H with
     |none=>simp [f]at h
     |some r=>
      obtain ⟨Jq,t,p⟩:=r;have k:=ih x B g f F R D u v
      cases Jq with
      |normal=>
       simp only [f]at h;refine wp_mono k ?_;rintro e C k ⟨rfl,J,R1,E,F1,Y,Uo⟩;refine wp_mono (ih y ay K h F1 R1 (E.fresh D) Y Uo) ?_;rintro e a2 W ⟨he,I,O,S,T,L,M⟩;exact ⟨he,I,O,E.trans S,T,L,M⟩
      |exit i=>
       simp only [f,aqV,aq2]at h;obtain ⟨rfl,rfl,rfl⟩:=h;refine wp_mono k ?_;rintro e C k ⟨rfl,q⟩;exact ⟨rfl,q⟩
      |ret=>
       simp only [f,aqV,aq2]at h;obtain ⟨rfl,rfl,rfl⟩:=h;refine wp_mono k ?_;rintro e C k ⟨rfl,q⟩;exact ⟨rfl,q⟩
  |cond x y z=>
   simp only [dP]at d;split at d
   case h_2=>cases d
   rename_i xx ay az g K hz;cases d;simp only [aD]at h;have hv:=da F g;cases hq:xx.ev A<;>simp [hq]at h;rename_i b;rw [hq]at hv;refine wp_cond hv.bool ?_;cases b
   ·simp only [Bool.false_eq_true,if_false]
    exact ih z az hz h F R D u v
   ·simp only [if_true]
    exact ih y ay K h F R D u v
  |block i x=>
   simp only [dP]at d
   cases g:dP P s x with
   |none=>simp [g]at d
   |some B=>
    simp [g]at d;subst d;simp only [aD]at h;refine wp_block ?_
    cases f:aD call m B A H with
    |none=>simp [f]at h
    |some r=>
     obtain ⟨Jq,t,p⟩:=r;have k:=ih x B g f F R D u v;refine wp_mono k ?_;rintro e C w3 ⟨rfl,q⟩
     cases Jq with
     |normal=>
      simp only [f,aqV,aq2]at h;obtain ⟨rfl,rfl,rfl⟩:=h;exact ⟨rfl,q⟩
     |ret=>
      simp only [f,aqV,aq2]at h;obtain ⟨rfl,rfl,rfl⟩:=h;exact ⟨rfl,q⟩
     |exit j=>
      simp only [f,nb,Bool.cond_decide]at h;show Exit.inBlock i _ (.exit j) C w3;simp only [Exit.inBlock];by_cases V:j=i
      ·rw [if_pos V]at h⊢
       simp only [aqV,aq2]at h;obtain ⟨rfl,rfl,rfl⟩:=h;exact ⟨rfl,q⟩
      ·rw [if_neg V]at h⊢
       simp only [aqV,aq2]at h;obtain ⟨rfl,rfl,rfl⟩:=h;exact ⟨rfl,q⟩
  |loop x=>
   simp only [dP]at d
   cases g:dP P s x with
   |none=>simp [g]at d
   |some B=>
    simp [g]at d;subst d;refine wp_loop_ghost (fun n C k=>n≤m+1∧∃t p J,aD call n (.loop B) t p=some (ex,N,H')∧kZ J t C∧Rel w0 J p k∧Grow φ H w J p k∧C.tmps.size=s∧C.defers=[]) (m+1) ⟨aqY _,A,H,φ,h,F,R,Grow.refl _ _ _,u,v⟩ ?_;rintro n C k ⟨hn,t,p,J,f,F1,R1,E,Y,Uo⟩
    cases n with
    |zero=>simp [aD]at f
    |succ n=>
     simp only [aD]at f
     cases h2:aD call n B t p with
     |none=>simp [h2]at f
     |some r=>
      obtain ⟨SW,eV,H2⟩:=r;have mono:aD call m B t p=some (SW,eV,H2):=fv (by omega) h2;have W:=ih x B g mono F1 R1 (E.fresh D) Y Uo;refine wp_mono W ?_;rintro e a2 W ⟨rfl,I,O,S,T,L,M⟩
      cases SW with
      |normal=>
       simp only [h2]at f;exact ⟨n,by omega,by omega,eV,H2,I,f,T,O,E.trans S,L,M⟩
      |exit j=>
       simp only [h2,aqV,aq2]at f;obtain ⟨rfl,rfl,rfl⟩:=f;exact ⟨rfl,I,O,E.trans S,T,L,M⟩
      |ret=>
       simp only [h2,aqV,aq2]at f;obtain ⟨rfl,rfl,rfl⟩:=f;exact ⟨rfl,I,O,E.trans S,T,L,M⟩
  |exit i=>
   simp [dP]at d;subst d;simp only [aD,aqV,aq2]at h;obtain ⟨rfl,rfl,rfl⟩:=h;exact wp_exit ⟨rfl,φ,R,Grow.refl _ _ _,F,u,v⟩
  |ret=>
   simp [dP]at d;subst d;simp only [aD,aqV,aq2]at h;obtain ⟨rfl,rfl,rfl⟩:=h;exact wp_ret ⟨rfl,φ,R,Grow.refl _ _ _,F,u,v⟩
  |_=>simp [dP]at d
end
end
section
open Go
theorem Da {p:cl} {e Nw:X→Value} (h:∀x∈p.xs,e x=Nw x) (H:AH):ar p e H=ar p Nw H:=by
 have g:∀(l:List X),(∀x∈l,e x=Nw x)→l.map e=l.map Nw:=fun l i=>List.map_congr_left i
 have mp:∀(l:List (Nat×Nat×X)),(∀x∈l.map (fun p=>p.2.2),e x=Nw x)→(l.map fun p=>(p.1,p.2.1,e p.2.2))=l.map fun p=>(p.1,p.2.1,Nw p.2.2):=
  fun l i=>List.map_congr_left fun p m=>by rw [i _ (aru.2 ⟨p,m,rfl⟩)]
 have j:∀(l:Option X),(∀x∈l.toList,e x=Nw x)→l.map e=l.map Nw:=fun l i=>by cases l<;>simp_all
 cases p
 case build z ps=>simp only [ar];rw [mp ps h]
 case bsl a b c ps=>simp only [ar];rw [mp ps h]
 case mkf f a b=>
  simp only [ar];rw [g a fun x d=>h x (by simp [cl.xs,d]),g b fun x d=>h x (by simp [cl.xs,d])]
 case call f as=>simp only [ar];rw [g as h]
 case xt k l=>simp only [ar];rw [g l h]
 case callv x as=>
  simp only [ar];rw [g as fun x d=>h x (by simp [cl.xs,d]),h x (by simp [cl.xs])]
 case mxl x as=>
  simp only [ar];rw [g as fun x d=>h x (by simp [cl.xs,d]),h x (by simp [cl.xs])]
 case mnl x as=>
  simp only [ar];rw [g as fun x d=>h x (by simp [cl.xs,d]),h x (by simp [cl.xs])]
 case sl sz x lo hi mx=>
  simp only [ar];rw [h x (by simp [cl.xs]),j lo fun x d=>h x (by simp [cl.xs]at d⊢;simp [d]),j hi fun x d=>h x (by simp [cl.xs]at d⊢;simp [d]),j mx fun x d=>h x (by simp [cl.xs]at d⊢;simp [d])]
 all_goals
  simp only [cl.xs,arc,arx,or_false,forall_eq_or_imp,forall_eq,implies_true,false_imp_iff]at h;simp only [ar,h]
theorem zt {sz:Nat} {H H1:AH} {x:Value} {hi mx:Option Value}:bL sz H1 x none hi mx=bL sz H x none hi mx:=by
 cases x<;>try rfl
 rename_i a len cap;simp only [bL]
 cases b:bm len cap none hi mx with
 |none=>rfl
 |some r=>
  obtain ⟨l,h,m⟩:=r
  have c:l=0:=by
   unfold bm at b;simp only [aq5]at b;obtain ⟨_,_,_,_,_,e,d⟩:=b;simp at e d;omega
  subst c;simp
theorem lQ {p:cl} {g:X→Value} {H H':AH} {r:iH} (d:eB p= .pure) (h:ar p g H=some (r,H')):
 H'=H∧∀H1:AH,ar p g H1=some (r,H1):=by
 cases p
 case sl sz x lo hi mx=>
  cases lo with
  |some l=>simp [eB]at d
  |none=>
   simp only [ar,Option.map_none,aq4]at h⊢;obtain ⟨v,i,e⟩:=h;cases e;exact ⟨rfl,fun H1=>⟨v,zt.trans i,rfl⟩⟩
 case eqk k neg x y=>
  simp only [ar,aq4]at h⊢;obtain ⟨b,f,e⟩:=h;cases e;exact ⟨rfl,fun H1=>⟨b,f,rfl⟩⟩
 case xt k l=>
  cases k<;>first
   |(simp [eB]at d;done)
   |skip
  all_goals
   simp only [ar,ET]at h⊢
   split at h<;>simp_all<;>first
    |(obtain ⟨a,⟨j,b,c,rfl,rfl⟩,h2⟩:=h;exact ⟨rfl,fun _=>⟨_,⟨j,c⟩,h2⟩⟩)
    |(obtain ⟨_,c,_,_⟩:=h;simp_all;done)
    |(obtain ⟨_,_,c,_,_⟩:=h;simp_all;done)
    |skip
 case eqs neg offs x y=>
  simp only [ar]at h⊢;split at h
  · simp only [aq4]at h⊢
    obtain ⟨b,f,e⟩:=h;cases e;exact ⟨rfl,fun H1=>⟨b,f,rfl⟩⟩
  · cases h
 all_goals first
  |(simp [eB]at d;done)
  |(simp only [ar,Bool.cond_eq_ite,aq4]at h⊢
    (repeat' split at h)<;>simp_all<;>try(obtain ⟨_,_,c,h2⟩:=h;simp_all))
theorem iJ {p:cl} {d:X→Value} {H H':AH} {r:iH} (a:eB p= .alloc) (h:ar p d H=some (r,H')):
 ∃aS,H'=H.alloc aS∧∀H1:AH,H1.nx=H.nx→ar p d H1=some (r,H1.alloc aS):=by
 cases p
 case sl sz x lo hi mx=>cases lo<;>simp [eB]at a
 case xt k l=>cases k<;>simp [eB]at a
 all_goals first
  |(simp [eB]at a;done)
  |skip
 case alloc z=>
  simp only [ar,aqV,aq2]at h⊢;obtain ⟨rfl,rfl⟩:=h;exact ⟨_,rfl,fun H1 e=>⟨by rw [e],rfl⟩⟩
 case box x=>
  simp only [ar,Bool.cond_eq_ite]at h⊢;split at h
  ·cases h
  ·rename_i f
   simp only [aqV,aq2]at h;obtain ⟨rfl,rfl⟩:=h;exact ⟨_,rfl,fun H1 e=>by rw [if_neg f,e]⟩
 case bsl len sz z ps=>
  simp only [ar,aq4]at h⊢;obtain ⟨c,b,e⟩:=h;cases e;exact ⟨_,rfl,fun H1 e=>⟨c,b,by rw [e]⟩⟩
 case mkmap=>
  simp only [ar,aqV,aq2]at h⊢;obtain ⟨rfl,rfl⟩:=h;exact ⟨_,rfl,fun H1 e=>⟨by rw [e],rfl⟩⟩
 case mksl sz bytes z x=>
  simp only [ar,Bool.cond_eq_ite]at h⊢;split at h
  ·split at h
   ·rename_i b
    simp only [aqV,aq2]at h;obtain ⟨rfl,rfl⟩:=h;exact ⟨_,rfl,fun H1 e=>by rw [if_pos b,e]⟩
   ·cases h
  ·cases h
theorem mJ {a:Nat}:∀{l m:List Value},aK a l=some m→m.length=l.length
 |[],m,h=>by simp [aK]at h;subst h;rfl
 |v::l,m,h=>by
  simp only [aK]at h;split at h
  ·rename_i x c d b
   cases h;simp [mJ b]
  ·cases h
theorem cW {H:AH} {a:Addr} {n:Nat} {vs:List Value} (h:H.ldn a n=some vs):(H.get a.block).isSome=true∧vs.length=n:=by
 unfold AH.ldn at h;split at h
 case h_2=>cases h
 rename_i z c e b;obtain ⟨d,h⟩:=aw h;simp at d;refine ⟨by simp [b],?_⟩;simp only [Bool.cond_eq_ite]at h;split at h
 ·rw [mJ h];simp;omega
 ·cases h;simp;omega
theorem eC {H H1:AH} {a:Addr} {n:Nat} (b:H1.get a.block=H.get a.block) (c:H1.n0=H.n0):H1.ldn a n=H.ldn a n:=by
 unfold AH.ldn;rw [b,c]
theorem bf {H:AH} {a:Addr} {v:Value}:H.ld a=some v↔H.ldn a 1=some [v]:=by
 unfold AH.ld AH.ldn
 cases g:a.spot with
 |some x=>simp
 |none=>
  cases h:H.get a.block with
  |none=>simp
  |some b=>
   cases b with
   |map es=>simp
   |cells z c=>
    simp only
    cases d:c[a.off]? with
    |none=>
     have:=List.getElem?_eq_none_iff.1 d;have:decide (a.off+1≤c.length)=false:=by simp;omega
     simp [this]
    |some u=>
     have e:=(aq0.1 d).1;have f:decide (a.off+1≤c.length)=true:=by simp;omega
     have h2:List.take 1 (List.drop a.off c)=[u]:=by
      have:=(aq0.1 d).2;rw [List.drop_eq_getElem_cons e,this];rfl
     simp only [f,cond_true,h2]
     cases i:decide (a.block<H.n0)with
     |false=>simp
     |true=>
      simp only [cond_true,aK];cases aU H.n0 u<;>simp
theorem lR {o:AO} {i:Fr} {H H':AH} {r:iH} (f:eB o.o= .load) (h:ar o.o (X.ev i) H=some (r,H')):
 H'=H∧∃a vs,ei o i H=some (a,vs)∧cC o i=some a.block∧H.ldn a vs.length=some vs∧∀H1:AH,H1.ldn a vs.length=some vs→ar o.o (X.ev i) H1=some (r,H1):=by
 obtain ⟨g,d,p⟩:=o;dsimp only at f h;unfold ei cC;dsimp only;cases p
 case sl sz x lo hi mx=>cases lo<;>simp [eB]at f
 case xt k l=>cases k<;>simp [eB]at f
 all_goals first
  |(simp [eB]at f;done)
  |skip
 case ld x=>
  simp only [ar]at h⊢;split at h
  case h_2=>cases h
  rename_i a m;simp only [aq4]at h;obtain ⟨v,b,e⟩:=h;cases e;have c:=bf.1 b;refine ⟨rfl,a,[v],?_,rfl,c,fun H1 j=>?_⟩
  ·rw [c];rfl
  ·rw [bf.2 j];rfl
 case ldn n x=>
  simp only [ar]at h⊢;split at h
  case h_2=>cases h
  rename_i a m;simp only [aq4]at h;obtain ⟨vs,b,e⟩:=h;cases e;have c:=(cW b).2;subst c;refine ⟨rfl,a,vs,?_,rfl,b,fun H1 j=>?_⟩
  ·rw [b];rfl
  ·rw [j];rfl
theorem JU {H H':AH} {a:Addr} {vs:List Value} (h:H.st a vs=some H'):(H.get a.block).isSome=true∧∃z d,H'=H.put a.block (some (.cells z d))∧
 ∀H1:AH,H1.get a.block=H.get a.block→H1.n0=H.n0→H1.st a vs=some (H1.put a.block (some (.cells z d))):=by
 unfold AH.st at h;split at h
 case h_2=>cases h
 rename_i z c e b;obtain ⟨f,h⟩:=aw h;cases h;refine ⟨by simp [b],z,_,rfl,fun H1 g h2=>?_⟩;unfold AH.st;rw [g,h2,b,e];simp only [f,cond_true]
theorem qP {o:AO} {f:Fr} {H H':AH} {r:iH} (c:eB o.o= .st) (h:ar o.o (X.ev f) H=some (r,H')):
 ∃b aS,cC o f=some b∧(H.get b).isSome=true∧H'=H.put b aS∧∀H1:AH,H1.get b=H.get b→H1.n0=H.n0→ar o.o (X.ev f) H1=some (r,H1.put b aS):=by
 obtain ⟨g,d,p⟩:=o;dsimp only at c h;unfold cC;dsimp only;cases p
 case sl sz x lo hi mx=>cases lo<;>simp [eB]at c
 case xt k l=>cases k<;>simp [eB]at c
 all_goals first
  |(simp [eB]at c;done)
  |skip
 case st n x v=>
  simp only [ar]at h⊢;split at h
  case h_2=>cases h
  rename_i a u;obtain ⟨j,h⟩:=aw h;simp only [aq4]at h;obtain ⟨w,h2,e⟩:=h;cases e;obtain ⟨i,z,t,rfl,m⟩:=JU h2;refine ⟨a.block,some (.cells z t),rfl,i,rfl,fun H1 s q=>?_⟩;rw [j,cond_true,m H1 s q];rfl
theorem Fx {H:AH} {b sz:Nat} (h:H.get b=none):H.j9 b sz=false:=by
 unfold AH.j9;rw [h]
theorem lS {o:AO} {s:Fr} {H H':AH} {r:iH} (w:eB o.o= .read) (h:ar o.o (X.ev s) H=some (r,H')):
 H'=H∧∀H1:AH,(∀b,cC o s=some b→(H.get b).isSome=true→H1.get b=H.get b)→H1.n0=H.n0→ar o.o (X.ev s) H1=some (r,H1):=by
 obtain ⟨g,d,p⟩:=o;dsimp only at w h;unfold cC;dsimp only;cases p
 case sl sz x lo hi mx=>
  simp only [ar,aq4]at h⊢;obtain ⟨v,f,e⟩:=h;cases e;refine ⟨rfl,fun H1 j h2=>⟨v,?_,rfl⟩⟩;rw [←f];cases u:x.ev s<;>try rfl
  rename_i a len cap;rw [u]at f j;simp only [bL]at f⊢;split
  ·rfl
  ·cases a with
   |none=>rfl
   |some a=>
    rename_i l G m C;rw [C]at f;simp only at f⊢
    have n:(a.spot.isNone&&(Nat.beq l 0||H1.j9 a.block sz))=(a.spot.isNone&&(Nat.beq l 0||H.j9 a.block sz))∨H.get a.block=none:=by
     cases A:a.spot.isNone with
     |false=>left;simp
     |true=>
      cases i:H.get a.block with
      |none=>exact .inr rfl
      |some b=>
       left;have:=j a.block (by simp [A]) (by simp [i]);unfold AH.j9;rw [this]
    rcases n with n|n
    ·rw [n]
    ·obtain ⟨D,f⟩:=aw f
     rw [D];simp only [cond_true];split
     ·rfl
     ·rename_i B
      rw [if_neg B]at f;obtain ⟨t,f⟩:=aw f;rw [Fx n,Bool.or_false]at t;simp only [aqX]at t;simp [t.1,t.2]
 case look kk z x k ok=>
  simp only [ar]at h⊢;cases u:x.ev s<;>simp only [u]at h⊢<;>try(cases h;done)
  rename_i y
  cases y with
  |none=>
   simp only at h⊢;obtain ⟨j,h⟩:=aw h;cases h;exact ⟨rfl,fun H1 _ _=>by rw [j];rfl⟩
  |some q=>
   simp only at h⊢
   cases i:H.get q with
   |none=>simp [i]at h
   |some b=>
    cases b with
    |cells z c=>simp [i]at h
    |map es=>
     simp only [i]at h;obtain ⟨j,h⟩:=aw h;refine ⟨?_,fun H1 F E=>?_⟩
     ·split at h<;>first|(cases h;rfl)|cases h
     ·have:=F q rfl (by simp [i])
      rw [this,i,E];simp only [j,cond_true];split at h
      ·cases h;rfl
      ·cases h;rfl
      ·cases h
 case xt k l=>cases k<;>simp [eB]at w
 all_goals first
  |(simp [eB]at w;done)
  |skip
theorem Fy:∀{a b:Value},cU a b=true→a=b:=by
 intro a b h;cases a<;>cases b<;>simp [cU]at h<;>simp_all;exact ByteArray.ext h
theorem rK:∀{a b:List Value},eu a b=true→a=b
 |[],[],_=>rfl
 |a::l,b::m,h=>by
  simp only [eu,aqX]at h;rw [Fy h.1,rK h.2]
 |[],_::_,h=>by simp [eu]at h
 |_::_,[],h=>by simp [eu]at h
theorem Db {H:AH} {a:Addr} {vs:List Value} (h:sameAt H (a,vs)=true):H.ldn a vs.length=some vs:=by
 unfold sameAt at h;dsimp only at h;split at h
 ·rename_i m b
  rw [b,rK h]
 ·cases h
theorem FA {x y:Option po} (h:mG x y=true):x=y:=by
 unfold mG at h;split at h
 ·simp only [aqX,Nat.beq_eq]at h
  rw [h.1,rK h.2]
 ·rfl
 ·cases h
open Go
theorem lg {n:Nat}:∀{l:List Nat},wH n l=true↔n∈l
 |[]=>by simp [wH]
 |x::l=>by
  simp only [wH,Bool.or_eq_true,nb,aq6,arc];rw [lg (l:=l)];constructor
  ·rintro (h|h)
   ·exact .inl h.symm
   ·exact .inr h
  ·rintro (h|h)
   ·exact .inl h.symm
   ·exact .inr h
theorem lh {x y:AO} (h:jz x y=true):(∀d,x.d=some d→d∉tmpsOf y)∧(∀d,x.d=some d→y.d≠some d):=by
 unfold jz at h
 cases f:x.d with
 |none=>exact ⟨fun _ h=>(by cases h),fun _ h=>(by cases h)⟩
 |some d=>
  simp only [f,aqX,Bool.not_eq_true']at h;refine ⟨fun e a=>?_,fun e a=>?_⟩
  ·cases a
   intro c;rw [lg.2 c]at h;cases h.1
  ·cases a
   intro b;rw [b]at h;simp at h
theorem Fr.iK {f:Fr} {d:Option Nat} {v:Value} {x:Nat}:(f.aN d v).get x=if d=some x then v else f.get x:=by
 cases d with
 |none=>simp [Fr.aN]
 |some k=>
  simp only [Fr.aN,Fr.bA,aqV];by_cases h:x=k
  ·simp [h]
  ·rw [if_neg h,if_neg (fun e=>h e.symm)]
inductive One (call:Cl) (o:AO) (fr:Fr) (H:AH) (x:Value) (H':AH):Prop where
 |off (h:o.wanted fr=false) (e:x=undef) (e2:H'=H)
 |val (h:o.wanted fr=true) (e:ar o.o (X.ev fr) H=some (.v x,H'))
 |call (h:o.wanted fr=true) (f:Nat) (as:List Value) (H1:AH) (e:ar o.o (X.ev fr) H=some (.enter f as,H1)) (e2:call f as H1=some (x,H'))
theorem dJ {call:Cl} {o:AO} {b k:Fr} {H H':AH}:jw call o b H=some (k,H')↔∃x,k=b.aN o.d x∧One call o b H x H':=by
 unfold jw;constructor
 ·intro h
  cases a:o.wanted b with
  |false=>
   simp only [a,cond_false,aqV,aq2]at h;exact ⟨undef,h.1.symm,.off a rfl h.2.symm⟩
  |true=>
   simp only [a,cond_true]at h
   cases c:ar o.o (X.ev b) H with
   |none=>simp [c]at h
   |some l=>
    obtain ⟨res,j⟩:=l;simp only [c]at h
    cases res with
    |v x=>
     simp only [aqV,aq2]at h;obtain ⟨rfl,rfl⟩:=h;exact ⟨x,rfl,.val a c⟩
    |enter f as=>
     simp only at h
     cases g:call f as j with
     |none=>simp [g]at h
     |some r=>
      obtain ⟨x,m⟩:=r;simp only [g,aqV,aq2]at h;obtain ⟨rfl,rfl⟩:=h;exact ⟨x,rfl,.call a f as j c g⟩
 ·rintro ⟨x,rfl,h⟩
  cases h with
  |off h e i=>subst e;subst i;simp [h]
  |val h e=>simp [h,e]
  |call h f as j e i=>simp [h,e,i]
def qh (o:AO) (fr eV:Fr):Prop:=∀t∈tmpsOf o,eV.get t=fr.get t
theorem qh.ev {o:AO} {b a:Fr} (h:qh o b a):∀x∈o.o.xs,X.ev a x=X.ev b x:=by
 intro x c
 cases x with
 |t n=>
  exact h n (by
   unfold tmpsOf
   exact List.mem_append_right _ (List.mem_filterMap.2 ⟨.t n,c,rfl⟩))
 |k v=>rfl
 |f n=>rfl
theorem qh.wanted {o:AO} {fr a:Fr} (h:qh o fr a):o.wanted a=o.wanted fr:=by
 unfold AO.wanted
 cases d:o.g with
 |none=>rfl
 |some c=>
  obtain ⟨t,b⟩:=c;simp only;rw [h t (by unfold tmpsOf;rw [d];simp)]
theorem qh.one {call:Cl} {o:AO} {e d:Fr} {H H':AH} {x:Value} (h:qh o e d) (k:One call o e H x H'):One call o d H x H':=by
 have g:∀H,ar o.o (X.ev d) H=ar o.o (X.ev e) H:=fun H=>Da h.ev H
 cases k with
 |off a b c=>exact .off (h.wanted.trans a) b c
 |val a b=>exact .val (h.wanted.trans a) ((g _).trans b)
 |call a f as i b c=>exact .call (h.wanted.trans a) f as i ((g _).trans b) c
theorem FB {o:AO} {fr b:Fr} (h:qh o fr b):cC o b=cC o fr:=by
 have a:=h.ev;unfold cC;cases c:o.o<;>simp only [c,cl.xs,arc,arx,or_false,forall_eq_or_imp,forall_eq]at a⊢;all_goals (simp only [a])
structure pg (call:Cl) (O:Nat→AO) (n:Nat) (sF:Nat→Fr) (sH:Nat→AH) (rL:Nat→Nat→Prop):Prop where
 step:∀t,t<n→jw call (O t) (sF t) (sH t)=some (sF (t+1),sH (t+1))
 n0:∀t,t<n→(sH (t+1)).n0=(sH t).n0
 nx:∀t,t<n→(sH t).nx≤(sH (t+1)).nx
 pair:∀p q,p<q→q<n→rL p q∨(jz (O p) (O q)=true∧jz (O q) (O p)=true∧dU (eB (O p).o) (eB (O q).o)=true)
 c0:∀p q,p<q→q<n→¬ rL p q→(O p).wanted (sF p)=true→(O q).wanted (sF q)=true→eB (O p).o= .load→eB (O q).o= .jJ→
  ∃x,ei (O p) (sF p) (sH p)=some x∧sameAt (sH (q+1)) x=true
 c1:∀p q,p<q→q<n→¬ rL p q→(O p).wanted (sF p)=true→(O q).wanted (sF q)=true→eB (O p).o= .alloc→eB (O q).o= .jJ→
  (sH (q+1)).get (sH p).nx=(sH (p+1)).get (sH p).nx
 c2:∀p q,p<q→q<n→¬ rL p q→(O p).wanted (sF p)=true→(O q).wanted (sF q)=true→(eB (O p).o= .load∨eB (O p).o= .read∨eB (O p).o= .st)→eB (O q).o= .st→
  ∀b b',cC (O p) (sF p)=some b→cC (O q) (sF q)=some b'→b≠b'
section
variable{call:Cl} {O:Nat→AO} {n:Nat} {sF:Nat→Fr} {sH:Nat→AH} {rL:Nat→Nat→Prop} (R:pg call O n sF sH rL)
include R
theorem pg.SY (t:Nat) (h:t≤n):(sH t).n0=(sH 0).n0:=by
 induction t with
 |zero=>rfl
 |succ t ih=>exact (R.n0 t (by omega)).trans (ih (by omega))
theorem pg.nxs {t:Nat} (k:Nat) (h:t+k≤n):(sH t).nx≤(sH (t+k)).nx:=by
 induction k with
 |zero=>exact aqY _
 |succ k ih=>exact arh (ih (by omega)) (R.nx (t+k) (by omega))
theorem pg.il {t u:Nat} (h:t≤u) (a:u≤n):(sH t).nx≤(sH u).nx:=by
 have:=R.nxs (t:=t) (u- t) (by omega);rwa [show t+(u- t)=u by omega]at this
omit R in
def uJ (O:Nat→AO) (sF:Nat→Fr) (t:Nat):Value:=(sF (t+1)).get ((O t).d.getD 0)
omit R in
def uK (O:Nat→AO) (sF:Nat→Fr) (S:Nat→Bool):Nat→Fr
 |0=>sF 0
 |t+1=>bif S t then(uK O sF S t).aN (O t).d (uJ O sF t)else uK O sF S t
theorem pg.frame {t:Nat} (a:t<n) (x:Nat):(sF (t+1)).get x=if(O t).d=some x then uJ O sF t else(sF t).get x:=by
 obtain ⟨v,b,_⟩:=dJ.1 (R.step t a);by_cases h:(O t).d=some x
 ·rw [if_pos h]
  unfold uJ;rw [h];rfl
 ·rw [if_neg h,b,Fr.iK,if_neg h]
theorem pg.one {t:Nat} (a:t<n):∃x,One call (O t) (sF t) (sH t) x (sH (t+1))∧∀f:Fr,f.aN (O t).d x=f.aN (O t).d (uJ O sF t):=by
 obtain ⟨v,b,e⟩:=dJ.1 (R.step t a);refine ⟨v,e,fun f=>?_⟩
 cases c:(O t).d with
 |none=>rfl
 |some k=>
  have:uJ O sF t=v:=by
   unfold uJ;rw [b,c];simp [Fr.aN,Fr.bA]
  rw [this]
omit R in
theorem uL {S S':Nat→Bool} {x m:Nat} (h:∀p,p<m→(O p).d=some x→S p=S' p):(uK O sF S m).get x=(uK O sF S' m).get x:=by
 induction m with
 |zero=>rfl
 |succ m ih=>
  have ih:=ih fun p b=>h p (by omega)
  simp only [uK];by_cases a:(O m).d=some x
  ·have:=h m (by omega) a
   rw [this];cases S' m
   ·exact ih
   ·simp only [cond_true,Fr.iK,if_pos a]
  ·cases S m<;>cases S' m<;>simp only [cond_true,cond_false,Fr.iK,if_neg a]<;>exact ih
omit R in
theorem rM {S:Nat→Bool} {x t m:Nat} (f:t≤m) (h:∀p,t≤p→p<m→S p=true→(O p).d≠some x):(uK O sF S m).get x=(uK O sF S t).get x:=by
 induction m with
 |zero=>obtain rfl:t=0:=by omega
        rfl
 |succ m ih=>
  rcases Nat.lt_or_ge m t with a|a
  · obtain rfl:t=m+1:=by omega
    rfl
  · have ih:=ih a fun p c b=>h p c (by omega)
    simp only [uK]
    cases e:S m with
    |false=>exact ih
    |true=>simp only [cond_true,Fr.iK,if_neg (h m a (by omega) e)];exact ih
theorem pg.Bd {m:Nat} (a:m≤n) (x:Nat):(uK O sF (fun _=>true) m).get x=(sF m).get x:=by
 induction m with
 |zero=>rfl
 |succ m ih=>
  rw [R.frame (by omega),uK,cond_true,Fr.iK,ih (by omega)]
omit R in
structure Us (n:Nat) (rL:Nat→Nat→Prop) (S:Nat→Bool) (t:Nat):Prop where
 lt:t<n
 out:S t=false
 rdy:∀p,p<t→rL p t→S p=true
 cls:∀p q,p<q→q<n→S q=true→rL p q→S p=true
variable{S:Nat→Bool} {t:Nat} (C:Us n rL S t)
include C
theorem pg.before {p:Nat} (a:p<t) (c:S p=false):¬ rL p t∧jz (O p) (O t)=true∧jz (O t) (O p)=true∧dU (eB (O p).o) (eB (O t).o)=true:=by
 have b:¬ rL p t:=fun h=>by rw [C.rdy p a h]at c;cases c
 exact ⟨b,(R.pair p t a C.lt).resolve_left b⟩
theorem pg.behind {p:Nat} (b:t<p) (a:p<n) (d:S p=true):¬ rL t p∧jz (O t) (O p)=true∧jz (O p) (O t)=true∧dU (eB (O t).o) (eB (O p).o)=true:=by
 have c:¬ rL t p:=fun h=>by have:=C.cls t p b a d h;rw [C.out]at this;cases this
 exact ⟨c,(R.pair t p b a).resolve_left c⟩
theorem pg.agree:qh (O t) (sF t) (uK O sF S n):=by
 intro x d;rw [rM (t:=t) (Nat.le_of_lt C.lt),←R.Bd (Nat.le_of_lt C.lt)]
 ·refine uL fun p b c=>?_
  cases a:S p with
  |true=>rfl
  |false=>exact absurd d ((lh (R.before C b a).2.1).1 x c)
 ·intro p b e a c
  rcases Nat.lt_or_eq_of_le b with h|h
  ·exact (lh (R.behind C h e a).2.2.1).1 x c d
  ·subst h;rw [C.out]at a;cases a
omit R C in
def ins (S:Nat→Bool) (t:Nat):Nat→Bool:=fun p=>bif Nat.beq p t then true else S p
omit R C in
theorem fJ:ins S t t=true:=by simp [ins]
omit R C in
theorem gZ {p:Nat} (h:p≠t):ins S t p=S p:=by
 unfold ins;rw [nb,decide_eq_false h];rfl
theorem pg.JW (x:Nat):(uK O sF (ins S t) n).get x=((uK O sF S n).aN (O t).d (uJ O sF t)).get x:=by
 rw [Fr.iK];by_cases a:(O t).d=some x
 ·rw [if_pos a,rM (t:=t+1) C.lt]
  ·rw [uK,fJ,cond_true,Fr.iK,if_pos a]
  ·intro p f c b
   rw [gZ (by omega)]at b;have:=(lh (R.behind C (by omega) c b).2.1).2 x a;exact this
 ·rw [if_neg a]
  refine uL fun p f g=>?_
  exact gZ (fun e=>a (e▸g))
end
end
section
open Go
inductive Dc (O:Nat→AO) (sF:Nat→Fr) (sH:Nat→AH) (t b:Nat):Prop where
 |alloc (w:(O t).wanted (sF t)=true) (k:eB (O t).o= .alloc) (e:b=(sH t).nx)
 |st (w:(O t).wanted (sF t)=true) (k:eB (O t).o= .st) (e:cC (O t) (sF t)=some b)
 |jJ (w:(O t).wanted (sF t)=true) (k:eB (O t).o= .jJ)
open Classical in
noncomputable def gS (O:Nat→AO) (sF:Nat→Fr) (sH:Nat→AH) (S:Nat→Bool):Nat→Nat→Option po
 |0=>(sH 0).raw
 |t+1=>fun b=>if S t=true∧Dc O sF sH t b then(sH (t+1)).raw b else gS O sF sH S t b
noncomputable def gB (O:Nat→AO) (sF:Nat→Fr) (sH:Nat→AH) (S:Nat→Bool):Nat→Option (Nat×ByteArray)
 |0=>(sH 0).bs
 |t+1=>if S t=true∧(O t).wanted (sF t)=true∧eB (O t).o= .jJ then(sH (t+1)).bs else gB O sF sH S t
noncomputable def wx (O:Nat→AO) (sF:Nat→Fr) (sH:Nat→AH) (S:Nat→Bool) (m nx:Nat):AH:=⟨gS O sF sH S m,(sH 0).n0,nx,.nil,gB O sF sH S m⟩
section
variable{call:Cl} {O:Nat→AO} {n:Nat} {sF:Nat→Fr} {sH:Nat→AH} {rL:Nat→Nat→Prop}
theorem Be (S:Nat→Bool) (m a b:Nat):(wx O sF sH S m a).raw b=gS O sF sH S m b:=rfl
theorem lT (S:Nat→Bool) (m a b:Nat) (h:b<a):(wx O sF sH S m a).get b=gS O sF sH S m b:=by
 rw [AH.eA (by exact h)];rfl
theorem Bf {S S':Nat→Bool} {b m:Nat} (h:∀p,p<m→Dc O sF sH p b→S p=S' p):gS O sF sH S m b=gS O sF sH S' m b:=by
 induction m with
 |zero=>rfl
 |succ m ih=>
  have ih:=ih fun p c=>h p (by omega)
  simp only [gS];by_cases a:Dc O sF sH m b
  ·rw [h m (by omega) a,ih]
  ·rw [if_neg (fun e=>a e.2),if_neg (fun e=>a e.2),ih]
theorem qQ {S:Nat→Bool} {b t m:Nat} (f:t≤m) (h:∀p,t≤p→p<m→S p=true→¬ Dc O sF sH p b):gS O sF sH S m b=gS O sF sH S t b:=by
 induction m with
 |zero=>obtain rfl:t=0:=by omega
        rfl
 |succ m ih=>
  rcases Nat.lt_or_ge m t with a|a
  · obtain rfl:t=m+1:=by omega
    rfl
  · have ih:=ih a fun p d c=>h p d (by omega)
    simp only [gS];rw [if_neg (fun e=>h m a (by omega) e.1 e.2),ih]
theorem Bg {S S':Nat→Bool} {m:Nat} (h:∀p,p<m→(O p).wanted (sF p)=true→eB (O p).o= .jJ→S p=S' p):gB O sF sH S m=gB O sF sH S' m:=by
 induction m with
 |zero=>rfl
 |succ m ih=>
  have ih:=ih fun p b=>h p (by omega)
  simp only [gB];by_cases a:(O m).wanted (sF m)=true∧eB (O m).o= .jJ
  ·rw [h m (by omega) a.1 a.2,ih]
  ·rw [if_neg (fun e=>a e.2),if_neg (fun e=>a e.2),ih]
theorem uM {S:Nat→Bool} {t m:Nat} (d:t≤m) (h:∀p,t≤p→p<m→S p=true→(O p).wanted (sF p)=true→eB (O p).o≠ .jJ):gB O sF sH S m=gB O sF sH S t:=by
 induction m with
 |zero=>obtain rfl:t=0:=by omega
        rfl
 |succ m ih=>
  rcases Nat.lt_or_ge m t with a|a
  · obtain rfl:t=m+1:=by omega
    rfl
  · have ih:=ih a fun p c b=>h p c (by omega)
    simp only [gB];rw [if_neg (fun e=>h m a (by omega) e.1 e.2.1 e.2.2),ih]
variable(R:pg call O n sF sH rL)
include R
theorem pg.Pj {t:Nat} (g:t<n) (h:¬ ((O t).wanted (sF t)=true∧eB (O t).o= .jJ)):(sH (t+1)).bs=(sH t).bs:=by
 obtain ⟨x,i,_⟩:=R.one g
 cases i with
 |off a e d=>rw [d]
 |call a f as j e d=>exact absurd ⟨a,iD e⟩ h
 |val a e=>
  cases b:eB (O t).o with
  |pure=>rw [(lQ b e).1]
  |load=>rw [(lR b e).1]
  |read=>rw [(lS b e).1]
  |jJ=>exact absurd ⟨a,b⟩ h
  |alloc=>
   obtain ⟨aS,d,_⟩:=iJ b e;rw [d];rfl
  |st=>
   obtain ⟨c,aS,h2,_,d,_⟩:=qP b e;rw [d];rfl
theorem pg.FC {m:Nat} (a:m≤n):gB O sF sH (fun _=>true) m=(sH m).bs:=by
 induction m with
 |zero=>rfl
 |succ m ih=>
  simp only [gB];by_cases h:(O m).wanted (sF m)=true∧eB (O m).o= .jJ
  ·rw [if_pos (by first|exact ⟨rfl,h⟩|exact ⟨trivial,h⟩)]
  ·rw [if_neg (fun e=>h e.2),ih (by omega),R.Pj (by omega) h]
theorem pg.still {t:Nat} (j:t<n) {b:Nat} (h:¬ Dc O sF sH t b):(sH (t+1)).raw b=(sH t).raw b:=by
 obtain ⟨x,k,_⟩:=R.one j
 cases k with
 |off a e g=>rw [g]
 |call a f as l e g=>exact absurd (.jJ a (iD e)) h
 |val a e=>
  cases d:eB (O t).o with
  |pure=>rw [(lQ d e).1]
  |load=>rw [(lR d e).1]
  |read=>rw [(lS d e).1]
  |jJ=>exact absurd (.jJ a d) h
  |alloc=>
   obtain ⟨aS,g,_⟩:=iJ d e;rw [g,AH.cq,if_neg];exact fun i=>h (.alloc a d i)
  |st=>
   obtain ⟨c,aS,h2,_,g,_⟩:=qP d e;rw [g,AH.cy,if_neg];intro i;subst i;exact h (.st a d h2)
theorem pg.FD {m:Nat} (a:m≤n) (b:Nat):gS O sF sH (fun _=>true) m b=(sH m).raw b:=by
 induction m with
 |zero=>rfl
 |succ m ih=>
  simp only [gS];by_cases h:Dc O sF sH m b
  ·rw [if_pos ⟨rfl,h⟩]
  ·rw [if_neg (fun e=>h e.2),ih (by omega),R.still (by omega) h]
theorem pg.dH {t:Nat} (c:t<n) (w:(O t).wanted (sF t)=true) (k:eB (O t).o= .alloc):(sH (t+1)).nx=(sH t).nx+1:=by
 obtain ⟨x,d,_⟩:=R.one c
 cases d with
 |off a e b=>rw [w]at a;cases a
 |call a f as g e b=>rw [iD e]at k;cases k
 |val a e=>
  obtain ⟨aS,b,_⟩:=iJ k e;rw [b];rfl
structure Dom (O:Nat→AO) (n:Nat) (sF:Nat→Fr) (sH:Nat→AH) (S:Nat→Bool) (Dm:Nat→Prop):Prop where
 FF:∀b,Dm b→b<(sH 0).nx∨∃t,t<n∧S t=true∧(sH t).nx≤b∧b<(sH (t+1)).nx
 sts:∀p,p<n→S p=true→(O p).wanted (sF p)=true→eB (O p).o= .st→∀b,cC (O p) (sF p)=some b→Dm b
variable{S:Nat→Bool} {Dm:Nat→Prop} (D:Dom O n sF sH S Dm)
include D
theorem pg.uN {p:Nat} (c:p<n) (d:S p=false) (w:(O p).wanted (sF p)=true) (k:eB (O p).o= .alloc):¬ Dm (sH p).nx:=by
 intro h;rcases D.FF _ h with h|⟨t,e,b,f,h2⟩
 ·have:=R.il (aro p) (by omega);omega
 ·rcases Nat.lt_trichotomy t p with a|a|a
  ·have:=R.il (show t+1≤p by omega) (by omega);omega
  ·subst a;rw [d]at b;cases b
  ·have:=R.il (show p+1≤t by omega) (by omega)
   rw [R.dH c w k]at this;omega
variable{t:Nat} (C:Us n rL S t)
include C
theorem pg.ahead {b:Nat} (j:Dm b) (h:∀p,p<t→S p=false→(O p).wanted (sF p)=true→eB (O p).o= .st→eB (O t).o= .st→cC (O p) (sF p)≠some b):gS O sF sH S t b=(sH t).raw b:=by
 rw [←R.FD (Nat.le_of_lt C.lt)];refine Bf fun p d g=>?_
 cases f:S p with
 |true=>rfl
 |false=>
  exfalso;obtain ⟨_,_,_,a⟩:=R.before C d f;have i:p<n:=Nat.lt_trans d C.lt
  cases g with
  |alloc w k e=>subst e;exact R.uN D i f w k j
  |st w k e=>
   rw [k]at a
   cases c:eB (O t).o<;>rw [c]at a<;>first
    |(simp [dU,yQ.jy]at a;done)
    |exact h p d f w k c e
  |jJ w k=>
   rw [k]at a;cases c:eB (O t).o<;>rw [c]at a<;>simp [dU,yQ.jy]at a
theorem pg.load {a:Addr} {vs:List Value} (w:(O t).wanted (sF t)=true) (k:eB (O t).o= .load) (A:ei (O t) (sF t) (sH t)=some (a,vs)) (E:cC (O t) (sF t)=some a.block) (f:(sH t).ldn a vs.length=some vs) (B:Dm a.block):
 (wx O sF sH S n (sH n).nx).ldn a vs.length=some vs:=by
 have l:a.block<(sH t).nx:=by
  obtain ⟨x,s⟩:=arz.1 (cW f).1;exact AH.aQ s
 have key:∀m,t≤m→m≤n→(wx O sF sH S m (sH n).nx).ldn a vs.length=some vs:=by
  intro m z
  induction m with
  |zero=>
   intro v;obtain rfl:t=0:=by omega
   rw [←f];refine eC ?_ rfl;rw [lT _ _ _ _ (by have:=R.il (aro n) (aqY _);omega),AH.eA l];rfl
  |succ m ih=>
   intro v;rcases Nat.lt_or_eq_of_le z with q|q
   ·have ih:=ih (by omega) (by omega)
    have h:a.block<(sH n).nx:=by have:=R.il (Nat.le_of_lt C.lt) (aqY _);omega
    by_cases b:S m=true∧Dc O sF sH m a.block
    ·obtain ⟨b,u⟩:=b
     have g:t<m:=by
      rcases Nat.lt_or_eq_of_le (show t≤m by omega)with h2|h2
      ·exact h2
      ·subst h2;rw [C.out]at b;cases b
     obtain ⟨j,_,_,y⟩:=R.behind C g (by omega) b
     cases u with
     |alloc c d e=>
      have:=R.il (show t≤m by omega) (by omega);omega
     |st c d e=>exact absurd rfl (R.c2 t m g (by omega) j w c (.inl k) d a.block a.block E e)
     |jJ c d=>
      obtain ⟨x,r,G⟩:=R.c0 t m g (by omega) j w c k d;rw [A]at r;cases r;have F:=Db G;rw [←F];refine eC ?_ (R.SY (m+1) (by omega)).symm;rw [lT _ _ _ _ h];have:a.block<(sH (m+1)).nx:=by have:=R.il (show t≤m+1 by omega) (by omega);omega
      rw [AH.eA this];simp only [gS];rw [if_pos ⟨b,.jJ c d⟩]
    ·rw [←ih]
     refine eC ?_ rfl;rw [lT _ _ _ _ h,lT _ _ _ _ h];simp only [gS];rw [if_neg b]
   ·subst q
    rw [←f];refine eC ?_ (R.SY _ (by omega)).symm;rw [lT _ _ _ _ (by have:=R.il (show m+1≤n by omega) (aqY _);omega),AH.eA l];exact R.ahead D C B fun p H b c d i=>by rw [k]at i;cases i
 exact key n (Nat.le_of_lt C.lt) (aqY _)
theorem pg.look {b:Nat} (w:(O t).wanted (sF t)=true) (k:eB (O t).o= .read∨eB (O t).o= .st) (l:cC (O t) (sF t)=some b) (s:((sH t).get b).isSome=true) (v:Dm b):
 (wx O sF sH S n (sH n).nx).get b=(sH t).get b:=by
 have u:b<(sH t).nx:=by
  obtain ⟨x,q⟩:=arz.1 s;exact AH.aQ q
 rw [lT _ _ _ _ (by have:=R.il (Nat.le_of_lt C.lt) (aqY _);omega),AH.eA u,qQ (t:=t) (Nat.le_of_lt C.lt)]
 ·refine R.ahead D C v fun p g f c a m e=>?_
  obtain ⟨h,_⟩:=R.before C g f;exact absurd rfl (R.c2 p t g C.lt h c w (.inr (.inr a)) m b b e l)
 ·intro p g j f r
  have d:t<p:=by
   rcases Nat.lt_or_eq_of_le g with h2|h2
   ·exact h2
   ·subst h2;rw [C.out]at f;cases f
  obtain ⟨h,_,_,i⟩:=R.behind C d j f
  cases r with
  |alloc c a e=>
   have:=R.il (show t≤p by omega) (by omega);omega
  |st c a e=>
   exact absurd rfl (R.c2 t p d j h w c (.inr k) a b b l e)
  |jJ c a=>
   rw [a]at i;rcases k with k|k<;>rw [k]at i<;>simp [dU,yQ.jy]at i
omit R D C in
theorem py {b:Nat} (h:¬ Dc O sF sH t b):gS O sF sH (ins S t) n b=gS O sF sH S n b:=
 Bf fun p c a=>gZ (fun e=>h (e▸a))
theorem pg.rN {b:Nat} (h:Dc O sF sH t b):gS O sF sH (ins S t) n b=(sH (t+1)).raw b:=by
 have stop:(∀p,t<p→p<n→S p=true→¬ Dc O sF sH p b)→gS O sF sH (ins S t) n b=(sH (t+1)).raw b:=by
  intro u;rw [qQ (t:=t+1) C.lt]
  ·simp only [gS]
   rw [if_pos ⟨fJ,h⟩]
  ·intro p i g a
   rw [gZ (by omega)]at a;exact u p (by omega) g a
 cases h with
 |jJ w k=>
  refine stop fun p i g a l=>?_
  obtain ⟨q,_,_,d⟩:=R.behind C i g a;rw [k]at d;cases s:eB (O p).o<;>rw [s]at d<;>simp [dU,yQ.jy]at d
 |st w k e=>
  refine stop fun p i g a l=>?_
  obtain ⟨q,_,_,d⟩:=R.behind C i g a
  cases l with
  |alloc f c j=>rw [k,c]at d;simp [dU,yQ.jy]at d
  |jJ f c=>rw [k,c]at d;simp [dU,yQ.jy]at d
  |st f c j=>exact absurd rfl (R.c2 t p i g q w f (.inr (.inr k)) c b b e j)
 |alloc w k e=>
  have key:∀m,t+1≤m→m≤n→gS O sF sH (ins S t) m b=(sH (t+1)).raw b:=by
   intro m d
   induction m with
   |zero=>omega
   |succ m ih=>
    intro x;rcases Nat.lt_or_eq_of_le d with v|v
    ·have ih:=ih (by omega) (by omega)
     simp only [gS];by_cases a:ins S t m=true∧Dc O sF sH m b
     ·rw [if_pos a]
      obtain ⟨a,l⟩:=a;rw [gZ (by omega)]at a;obtain ⟨q,_,_,_⟩:=R.behind C (show t<m by omega) (by omega) a
      cases l with
      |alloc f c j=>
       have h2:=R.il (show t+1≤m by omega) (by omega);rw [R.dH C.lt w k]at h2;omega
      |st f c j=>
       have:=D.sts m (by omega) a f c b j;subst e;exact absurd this (R.uN D C.lt C.out w k)
      |jJ f c=>
       have r:=R.c1 t m (by omega) (by omega) q w f k c;have h2:=R.dH C.lt w k;have y:=R.il (show t+1≤m+1 by omega) (by omega);rw [AH.eA (by omega),AH.eA (by omega)]at r;rw [e];exact r
     ·rw [if_neg a,ih]
    ·have:m=t:=by omega
     subst this;simp only [gS];rw [if_pos ⟨fJ,.alloc w k e⟩]
  exact key n C.lt (aqY _)
end
end
section
open Go
section
variable{call:Cl} {O:Nat→AO} {n:Nat} {sF:Nat→Fr} {sH:Nat→AH} {rL:Nat→Nat→Prop}
structure Step (call:Cl) (O:Nat→AO) (n:Nat) (sF:Nat→Fr) (sH:Nat→AH) (S:Nat→Bool) (Dm:Nat→Prop) (t:Nat) (Hx Hy:AH):Prop where
 run:jw call (O t) (uK O sF S n) Hx=some ((uK O sF S n).aN (O t).d (uJ O sF t),Hy)
 pre:∀b,Dm b→Hx.raw b=gS O sF sH S n b
 n0x:Hx.n0=(sH 0).n0
 post:∀b,gS O sF sH (ins S t) n b=Hy.raw b
 n0y:Hy.n0=(sH 0).n0
 bsx:Hx.bs=gB O sF sH S n
 bsy:gB O sF sH (ins S t) n=Hy.bs
 lo:(sH 0).nx≤Hx.nx
 hi:Hy.nx≤(sH n).nx
 out:¬ Dm Hx.nx
 fresh:eB (O t).o= .jJ→∀b,Hx.nx≤b→¬ Dm b
 new:∀b,Hx.nx≤b→b<Hy.nx→(sH t).nx≤b∧b<(sH (t+1)).nx
variable(R:pg call O n sF sH rL) {S:Nat→Bool} {Dm:Nat→Prop} (D:Dom O n sF sH S Dm) {t:Nat} (C:Us n rL S t)
include R D
theorem pg.qR {b:Nat} (h:(sH n).nx≤b):¬ Dm b:=by
 intro a;rcases D.FF b a with c|⟨p,d,_,c,h2⟩
 ·have:=R.il (aro n) (aqY _);omega
 ·have:=R.il (show p+1≤n by omega) (aqY _);omega
include C
omit R D C in
theorem zu (h:¬ ((O t).wanted (sF t)=true∧eB (O t).o= .jJ)):gB O sF sH (ins S t) n=gB O sF sH S n:=
 Bg fun p _ w k=>gZ (fun e=>h (e▸⟨w,k⟩))
theorem pg.same {x:Value} (c:∀f:Fr,f.aN (O t).d x=f.aN (O t).d (uJ O sF t)) (a:∀b,¬ Dc O sF sH t b)
 (h:One call (O t) (sF t) (wx O sF sH S n (sH n).nx) x (wx O sF sH S n (sH n).nx)):Step call O n sF sH S Dm t (wx O sF sH S n (sH n).nx) (wx O sF sH S n (sH n).nx)where
 run:=dJ.2 ⟨x,(c _).symm,(R.agree C).one h⟩
 pre:=fun b _=>rfl
 n0x:=rfl
 post:=fun b=>py (a b)
 n0y:=rfl
 bsx:=rfl
 bsy:=zu fun e=>a 0 (.jJ e.1 e.2)
 lo:=R.il (aro n) (aqY _)
 hi:=aqY _
 out:=R.qR D (aqY _)
 fresh:=fun _ b g=>R.qR D g
 new:=fun b i h2=>by omega
theorem pg.Pk (I:(O t).wanted (sF t)=true→∀b,cC (O t) (sF t)=some b→Dm b):∃L Hy,Step call O n sF sH S Dm t L Hy:=by
 obtain ⟨x,z,r⟩:=R.one C.lt;have Y:=R.il (show t+1≤n from C.lt) (aqY _);have X:=R.il (show t≤n by have:=C.lt;omega) (aqY _);have Q:=R.il (aro t) (Nat.le_of_lt C.lt);have N:(wx O sF sH S n (sH n).nx).n0=(sH t).n0:=(R.SY t (Nat.le_of_lt C.lt)).symm
 have T:(O t).wanted (sF t)=true→eB (O t).o= .jJ→∃L Hy,Step call O n sF sH S Dm t L Hy:=by
  intro w k
  have B:∀p,t<p→p<n→S p=true→False:=by
   intro p l u g;obtain ⟨_,_,_,y⟩:=R.behind C l u g;rw [k]at y;cases d:eB (O p).o<;>rw [d]at y<;>simp [dU,yQ.jy]at y
  have fresh:∀b,(sH t).nx≤b→¬ Dm b:=by
   intro b j W;rcases D.FF b W with h2|⟨p,l,g,h2,q⟩
   ·omega
   ·rcases Nat.lt_trichotomy p t with i|i|i
    ·have:=R.il (show p+1≤t by omega) (Nat.le_of_lt C.lt);omega
    ·subst i;rw [C.out]at g;cases g
    ·exact B p i l g
  have K:(sH t).bs=gB O sF sH S n:=by
   rw [uM (t:=t) (Nat.le_of_lt C.lt),←R.FC (Nat.le_of_lt C.lt)]
   ·refine Bg fun p l F E=>?_
    cases g:S p with
    |true=>rfl
    |false=>
     obtain ⟨_,_,_,y⟩:=R.before C l g;rw [k,E]at y;simp [dU,yQ.jy]at y
   ·intro p l u g F E
    rcases Nat.lt_or_eq_of_le l with i|i
    ·exact B p i u g
    ·subst i;rw [C.out]at g;cases g
  have J:gB O sF sH (ins S t) n=(sH (t+1)).bs:=by
   rw [uM (t:=t+1) C.lt]
   ·simp only [gB]
    rw [if_pos ⟨fJ,w,k⟩]
   ·intro p l u g F E
    rw [gZ (by omega)]at g;exact B p (by omega) u g
  refine ⟨sH t,sH (t+1),?_,?_,R.SY t (Nat.le_of_lt C.lt),?_,R.SY (t+1) C.lt,K,J,Q,Y,fresh _ (aqY _),fun _=>fresh,fun b h2 q=>⟨h2,q⟩⟩
  ·exact dJ.2 ⟨x,(r _).symm,(R.agree C).one z⟩
  ·intro b j
   rw [qQ (t:=t) (Nat.le_of_lt C.lt)]
   ·exact (R.ahead D C j fun p l g F E M=>by rw [k]at M;cases M).symm
   ·intro p l u g
    rcases Nat.lt_or_eq_of_le l with i|i
    ·exact (B p i u g).elim
    ·subst i;rw [C.out]at g;cases g
  ·intro b
   exact R.rN D C (.jJ w k)
 cases z with
 |off w e A=>
  exact ⟨_,_,R.same D C r (fun b s=>by
   have:(O t).wanted (sF t)=true:=by cases s<;>assumption
   rw [w]at this
   cases this) (.off w e rfl)⟩
 |call w f as H1 e A=>exact T w (iD e)
 |val w e=>
  have quiet:(eB (O t).o≠ .alloc)→(eB (O t).o≠ .st)→(eB (O t).o≠ .jJ)→∀b,¬ Dc O sF sH t b:=by
   intro h2 q i b s
   cases s with
   |alloc _ k _=>exact h2 k
   |st _ k _=>exact q k
   |jJ _ k=>exact i k
  cases d:eB (O t).o with
  |jJ=>exact T w d
  |pure=>
   exact ⟨_,_,R.same D C r (quiet (by simp [d]) (by simp [d]) (by simp [d])) (.val w ((lQ d e).2 _))⟩
  |load=>
   obtain ⟨_,a,Z,V,m,U,v⟩:=lR d e;exact ⟨_,_,R.same D C r (quiet (by simp [d]) (by simp [d]) (by simp [d])) (.val w (v _ (R.load D C w d V m U (I w _ m))))⟩
  |read=>
   obtain ⟨_,v⟩:=lS d e;exact ⟨_,_,R.same D C r (quiet (by simp [d]) (by simp [d]) (by simp [d])) (.val w (v _ (fun b m G=>R.look D C w (.inl d) m G (I w _ m)) N))⟩
  |st=>
   obtain ⟨c,aS,m,G,A,v⟩:=qP d e;have q:=v (wx O sF sH S n (sH n).nx) (R.look D C w (.inr d) m G (I w _ m)) N;have H:One call (O t) (sF t) (wx O sF sH S n (sH n).nx) x ((wx O sF sH S n (sH n).nx).put c aS):=.val w q;refine ⟨_,_,dJ.2 ⟨x,(r _).symm,(R.agree C).one H⟩,fun b _=>rfl,rfl,fun b=>?_,rfl,rfl,zu (fun e=>by rw [d]at e;cases e.2),R.il (aro n) (aqY _),aqY _,R.qR D (aqY _),fun _ b j=>R.qR D j,fun b z h2=>?_⟩
   ·rw [AH.cy]
    by_cases j:b=c
    ·subst j
     rw [if_pos rfl,R.rN D C (.st w d m),A,AH.cy,if_pos rfl]
    ·rw [if_neg j,py]
     ·rfl
     ·intro s
      cases s with
      |alloc _ k _=>rw [d]at k;cases k
      |jJ _ k=>rw [d]at k;cases k
      |st _ _ e=>rw [m]at e;cases e;exact j rfl
   ·have:b<(sH n).nx:=h2
    have:(sH n).nx≤b:=z;omega
  |alloc=>
   obtain ⟨aS,A,v⟩:=iJ d e;have q:=v (wx O sF sH S n (sH t).nx) rfl;have H:One call (O t) (sF t) (wx O sF sH S n (sH t).nx) x ((wx O sF sH S n (sH t).nx).alloc aS):=.val w q;have zw:=R.dH C.lt w d;refine ⟨_,_,dJ.2 ⟨x,(r _).symm,(R.agree C).one H⟩,fun b _=>rfl,rfl,fun b=>?_,rfl,rfl,zu (fun e=>by rw [d]at e;cases e.2),Q,?_,R.uN D C.lt C.out w d,fun h=>?_,fun b z h2=>?_⟩
   ·rw [AH.cq]
    by_cases j:b=(wx O sF sH S n (sH t).nx).nx
    ·have P:b=(sH t).nx:=j
     rw [if_pos j,R.rN D C (.alloc w d P),A,AH.cq,if_pos P]
    ·rw [if_neg j,py]
     ·rfl
     ·intro s
      cases s with
      |alloc _ k e=>exact j e
      |jJ _ k=>rw [d]at k;cases k
      |st _ k e=>rw [d]at k;cases k
   ·show(sH t).nx+1≤_
    omega
   ·rw [d]at h;cases h
   ·have rB:(sH t).nx≤b:=z
    have wN:b<(sH t).nx+1:=h2;omega
end
end
section
open Go
theorem uO {α:Type}:∀(l:List α) (n:Nat),nth l n=l[n]?
 |[],n=>by simp [nth]
 |x::l,0=>by simp [nth]
 |x::l,n+1=>by simp [nth,uO l n]
theorem pA {call:Cl}:∀(l:List AO) (a:Fr) (H:AH) (b:List (Fr×AH)),jx call l a H=some b→
 b.length=l.length∧fH (a,H) b=(((a,H)::b)[l.length]?).getD (a,H)∧
 ∀t o,l[t]?=some o→∃s d,((a,H)::b)[t]?=some s∧((a,H)::b)[t+1]?=some d∧jw call o s.1 s.2=some d
 |[],a,H,b,h=>by
  simp only [jx,aqV]at h;subst h;exact ⟨rfl,rfl,fun t o h=>(by simp at h)⟩
 |o::l,a,H,b,h=>by
  simp only [jx]at h
  cases f:jw call o a H with
  |none=>simp [f]at h
  |some r=>
   obtain ⟨g,i⟩:=r;simp only [f]at h
   cases h2:jx call l g i with
   |none=>simp [h2]at h
   |some c=>
    simp only [h2,aqV]at h;subst h;obtain ⟨j,p,n⟩:=pA l g i c h2;refine ⟨by simp [j],?_,fun t k e=>?_⟩
    ·simp only [fH,p,List.length_cons,List.getElem?_cons_succ]
     cases m:((g,i)::c)[l.length]? with
     |some q=>rfl
     |none=>
      have:=List.getElem?_eq_none_iff.1 m;simp only [List.length_cons,j]at this;omega
    ·cases t with
     |zero=>
      simp only [aqT,aqV]at e;subst e;exact ⟨_,_,rfl,rfl,f⟩
     |succ t=>
      obtain ⟨s,d,w,v,u⟩:=n t k (by simpa using e);exact ⟨s,d,by simpa using w,by simpa using v,u⟩
theorem mZ:∀(l:List (Fr×AH)),chain l=true→∀t s c,l[t]?=some s→l[t+1]?=some c→c.2.n0=s.2.n0∧s.2.nx≤c.2.nx
 |[],_,t,s,c,h,_=>by simp at h
 |[a],_,t,s,c,_,h=>by simp at h
 |a::b::l,d,t,s,c,e,h2=>by
  simp only [chain,aqX,nb,aq6,Nat.ble_eq]at d
  cases t with
  |zero=>
   simp at e h2;subst e;subst h2;exact ⟨d.1.1.symm,d.1.2⟩
  |succ t=>exact mZ (b::l) d.2 t s c (by simpa using e) (by simpa using h2)
theorem ke {l:List AO} {f:List (List Nat)}:∀(ord:List Nat) (am:List (Nat×Nat)) (t:Nat) (r:Row),(lb l f ord am)[t]?=some r→
 l[r.j]?=some r.o∧r.k=eB r.o.o∧f[r.j]?=some r.dep∧
  ∀i,r.m.testBit i=true→∃e∈r.dep,e=i∨(∃q<t,∃r':Row,(lb l f ord am)[q]?=some r'∧r'.j=e∧r'.m.testBit i=true)∨(tM e am).testBit i=true
 |[],am,t,r,h=>by simp [lb]at h
 |j::ord,am,t,r,h=>by
  simp only [lb]at h⊢
  cases c:nth l j with
  |none=>simp [c]at h
  |some o=>
   cases n:nth f j with
   |none=>simp [c,n]at h
   |some d=>
    simp only [c,n]at h⊢
    cases t with
    |zero=>
     simp only [aqT,aqV]at h;subst h;refine ⟨by rw [←uO];exact c,rfl,by rw [←uO];exact n,fun i hi=>?_⟩
     have key:∀(d:List Nat),(mV am d).testBit i=true→∃e∈d,e=i∨(tM e am).testBit i=true:=by
      intro d
      induction d with
      |nil=>intro h;simp [mV]at h
      |cons e d ih=>
       intro h;simp only [mV,Nat.testBit_or,Bool.or_eq_true]at h;rcases h with h|h|h
       ·obtain ⟨y,b,h2⟩:=ih h
        exact ⟨y,List.mem_cons_of_mem _ b,h2⟩
       ·refine ⟨e,List.mem_cons_self,.inl ?_⟩
        rw [Nat.one_shiftLeft,Nat.testBit_two_pow]at h
        simpa using h
       ·exact ⟨e,List.mem_cons_self,.inr h⟩
     obtain ⟨e,b,h2⟩:=key d hi;exact ⟨e,b,h2.imp id .inr⟩
    |succ t=>
     simp only [List.getElem?_cons_succ]at h;obtain ⟨b,h2,x,w⟩:=ke ord _ t r h;refine ⟨b,h2,x,fun i hi=>?_⟩;obtain ⟨e,p,a⟩:=w i hi;refine ⟨e,p,?_⟩;rcases a with a|⟨q,z,r',v,u,s⟩|a
     ·exact .inl a
     ·exact .inr (.inl ⟨q+1,by omega,r',by simpa using v,u,s⟩)
     ·simp only [tM,nb,Bool.cond_decide]at a
      split at a
      ·rename_i g
       exact .inr (.inl ⟨0,by omega,_,rfl,g,a⟩)
      ·exact .inr (.inr a)
theorem rP:∀(rs:List Row) (done:List Nat),AU rs done=true→∀(t:Nat) (r:Row),rs[t]?=some r→
 (r.j∉done∧∀(q:Nat) (r':Row),q<t→rs[q]?=some r'→r'.j≠r.j)∧∀e∈r.dep,e∈done∨∃q<t,∃r':Row,rs[q]?=some r'∧r'.j=e
 |[],_,_,t,r,h=>by simp at h
 |y::rs,done,h,t,r,a=>by
  simp only [AU,aqX,Bool.not_eq_true',ara]at h;obtain ⟨⟨k,h2⟩,p⟩:=h
  cases t with
  |zero=>
   simp only [aqT,aqV]at a;subst a;refine ⟨⟨fun c=>?_,fun q _ g=>by omega⟩,fun e d=>.inl (lg.1 (h2 e d))⟩;rw [lg.2 c]at k;cases k
  |succ t=>
   simp only [List.getElem?_cons_succ]at a;obtain ⟨⟨i,o⟩,n⟩:=rP rs _ p t r a;refine ⟨⟨fun c=>i (List.mem_cons_of_mem _ c),fun q r' g b=>?_⟩,fun e d=>?_⟩
   ·cases q with
    |zero=>
     simp only [aqT,aqV]at b;subst b;exact fun e=>i (by rw [←e];exact List.mem_cons_self)
    |succ q=>exact o q r' (by omega) (by simpa using b)
   ·rcases n e d with f|⟨q,g,r',m,l⟩
    ·rcases arc.1 f with rfl|f
     ·exact .inr ⟨0,by omega,y,rfl,rfl⟩
     ·exact .inl f
    ·exact .inr ⟨q+1,by omega,r',by simpa using m,l⟩
theorem Bi:∀(rs:List Row),pw rs=true→∀(p q:Nat) (x y:Row),p<q→rs[p]?=some x→rs[q]?=some y→EV x y=true
 |[],_,p,q,x,y,_,h,_=>by simp at h
 |z::rs,h,p,q,x,y,c,b,a=>by
  simp only [pw,aqX,ara]at h
  cases q with
  |zero=>omega
  |succ q=>
   simp only [List.getElem?_cons_succ]at a
   cases p with
   |zero=>
    simp only [aqT,aqV]at b;subst b;exact h.1 y (aqZ a)
   |succ p=>exact Bi rs h.2 p q x y (by omega) (by simpa using b) a
theorem qi {p:Nat} {x:Row}:∀(rs:List Row) (a q:Nat) (y:Row),rs[q]?=some y→∀c∈zf p (a+q) x y,c∈uC p x a rs
 |[],a,q,y,h,c,_=>by simp at h
 |z::rs,a,q,y,h,c,b=>by
  simp only [uC]
  cases q with
  |zero=>
   simp only [aqT,aqV]at h;subst h;exact List.mem_append_left _ (by simpa using b)
  |succ q=>
   exact List.mem_append_right _ (qi rs (a+1) q y (by simpa using h) c (by rwa [show a+1+q=a+(q+1) by omega]))
theorem rQ:∀(rs:List Row) (a p q:Nat) (x y:Row),p<q→rs[p]?=some x→rs[q]?=some y→∀c∈zf (a+p) (a+q) x y,c∈tN a rs
 |[],_,p,q,x,y,_,h,_,_,_=>by simp at h
 |z::rs,a,p,q,x,y,e,d,b,c,f=>by
  simp only [tN]
  cases q with
  |zero=>omega
  |succ q=>
   simp only [List.getElem?_cons_succ]at b
   cases p with
   |zero=>
    simp only [aqT,aqV]at d;subst d;exact List.mem_append_left _ (qi rs (a+1) q y b c (by rwa [show a+1+q=a+(q+1) by omega]))
   |succ p=>
    refine List.mem_append_right _ (rQ rs (a+1) p q x y (by omega) (by simpa using d) b c ?_);rwa [show a+1+p=a+(p+1) by omega,show a+1+q=a+(q+1) by omega]
theorem FI {n i:Nat} (h:i<n):i∈JH n:=by
 induction n with
 |zero=>omega
 |succ n ih=>
  simp only [JH,arc];by_cases e:i=n
  ·exact .inl e
  ·exact .inr (ih (by omega))
def Uu:Row:=⟨⟨none,none,.mkmap⟩,.pure,0,[],0⟩
def rowAt (rs:List Row) (t:Nat):Row:=(rs[t]?).getD Uu
def Uv (rs:List Row) (p q:Nat):Prop:=(rowAt rs q).m.testBit (rowAt rs p).j=true
theorem bS {rs:List Row} {t:Nat} (h:t<rs.length):rs[t]?=some (rowAt rs t):=by
 unfold rowAt;rw [aqU h];rfl
def EC (s0:Fr×AH) (ss:List (Fr×AH)) (t:Nat):Fr:=(((s0::ss)[t]?).getD s0).1
def zx (s0:Fr×AH) (ss:List (Fr×AH)) (t:Nat):AH:=(((s0::ss)[t]?).getD s0).2
theorem Pm {call:Cl} {rs:List Row} (u:∀(t:Nat) (r:Row),rs[t]?=some r→r.k=eB r.o.o) (K:pw rs=true) {d:Fr} {H:AH} {a:List (Fr×AH)} (P:jx call (rs.map (·.o)) d H=some a) (D:chain ((d,H)::a)=true)
 (L:(tN 0 rs).all (jI (rs.map (·.o)) ((d,H)::a))=true):
 pg call (fun t=>(rowAt rs t).o) rs.length (EC (d,H) a) (zx (d,H) a) (Uv rs):=by
 obtain ⟨C,_,J⟩:=pA _ _ _ _ P
 have st:∀t,t<rs.length→∃s s',((d,H)::a)[t]?=some s∧((d,H)::a)[t+1]?=some s'∧jw call (rowAt rs t).o s.1 s.2=some s':=
  fun t v=>J t (rowAt rs t).o (by rw [arq,bS v];rfl)
 have w:∀p q,p<q→q<rs.length→∀c∈zf p q (rowAt rs p) (rowAt rs q),jI (rs.map (·.o)) ((d,H)::a) c=true:=by
  intro p q f e c M;exact ara.1 L c (rQ rs 0 p q _ _ f (bS (by omega)) (bS e) c (by simpa using M))
 have un:∀p q k,p<q→q<rs.length→(rowAt rs p).o.wanted (EC (d,H) a p)=true→(rowAt rs q).o.wanted (EC (d,H) a q)=true→jI (rs.map (·.o)) ((d,H)::a) (k,p,q)=true→
  (match k with
   |0=>match ei (rowAt rs p).o (EC (d,H) a p) (zx (d,H) a p)with|some x=>sameAt (zx (d,H) a (q+1)) x|none=>false
   |1=>mG ((zx (d,H) a (p+1)).get (zx (d,H) a p).nx) ((zx (d,H) a (q+1)).get (zx (d,H) a p).nx)
   |_=>match cC (rowAt rs p).o (EC (d,H) a p),cC (rowAt rs q).o (EC (d,H) a q)with|some b,some E=>!Nat.beq b E|_,_=>true)=true:=by
  intro p q k f e wp l h;obtain ⟨V,U,B,G,_⟩:=st p (by omega);obtain ⟨T,S,A,F,_⟩:=st q e;have R:(rs.map (·.o))[p]?=some (rowAt rs p).o:=by rw [arq,bS (by omega)];rfl
  have Q:(rs.map (·.o))[q]?=some (rowAt rs q).o:=by rw [arq,bS e];rfl
  unfold EC zx at*;rw [B,Option.getD_some]at wp;rw [A,Option.getD_some]at l;unfold jI at h;simp only [uO,R,Q,B,G,A,F,wp,l,Bool.not_true,Bool.false_or]at h;rw [B,G,A,F];simp only [Option.getD_some];exact h
 refine ⟨fun t v=>?_,fun t v=>?_,fun t v=>?_,fun p q f e=>?_,?_,?_,?_⟩
 ·obtain ⟨s,s',i,h2,z⟩:=st t v
  unfold EC zx;rw [i,h2];exact z
 ·obtain ⟨s,s',i,h2,z⟩:=st t v
  unfold zx;rw [i,h2];exact (mZ _ D t s s' i h2).1
 ·obtain ⟨s,s',i,h2,z⟩:=st t v
  unfold zx;rw [i,h2];exact (mZ _ D t s s' i h2).2
 ·have:=Bi rs K p q _ _ f (bS (by omega)) (bS e)
  simp only [EV,Bool.or_eq_true,aqX]at this;rw [←u p _ (bS (by omega)),←u q _ (bS e)];rcases this with h|⟨⟨i,h2⟩,z⟩
  ·exact .inl h
  ·exact .inr ⟨i,h2,z⟩
 ·intro p q f e y wp l g n
  rw [←u p _ (bS (by omega))]at g;rw [←u q _ (bS e)]at n
  have:=un p q 0 f e wp l (w p q f e _ (by
   unfold zf;rw [show(rowAt rs q).m.testBit (rowAt rs p).j=false from arA.2 y,g,n]
   simp))
  simp only at this;split at this
  ·rename_i x I
   exact ⟨x,I,this⟩
  ·cases this
 ·intro p q f e y wp l g n
  rw [←u p _ (bS (by omega))]at g;rw [←u q _ (bS e)]at n
  have:=un p q 1 f e wp l (w p q f e _ (by
   unfold zf;rw [show(rowAt rs q).m.testBit (rowAt rs p).j=false from arA.2 y,g,n]
   simp))
  exact (FA this).symm
 ·intro p q f e y wp l g n b E O N
  rw [←u p _ (bS (by omega))]at g;rw [←u q _ (bS e)]at n
  have:=un p q 2 f e wp l (w p q f e _ (by
   unfold zf;rw [show(rowAt rs q).m.testBit (rowAt rs p).j=false from arA.2 y,n]
   rcases g with g|g|g<;>rw [g]<;>simp))
  simp only [O,N,nb]at this
  simpa using this
open Go Go.RowKit
section
variable{P:Program}
theorem Rel.rR {w0 w:World} {φ:bD} {H H1:AH} (R:Rel w0 φ H w) (h:∀b,φ.m b≠none→H1.raw b=H.raw b) (B:H1.n0=H.n0) (r:φ.n0≤H1.nx) (u:H1.bs=H.bs):Rel w0 φ H1 w where
 n0:=B.trans R.n0
 pr:=R.pr
 qa:=r
 c0:=R.c0
 below:=R.below
 uE:=R.uE
 ig:=R.ig
 jK:=fun b z cs a d=>R.jK b z cs a (by rw [←h b (by rw [R.ig b a];simp)];exact d)
 cells:=fun b l z cs a c d=>R.cells b l z cs a c (by rw [←h b (by rw [c];simp)];exact d)
 maps:=fun b l es a c d=>R.maps b l es a c (by rw [←h b (by rw [c];simp)];exact d)
 inj:=fun j i q p x v f h2 o n t=>R.inj j i q p x v f h2 (by rw [←h j (by rw [f];simp)];exact o) (by rw [←h i (by rw [h2];simp)];exact n) t
 nM:=fun b s e=>by
  obtain ⟨f,h2,l,g,A,y⟩:=R.nM b s (by rw [←u];exact e);exact ⟨f,by rw [h b (by rw [g];simp)];exact h2,l,g,A,y.rv rfl (fun _ _ _=>rfl) fun C F E k D=>.inl ⟨E,k,by rw [←h C (by rw [k];simp)];exact D⟩⟩
theorem Grow.comp {φ a f:bD} {H d o n:AH} {w i g:World} (h:Grow φ H w a d i) (k:Grow a o i f n g) (q:H.nx≤o.nx) (h2:n.nx≤d.nx):Grow φ H w f d g where
 le:=bD.le_trans h.le k.le
 n0:=k.n0.trans h.n0
 c0:=k.c0.trans h.c0
 nx:=h.nx
 new:=fun b l e j=>by
  cases c:a.m b with
  |none=>exact ⟨arh q (k.new b l c j).1,ari (k.new b l c j).2 h2⟩
  |some p=>exact h.new b p e c
 size:=arh h.size k.size
theorem uP {φ:bD} {b:Fr} {a:Act} (F:kZ φ b a) {x:X} (h:OX x=true) {d:Addr} (e:x.ev b= .pointer (some d)):φ.m d.block≠none:=by
 cases x with
 |t n=>
  have:=F n;rw [show b.get n= .pointer (some d) from e]at this;obtain ⟨l,_,c,_⟩:=this.wL;rw [c];simp
 |k v=>rw [show v= .pointer (some d) from e]at h;cases h
 |f n=>cases e
theorem JX {φ:bD} {b:Fr} {a:Act} (F:kZ φ b a) {x:X} (h:OX x=true) {d:Nat} (e:x.ev b= .map (some d)):φ.m d≠none:=by
 cases x with
 |t n=>
  have:=F n;rw [show b.get n= .map (some d) from e]at this;obtain ⟨l,c,_⟩:=this.mp1;rw [c];simp
 |k v=>rw [show v= .map (some d) from e]at h;cases h
 |f n=>cases e
theorem Pn {φ:bD} {b:Fr} {a:Act} (F:kZ φ b a) {x:X} (h:OX x=true) {d:Addr} {n c:Nat} (e:x.ev b= .slice (some d) n c) (i:d.spot=none):φ.m d.block≠none:=by
 cases x with
 |t m=>
  have:=F m;rw [show b.get m= .slice (some d) n c from e]at this;rcases this.EY with⟨l,o,_,j,_⟩|⟨g,_⟩
  ·rw [j];simp
  ·rw [i]at g;cases g
 |k v=>rw [show v= .slice (some d) n c from e]at h;cases h
 |f n=>cases e
theorem FJ {φ:bD} {d:Fr} {a:Act} (F:kZ φ d a) {o:AO} (h:o.o.xs.all OX=true) {b:Nat} (e:cC o d=some b):φ.m b≠none:=by
 unfold cC at e;cases g:o.o<;>simp only [g,cl.xs,List.all_cons,aqX]at h e<;>(try(cases e;done))
 case st n x v=>
  split at e<;>cases e;rename_i c;exact uP F h.1 c
 case ld x=>
  split at e<;>cases e;rename_i c;exact uP F h.1 c
 case ldn n x=>
  split at e<;>cases e;rename_i c;exact uP F h.1 c
 case look kk z x k ok=>
  split at e<;>cases e;rename_i c;exact JX F h.1 c
 case sl sz x lo hi mx=>
  split at e
  ·rename_i c
   obtain ⟨f,e⟩:=aw e;cases e;exact Pn F h.1 c (by simpa using f)
  ·cases e
def yU (S:Nat→Bool):Nat→Nat
 |0=>0
 |m+1=>yU S m+(bif S m then 0 else 1)
theorem wQ {S:Nat→Bool}:∀{m:Nat},yU S m=0→∀t,t<m→S t=true
 |0,_,t,h=>by omega
 |m+1,h,t,b=>by
  simp only [yU]at h;by_cases e:t=m
  ·subst e
   cases a:S t with
   |true=>rfl
   |false=>rw [a]at h;simp at h
  ·exact wQ (m:=m) (by omega) t (by omega)
theorem uQ {S S':Nat→Bool}:∀{m:Nat},(∀t,t<m→S t=true→S' t=true)→yU S' m≤yU S m
 |0,_=>aqY _
 |m+1,h=>by
  have:=uQ (S:=S) (S':=S') (m:=m) fun t b=>h t (by omega)
  simp only [yU]
  cases a:S m with
  |true=>rw [h m (by omega) a];simpa using this
  |false=>cases S' m<;>simp<;>omega
theorem Bj {S:Nat→Bool} {t:Nat} (a:S t=false):∀{m:Nat},t<m→yU (ins S t) m+1≤yU S m
 |0,h=>by omega
 |m+1,h=>by
  simp only [yU];by_cases e:t=m
  ·subst e
   rw [fJ,a]
   have:=uQ (S:=S) (S':=ins S t) (m:=t) fun p _ b=>by
    by_cases e:p=t
    ·subst e;exact fJ
    ·rw [gZ e];exact b
   simp;omega
  ·rw [gZ (fun h=>e h.symm)]
   have:=Bj a (m:=m) (by omega);omega
theorem JY {m:Nat}:yU (fun _=>false) m=m:=by
 induction m with
 |zero=>rfl
 |succ m ih=>simp [yU,ih]
def tq (rs:List Row) (listed:Array Bool) (t:Nat):Bool:=listed.getD (rowAt rs t).j false
structure JZ (w0 w:World) (φ:bD) (O:Nat→AO) (n:Nat) (sF:Nat→Fr) (sH:Nat→AH) (nt:Nat) (S:Nat→Bool) (kR:bD) (a1:Act) (w1:World):Prop where
 rel:Rel w0 kR (wx O sF sH S n (sH n).nx) w1
 Uw:kZ kR (uK O sF S n) a1
 size:a1.tmps.size=nt
 defs:a1.defers=[]
 FF:Dom O n sF sH S (fun b=>kR.m b≠none)
 grow:Grow φ (sH 0) w kR (sH n) w1
theorem Ux {call:Cl} (W:px P call) {O:Nat→AO} {n:Nat} {y:Nat→Fr} {g:Nat→AH} {G:Nat→Nat→Prop} (R:pg call O n y g G) {w0 w:World} {φ:bD} (c:φ.n0≤(g 0).nx) {A:Nat} {S:Nat→Bool} {t:Nat} (C:Us n G S t)
 {f:bD} {J:Act} {w1:World} (I:JZ w0 w φ O n y g A S f J w1) {z:Array Oper} {j:Nat} {o:Oper} (U:z[j]?=some o) (X:Nl P A z o=some (O t)) (D:(O t).o.xs.all OX=true)
 {Q:Exit→Act→World→Prop} {K:Act→World→Prop} (Y:∀d H q,JZ w0 w φ O n y g A (ins S t) d H q→K H q):wpOp P z Q j K J w1:=by
 obtain ⟨Hx,Hy,a⟩:=R.Pk I.FF C (fun _ b c=>FJ I.Uw D (by rw [FB (R.agree C)];exact c));have M:f.n0≤Hx.nx:=by rw [I.grow.n0];exact arh c a.lo
 refine Ft W U X I.Uw (I.rel.rR (fun b c=>a.pre b c) a.n0x M a.bsx) (Classical.not_not.1 a.out) (fun T b c=>Classical.not_not.1 (a.fresh T b c)) I.size I.defs a.run ?_;intro d v v' q Z u hv jN F2 L V;refine Y d _ q ⟨?_,?_,L,V,?_,I.grow.comp u a.lo a.hi⟩
 ·refine Z.rR (fun b _=>a.post b) a.n0y.symm ?_ a.bsy
  show d.n0≤(g n).nx;rw [u.n0,I.grow.n0];exact arh c (R.il (aro n) (aqY _))
 ·intro x
  rw [R.JW C x];exact F2 x
 ·refine ⟨fun b c=>?_,fun p B r w k b E=>?_⟩
  ·by_cases i:f.m b=none
   ·obtain ⟨l,N⟩:∃l,d.m b=some l:=by
     cases h2:d.m b with
     |none=>exact absurd h2 c
     |some l=>exact ⟨l,rfl⟩
    have s:=u.new b l i N;have F:=a.new b s.1 s.2;exact .inr ⟨t,C.lt,fJ,F.1,F.2⟩
   ·rcases I.FF.FF b i with h|⟨p,B,r,h2,s⟩
    ·exact .inl h
    ·refine .inr ⟨p,B,?_,h2,s⟩
     by_cases e:p=t
     ·subst e;exact fJ
     ·rw [gZ e];exact r
  ·have up:∀b,f.m b≠none→d.m b≠none:=by
    intro b h
    cases i:f.m b with
    |none=>exact absurd i h
    |some l=>rw [u.le _ _ i];simp
   by_cases e:p=t
   ·subst e
    exact up b (FJ I.Uw D (by rw [FB (R.agree C)];exact E))
   ·rw [gZ e]at r
    exact up b (I.FF.sts p B r w k b E)
theorem wR {d:Nat} {c:Array Oper}:∀{l:List Oper} {a:List AO},nQ P d c l=some a→a.length=l.length∧∀(j:Nat) (o:Oper) (b:AO),l[j]?=some o→a[j]?=some b→Nl P d c o=some b
 |[],a,h=>by
  simp [nQ]at h;subst h;exact ⟨rfl,fun j o b h=>(by simp at h)⟩
 |x::l,a,h=>by
  simp only [nQ]at h
  cases e:Nl P d c x with
  |none=>simp [e]at h
  |some y=>
   cases h2:nQ P d c l with
   |none=>simp [e,h2]at h
   |some m=>
    simp only [e,h2,aqV]at h;subst h;obtain ⟨k,i⟩:=wR h2;refine ⟨by simp [k],fun j o b f g=>?_⟩
    cases j with
    |zero=>
     simp at f g;subst f;subst g;exact e
    |succ j=>exact i j o b (by simpa using f) (by simpa using g)
theorem uR {o:Oper} {i:Nat}:i∈JG o↔∃e∈o.after,Region.binds .any e=true∧e.on=i:=by
 unfold JG;rw [List.mem_filterMap];constructor
 ·rintro ⟨e,b,h⟩
  cases a:Region.binds .any e with
  |false=>rw [a]at h;cases h
  |true=>rw [a]at h;cases h;exact ⟨e,by simpa using b,a,rfl⟩
 ·rintro ⟨e,b,a,rfl⟩
  exact ⟨e,by simpa using b,by rw [a];rfl⟩
theorem Po (hm:P.follows .mixedOrders=true) {call:Cl} (kI:px P call):Fw P call:=by
 intro nt id g ac hc l ck hac X w A H H' fr bP a h F R R0 hs hd;obtain ⟨EA,ord,hl,qg,Uy⟩:=rJ hc;generalize zy:lb EA (g.toList.map JG) ord []=rs at qg Uy;rw [Uy]at hac;cases hac;simp only [zg,aqX,nb,aq6,ara]at qg;obtain ⟨⟨⟨⟨abT,hlen⟩,abU⟩,abV⟩,nc⟩:=qg;obtain ⟨Nx,Uz⟩:=wR hl;have hn:rs.length=g.size:=by rw [hlen,Nx];simp
 have row:∀t,t<rs.length→∃o,g[(rowAt rs t).j]?=some o∧Nl P nt g o=some (rowAt rs t).o∧(rowAt rs t).dep=JG o∧(rowAt rs t).o.o.xs.all OX=true:=by
  intro t f;have hg:=bS f;obtain ⟨d,h2,W,_⟩:=ke ord [] t (rowAt rs t) (by rw [zy];exact hg);rw [arq]at W
  cases n:g.toList[(rowAt rs t).j]? with
  |none=>simp [n]at W
  |some o=>
   simp [n]at W;exact ⟨o,by simpa using n,Uz _ o _ n d,W.symm,ara.2 (abT _ (aqZ hg))⟩
 have UA:∀t,t<rs.length→∀i,(rowAt rs t).m.testBit i=true→∃e∈(rowAt rs t).dep,e=i∨∃q<t,(rowAt rs q).j=e∧(rowAt rs q).m.testBit i=true:=by
  intro t f i hi;obtain ⟨_,_,_,h4⟩:=ke ord [] t (rowAt rs t) (by rw [zy];exact bS f);obtain ⟨e,k,B⟩:=h4 i hi;refine ⟨e,k,?_⟩;rcases B with B|⟨q,s,r',h6,h7,h8⟩|B
  ·exact .inl B
  ·rw [zy]at h6
   have:rowAt rs q=r':=by unfold rowAt;rw [h6];rfl
   exact .inr ⟨q,s,by rw [this];exact h7,by rw [this];exact h8⟩
  ·simp [tM]at B
 have J:∀t,t<rs.length→(∀q,q<t→(rowAt rs q).j≠(rowAt rs t).j)∧∀e∈(rowAt rs t).dep,∃q<t,(rowAt rs q).j=e:=by
  intro t f;obtain ⟨⟨_,d⟩,h2⟩:=rP rs [] abV t _ (bS f);refine ⟨fun q s=>d q _ s (bS (by omega)),fun e k=>?_⟩;rcases h2 e k with W|⟨q,s,r',h4,B⟩
  ·cases W
  ·exact ⟨q,s,by unfold rowAt;rw [h4];exact B⟩
 have Y:∀i,i<g.size→∃t,t<rs.length∧(rowAt rs t).j=i:=by
  intro i hi;have:=lg.1 (abU i (FI (by rw [Nx];simpa using hi)));obtain ⟨r,hr,e⟩:=aru.1 this;obtain ⟨t,f,e2⟩:=List.mem_iff_getElem.1 hr;refine ⟨t,f,?_⟩;unfold rowAt;rw [aqU f,Option.getD_some,e2];exact e
 have K:∀t,t<rs.length→(rowAt rs t).j<g.size:=by
  intro t f;obtain ⟨o,n,_⟩:=row t f;exact (aq8.1 n).1
 unfold wG at h
 cases hT:jx call (rs.map (·.o)) fr H with
 |none=>simp [hT]at h
 |some N=>
  simp only [hT]at h;obtain ⟨A7,h⟩:=aw h;simp only [aqX]at A7;have D:=Pm (fun t r hr=>(ke ord [] t r (by rw [zy];exact hr)).2.1) nc hT A7.1 A7.2;have wS:=(pA _ _ _ _ hT).2.1;rw [List.length_map]at wS;simp only [aqV]at h;rw [wS]at h;have hFn:EC (fr,H) N rs.length=bP:=by unfold EC;rw [h]
  have hHn:zx (fr,H) N rs.length=H':=by unfold zx;rw [h]
  have ng:EC (fr,H) N 0=fr:=rfl;have v:zx (fr,H) N 0=H:=rfl;generalize EC (fr,H) N=sF at*;generalize zx (fr,H) N=Z at*
  have main:∀(fuel:Nat) (listed:Array Bool) (z:bD) (y:Act) (w1:World),listed.size=g.size→yU (tq rs listed) rs.length≤fuel→
   (∀(j:Nat) (o:Oper),g[j]?=some o→listed.getD j false=true→∀e∈JG o,listed.getD e false=true)→
   JZ X w A (fun t=>(rowAt rs t).o) rs.length sF Z nt (tq rs listed) z y w1→
   wpAny P .any g (Fu X A w H nt .normal bP H') fuel listed y w1:=by
   have fin:∀(listed:Array Bool) (z:bD) (y:Act) (w1:World),(∀t,t<rs.length→tq rs listed t=true)→
    JZ X w A (fun t=>(rowAt rs t).o) rs.length sF Z nt (tq rs listed) z y w1→Fu X A w H nt .normal bP H' .normal y w1:=by
    intro listed z y w1 T I;refine ⟨rfl,z,?_,?_,?_,I.size,I.defs⟩
    ·rw [←hHn]
     refine I.rel.rR (fun b _=>?_) (by rw [D.SY _ (aqY _)];rfl) ?_ (by rw [←D.FC (aqY _)];exact Bg fun p c _ _=>(T p c).symm)
     ·rw [Be,←D.FD (aqY _)]
      exact Bf fun p c _=>(T p c).symm
     ·rw [I.grow.n0]
      exact arh R.qa (by rw [←v];exact D.il (aro _) (aqY _))
    ·rw [←hHn,←v];exact I.grow
    ·intro x
     rw [←hFn,←D.Bd (aqY _)];rw [uL (S:=fun _=>true) (S':=tq rs listed) fun p c _=>(T p c).symm];exact I.Uw x
   intro fuel
   induction fuel with
   |zero=>
    intro listed z y w1 jF hun SZ I;have T:=wQ (Nat.le_zero.1 hun);refine ⟨?_,fin listed z y w1 T I⟩;rw [List.eq_nil_iff_forall_not_mem];intro i hi;obtain ⟨h0,o,n,_⟩:=mem_ready.1 hi;obtain ⟨t,f,rfl⟩:=Y i (aq8.1 n).1;have d:=T t f;unfold tq at d;have Q:(rowAt rs t).j<listed.size:=by rw [jF];exact K t f
    simp [Q]at h0 d;rw [h0]at d;cases d
   |succ fuel ih=>
    intro listed z y w1 jF hun SZ I;refine ⟨fun hr=>?_,fun i hi=>?_⟩
    ·refine fin listed z y w1 ?_ I
     intro t
     induction t using Nat.strongRecOn with
     |_ t iht=>
      intro f
      cases u:tq rs listed t with
      |true=>rfl
      |false=>
       exfalso;obtain ⟨o,n,_,Pp,_⟩:=row t f
       have:(rowAt rs t).j∈Region.ready .any g listed:=by
        refine mem_ready.2 ⟨?_,o,n,fun e k hb=>?_⟩
        ·have Q:(rowAt rs t).j<listed.size:=by rw [jF];exact K t f
         unfold tq at u;simp [Q]at u⊢;exact u
        ·obtain ⟨q,s,e2⟩:=(J t f).2 e.on (by rw [Pp];exact uR.2 ⟨e,k,hb,rfl⟩)
         have:=iht q s (by omega);unfold tq at this;rw [e2]at this;exact this
       rw [hr]at this;cases this
    ·obtain ⟨h0,o',M,Ny⟩:=mem_ready.1 hi
     obtain ⟨t,f,rfl⟩:=Y i (aq8.1 M).1;obtain ⟨o,n,abZ,Pp,hx⟩:=row t f;rw [n]at M;cases M;have Q:(rowAt rs t).j<listed.size:=by rw [jF];exact K t f
     have Ut:tq rs listed t=false:=by
      unfold tq;simp [Q]at h0⊢;exact h0
     have closed:∀q,q<rs.length→(∀e∈(rowAt rs q).dep,listed.getD e false=true)→∀i,(rowAt rs q).m.testBit i=true→listed.getD i false=true:=by
      intro q
      induction q using Nat.strongRecOn with
      |_ q ihq=>
       intro s YC i hi;obtain ⟨e,k,B⟩:=UA q s i hi;rcases B with rfl|⟨p,c,h6,h7⟩
       ·exact YC _ k
       ·refine ihq p c (by omega) (fun e' he'=>?_) i h7
        obtain ⟨op,qc,_,YB,_⟩:=row p (by omega);exact SZ _ op qc (by rw [h6];exact YC e k) e' (by rw [←YB];exact he')
     have C:Us rs.length (Uv rs) (tq rs listed) t:=by
      refine ⟨f,Ut,fun p c ha=>?_,fun p q wP s hSq ha=>?_⟩
      ·refine closed t f (fun e k=>?_) _ ha
       rw [Pp]at k;obtain ⟨ed,d,h2,rfl⟩:=uR.1 k;exact Ny ed d h2
      ·refine closed q s (fun e k=>?_) _ ha
       obtain ⟨oq,hoq,_,YC,_⟩:=row q s;exact SZ _ oq hoq hSq e (by rw [←YC];exact k)
     have U:∀p,p<rs.length→tq rs (listed.setIfInBounds (rowAt rs t).j true) p=ins (tq rs listed) t p:=by
      intro p c;unfold tq;by_cases e:p=t
      ·subst e
       rw [fJ];simp [Q]
      ·rw [gZ e]
       refine getD_set_ne false ?_;rcases Nat.lt_or_gt_of_ne e with d|d
       ·exact fun h2=>(J t f).1 p d h2.symm
       ·exact (J p c).1 t d
     refine Ux (O:=fun t=>(rowAt rs t).o) kI D (by rw [v];exact R.qa) C I n abZ hx ?_;intro lP a2 w2 E;refine ih _ lP a2 w2 (by simp [jF]) ?_ ?_ ?_
     ·have d:=Bj Ut f
      have h2:yU (tq rs (listed.setIfInBounds (rowAt rs t).j true)) rs.length≤yU (ins (tq rs listed) t) rs.length:=
       uQ fun p c h=>by rw [U p c];exact h
      omega
     ·intro j oj L hj e k
      by_cases ej:(rowAt rs t).j=j
      ·subst ej
       rw [n]at L;cases L;obtain ⟨ed,d,h2,rfl⟩:=uR.1 k;exact getD_set_true (Ny ed d h2)
      ·rw [getD_set_ne false ej]at hj
       exact getD_set_true (SZ j oj L hj e k)
     ·have eF:∀x,(uK (fun t=>(rowAt rs t).o) sF (tq rs (listed.setIfInBounds (rowAt rs t).j true)) rs.length).get x=(uK (fun t=>(rowAt rs t).o) sF (ins (tq rs listed) t) rs.length).get x:=
       fun x=>uL fun p c _=>U p c
      refine ⟨E.rel.rR (fun b _=>Bf fun p c _=>U p c) rfl E.rel.qa (Bg fun p c _ _=>U p c),fun x=>by rw [eF];exact E.Uw x,E.size,E.defs,⟨fun b hb=>?_,fun p c u=>?_⟩,E.grow⟩
      ·rcases E.FF.FF b hb with d|⟨p,c,u,h2⟩
       ·exact .inl d
       ·exact .inr ⟨p,c,by rw [U p c];exact u,h2⟩
      ·rw [U p c]at u
       exact E.FF.sts p c u
  refine wp_region_any hm ?_
  have YD:∀t,tq rs (Array.replicate g.size false) t=false:=by
   intro t;unfold tq;by_cases h:(rowAt rs t).j<g.size<;>simp [h]
  refine main g.size _ A a _ (by simp) ?_ ?_ ?_
  ·rw [←hn]
   have:yU (tq rs (Array.replicate g.size false)) rs.length≤yU (fun _=>false) rs.length:=uQ fun p _ h=>by cases h
   rw [JY]at this;rwa [hn]at this⊢
  ·intro j o _ h
   exfalso;by_cases h2:j<g.size<;>simp [h2]at h
  ·have R':Rel X A H {w with drawn:=w.drawn+1}:=R.drew rfl rfl rfl rfl
   refine ⟨R'.rR (fun b _=>?_) (by show(Z 0).n0=_;rw [v]) ?_ ?_,fun x=>?_,hs,hd,⟨fun b hb=>.inl ?_,fun p c u=>?_⟩,?_⟩
   ·rw [Be,qQ (t:=0) (aro _)]
    ·show(Z 0).raw b=_;rw [v]
    ·intro p _ _ h;rw [YD]at h;cases h
   ·refine arh R.qa ?_
    rw [←v];exact D.il (aro _) (aqY _)
   ·show gB _ _ _ _ _=_
    rw [uM (t:=0) (aro _)]
    ·show(Z 0).bs=_;rw [v]
    ·intro p _ _ h;rw [YD]at h;cases h
   ·rw [rM (t:=0) (aro _)]
    ·show V A ((sF 0).get x) _;rw [ng];exact F x
    ·intro p _ _ h;rw [YD]at h;cases h
   ·rw [v]
    rcases Nat.lt_or_ge b H.nx with d|d
    ·exact d
    ·exact absurd (R0 b d) hb
   ·rw [YD]at u;cases u
   ·have G:Grow A H w A H {w with drawn:=w.drawn+1}:=Grow.of_heap rfl
    rw [v];refine ⟨G.le,G.n0,G.c0,?_,fun b l d h2=>(by rw [d]at h2;cases h2),G.size⟩;rw [←v];exact D.il (aro _) (aqY _)
end
end
section
open Go Go.RowKit
section
variable{P:Program}
def pB (tmps:Array Value):ResultVar→Sem Value
 | .tmp t=>pure (tmps.getD t undef)
 | .cell a t=>do loadVar t (←asAddr (tmps.getD a undef))
theorem uS (fn:Func) (tmps:Array Value):results fn tmps=(do
 let vs←fn.results.toList.mapM (pB tmps)
 pure (if h:vs.toArray.size=1 then vs.toArray[0]else .tuple vs.toArray)):=by
 have e:results fn tmps=(do
  let vs←fn.results.mapM (pB tmps)
  pure (if h:vs.size=1 then vs[0]else .tuple vs)):=rfl
 rw [e,Array.mapM_eq_mapM_toList];simp
theorem qS {w0 w:World} {φ:bD} {H:AH} {g:Fr} {a:Act} (F:kZ φ g a) (R:Rel w0 φ H w):∀(l:List ResultVar) (m:List RS) (vs:List Value),wI P l=some m→RS.all g H m=some vs→
 ∃e,(l.mapM (pB a.tmps)).run P w= .ok e w∧VL φ vs e
 |[],m,vs,c,h=>by
  simp [wI]at c;subst c;simp [RS.all]at h;subst h;exact ⟨[],by simp,.nil⟩
 | .tmp t::l,m,vs,c,h=>by
  simp only [wI,aq4]at c;obtain ⟨f,o,rfl⟩:=c;simp only [RS.all,RS.get]at h
  cases b:RS.all g H f with
  |none=>simp [b]at h
  |some us=>
   simp only [b,aqV]at h;subst h;obtain ⟨e,q,h2⟩:=qS F R l f us o b;refine ⟨a.tmps.getD t undef::e,?_,.cons (F t) h2⟩;simp [List.mapM_cons,pB,q]
 | .cell t ty::l,m,vs,c,h=>by
  simp only [wI]at c;split at c
  ·rename_i n f s B o
   cases c;simp only [RS.all,RS.get]at h;cases k:g.get t<;>simp [k]at h;rename_i p;cases p<;>simp at h;rename_i A
   cases d:H.ldn A n with
   |none=>simp [d]at h
   |some ws=>
    cases b:RS.all g H f with
    |none=>simp [d,b]at h
    |some us=>
     simp [d,b]at h;subst h;obtain ⟨e,q,h2⟩:=qS F R l f us o b;have j:=F t;rw [k]at j;obtain ⟨r,i,z,x,u,G,E⟩:=E5 R j d;have C:=run_loadCells_list (P:=P) w r i E;rw [x]at C;refine ⟨.agg i.toArray::e,?_,.cons (.agg (by simpa using u) (by simpa using G)) h2⟩;have y:a.tmps.getD t undef= .pointer (some r):=z;simp only [List.mapM_cons,pB,y];simp [asAddr,loadVar,jM s,cv B,C,q]
  ·rename_i n f s B o
   cases c;simp only [RS.all,RS.get]at h;cases k:g.get t<;>simp [k]at h;rename_i p;cases p<;>simp at h;rename_i A
   cases d:H.ld A with
   |none=>simp [d]at h
   |some v=>
    cases b:RS.all g H f with
    |none=>simp [d,b]at h
    |some us=>
     simp [d,b]at h;subst h;obtain ⟨e,q,h2⟩:=qS F R l f us o b;have j:=F t;rw [k]at j;obtain ⟨r,D,z,x,u⟩:=No R j d;refine ⟨D::e,?_,.cons u h2⟩;have y:a.tmps.getD t undef= .pointer (some r):=z;simp only [List.mapM_cons,pB,y];simp [asAddr,loadVar,jM s,x,q]
  ·cases c
theorem qj {w0 w:World} {φ:bD} {H:AH} {b:Fr} {a:Act} (F:kZ φ b a) (R:Rel w0 φ H w) {fn:Func} {m:List RS} {vs:List Value} (c:wI P fn.results.toList=some m) (h:RS.all b H m=some vs):
 ∃v',(results fn a.tmps).run P w= .ok v' w∧V φ (pZ vs) v':=by
 obtain ⟨e,d,h2⟩:=qS F R _ _ _ c h;rw [uS];simp only [Sem.run_bind,d,Result.andThen_ok,Sem.run_pure]
 cases h2 with
 |nil=>exact ⟨_,rfl,.tuple .nil⟩
 |cons x y=>
  cases y with
  |nil=>exact ⟨_,rfl,x⟩
  |cons y z=>
   refine ⟨_,rfl,?_⟩;simp only [List.size_toArray,List.length_cons];rw [dif_neg (by omega)];exact .tuple (.cons x (.cons y z))
theorem Fr.rS:∀(l:List Value) (i:Nat) (f:Fr) (t:Nat),(Fr.rm i l f).get t=if i≤t∧t<i+l.length then l.getD (t- i) undef else f.get t
 |[],i,f,t=>by
  simp only [Fr.rm,List.length_nil];rw [if_neg (by omega)]
 |v::l,i,f,t=>by
  simp only [Fr.rm,List.length_cons];rw [Fr.rS l,Fr.bA];by_cases a:t=i
  ·subst a
   rw [if_neg (by omega),if_pos rfl,if_pos (by omega)];simp
  ·by_cases h2:i+1≤t∧t<i+1+l.length
   ·rw [if_pos h2,if_pos (by omega)]
    obtain ⟨k,b⟩:∃k,t- i=k+1:=⟨t- i- 1,by omega⟩
    rw [b,show t- (i+1)=k by omega];simp
   ·rw [if_neg h2,if_neg a,if_neg (by omega)]
theorem Fr.get_nil (t:Nat):(⟨.nil⟩:Fr).get t=undef:=by
 unfold Fr.get;cases t<;>rfl
theorem Fr.eA (l:List Value) (t:Nat):(Fr.of l).get t=l.getD t undef:=by
 unfold Fr.of;rw [Fr.rS,Fr.get_nil];split
 ·rfl
 ·rename_i h
  simp only [List.getD_eq_getElem?_getD];rw [arC (by omega)];rfl
theorem wT {φ:bD} {as:List Value} {as':Array Value} (k:Nat) (h:VL φ as as'.toList) (t:Nat):V φ ((Fr.of as).get t) ((as'++Array.replicate k undef).getD t undef):=by
 rw [Fr.eA];have f:=h.length;simp only [List.getD_eq_getElem?_getD]
 cases b:as[t]? with
 |some v=>
  obtain ⟨v',e,c⟩:=h.get t v b
  have d:t<as'.size:=by
   have:=(aq0.1 e).1
   simpa using this
  have a:(as'++Array.replicate k undef).getD t undef=v':=by
   rw [Array.getD_eq_getD_getElem?,Array.getElem?_append_left d];simp only [Array.getElem?_toList]at e;rw [e];rfl
  rw [a];exact c
 |none=>
  have g:=List.getElem?_eq_none_iff.1 b
  have a:(as'++Array.replicate k undef).getD t undef=undef:=by
   rw [Array.getD_eq_getD_getElem?,Array.getElem?_append_right (by rw [←Array.length_toList,←f];exact g)];rw [Array.getElem?_replicate];split<;>rfl
  rw [a];exact rA _
def FK (P:Program) (E:Env):Prop:=∀f F,E f=some F→∃fn,P.funcs[f]?=some fn∧ak P fn=some F
abbrev jk:=Nat→Option (List Value→AH→Option (Value×AH))
def Bl (P:Program) (O:jk):Prop:=∀f g,O f=some g→∀as H v H',g as H=some (v,H')→C6 P f∧Fs P f as H v H'
theorem Bm (D:P.follows .mixedOrders=true) {E:Env} {O:jk} (K:FK P E) (J:Bl P O):∀n,px P (fu E O n)
 |0=>fun f as H v N h=>by simp [fu]at h
 |n+1=>fun f as H v N h=>by
  have ih:=Bm D K J n;simp only [fu]at h
  cases s:O f with
  |some g=>
   simp only [s]at h;exact J f g s as H v N h
  |none=>
   simp only [s]at h
   cases u:E f with
   |none=>simp [u]at h
   |some F=>
    simp only [u]at h;obtain ⟨b,h⟩:=aw h;obtain ⟨fn,G,d⟩:=K f F u;unfold ak at d
    cases o:fn.body with
    |none=>simp [o]at d
    |some c=>
     simp only [o]at d;split at d
     case h_2=>cases d
     rename_i x r U B;split at d
     case isTrue=>cases d
     rename_i C;cases d;simp only [Bool.or_eq_true,not_or,Bool.not_eq_true,decide_eq_false_iff_not,Nat.not_lt]at C;refine ⟨⟨fn,G,by rw [o];rfl,C.1⟩, ?_⟩;intro w0 φ w k R W A;refine calls_of_wp G o ?_
     have Y:k.size=fn.params.size+fn.nfree:=by
      have:=A.length;rw [nb]at b;simp at b this;omega
     cases m:aD (fu E O n) n x (Fr.of as) H with
     |none=>simp [m]at h
     |some q=>
      obtain ⟨ex,L,M⟩:=q;have V:=JT ih (Po D ih) n c x (w0:=w0) (w:=w) (φ:=φ) (a:={tmps:=k++Array.replicate (fn.ntmps- k.size) undef,defers:=[]}) U m (fun t=>wT _ A t) R W (by simp;omega) rfl;refine wp_mono V ?_;rintro e a2 X ⟨rfl,z,p,Q,S,Z,I⟩
      cases ex with
      |exit i=>simp [m]at h
      |normal=>
       simp only [m]at h
       cases j:RS.all L M r with
       |none=>simp [j]at h
       |some T=>
        simp only [j,aqV,aq2]at h;obtain ⟨rfl,rfl⟩:=h;obtain ⟨l,y,h2⟩:=qj S p B j;exact ⟨I,l,y,z,l,rfl,h2,p,Q⟩
      |ret=>
       simp only [m]at h
       cases j:RS.all L M r with
       |none=>simp [j]at h
       |some T=>
        simp only [j,aqV,aq2]at h;obtain ⟨rfl,rfl⟩:=h;obtain ⟨l,y,h2⟩:=qj S p B j;exact ⟨I,l,y,z,l,rfl,h2,p,Q⟩
end
end
section
open Go
def De (c d:Cl):Prop:=∀f as H r,c f as H=some r→d f as H=some r
theorem qT {c d:Cl} (h:De c d) {o:AO} {g:Fr} {H:AH} {r:Fr×AH} (k:jw c o g H=some r):jw d o g H=some r:=by
 obtain ⟨j,l⟩:=r;obtain ⟨x,e,k⟩:=dJ.1 k;refine dJ.2 ⟨x,e,?_⟩
 cases k with
 |off a b c=>exact .off a b c
 |val a b=>exact .val a b
 |call a f as i b c=>exact .call a f as i b (h _ _ _ _ c)
theorem uT {c d:Cl} (h:De c d):∀{l:List AO} {a:Fr} {H:AH} {r:Fr×AH},ops c l a H=some r→ops d l a H=some r
 |[],a,H,r,k=>k
 |o::l,a,H,r,k=>by
  simp only [ops]at k⊢
  cases b:jw c o a H with
  |none=>simp [b]at k
  |some q=>
   rw [qT h b];simp only [b]at k;exact uT h k
theorem qU {c d:Cl} (h:De c d):∀{l:List AO} {a:Fr} {H:AH} {r:List (Fr×AH)},jx c l a H=some r→jx d l a H=some r
 |[],a,H,r,k=>k
 |o::l,a,H,r,k=>by
  simp only [jx]at k⊢
  cases b:jw c o a H with
  |none=>simp [b]at k
  |some q=>
   rw [qT h b];simp only [b]at k⊢
   cases h2:jx c l q.1 q.2 with
   |none=>simp [h2]at k
   |some e=>rw [qU h h2];simpa [h2]using k
theorem dV {c d:Cl} (h:De c d):∀{n:Nat} {a:AC} {f:Fr} {H:AH} {r:Ex×Fr×AH},aD c n a f H=some r→aD d n a f H=some r:=by
 intro n
 induction n with
 |zero=>intro a f H r k;simp [aD]at k
 |succ n ih=>
  intro a f H r k
  cases a with
  |bG l=>
   simp only [aD]at k⊢
   cases e:ops c l f H with
   |none=>simp [e]at k
   |some q=>rw [uT h e];simpa [e]using k
  |bQ l o=>
   simp only [aD,wG]at k⊢
   cases e:jx c l f H with
   |none=>simp [e]at k
   |some q=>rw [qU h e];simpa [e]using k
  |seq a b=>
   simp only [aD]at k⊢
   cases e:aD c n a f H with
   |none=>simp [e]at k
   |some q=>
    rw [ih e];obtain ⟨ex,g,j⟩:=q
    cases ex<;>simp only [e]at k⊢<;>first
     |exact ih k
     |exact k
  |cond x a b=>
   simp only [aD]at k⊢
   cases m:x.ev f<;>simp only [m]at k⊢<;>first
    |(cases k;done)
    |skip
   rename_i t;cases t<;>exact ih k
  |block i a=>
   simp only [aD]at k⊢
   cases e:aD c n a f H with
   |none=>simp [e]at k
   |some q=>
    rw [ih e];obtain ⟨ex,g,j⟩:=q;cases ex<;>simp only [e]at k⊢<;>exact k
  |loop a=>
   simp only [aD]at k⊢
   cases e:aD c n a f H with
   |none=>simp [e]at k
   |some q=>
    rw [ih e];obtain ⟨ex,g,j⟩:=q
    cases ex<;>simp only [e]at k⊢<;>first
     |exact ih k
     |exact k
  |_=>simpa only [aD]using k
theorem tQ {E:Env} {O:jk}:∀n,De (fu E O n) (fu E O (n+1))
 |0=>fun f as H r k=>by simp [fu]at k
 |n+1=>fun f as H r k=>by
  have ih:=tQ (E:=E) (O:=O) n;rw [fu]at k⊢
  cases b:O f with
  |some g=>simpa [b]using k
  |none=>
   simp only [b]at k⊢
   cases c:E f with
   |none=>simp [c]at k
   |some F=>
    simp only [c]at k⊢;obtain ⟨d,k⟩:=aw k;rw [d,cond_true]
    cases a:aD (fu E O n) n F.body (Fr.of as) H with
    |none=>simp [a]at k
    |some q=>
     rw [fv (arn n) (dV ih a)]
     simpa [a]using k
theorem dz {E:Env} {O:jk} {n m:Nat} (h:n≤m):De (fu E O n) (fu E O m):=by
 induction m with
 |zero=>obtain rfl:n=0:=by omega
        exact fun _ _ _ _ k=>k
 |succ m ih=>
  rcases Nat.lt_or_eq_of_le h with a|a
  · exact fun f as H r k=>tQ m f as H r (ih (by omega) f as H r k)
  · subst a;exact fun _ _ _ _ k=>k
section
variable(E:Env) (O:jk)
def Ca (f:Nat) (as:List Value) (H:AH) (Q:Value→AH→Prop):Prop:=∃n x H',fu E O n f as H=some (x,H')∧Q x H'
def Wp (c:AC) (fr:Fr) (H:AH) (Q:Ex→Fr→AH→Prop):Prop:=∃n ex bP H',aD (fu E O n) n c fr H=some (ex,bP,H')∧Q ex bP H'
def qF (o:AO) (fr:Fr) (H:AH) (Q:Fr→AH→Prop):Prop:=∃n bP H',jw (fu E O n) o fr H=some (bP,H')∧Q bP H'
def Wo (l:List AO) (fr:Fr) (H:AH) (Q:Fr→AH→Prop):Prop:=∃n bP H',ops (fu E O n) l fr H=some (bP,H')∧Q bP H'
def Wt (l:List AO) (fr:Fr) (H:AH) (Q:List (Fr×AH)→Prop):Prop:=∃n ss,jx (fu E O n) l fr H=some ss∧Q ss
variable{E O}
theorem Ca.mono {f:Nat} {as:List Value} {H:AH} {Q Q':Value→AH→Prop} (h:Ca E O f as H Q) (k:∀x H',Q x H'→Q' x H'):Ca E O f as H Q':=
 let⟨n,x,H',e,q⟩:=h;⟨n,x,H',e,k _ _ q⟩
theorem Wp.mono {c:AC} {b:Fr} {H:AH} {Q Q':Ex→Fr→AH→Prop} (h:Wp E O c b H Q) (k:∀ex a H',Q ex a H'→Q' ex a H'):Wp E O c b H Q':=
 let⟨n,x,a,H',e,q⟩:=h;⟨n,x,a,H',e,k _ _ _ q⟩
theorem nW {n m:Nat} (h:n≤m) {c:AC} {a:Fr} {H:AH} {r:Ex×Fr×AH} (k:aD (fu E O n) n c a H=some r):aD (fu E O m) m c a H=some r:=
 fv h (dV (dz h) k)
theorem Wp.skip {a:Fr} {H:AH} {Q:Ex→Fr→AH→Prop} (h:Q .normal a H):Wp E O .skip a H Q:=⟨1,_,_,_,rfl,h⟩
theorem Wp.ret {a:Fr} {H:AH} {Q:Ex→Fr→AH→Prop} (h:Q .ret a H):Wp E O .ret a H Q:=⟨1,_,_,_,rfl,h⟩
theorem Wp.exit {i:Nat} {a:Fr} {H:AH} {Q:Ex→Fr→AH→Prop} (h:Q (.exit i) a H):Wp E O (.exit i) a H Q:=⟨1,_,_,_,rfl,h⟩
def FM (k:Fr→AH→Prop) (Q:Ex→Fr→AH→Prop):Ex→Fr→AH→Prop
 | .normal,fr,H=>k fr H
 |ex,fr,H=>Q ex fr H
theorem Wp.seq {a b:AC} {d:Fr} {H:AH} {Q:Ex→Fr→AH→Prop} (h:Wp E O a d H (FM (fun k H'=>Wp E O b k H' Q) Q)):Wp E O (.seq a b) d H Q:=by
 obtain ⟨n,ex,c,f,e,q⟩:=h
 cases ex with
 |normal=>
  obtain ⟨m,l,j,p,o,g⟩:=q;refine ⟨max n m+1,l,j,p,?_,g⟩;simp only [aD];rw [dV (dz (arn _)) (nW (Nat.le_max_left n m) e)];exact dV (dz (arn _)) (nW (Nat.le_max_right n m) o)
 |exit i=>
  refine ⟨n+1,_,c,f,?_,q⟩;simp only [aD];rw [dV (dz (arn _)) e]
 |ret=>
  refine ⟨n+1,_,c,f,?_,q⟩;simp only [aD];rw [dV (dz (arn _)) e]
theorem Wp.cond {x:X} {a b:AC} {c:Fr} {H:AH} {Q:Ex→Fr→AH→Prop} {t:Bool} (d:x.ev c= .bool t) (h:Wp E O (bif t then a else b) c H Q):Wp E O (.cond x a b) c H Q:=by
 obtain ⟨n,ex,f,g,e,q⟩:=h;refine ⟨n+1,ex,f,g,?_,q⟩;simp only [aD,d];cases t<;>exact dV (dz (arn _)) e
def rT (i:Nat) (Q:Ex→Fr→AH→Prop):Ex→Fr→AH→Prop
 | .exit j,fr,H=>if j=i then Q .normal fr H else Q (.exit j) fr H
 |ex,fr,H=>Q ex fr H
theorem Wp.block {i:Nat} {a:AC} {g:Fr} {H:AH} {Q:Ex→Fr→AH→Prop} (h:Wp E O a g H (rT i Q)):Wp E O (.block i a) g H Q:=by
 obtain ⟨n,ex,c,f,e,q⟩:=h;have d:=dV (dz (arn n)) e
 cases ex with
 |normal=>exact ⟨n+1,_,c,f,by simp only [aD];rw [d],q⟩
 |ret=>exact ⟨n+1,_,c,f,by simp only [aD];rw [d],q⟩
 |exit j=>
  simp only [rT]at q;by_cases b:j=i
  ·rw [if_pos b]at q
   refine ⟨n+1,_,c,f,?_,q⟩;simp only [aD];rw [d];simp [nb,b]
  ·rw [if_neg b]at q
   refine ⟨n+1,_,c,f,?_,q⟩;simp only [aD];rw [d];simp [nb,b]
theorem Wp.UB {a:AC} {c:Fr} {H:AH} {Q:Ex→Fr→AH→Prop} (h:Wp E O a c H (FM (fun j H'=>Wp E O (.loop a) j H' Q) Q)):Wp E O (.loop a) c H Q:=by
 obtain ⟨n,ex,b,d,e,q⟩:=h
 cases ex with
 |normal=>
  obtain ⟨m,k,g,o,l,f⟩:=q;refine ⟨max n m+1,k,g,o,?_,f⟩;simp only [aD];rw [dV (dz (arn _)) (nW (Nat.le_max_left n m) e)];exact dV (dz (arn _)) (nW (Nat.le_max_right n m) l)
 |exit i=>
  refine ⟨n+1,_,b,d,?_,q⟩;simp only [aD];rw [dV (dz (arn _)) e]
 |ret=>
  refine ⟨n+1,_,b,d,?_,q⟩;simp only [aD];rw [dV (dz (arn _)) e]
theorem Wp.loop {a:AC} {Q:Ex→Fr→AH→Prop} (I:Nat→Fr→AH→Prop) (step:∀k b H,I k b H→Wp E O a b H (FM (fun c H'=>∃j,j<k∧I j c H') Q)) (k:Nat) {b:Fr} {H:AH} (h:I k b H):Wp E O (.loop a) b H Q:=by
 induction k using Nat.strongRecOn generalizing b H with
 |_ k ih=>
  refine Wp.UB ((step k b H h).mono ?_);intro ex c H' q
  cases ex with
  |normal=>obtain ⟨j,d,e⟩:=q;exact ih j d e
  |exit i=>exact q
  |ret=>exact q
theorem Wp.bG {l:List AO} {a:Fr} {H:AH} {Q:Ex→Fr→AH→Prop} (h:Wo E O l a H (Q .normal)):Wp E O (.bG l) a H Q:=by
 obtain ⟨n,b,c,e,q⟩:=h;refine ⟨n+1,_,b,c,?_,q⟩;simp only [aD];rw [uT (dz (arn _)) e]
theorem Wo.nil {a:Fr} {H:AH} {Q:Fr→AH→Prop} (h:Q a H):Wo E O [] a H Q:=⟨0,a,H,rfl,h⟩
theorem Wo.cons {o:AO} {l:List AO} {a:Fr} {H:AH} {Q:Fr→AH→Prop} (h:qF E O o a H (fun c H'=>Wo E O l c H' Q)):Wo E O (o::l) a H Q:=by
 obtain ⟨n,g,i,e,m,b,f,d,q⟩:=h;refine ⟨max n m,b,f,?_,q⟩;simp only [ops];rw [qT (dz (Nat.le_max_left n m)) e];exact uT (dz (Nat.le_max_right n m)) d
theorem qF.val {o:AO} {a:Fr} {H H':AH} {x:Value} {Q:Fr→AH→Prop} (b:o.wanted a=true) (h:ar o.o (X.ev a) H=some (.v x,H')) (q:Q (a.aN o.d x) H'):qF E O o a H Q:=
 ⟨0,_,_,dJ.2 ⟨x,rfl,.val b h⟩,q⟩
theorem qF.off {o:AO} {a:Fr} {H:AH} {Q:Fr→AH→Prop} (b:o.wanted a=false) (q:Q (a.aN o.d undef) H):qF E O o a H Q:=
 ⟨0,_,_,dJ.2 ⟨undef,rfl,.off b rfl rfl⟩,q⟩
theorem qF.call {o:AO} {a:Fr} {H H1:AH} {f:Nat} {as:List Value} {Q:Fr→AH→Prop} (b:o.wanted a=true) (h:ar o.o (X.ev a) H=some (.enter f as,H1)) (q:Ca E O f as H1 (fun x H'=>Q (a.aN o.d x) H')):qF E O o a H Q:=by
 obtain ⟨n,x,H',e,q⟩:=q;exact ⟨n,_,_,dJ.2 ⟨x,rfl,.call b f as H1 h e⟩,q⟩
theorem Wp.bQ {l:List AO} {ck:List (Nat×Nat×Nat)} {a:Fr} {H:AH} {Q:Ex→Fr→AH→Prop}
 (h:Wt E O l a H (fun b=>(chain ((a,H)::b)=true∧ck.all (jI l ((a,H)::b))=true)∧Q .normal (fH (a,H) b).1 (fH (a,H) b).2)):Wp E O (.bQ l ck) a H Q:=by
 obtain ⟨n,b,e,⟨c,h2⟩,q⟩:=h;refine ⟨n+1,_,_,_,?_,q⟩;simp only [aD,wG];rw [qU (dz (arn _)) e];simp [c,h2]
theorem Wt.nil {a:Fr} {H:AH} {Q:List (Fr×AH)→Prop} (h:Q []):Wt E O [] a H Q:=⟨0,[],rfl,h⟩
theorem Wt.cons {o:AO} {l:List AO} {c:Fr} {H:AH} {Q:List (Fr×AH)→Prop} (h:qF E O o c H (fun b H'=>Wt E O l b H' (fun a=>Q ((b,H')::a)))):Wt E O (o::l) c H Q:=by
 obtain ⟨n,f,g,e,m,a,d,q⟩:=h;refine ⟨max n m,_,?_,q⟩;simp only [jx];rw [qT (dz (Nat.le_max_left n m)) e];simp only;rw [qU (dz (Nat.le_max_right n m)) d]
def wV (r:List RS) (Q:Value→AH→Prop):Ex→Fr→AH→Prop
 | .exit _,_,_=>False
 |_,fr,H=>∃vs,RS.all fr H r=some vs∧Q (pZ vs) H
theorem Ca.body {f:Nat} {F:AF} {as:List Value} {H:AH} {Q:Value→AH→Prop} (b:O f=none) (d:E f=some F) (c:as.length=F.np) (h:Wp E O F.body (Fr.of as) H (wV F.res Q)):Ca E O f as H Q:=by
 obtain ⟨n,ex,j,k,e,q⟩:=h
 cases ex with
 |exit i=>exact q.elim
 |normal=>
  obtain ⟨g,a,q⟩:=q;refine ⟨n+1,_,_,?_,q⟩;simp only [fu,b,d];rw [nb,decide_eq_true c,cond_true,e];simp [a]
 |ret=>
  obtain ⟨g,a,q⟩:=q;refine ⟨n+1,_,_,?_,q⟩;simp only [fu,b,d];rw [nb,decide_eq_true c,cond_true,e];simp [a]
theorem Ca.wW {f:Nat} {g:List Value→AH→Option (Value×AH)} {as:List Value} {H H':AH} {x:Value} {Q:Value→AH→Prop} (a:O f=some g) (h:g as H=some (x,H')) (q:Q x H'):Ca E O f as H Q:=
 ⟨1,x,H',by simp [fu,a,h],q⟩
end
end
section
open Go Go.RowKit
def tR (W:World) (b:Nat):Option po:=match W.heap[b]? with
 |some (.cells cs _ _)=>some (.cells 1048576 cs.toList)
 |_=>none
def H0 (W:World):AH:=⟨tR W,W.heap.size,W.heap.size,.nil,none⟩
def rU (W:World):bD:=⟨W.heap.size,W.heap.size,fun b=>if b<W.heap.size then some ⟨b,0,0,1⟩else none⟩
theorem zz (W:World) (b:Nat):(H0 W).raw b=tR W b:=rfl
theorem ab1 (W:World):∀b,b<(rU W).n0→(rU W).m b=some ⟨b,0,0,1⟩:=fun b a=>if_pos a
theorem ab2 {W:World} (i:wJ W):Rel W (rU W) (H0 W) W where
 n0:=rfl
 pr:=aqY _
 qa:=aqY _
 c0:=rfl
 below:=Below.refl _ _
 ig:=fun b c=>if_pos c
 jK:=fun b z cs c a=>by
  rw [zz]at a;unfold tR at a;split at a
  ·rename_i p e j g
   cases a;exact ⟨e,j,by rw [g]⟩
  ·cases a
 cells:=fun b l z cs c d a=>by
  have:¬ b<W.heap.size:=Nat.not_lt.2 c;simp only [rU,if_neg this]at d;cases d
 maps:=fun b l es c d a=>by
  have:¬ b<W.heap.size:=Nat.not_lt.2 c;simp only [rU,if_neg this]at d;cases d
 inj:=fun k q n m h o f h2 _ _ _=>by
  have:¬ k<W.heap.size:=Nat.not_lt.2 h;simp only [rU,if_neg this]at f;cases f
 nM:=fun b s e=>by cases e
 uE:=i
theorem Pq (W:World):qb (rU W) (H0 W):=fun b a=>if_neg (Nat.not_lt.2 a)
theorem wX {P:Program} {E:Env} {O:jk} {W:World} (d:wJ W) (b:P.follows .mixedOrders=true) (i:FK P E) (g:Bl P O) {f:Nat} {as:List Value} {as':Array Value} (a:VL (rU W) as as'.toList)
 (h:Ca E O f as (H0 W) (fun x _=>x= .bool true)):Calls P f as' W fun e w'=>e= .returned (.bool true)∧Below W.heap.size W w':=by
 obtain ⟨n,x,l,e,rfl⟩:=h;refine ((Bm b i g n f as _ _ _ e).2 W (rU W) W as' (ab2 d) (Pq W) a).mono ?_;rintro e w' ⟨j,k,rfl,c,R,G⟩;rw [c.bool];exact ⟨rfl,R.below⟩
def Good (P:Program) (f:Nat) (F:AF):Prop:=∃fn,P.funcs[f]?=some fn∧ak P fn=some F
def zA (P:Program) (g:Nat→Nat) (t:T (Option AF)):Prop:=∀k F,t.get none k=some F→Good P (g k) F
theorem zA.nil {P:Program} {g:Nat→Nat}:zA P g .nil:=fun k F h=>by cases k<;>cases h
theorem zA.node {P:Program} {g:Nat→Nat} {v:Option AF} {l r:T (Option AF)} (h:∀F,v=some F→Good P (g 0) F) (c:zA P (fun k=>g (2*k+1)) l) (b:zA P (fun k=>g (2*k+2)) r):zA P g (.node v l r):=by
 intro k F a;simp only [T.get,nb,Bool.cond_decide]at a;split at a
 ·rename_i e
  subst e;exact h F a
 ·split at a
  ·have:=c _ F a
   simp only at this;rwa [show 2*(k/2)+1=k by omega]at this
  ·have:=b _ F a
   simp only at this;rwa [show 2*(k/2- 1)+2=k by omega]at this
open Go Go.RowKit
theorem Rel.later {w0 w w':World} {φ:bD} {H:AH} (R:Rel w0 φ H w) (B:Below w.heap.size w w'):Rel w0 φ H w' where
 n0:=R.n0
 pr:=R.pr
 qa:=R.qa
 c0:=R.c0
 below:=⟨B.os.trans R.below.os,B.tape.trans R.below.tape,B.output.trans R.below.output,arh R.below.size B.size,fun k i=>(B.block k (ari i R.below.size)).trans (R.below.block k i)⟩
 ig:=R.ig
 jK:=fun b z cs f d=>by
  obtain ⟨e,r,o⟩:=R.jK b z cs f d;exact ⟨e,r,(B.block b (aq8.1 o).1).trans o⟩
 cells:=fun b l z cs f j d=>by
  obtain ⟨h,h2,m,arr,e,a,g,q,p⟩:=R.cells b l z cs f j d;exact ⟨h,h2,m,arr,e,(B.block l.c (aq8.1 a).1).trans a,g,q,p⟩
 maps:=fun b l es f j d=>by
  obtain ⟨h,n,t,a,g⟩:=R.maps b l es f j d;exact ⟨h,n,t,(B.block l.c (aq8.1 a).1).trans a,g⟩
 inj:=R.inj
 uE:=R.uE
 nM:=fun b s e=>by
  obtain ⟨h,h2,l,m,a,g⟩:=R.nM b s e;exact ⟨h,h2,l,m,a,g.rv rfl (fun k i _=>B.block k i) fun A y x v u=>.inl ⟨x,v,u⟩⟩
def He:AH:=⟨fun _=>none,0,0,.nil,none⟩
def isTrue:Option (Value×AH)→Bool
 |some (.bool true,_)=>true
 |_=>false
end
section
open Go Go.RowKit
section
variable{E:Env} {O:jk}
def J1 (E:Env) (O:jk) (r:Option (iH×AH)) (Q:Value→AH→Prop):Prop:=match r with
 |some (.v x,H)=>Q x H
 |some (.enter f as,H)=>Ca E O f as H Q
 |none=>False
theorem J2 (a:Fr) (H:AH) (Q:Ex→Fr→AH→Prop):Wp E O .skip a H Q↔Q .normal a H:=by
 refine ⟨fun⟨n,ex,b,c,e,q⟩=>?_,Wp.skip⟩
 cases n with
 |zero=>simp [aD]at e
 |succ n=>simp only [aD,aqV,aq2]at e;obtain ⟨rfl,rfl,rfl⟩:=e;exact q
theorem Pr (a:Fr) (H:AH) (Q:Ex→Fr→AH→Prop):Wp E O .ret a H Q↔Q .ret a H:=by
 refine ⟨fun⟨n,ex,b,c,e,q⟩=>?_,Wp.ret⟩
 cases n with
 |zero=>simp [aD]at e
 |succ n=>simp only [aD,aqV,aq2]at e;obtain ⟨rfl,rfl,rfl⟩:=e;exact q
theorem J3 (i:Nat) (a:Fr) (H:AH) (Q:Ex→Fr→AH→Prop):Wp E O (.exit i) a H Q↔Q (.exit i) a H:=by
 refine ⟨fun⟨n,ex,b,c,e,q⟩=>?_,Wp.exit⟩
 cases n with
 |zero=>simp [aD]at e
 |succ n=>simp only [aD,aqV,aq2]at e;obtain ⟨rfl,rfl,rfl⟩:=e;exact q
theorem Pt (l:List AO) (a:Fr) (H:AH) (Q:Ex→Fr→AH→Prop):Wp E O (.bG l) a H Q↔Wo E O l a H (Q .normal):=by
 refine ⟨fun⟨n,ex,b,c,e,q⟩=>?_,Wp.bG⟩
 cases n with
 |zero=>simp [aD]at e
 |succ n=>
  simp only [aD]at e
  cases h:ops (fu E O (n+1)) l a H with
  |none=>simp [h]at e
  |some r=>
   simp only [h,aqV,aq2]at e;obtain ⟨rfl,rfl,rfl⟩:=e;exact ⟨n+1,_,_,h,q⟩
theorem Pu (a b:AC) (d:Fr) (H:AH) (Q:Ex→Fr→AH→Prop):Wp E O (.seq a b) d H Q↔Wp E O a d H (FM (fun f H'=>Wp E O b f H' Q) Q):=by
 refine ⟨fun⟨n,ex,f,H',e,q⟩=>?_,Wp.seq⟩
 cases n with
 |zero=>simp [aD]at e
 |succ n=>
  simp only [aD]at e
  cases h:aD (fu E O (n+1)) n a d H with
  |none=>simp [h]at e
  |some r=>
   obtain ⟨g,j,k⟩:=r;have c:=fv (arn n) h
   cases g with
   |normal=>
    simp only [h]at e;exact ⟨n+1,_,_,_,c,n+1,_,_,_,fv (arn n) e,q⟩
   |exit i=>
    simp only [h,aqV,aq2]at e;obtain ⟨rfl,rfl,rfl⟩:=e;exact ⟨n+1,_,_,_,c,q⟩
   |ret=>
    simp only [h,aqV,aq2]at e;obtain ⟨rfl,rfl,rfl⟩:=e;exact ⟨n+1,_,_,_,c,q⟩
theorem FN (i:Nat) (a:AC) (b:Fr) (H:AH) (Q:Ex→Fr→AH→Prop):Wp E O (.block i a) b H Q↔Wp E O a b H (rT i Q):=by
 refine ⟨fun⟨n,ex,l,m,e,q⟩=>?_,Wp.block⟩
 cases n with
 |zero=>simp [aD]at e
 |succ n=>
  simp only [aD]at e
  cases h:aD (fu E O (n+1)) n a b H with
  |none=>simp [h]at e
  |some r=>
   obtain ⟨d,g,k⟩:=r;have f:=fv (arn n) h;refine ⟨n+1,d,g,k,f,?_⟩
   cases d with
   |normal=>simp only [h,aqV,aq2]at e;obtain ⟨rfl,rfl,rfl⟩:=e;exact q
   |ret=>simp only [h,aqV,aq2]at e;obtain ⟨rfl,rfl,rfl⟩:=e;exact q
   |exit j=>
    simp only [h,nb,Bool.cond_decide]at e;simp only [rT];by_cases c:j=i
    ·rw [if_pos c]at e⊢
     simp only [aqV,aq2]at e;obtain ⟨rfl,rfl,rfl⟩:=e;exact q
    ·rw [if_neg c]at e⊢
     simp only [aqV,aq2]at e;obtain ⟨rfl,rfl,rfl⟩:=e;exact q
theorem gJ (o:AO) (l:List AO) (a:Fr) (H:AH) (Q:Fr→AH→Prop):Wo E O (o::l) a H Q↔qF E O o a H (fun b H'=>Wo E O l b H' Q):=by
 refine ⟨fun⟨n,b,H',e,q⟩=>?_,Wo.cons⟩;simp only [ops]at e
 cases h:jw (fu E O n) o a H with
 |none=>simp [h]at e
 |some r=>
  simp only [h]at e;exact ⟨n,_,_,h,n,_,_,e,q⟩
theorem fK (o:AO) (g:Fr) (H:AH) (Q:Fr→AH→Prop) (j:o.wanted g=true):qF E O o g H Q↔J1 E O (ar o.o (X.ev g) H) (fun x H'=>Q (g.aN o.d x) H'):=by
 constructor
 ·rintro ⟨n,l,H',e,q⟩
  obtain ⟨x,rfl,h⟩:=dJ.1 e
  cases h with
  |off a _ _=>rw [j]at a;cases a
  |val a b=>rw [b];exact q
  |call a f as k b c=>rw [b];exact ⟨n,x,H',c,q⟩
 ·intro h
  cases i:ar o.o (X.ev g) H with
  |none=>rw [i]at h;exact h.elim
  |some r=>
   obtain ⟨res,k⟩:=r;rw [i]at h
   cases res with
   |v x=>exact qF.val j i h
   |enter f as=>exact qF.call j i h
theorem Bn (o:AO) (i:Fr) (H:AH) (Q:Fr→AH→Prop) (g:o.wanted i=false):qF E O o i H Q↔Q (i.aN o.d undef) H:=by
 constructor
 ·rintro ⟨n,j,l,e,q⟩
  obtain ⟨x,rfl,h⟩:=dJ.1 e
  cases h with
  |off _ a b=>subst a;subst b;exact q
  |val a b=>rw [g]at a;cases a
  |call a f as k b c=>rw [g]at a;cases a
 ·exact fun h=>qF.off g h
inductive Ko where
 |seq (b:AC)
 |aS (i:Nat)
def Un (E:Env) (O:jk):Ex→List Ko→Fr→AH→(Ex→Fr→AH→Prop)→Prop
 |ex,[],fr,H,Q=>Q ex fr H
 | .normal,.seq b::ks,fr,H,Q=>Wp E O b fr H (fun ex bP H'=>Un E O ex ks bP H' Q)
 | .normal,.aS _::ks,fr,H,Q=>Un E O .normal ks fr H Q
 | .exit j,.seq _::ks,fr,H,Q=>Un E O (.exit j) ks fr H Q
 | .exit j,.aS i::ks,fr,H,Q=>if j=i then Un E O .normal ks fr H Q else Un E O (.exit j) ks fr H Q
 | .ret,_::ks,fr,H,Q=>Un E O .ret ks fr H Q
def Wk (E:Env) (O:jk) (c:AC) (ks:List Ko) (fr:Fr) (H:AH) (Q:Ex→Fr→AH→Prop):Prop:=Wp E O c fr H (fun ex bP H'=>Un E O ex ks bP H' Q)
def Wr (E:Env) (O:jk) (l:List AO) (ks:List Ko) (fr:Fr) (H:AH) (Q:Ex→Fr→AH→Prop):Prop:=Wo E O l fr H (fun bP H'=>Un E O .normal ks bP H' Q)
def ts (l:List AO) (ck:List (Nat×Nat×Nat)) (acc:List (Fr×AH)):Bool:=chain acc.reverse&&ck.all (jI l acc.reverse)
def Wd (E:Env) (O:jk) (l0:List AO) (ck:List (Nat×Nat×Nat)) (acc:List (Fr×AH)) (l:List AO) (ks:List Ko) (fr:Fr) (H:AH) (Q:Ex→Fr→AH→Prop):Prop:=
 Wt E O l fr H (fun ss=>ts l0 ck (ss.reverse++acc)=true∧Un E O .normal ks (fH (fr,H) ss).1 (fH (fr,H) ss).2 Q)
variable{ks:List Ko} {fr:Fr} {H:AH} {Q:Ex→Fr→AH→Prop}
@[simp]theorem FO (ex:Ex):Un E O ex [] fr H Q=Q ex fr H:=by cases ex<;>rfl
@[simp]theorem ah2 (b:AC):Un E O .normal (.seq b::ks) fr H Q=Wk E O b ks fr H Q:=rfl
@[simp]theorem ah3 (i:Nat):Un E O .normal (.aS i::ks) fr H Q=Un E O .normal ks fr H Q:=rfl
@[simp]theorem ah4 (j:Nat) (b:AC):Un E O (.exit j) (.seq b::ks) fr H Q=Un E O (.exit j) ks fr H Q:=rfl
theorem UC (i j:Nat):Un E O (.exit j) (.aS i::ks) fr H Q=if j=i then Un E O .normal ks fr H Q else Un E O (.exit j) ks fr H Q:=rfl
@[simp]theorem Pv (i:Nat):Un E O (.exit i) (.aS i::ks) fr H Q=Un E O .normal ks fr H Q:=by rw [UC,if_pos rfl]
@[simp]theorem ab3 (k:Ko):Un E O .ret (k::ks) fr H Q=Un E O .ret ks fr H Q:=by cases k<;>rfl
@[simp]theorem J4:Wk E O .skip ks fr H Q↔Un E O .normal ks fr H Q:=J2 _ _ _
@[simp]theorem Pw:Wk E O .ret ks fr H Q↔Un E O .ret ks fr H Q:=Pr _ _ _
@[simp]theorem J5 (i:Nat):Wk E O (.exit i) ks fr H Q↔Un E O (.exit i) ks fr H Q:=J3 _ _ _ _
@[simp]theorem Px (l:List AO):Wk E O (.bG l) ks fr H Q↔Wr E O l ks fr H Q:=Pt _ _ _ _
@[simp]theorem Py (a b:AC):Wk E O (.seq a b) ks fr H Q↔Wk E O a (.seq b::ks) fr H Q:=by
 unfold Wk;rw [Pu]
 have e:FM (fun c d=>Wp E O b c d fun ex c d=>Un E O ex ks c d Q) (fun ex c d=>Un E O ex ks c d Q)=fun ex c d=>Un E O ex (.seq b::ks) c d Q:=by
  funext ex c d;cases ex<;>rfl
 rw [e]
@[simp]theorem FP (i:Nat) (a:AC):Wk E O (.block i a) ks fr H Q↔Wk E O a (.aS i::ks) fr H Q:=by
 unfold Wk;rw [FN]
 have e:rT i (fun ex b c=>Un E O ex ks b c Q)=fun ex b c=>Un E O ex (.aS i::ks) b c Q:=by
  funext ex b c;cases ex<;>rfl
 rw [e]
theorem qk {x:X} {a b:AC} {c:Bool} {Q:Ex→Fr→AH→Prop} (d:x.ev fr= .bool c):Wp E O (.cond x a b) fr H Q↔Wp E O (bif c then a else b) fr H Q:=by
 refine ⟨?_,Wp.cond d⟩;rintro ⟨n,ex,f,g,e,q⟩
 cases n with
 |zero=>simp [aD]at e
 |succ n=>
  simp only [aD,d]at e;cases c<;>exact ⟨n+1,_,_,_,fv (arn n) e,q⟩
@[simp]theorem FQ {x:X} {a b:AC} (c:x.ev fr= .bool true):Wk E O (.cond x a b) ks fr H Q↔Wk E O a ks fr H Q:=qk c
@[simp]theorem FR {x:X} {a b:AC} (c:x.ev fr= .bool false):Wk E O (.cond x a b) ks fr H Q↔Wk E O b ks fr H Q:=qk c
@[simp]theorem Pz:Wr E O [] ks fr H Q↔Un E O .normal ks fr H Q:=by
 refine ⟨fun⟨n,a,b,e,q⟩=>?_,fun q=>Wo.nil q⟩;simp only [ops,aqV,aq2]at e;obtain ⟨rfl,rfl⟩:=e;exact q
def cl.aT:cl→Bool
 | .call _ _| .callv _ _=>true
 |_=>false
def Bo:Option (iH×AH)→Bool
 |some (.v _,_)=>true
 |_=>false
def valOf:Option (iH×AH)→Value
 |some (.v x,_)=>x
 |_=>undef
def fL (H:AH):Option (iH×AH)→AH
 |some (_,H')=>H'
 |none=>H
@[simp]theorem ah5 (x:Value) (H:AH):Bo (some (.v x,H))=true:=rfl
@[simp]theorem YE (x:Value) (H:AH):valOf (some (.v x,H))=x:=rfl
@[simp]theorem UD (x:Value) (H H':AH):fL H (some (.v x,H'))=H':=rfl
theorem qV (r:Option (iH×AH)) (a:∀f as H',r≠some (.enter f as,H')) (Q:Value→AH→Prop):J1 E O r Q↔Bo r=true∧Q (valOf r) (fL H r):=by
 cases r with
 |none=>simp [J1,Bo]
 |some q=>
  obtain ⟨res,H'⟩:=q
  cases res with
  |v x=>simp [J1]
  |enter f as=>exact absurd rfl (a f as H')
theorem qW {p:cl} {a:X→Value} (h:p.aT=false):∀f as H',ar p a H≠some (.enter f as,H'):=by
 intro f as H' e
 cases p<;>first
  |(simp [cl.aT]at h;done)
  |(simp only [ar,Bool.cond_eq_ite]at e
    (repeat' split at e)<;>simp at e)
@[simp]theorem ab4 (d:Nat) (p:cl) (l:List AO) (h:p.aT=false):Wr E O (⟨none,some d,p⟩::l) ks fr H Q↔
  Bo (ar p (X.ev fr) H)=true∧Wr E O l ks (fr.put d (valOf (ar p (X.ev fr) H))) (fL H (ar p (X.ev fr) H)) Q:=by
 unfold Wr;rw [gJ,fK _ _ _ _ rfl,qV _ (qW h)];rfl
@[simp]theorem ab5 (p:cl) (l:List AO) (h:p.aT=false):Wr E O (⟨none,none,p⟩::l) ks fr H Q↔
  Bo (ar p (X.ev fr) H)=true∧Wr E O l ks fr (fL H (ar p (X.ev fr) H)) Q:=by
 unfold Wr;rw [gJ,fK _ _ _ _ rfl,qV _ (qW h)];rfl
@[simp]theorem UE {t:Nat} {b:Bool} (d:Option Nat) (p:cl) (l:List AO) (h:fr.get t= .bool b):Wr E O (⟨some (t,b),d,p⟩::l) ks fr H Q↔Wr E O (⟨none,d,p⟩::l) ks fr H Q:=by
 unfold Wr;rw [gJ,gJ,fK _ _ _ _ (by simp [AO.wanted,h]),fK _ _ _ _ rfl]
theorem zB {t:Nat} {b:Bool} (d:Option Nat) (p:cl) (l:List AO) (h:fr.get t≠ .bool b):Wr E O (⟨some (t,b),d,p⟩::l) ks fr H Q↔Wr E O l ks (fr.aN d undef) H Q:=by
 unfold Wr;rw [gJ,Bn];unfold AO.wanted;dsimp only
 cases a:fr.get t<;>first
  |rfl
  |(rw [a]at h;simpa using h)
@[simp]theorem YF {t:Nat} (d:Nat) (p:cl) (l:List AO) (h:fr.get t= .bool false):Wr E O (⟨some (t,true),some d,p⟩::l) ks fr H Q↔Wr E O l ks (fr.put d undef) H Q:=
 zB _ _ _ (by rw [h];simp)
@[simp]theorem YG {t:Nat} (d:Nat) (p:cl) (l:List AO) (h:fr.get t= .bool true):Wr E O (⟨some (t,false),some d,p⟩::l) ks fr H Q↔Wr E O l ks (fr.put d undef) H Q:=
 zB _ _ _ (by rw [h];simp)
theorem bk {d:Nat} {f:Nat} {as:List X} {l:List AO} (h:Ca E O f (as.map (X.ev fr)) H (fun x H'=>Wr E O l ks (fr.put d x) H' Q)):Wr E O (⟨none,some d,.call f as⟩::l) ks fr H Q:=by
 unfold Wr;rw [gJ,fK _ _ _ _ rfl];exact h
theorem nX (l:List AO) (ck:List (Nat×Nat×Nat)) (h:Wd E O l ck [(fr,H)] l ks fr H Q):Wk E O (.bQ l ck) ks fr H Q:=by
 refine Wp.bQ ?_;obtain ⟨n,b,e,a,h2⟩:=h;unfold ts at a;simp only [List.reverse_append,List.reverse_cons,List.reverse_nil,List.nil_append,List.reverse_reverse,List.cons_append,aqX]at a;exact ⟨n,b,e,a,h2⟩
variable{l0:List AO} {ck:List (Nat×Nat×Nat)} {acc:List (Fr×AH)}
@[simp]theorem PA:Wd E O l0 ck acc [] ks fr H Q↔ts l0 ck acc=true∧Un E O .normal ks fr H Q:=by
 refine ⟨fun⟨n,a,e,q⟩=>?_,fun q=>Wt.nil (by simpa [fH]using q)⟩;simp only [jx,aqV]at e;subst e
 simpa [fH]using q
theorem iL (o:AO) (l:List AO) (fr:Fr) (H:AH) (Q:List (Fr×AH)→Prop):Wt E O (o::l) fr H Q↔qF E O o fr H (fun b H'=>Wt E O l b H' (fun a=>Q ((b,H')::a))):=by
 refine ⟨fun⟨n,a,e,q⟩=>?_,Wt.cons⟩;simp only [jx]at e
 cases h:jw (fu E O n) o fr H with
 |none=>simp [h]at e
 |some r=>
  simp only [h]at e
  cases h2:jx (fu E O n) l r.1 r.2 with
  |none=>simp [h2]at e
  |some c=>
   simp only [h2,aqV]at e;subst e;exact ⟨n,_,_,h,n,_,h2,q⟩
theorem iM (o:AO) (l:List AO):Wd E O l0 ck acc (o::l) ks fr H Q↔qF E O o fr H (fun a H'=>Wd E O l0 ck ((a,H')::acc) l ks a H' Q):=by
 unfold Wd;rw [iL];simp only [fH,List.reverse_cons,ark,List.singleton_append]
@[simp]theorem ab6 (d:Nat) (p:cl) (l:List AO) (h:p.aT=false):Wd E O l0 ck acc (⟨none,some d,p⟩::l) ks fr H Q↔
  Bo (ar p (X.ev fr) H)=true∧Wd E O l0 ck ((fr.put d (valOf (ar p (X.ev fr) H)),fL H (ar p (X.ev fr) H))::acc) l ks (fr.put d (valOf (ar p (X.ev fr) H))) (fL H (ar p (X.ev fr) H)) Q:=by
 rw [iM,fK _ _ _ _ rfl,qV _ (qW h)];rfl
@[simp]theorem ab7 (p:cl) (l:List AO) (h:p.aT=false):Wd E O l0 ck acc (⟨none,none,p⟩::l) ks fr H Q↔
  Bo (ar p (X.ev fr) H)=true∧Wd E O l0 ck ((fr,fL H (ar p (X.ev fr) H))::acc) l ks fr (fL H (ar p (X.ev fr) H)) Q:=by
 rw [iM,fK _ _ _ _ rfl,qV _ (qW h)];rfl
@[simp]theorem UF {t:Nat} {b:Bool} (d:Option Nat) (p:cl) (l:List AO) (h:fr.get t= .bool b):Wd E O l0 ck acc (⟨some (t,b),d,p⟩::l) ks fr H Q↔Wd E O l0 ck acc (⟨none,d,p⟩::l) ks fr H Q:=by
 rw [iM,iM,fK _ _ _ _ (by simp [AO.wanted,h]),fK _ _ _ _ rfl]
theorem zC {t:Nat} {b:Bool} (d:Option Nat) (p:cl) (l:List AO) (h:fr.get t≠ .bool b):Wd E O l0 ck acc (⟨some (t,b),d,p⟩::l) ks fr H Q↔Wd E O l0 ck ((fr.aN d undef,H)::acc) l ks (fr.aN d undef) H Q:=by
 rw [iM,Bn];unfold AO.wanted;dsimp only
 cases a:fr.get t<;>first
  |rfl
  |(rw [a]at h;simpa using h)
@[simp]theorem YH {t:Nat} (d:Nat) (p:cl) (l:List AO) (h:fr.get t= .bool false):Wd E O l0 ck acc (⟨some (t,true),some d,p⟩::l) ks fr H Q↔Wd E O l0 ck ((fr.put d undef,H)::acc) l ks (fr.put d undef) H Q:=
 zC _ _ _ (by rw [h];simp)
@[simp]theorem YI {t:Nat} (d:Nat) (p:cl) (l:List AO) (h:fr.get t= .bool true):Wd E O l0 ck acc (⟨some (t,false),some d,p⟩::l) ks fr H Q↔Wd E O l0 ck ((fr.put d undef,H)::acc) l ks (fr.put d undef) H Q:=
 zC _ _ _ (by rw [h];simp)
theorem lV {d:Nat} {f:Nat} {as:List X} {l:List AO} (h:Ca E O f (as.map (X.ev fr)) H (fun x H'=>Wd E O l0 ck ((fr.put d x,H')::acc) l ks (fr.put d x) H' Q)):Wd E O l0 ck acc (⟨none,some d,.call f as⟩::l) ks fr H Q:=by
 rw [iM,fK _ _ _ _ rfl];exact h
theorem Ca.dK {f:Nat} {F:AF} {as:List Value} {H:AH} {Q:Value→AH→Prop} (a:O f=none) (c:E f=some F) (b:as.length=F.np) (h:Wk E O F.body [] (Fr.of as) H (wV F.res Q)):Ca E O f as H Q:=
 Ca.body a c b (Wp.mono h fun ex fr H q=>by simpa using q)
def wY (E:Env) (O:jk) (I:Nat→Fr→AH→Prop) (k:Nat) (ks:List Ko) (Q:Ex→Fr→AH→Prop):Ex→Fr→AH→Prop
 | .normal,fr,H=>∃j,j<k∧I j fr H
 | .exit i,fr,H=>Un E O (.exit i) ks fr H Q
 | .ret,fr,H=>Un E O .ret ks fr H Q
@[simp]theorem YJ (I:Nat→Fr→AH→Prop) (k:Nat):wY E O I k ks Q .normal fr H=∃j,j<k∧I j fr H:=rfl
@[simp]theorem YK (I:Nat→Fr→AH→Prop) (k i:Nat):wY E O I k ks Q (.exit i) fr H=Un E O (.exit i) ks fr H Q:=rfl
@[simp]theorem YL (I:Nat→Fr→AH→Prop) (k:Nat):wY E O I k ks Q .ret fr H=Un E O .ret ks fr H Q:=rfl
theorem eO {a:AC} (I:Nat→Fr→AH→Prop) (step:∀k fr H,I k fr H→Wk E O a [] fr H (wY E O I k ks Q)) (k:Nat) (h:I k fr H):Wk E O (.loop a) ks fr H Q:=by
 refine Wp.loop I (fun k fr H b=>?_) k h;refine (step k fr H b).mono ?_;intro ex c d q;rw [FO]at q;cases ex<;>exact q
attribute [simp] Fr.bA Fr.eA X.ev pZ RS.all RS.get
@[simp]theorem ab8 (r:List RS) (Q:Value→AH→Prop):wV r Q .normal fr H=∃vs,RS.all fr H r=some vs∧Q (pZ vs) H:=rfl
@[simp]theorem ab9 (r:List RS) (Q:Value→AH→Prop):wV r Q .ret fr H=∃vs,RS.all fr H r=some vs∧Q (pZ vs) H:=rfl
@[simp]theorem S3 (x:X):(cl.mv x).aT=false:=rfl
@[simp]theorem Nz (c a b:X):(cl.pick c a b).aT=false:=rfl
@[simp]theorem J6 (z:List Value):(cl.alloc z).aT=false:=rfl
@[simp]theorem PD (x:X):(cl.box x).aT=false:=rfl
@[simp]theorem J7 (z:List Value) (ps:List (Nat×Nat×X)):(cl.build z ps).aT=false:=rfl
@[simp]theorem PE (len sz:Nat) (z:List Value) (ps:List (Nat×Nat×X)):(cl.bsl len sz z ps).aT=false:=rfl
@[simp]theorem S4 (x:X):(cl.ld x).aT=false:=rfl
@[simp]theorem PJ (n:Nat) (x:X):(cl.ldn n x).aT=false:=rfl
@[simp]theorem S5 (n:Nat) (x v:X):(cl.st n x v).aT=false:=rfl
@[simp]theorem NA (x:X):(cl.aW x).aT=false:=rfl
@[simp]theorem PL (op:BinOp) (x y:X):(cl.bin op x y).aT=false:=rfl
@[simp]theorem PM (k:Nat) (neg:Bool) (x y:X):(cl.eqk k neg x y).aT=false:=rfl
@[simp]theorem S6 (op:UnOp) (x:X):(cl.un op x).aT=false:=rfl
@[simp]theorem PN (k:IntKind) (x:X):(cl.mF k x).aT=false:=rfl
@[simp]theorem PQ (x:X):(cl.SK x).aT=false:=rfl
@[simp]theorem PR (f:Nat) (first cap:List X):(cl.mkf f first cap).aT=false:=rfl
@[simp]theorem J8:cl.mkmap.aT=false:=rfl
@[simp]theorem NB (sz bytes:Nat) (z:List Value) (x:X):(cl.mksl sz bytes z x).aT=false:=rfl
@[simp]theorem S7 (sz:Nat) (x:X) (lo hi mx:Option X):(cl.sl sz x lo hi mx).aT=false:=rfl
@[simp]theorem S8 (off:Nat) (x:X):(cl.fa off x).aT=false:=rfl
@[simp]theorem S9 (sz:Nat) (x i:X):(cl.ia sz x i).aT=false:=rfl
@[simp]theorem PT (len sz:Nat) (x i:X):(cl.pY len sz x i).aT=false:=rfl
@[simp]theorem Ta (x i:X):(cl.ix x i).aT=false:=rfl
@[simp]theorem NC (kk:Nat) (z:Value) (x k:X) (ok:Bool):(cl.look kk z x k ok).aT=false:=rfl
@[simp]theorem PU (kk:Nat) (x k v:X):(cl.mU kk x k v).aT=false:=rfl
@[simp]theorem PW (x:X) (i:Nat):(cl.ext x i).aT=false:=rfl
@[simp]theorem PX (sz bytes:Nat) (s x:X):(cl.app sz bytes s x).aT=false:=rfl
@[simp]theorem ND (sz:Nat) (d s:X):(cl.copy sz d s).aT=false:=rfl
@[simp]theorem NF (x:X):(cl.lens x).aT=false:=rfl
@[simp]theorem NG (x:X):(cl.ey x).aT=false:=rfl
@[simp]theorem PY (t:Nat) (x:X):(cl.OU t x).aT=false:=rfl
@[simp]theorem PZ (x:X) (l:List X):(cl.mxl x l).aT=false:=rfl
@[simp]theorem P2 (x:X) (l:List X):(cl.mnl x l).aT=false:=rfl
@[simp]theorem P3 (neg:Bool) (offs:List (Nat×Nat)) (x y:X):(cl.eqs neg offs x y).aT=false:=rfl
@[simp]theorem YM (b:Bool):ES .not (.bool b)=some (.bool !b):=rfl
@[simp]theorem YN (k:IntKind) (n:Int):ES .neg (.int k n)=some (.int k (k.wrap (0- n))):=rfl
@[simp]theorem UG (k:IntKind) (a b:Int):bX .add (.int k a) (.int k b)=some (.int k (k.wrap (a+b))):=by simp [bX,c7,jh]
@[simp]theorem UH (k:IntKind) (a b:Int):bX .sub (.int k a) (.int k b)=some (.int k (k.wrap (a- b))):=by simp [bX,c7,jh]
@[simp]theorem UI (k:IntKind) (a b:Int):bX .mul (.int k a) (.int k b)=some (.int k (k.wrap (a*b))):=by simp [bX,c7,jh]
@[simp]theorem UJ (k:IntKind) (a b:Int):bX .eql (.int k a) (.int k b)=some (.bool (decide (a=b))):=by simp [bX,c7,jh];rfl
@[simp]theorem UK (k:IntKind) (a b:Int):bX .neq (.int k a) (.int k b)=some (.bool (!decide (a=b))):=by simp [bX,c7,jh];rfl
@[simp]theorem UL (k:IntKind) (a b:Int):bX .lss (.int k a) (.int k b)=some (.bool (decide (a<b))):=by simp [bX,c7,jh]
@[simp]theorem UM (k:IntKind) (a b:Int):bX .leq (.int k a) (.int k b)=some (.bool (decide (a≤b))):=by simp [bX,c7,jh]
@[simp]theorem UN (k:IntKind) (a b:Int):bX .gtr (.int k a) (.int k b)=some (.bool (decide (a>b))):=by simp [bX,c7,jh]
@[simp]theorem UO (k:IntKind) (a b:Int):bX .geq (.int k a) (.int k b)=some (.bool (decide (a≥b))):=by simp [bX,c7,jh]
def aX (a b:ByteArray):Bool:=a.data.toList==b.data.toList
@[simp]theorem UQ (a b:ByteArray):bX .eql (.string a) (.string b)=some (.bool (aX a b)):=rfl
@[simp]theorem UR (a b:ByteArray):bX .neq (.string a) (.string b)=some (.bool (!aX a b)):=rfl
theorem eh {a b:ByteArray}:aX a b=true↔a=b:=by
 unfold aX;constructor
 ·intro h
  have:a.data.toList=b.data.toList:=by simpa using h
  exact ByteArray.ext (Array.toList_inj.1 this)
 ·rintro rfl;simp
def cA (s:ByteArray) (i:Nat):Int:=((s[i]?).getD 0).toNat
theorem FT {x i:X} {a:X→Value} {H:AH} {s:ByteArray} {n:Nat} (b:a x= .string s) (hi:a i= .int .i64 n) (h:n<s.size):ar (.ix x i) a H=some (.v (.int .u8 (cA s n)),H):=by
 simp only [ar,b,hi];rw [if_pos (by omega)];simp only [Int.toNat_natCast];unfold cA;have:s[n]?=some s[n]:=getElem?_pos s n h;rw [this];rfl
end
end
end Go.Proofs.YtppcmpmnglaleaaGreatDoor.A
