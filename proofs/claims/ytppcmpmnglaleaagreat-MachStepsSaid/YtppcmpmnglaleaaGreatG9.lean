/- Texts that stand one behind the other: AbsB, AbsC, AbsD, AbsE, AbsF, AbsG, AbsH, AbsI, AbsJ, AbsK, AbsL, AbsM. -/
import Derived.Test.YtppcmpmnglaleaaGreatG8
import Derived.Deep.LoopGhost
import Derived.Orders
set_option linter.unusedVariables false
set_option linter.unusedSimpArgs false
namespace Go.Proofs.YtppcmpmnglaleaaGreat.A
section
open Go Go.RowKit
section
variable{P:Program}
def Nq (P:Program) (f:Nat) (as:List Value) (H:AH) (v:Value) (H':AH):Prop:=
 ∀(w0:World) (φ:bS) (w:World) (as':Array Value),Rel w0 φ H w→qk φ H→VL φ as as'.toList→
  Calls P f as' w fun e w'=>∃dE v',e= .returned v'∧V dE v v'∧Rel w0 dE H' w'∧eB φ H w dE H' w'
def pL (P:Program) (call:Cl):Prop:=∀f as H v H',call f as H=some (v,H')→yW P f∧Nq P f as H v H'
theorem V.Cm {φ:bS} {v:Value} {b:Bool} (h:V φ v (.bool b)):v= .bool b:=by
 cases h;rfl
theorem Cn {φ:bS} {fr:Fr} {a:Act} (F:lY φ fr a) {f:Array Oper} {o:Oper} {g:Option (Nat×Bool)} {d:Option Nat} {p:cQ} (e:uC f o.guard=some g):
 Region.wanted o (yielded f a.tmps)=AO.wanted ⟨g,d,p⟩ fr:=by
 unfold Region.wanted AO.wanted
 cases m:o.guard with
 |none=>rw [m]at e;simp [uC]at e;subst e;rfl
 |some n=>
  obtain ⟨j,b⟩:=n;rw [m]at e;simp only [uC]at e
  cases k:(f[j]?).bind (·.dst)with
  |none=>simp [k]at e
  |some t=>
   simp [k]at e;subst e;dsimp only;have h:=F t
   have q:yielded f a.tmps j=match a.tmps[t]? with|some (.bool b)=>some b|_=>none:=by
    unfold yielded;rw [k];rfl
   rw [q]
   cases l:fr.get t with
   |bool c=>
    rw [l]at h;have:=h.bool
    have h2:a.tmps[t]?=some (.bool c):=by
     cases i:a.tmps[t]? with
     |none=>simp [i,undef]at this
     |some u=>simp [i]at this;rw [this]
    rw [h2];simp
   |_=>
    have:∀c,a.tmps[t]?≠some (.bool c):=by
     intro c r;have h2:a.tmps.getD t undef= .bool c:=by simp [r]
     rw [h2]at h;have:=h.Cm;rw [this]at l;cases l
    dsimp only
    cases i:a.tmps[t]? with
    |none=>rfl
    |some u=>cases u<;>first|rfl|exact absurd i (this _)
theorem ku {p:cQ} {a:X→Value} {H H':AH} {f:Nat} {as:List Value} (h:aA p a H=some (.enter f as,H')):fA p= .kN:=by
 cases p<;>first
  |rfl
  |(exfalso
    simp only [aA,Bool.cond_eq_ite]at h
    (repeat' split at h)<;>simp at h)
theorem Ew {call:Cl} (fW:pL P call) {nt:Nat} {A:Array Oper} {i:Nat} {o:Oper} {J:AO} (hi:A[i]?=some o) (c:Lr P nt A o=some J)
 {w0 w:World} {φ:bS} {H H':AH} {q E:Fr} {a:Act} (F:lY φ q a) (R:Rel w0 φ H w) (O:φ.m H.nx=none) (M:fA J.o= .kN→qk φ H) (hs:a.tmps.size=nt) (hd:a.defers=[]) (h:kP call J q H=some (E,H'))
 {Q:Exit→Act→World→Prop} {K:Act→World→Prop}
 (y:∀b v v' w',Rel w0 b H' w'→eB φ H w b H' w'→V b v v'→E=q.bg o.dst v→lY b E (a.put o.dst v')→(a.put o.dst v').tmps.size=nt→(a.put o.dst v').defers=[]→K (a.put o.dst v') w'):
 wpOp P A Q i K a w:=by
 unfold wpOp;simp only [hi];unfold Lr at c;split at c
 case h_2=>cases c
 rename_i g hg;obtain ⟨N,c⟩:=aP c;cases c
 obtain ⟨p,C⟩:∃p,Io P o=p:=⟨_,rfl⟩
 rw [C]at h M
 have u:∀n,o.dst=some n→n<a.tmps.size:=by
  intro n l;rw [l]at N;rw [hs]
  simpa [Lq]using N
 have t:∀v,(a.put o.dst v).tmps.size=nt:=by
  intro v;cases hq:o.dst<;>simp [Act.put,hs]
 have s:∀v,(a.put o.dst v).defers=[]:=by
  intro v;cases hq:o.dst<;>simp [Act.put,hd]
 have hw:=Cn F (o:=o) (d:=o.dst) (p:=p) hg;rw [hw];unfold kP at h
 cases L:AO.wanted ⟨g,o.dst,p⟩ q with
 |false=>
  simp only [L,cond_false,apH,apO]at h;obtain ⟨rfl,rfl⟩:=h;simp only [Bool.false_eq_true,if_false];exact y φ undef undef w R (eB.refl _ _ _) (rI _) rfl (F.bg u (rI _)) (t _) (s _)
 |true=>
  simp only [L,cond_true]at h;simp only [if_true];left;unfold Oper.wp
  cases k:aA p (X.ev q) H with
  |none=>simp [k]at h
  |some rr=>
   obtain ⟨res,S⟩:=rr;simp only [k]at h
   cases res with
   |v x=>
    simp only [apH,apO]at h;obtain ⟨rfl,rfl⟩:=h;obtain ⟨b,w',nx,I,z,G,l⟩:=Eu F R O C k (fun f as h=>by cases h);rw [I];rcases l with⟨W,rfl,j⟩|⟨rfl,rfl⟩
    ·rw [Oper.upon_value]
     exact y b x W w' z G j rfl ((F.mono G.le).bg u j) (t _) (s _)
    ·rw [Oper.upon_skip]
     exact y b undef undef w' z G (rI _) rfl ((F.mono G.le).bg u (rI _)) (t _) (s _)
   |enter f as=>
    simp only at h
    cases D:call f as S with
    |none=>simp [D]at h
    |some Z=>
     obtain ⟨x,H2⟩:=Z;simp only [D,apH,apO]at h;obtain ⟨rfl,rfl⟩:=h;obtain ⟨hf,B⟩:=fW f as S x H2 D;obtain ⟨b,w',nx,I,z,G,r,rfl,l⟩:=Eu F R O C k (fun f' r h=>by cases h;exact hf);rw [I,Oper.upon_enter];refine (B w0 b w' r z (G.fresh (M (ku k))) l).mono ?_;rintro e Y ⟨U,v',rfl,j,R2,T⟩;exact y U x v' Y R2 (G.trans T) j rfl ((F.mono (G.trans T).le).bg u j) (t _) (s _)
def aai:Ex→Exit
 | .normal=>.normal
 | .exit i=>.exit i
 | .ret=>.ret
def Ey (w0:World) (φ:bS) (w:World) (H:AH) (nt:Nat) (ex:Ex) (cB:Fr) (H':AH) (e:Exit) (a':Act) (w':World):Prop:=
 e=aai ex∧∃dE,Rel w0 dE H' w'∧eB φ H w dE H' w'∧lY dE cB a'∧a'.tmps.size=nt∧a'.defers=[]
theorem Ez {call:Cl} (y:pL P call) {d:Nat} {c:Array Oper} {w0:World} {Q:Exit→Act→World→Prop}:∀(l:List Oper) (i:List AO) (k:Nat) {w:World} {φ:bS} {H H':AH} {e g:Fr} {a:Act},
 ox P d c l=some i→(∀j o,l[j]?=some o→c[k+j]?=some o)→ops call i e H=some (g,H')→lY φ e a→Rel w0 φ H w→qk φ H→a.tmps.size=d→a.defers=[]→
 (∀p a' w',Rel w0 p H' w'→eB φ H w p H' w'→lY p g a'→a'.tmps.size=d→a'.defers=[]→Q .normal a' w')→wpOps P c Q (List.range' k l.length) a w
 |[],i,k,w,φ,H,H',e,g,a,b,_,h,F,R,n,q,t,u=>by
  simp [ox]at b;subst b;simp only [ops,apH,apO]at h;obtain ⟨rfl,rfl⟩:=h;exact u φ a w R (eB.refl _ _ _) F q t
 |o::l,i,k,w,φ,H,H',e,g,a,b,hi,h,F,R,n,q,t,u=>by
  simp only [ox]at b
  cases f:Lr P d c o with
  |none=>simp [f]at b
  |some K=>
   cases s:ox P d c l with
   |none=>simp [f,s]at b
   |some m=>
    simp [f,s]at b;subst b;simp only [ops]at h
    cases x:kP call K e H with
    |none=>simp [x]at h
    |some r=>
     obtain ⟨X,Y⟩:=r;simp only [x]at h;simp only [List.length_cons,List.range'_succ,wpOps_cons];refine Ew y (by simpa using hi 0 o (by simp)) f F R (n _ (apK _)) (fun _=>n) q t x ?_;intro U v W V N z _ _ T E J;refine Ez y l m (k+1) s (fun j C G=>by have:=hi (j+1) C (by simpa using G);rwa [show k+(j+1)=k+1+j by omega]at this) h T N (z.fresh n) E J ?_;intro A L B M O S D I;exact u A L B M (z.trans O) S D I
def l7 (l:List AO) (dp:List (List Nat)):List Nat→List (Nat×Nat)→List Row
 |[],_=>[]
 |j::r,am=>match nth l j,nth dp j with
  |some o,some d=>⟨o,fA o.o,j,d,nz am d⟩::l7 l dp r ((j,nz am d)::am)
  |_,_=>[]
theorem wH {α:Type} (l:List AO) (a:List (List Nat)):∀(ord:List Nat) (am:List (Nat×Nat)) (k:List Row→α),An l a ord am k=k (l7 l a ord am)
 |[],am,k=>rfl
 |j::r,am,k=>by
  simp only [An,l7]
  cases b:nth l j with
  |none=>rfl
  |some o=>
   cases c:nth a j with
   |none=>rfl
   |some d=>
    simp only [force_eq];rw [wH l a r]
theorem rR {b id:Nat} {a:Array Oper} {ac:AC} (h:eH P b (.region id a true)=some ac):
 ∃l ord,ox P b a a.toList=some l∧yN l.length (l7 l (a.toList.map Ip) ord [])=true∧
  ac= .bO ((l7 l (a.toList.map Ip) ord []).map (·.o)) (tF 0 (l7 l (a.toList.map Ip) ord [])):=by
 simp only [eH]at h
 cases c:ox P b a a.toList with
 |none=>simp [c]at h
 |some l=>
  simp only [c,Ls,wH]at h;obtain ⟨d,h2⟩:=aP h;cases h2;exact ⟨l,_,rfl,d,rfl⟩
theorem y7 {b id:Nat} {a:Array Oper} {ac:AC} (h:eH P b (.region id a true)=some ac):∃l ck,ac= .bO l ck:=by
 obtain ⟨_,_,_,_,e⟩:=rR h;exact ⟨_,_,e⟩
def EA (P:Program) (call:Cl):Prop:=∀(nt:Nat) (id:Nat) (cR:Array Oper) (ac:AC),eH P nt (.region id cR true)=some ac→∀(l:List AO) (ck:List (Nat×Nat×Nat)),ac= .bO l ck→
 ∀(w0 w:World) (φ:bS) (H H':AH) (fr cB:Fr) (a:Act),Cc call l ck fr H=some (cB,H')→lY φ fr a→Rel w0 φ H w→qk φ H→a.tmps.size=nt→a.defers=[]→
  (Code.region id cR true).wp P (Ey w0 φ w H nt .normal cB H') a w
theorem fT {call:Cl}:∀{n m:Nat} {c:AC} {e:Fr} {H:AH} {r:Ex×Fr×AH},n≤m→aG call n c e H=some r→aG call m c e H=some r:=by
 intro n
 induction n with
 |zero=>intro m c e H r _ h;simp [aG]at h
 |succ n ih=>
  intro m c e H r o h
  obtain ⟨m,rfl⟩:∃k,m=k+1:=⟨m- 1,by omega⟩
  have f:n≤m:=by omega
  cases c with
  |seq a b=>
   simp only [aG]at h⊢
   cases d:aG call n a e H with
   |none=>simp [d]at h
   |some q=>
    rw [ih f d];obtain ⟨ex,g,j⟩:=q
    cases ex<;>simp only [d]at h⊢<;>first
     |exact ih f h
     |exact h
  |cond x a b=>
   simp only [aG]at h⊢
   cases l:x.ev e<;>simp only [l]at h⊢<;>first
    |(cases h;done)
    |skip
   rename_i t;cases t<;>exact ih f h
  |block i a=>
   simp only [aG]at h⊢
   cases d:aG call n a e H with
   |none=>simp [d]at h
   |some q=>
    rw [ih f d];obtain ⟨ex,g,j⟩:=q;cases ex<;>simp only [d]at h⊢<;>exact h
  |loop a=>
   simp only [aG]at h⊢
   cases d:aG call n a e H with
   |none=>simp [d]at h
   |some q=>
    rw [ih f d];obtain ⟨ex,g,j⟩:=q
    cases ex<;>simp only [d]at h⊢<;>first
     |exact ih f h
     |exact h
  |_=>simpa only [aG]using h
theorem IA {call:Cl} (fW:pL P call) (SR:EA P call) {s:Nat} {w0:World}:∀(m:Nat) (c:Code) (ac:AC) {w:World} {φ:bS} {H H':AH} {A N:Fr} {a:Act} {ex:Ex},
 eH P s c=some ac→aG call m ac A H=some (ex,N,H')→lY φ A a→Rel w0 φ H w→qk φ H→a.tmps.size=s→a.defers=[]→c.wp P (Ey w0 φ w H s ex N H') a w:=by
 intro m
 induction m with
 |zero=>intro c ac w φ H H' A N a ex _ h;simp [aG]at h
 |succ m ih=>
  intro c ac w φ H H' A N a ex d h F R D u v
  cases c with
  |skip=>
   simp [eH]at d;subst d;simp only [aG,apH,apO]at h;obtain ⟨rfl,rfl,rfl⟩:=h;exact wp_skip ⟨rfl,φ,R,eB.refl _ _ _,F,u,v⟩
  |region id U draw=>
   cases draw with
   |false=>
    simp only [eH]at d
    cases Z:ox P s U U.toList with
    |none=>simp [Z]at d
    |some l=>
     simp [Z]at d;subst d;simp only [aG]at h
     cases f:ops call l A H with
     |none=>simp [f]at h
     |some r=>
      obtain ⟨t,p⟩:=r;simp only [f,apH,apO]at h;obtain ⟨rfl,rfl,rfl⟩:=h;refine wp_region ?_;have:=Ez (Q:=Ey w0 φ w H s .normal t p) fW U.toList l 0 Z (fun j o V=>by simpa using V) f F R D u v (fun dE a' w' R' G F' fS SS=>⟨rfl,dE,R',G,F',fS,SS⟩);rwa [Array.length_toList,←List.range_eq_range']at this
   |true=>
    have qT:=d;obtain ⟨l,ck,SU⟩:=y7 d;rw [SU]at h;simp only [aG]at h;split at h
    case h_2=>cases h
    rename_i t p f;simp only [apH,apO]at h;obtain ⟨rfl,rfl,rfl⟩:=h;exact SR s id U _ qT _ _ SU w0 w φ H p A t a f F R D u v
  |refuse r=>
   simp only [eH,apH]at d;subst d;simp only [aG,X.ev]at h;cases h
  |seq x y=>
   simp only [eH]at d
   cases g:eH P s x with
   |none=>simp [g]at d
   |some B=>
    cases K:eH P s y with
    |none=>simp [g,K]at d
    |some ay=>
     simp [g,K]at d;subst d;simp only [aG]at h;refine wp_seq ?_
     cases f:aG call m B A H with
     |none=>simp [f]at h
     |some r=>
      obtain ⟨HU,t,p⟩:=r;have k:=ih x B g f F R D u v
      cases HU with
      |normal=>
       simp only [f]at h;refine wp_mono k ?_;rintro e C k ⟨rfl,J,R1,E,F1,Y,SQ⟩;refine wp_mono (ih y ay K h F1 R1 (E.fresh D) Y SQ) ?_;rintro e a2 W ⟨he,I,O,S,T,L,M⟩;exact ⟨he,I,O,E.trans S,T,L,M⟩
      |exit i=>
       simp only [f,apH,apO]at h;obtain ⟨rfl,rfl,rfl⟩:=h;refine wp_mono k ?_;rintro e C k ⟨rfl,q⟩;exact ⟨rfl,q⟩
      |ret=>
       simp only [f,apH,apO]at h;obtain ⟨rfl,rfl,rfl⟩:=h;refine wp_mono k ?_;rintro e C k ⟨rfl,q⟩;exact ⟨rfl,q⟩
  |cond x y z=>
   simp only [eH]at d;split at d
   case h_2=>cases d
   rename_i xx ay az g K hz;cases d;simp only [aG]at h;have hv:=dK F g;cases hq:xx.ev A<;>simp [hq]at h;rename_i b;rw [hq]at hv;refine wp_cond hv.bool ?_;cases b
   ·simp only [Bool.false_eq_true,if_false]
    exact ih z az hz h F R D u v
   ·simp only [if_true]
    exact ih y ay K h F R D u v
  |block i x=>
   simp only [eH]at d
   cases g:eH P s x with
   |none=>simp [g]at d
   |some B=>
    simp [g]at d;subst d;simp only [aG]at h;refine wp_block ?_
    cases f:aG call m B A H with
    |none=>simp [f]at h
    |some r=>
     obtain ⟨HU,t,p⟩:=r;have k:=ih x B g f F R D u v;refine wp_mono k ?_;rintro e C w3 ⟨rfl,q⟩
     cases HU with
     |normal=>
      simp only [f,apH,apO]at h;obtain ⟨rfl,rfl,rfl⟩:=h;exact ⟨rfl,q⟩
     |ret=>
      simp only [f,apH,apO]at h;obtain ⟨rfl,rfl,rfl⟩:=h;exact ⟨rfl,q⟩
     |exit j=>
      simp only [f,nb,Bool.cond_decide]at h;show Exit.inBlock i _ (.exit j) C w3;simp only [Exit.inBlock];by_cases V:j=i
      ·rw [if_pos V]at h⊢
       simp only [apH,apO]at h;obtain ⟨rfl,rfl,rfl⟩:=h;exact ⟨rfl,q⟩
      ·rw [if_neg V]at h⊢
       simp only [apH,apO]at h;obtain ⟨rfl,rfl,rfl⟩:=h;exact ⟨rfl,q⟩
  |loop x=>
   simp only [eH]at d
   cases g:eH P s x with
   |none=>simp [g]at d
   |some B=>
    simp [g]at d;subst d;refine wp_loop_ghost (fun n C k=>n≤m+1∧∃t p J,aG call n (.loop B) t p=some (ex,N,H')∧lY J t C∧Rel w0 J p k∧eB φ H w J p k∧C.tmps.size=s∧C.defers=[]) (m+1) ⟨apK _,A,H,φ,h,F,R,eB.refl _ _ _,u,v⟩ ?_;rintro n C k ⟨hn,t,p,J,f,F1,R1,E,Y,SQ⟩
    cases n with
    |zero=>simp [aG]at f
    |succ n=>
     simp only [aG]at f
     cases h2:aG call n B t p with
     |none=>simp [h2]at f
     |some r=>
      obtain ⟨QT,gi,H2⟩:=r;have mono:aG call m B t p=some (QT,gi,H2):=fT (by omega) h2;have W:=ih x B g mono F1 R1 (E.fresh D) Y SQ;refine wp_mono W ?_;rintro e a2 W ⟨rfl,I,O,S,T,L,M⟩
      cases QT with
      |normal=>
       simp only [h2]at f;exact ⟨n,by omega,by omega,gi,H2,I,f,T,O,E.trans S,L,M⟩
      |exit j=>
       simp only [h2,apH,apO]at f;obtain ⟨rfl,rfl,rfl⟩:=f;exact ⟨rfl,I,O,E.trans S,T,L,M⟩
      |ret=>
       simp only [h2,apH,apO]at f;obtain ⟨rfl,rfl,rfl⟩:=f;exact ⟨rfl,I,O,E.trans S,T,L,M⟩
  |exit i=>
   simp [eH]at d;subst d;simp only [aG,apH,apO]at h;obtain ⟨rfl,rfl,rfl⟩:=h;exact wp_exit ⟨rfl,φ,R,eB.refl _ _ _,F,u,v⟩
  |ret=>
   simp [eH]at d;subst d;simp only [aG,apH,apO]at h;obtain ⟨rfl,rfl,rfl⟩:=h;exact wp_ret ⟨rfl,φ,R,eB.refl _ _ _,F,u,v⟩
  |_=>simp [eH]at d
end
end
section
open Go
theorem Cp {p:cQ} {e LA:X→Value} (h:∀x∈p.xs,e x=LA x) (H:AH):aA p e H=aA p LA H:=by
 have g:∀(l:List X),(∀x∈l,e x=LA x)→l.map e=l.map LA:=fun l i=>List.map_congr_left i
 have mp:∀(l:List (Nat×Nat×X)),(∀x∈l.map (fun p=>p.2.2),e x=LA x)→(l.map fun p=>(p.1,p.2.1,e p.2.2))=l.map fun p=>(p.1,p.2.1,LA p.2.2):=
  fun l i=>List.map_congr_left fun p m=>by rw [i _ (aqd.2 ⟨p,m,rfl⟩)]
 have j:∀(l:Option X),(∀x∈l.toList,e x=LA x)→l.map e=l.map LA:=fun l i=>by cases l<;>simp_all
 cases p
 case build z ps=>simp only [aA];rw [mp ps h]
 case bsl a b c ps=>simp only [aA];rw [mp ps h]
 case mkf f a b=>
  simp only [aA];rw [g a fun x d=>h x (by simp [cQ.xs,d]),g b fun x d=>h x (by simp [cQ.xs,d])]
 case call f as=>simp only [aA];rw [g as h]
 case xt k l=>simp only [aA];rw [g l h]
 case callv x as=>
  simp only [aA];rw [g as fun x d=>h x (by simp [cQ.xs,d]),h x (by simp [cQ.xs])]
 case mxl x as=>
  simp only [aA];rw [g as fun x d=>h x (by simp [cQ.xs,d]),h x (by simp [cQ.xs])]
 case mnl x as=>
  simp only [aA];rw [g as fun x d=>h x (by simp [cQ.xs,d]),h x (by simp [cQ.xs])]
 case sl sz x lo hi mx=>
  simp only [aA];rw [h x (by simp [cQ.xs]),j lo fun x d=>h x (by simp [cQ.xs]at d⊢;simp [d]),j hi fun x d=>h x (by simp [cQ.xs]at d⊢;simp [d]),j mx fun x d=>h x (by simp [cQ.xs]at d⊢;simp [d])]
 all_goals
  simp only [cQ.xs,apY,aqg,or_false,forall_eq_or_imp,forall_eq,implies_true,false_imp_iff]at h;simp only [aA,h]
theorem y8 {sz:Nat} {H H1:AH} {x:Value} {hi mx:Option Value}:cj sz H1 x none hi mx=cj sz H x none hi mx:=by
 cases x<;>try rfl
 rename_i a len cap;simp only [cj]
 cases b:bQ len cap none hi mx with
 |none=>rfl
 |some r=>
  obtain ⟨l,h,m⟩:=r
  have c:l=0:=by
   unfold bQ at b;simp only [apR]at b;obtain ⟨_,_,_,_,_,e,d⟩:=b;simp at e d;omega
  subst c;simp
theorem pM {p:cQ} {g:X→Value} {H H':AH} {r:jI} (d:fA p= .pure) (h:aA p g H=some (r,H')):
 H'=H∧∀H1:AH,aA p g H1=some (r,H1):=by
 cases p
 case sl sz x lo hi mx=>
  cases lo with
  |some l=>simp [fA]at d
  |none=>
   simp only [aA,Option.map_none,apQ]at h⊢;obtain ⟨v,i,e⟩:=h;cases e;exact ⟨rfl,fun H1=>⟨v,y8.trans i,rfl⟩⟩
 case eqk k neg x y=>
  simp only [aA,apQ]at h⊢;obtain ⟨b,f,e⟩:=h;cases e;exact ⟨rfl,fun H1=>⟨b,f,rfl⟩⟩
 case xt k l=>
  cases k<;>first
   |(simp [fA]at d;done)
   |skip
  all_goals
   simp only [aA,DU]at h⊢
   split at h<;>simp_all<;>first
    |(obtain ⟨a,⟨j,b,c,rfl,rfl⟩,h2⟩:=h;exact ⟨rfl,fun _=>⟨_,⟨j,c⟩,h2⟩⟩)
    |(obtain ⟨_,c,_,_⟩:=h;simp_all;done)
    |(obtain ⟨_,_,c,_,_⟩:=h;simp_all;done)
    |skip
 case eqs neg offs x y=>
  simp only [aA]at h⊢;split at h
  · simp only [apQ]at h⊢
    obtain ⟨b,f,e⟩:=h;cases e;exact ⟨rfl,fun H1=>⟨b,f,rfl⟩⟩
  · cases h
 all_goals first
  |(simp [fA]at d;done)
  |(simp only [aA,Bool.cond_eq_ite,apQ]at h⊢
    (repeat' split at h)<;>simp_all<;>try(obtain ⟨_,_,c,h2⟩:=h;simp_all))
theorem kT {p:cQ} {d:X→Value} {H H':AH} {r:jI} (a:fA p= .alloc) (h:aA p d H=some (r,H')):
 ∃aU,H'=H.alloc aU∧∀H1:AH,H1.nx=H.nx→aA p d H1=some (r,H1.alloc aU):=by
 cases p
 case sl sz x lo hi mx=>cases lo<;>simp [fA]at a
 case xt k l=>cases k<;>simp [fA]at a
 all_goals first
  |(simp [fA]at a;done)
  |skip
 case alloc z=>
  simp only [aA,apH,apO]at h⊢;obtain ⟨rfl,rfl⟩:=h;exact ⟨_,rfl,fun H1 e=>⟨by rw [e],rfl⟩⟩
 case box x=>
  simp only [aA,Bool.cond_eq_ite]at h⊢;split at h
  ·cases h
  ·rename_i f
   simp only [apH,apO]at h;obtain ⟨rfl,rfl⟩:=h;exact ⟨_,rfl,fun H1 e=>by rw [if_neg f,e]⟩
 case bsl len sz z ps=>
  simp only [aA,apQ]at h⊢;obtain ⟨c,b,e⟩:=h;cases e;exact ⟨_,rfl,fun H1 e=>⟨c,b,by rw [e]⟩⟩
 case mkmap=>
  simp only [aA,apH,apO]at h⊢;obtain ⟨rfl,rfl⟩:=h;exact ⟨_,rfl,fun H1 e=>⟨by rw [e],rfl⟩⟩
 case mksl sz bytes z x=>
  simp only [aA,Bool.cond_eq_ite]at h⊢;split at h
  ·split at h
   ·rename_i b
    simp only [apH,apO]at h;obtain ⟨rfl,rfl⟩:=h;exact ⟨_,rfl,fun H1 e=>by rw [if_pos b,e]⟩
   ·cases h
  ·cases h
theorem nh {n0:Nat}:∀{l m:List Value},aQ n0 l=some m→m.length=l.length
 |[],m,h=>by simp [aQ]at h;subst h;rfl
 |v::l,m,h=>by
  simp only [aQ]at h;split at h
  ·rename_i x b c a
   cases h;simp [nh a]
  ·cases h
theorem dF {H:AH} {a:Addr} {n:Nat} {vs:List Value} (h:H.ldn a n=some vs):(H.get a.block).isSome=true∧vs.length=n:=by
 unfold AH.ldn at h;split at h
 case h_2=>cases h
 rename_i z c e b;obtain ⟨d,h⟩:=aP h;simp at d;refine ⟨by simp [b],?_⟩;simp only [Bool.cond_eq_ite]at h;split at h
 ·rw [nh h];simp;omega
 ·cases h;simp;omega
theorem eS {H H1:AH} {a:Addr} {n:Nat} (b:H1.get a.block=H.get a.block) (c:H1.n0=H.n0):H1.ldn a n=H.ldn a n:=by
 unfold AH.ldn;rw [b,c]
theorem aV {H:AH} {a:Addr} {v:Value}:H.ld a=some v↔H.ldn a 1=some [v]:=by
 unfold AH.ld AH.ldn
 cases g:a.spot with
 |some x=>simp
 |none=>
  cases h:H.get a.block with
  |none=>simp
  |some b=>
   cases b with
   |map es=>simp
   |cells z c=>
    simp only
    cases d:c[a.off]? with
    |none=>
     have:=List.getElem?_eq_none_iff.1 d;have:decide (a.off+1≤c.length)=false:=by simp;omega
     simp [this]
    |some u=>
     have e:=(apM.1 d).1;have f:decide (a.off+1≤c.length)=true:=by simp;omega
     have h2:List.take 1 (List.drop a.off c)=[u]:=by
      have:=(apM.1 d).2;rw [List.drop_eq_getElem_cons e,this];rfl
     simp only [f,cond_true,h2]
     cases i:decide (a.block<H.n0)with
     |false=>simp
     |true=>
      simp only [cond_true,aQ];cases bw H.n0 u<;>simp
theorem pN {o:AO} {i:Fr} {H H':AH} {r:jI} (f:fA o.o= .load) (h:aA o.o (X.ev i) H=some (r,H')):
 H'=H∧∃a vs,ff o i H=some (a,vs)∧dq o i=some a.block∧H.ldn a vs.length=some vs∧∀H1:AH,H1.ldn a vs.length=some vs→aA o.o (X.ev i) H1=some (r,H1):=by
 obtain ⟨g,d,p⟩:=o;dsimp only at f h;unfold ff dq;dsimp only;cases p
 case sl sz x lo hi mx=>cases lo<;>simp [fA]at f
 case xt k l=>cases k<;>simp [fA]at f
 all_goals first
  |(simp [fA]at f;done)
  |skip
 case ld x=>
  simp only [aA]at h⊢;split at h
  case h_2=>cases h
  rename_i a m;simp only [apQ]at h;obtain ⟨v,b,e⟩:=h;cases e;have c:=aV.1 b;refine ⟨rfl,a,[v],?_,rfl,c,fun H1 j=>?_⟩
  ·rw [c];rfl
  ·rw [aV.2 j];rfl
 case ldn n x=>
  simp only [aA]at h⊢;split at h
  case h_2=>cases h
  rename_i a m;simp only [apQ]at h;obtain ⟨vs,b,e⟩:=h;cases e;have c:=(dF b).2;subst c;refine ⟨rfl,a,vs,?_,rfl,b,fun H1 j=>?_⟩
  ·rw [b];rfl
  ·rw [j];rfl
theorem IB {H H':AH} {a:Addr} {vs:List Value} (h:H.st a vs=some H'):(H.get a.block).isSome=true∧∃z d,H'=H.put a.block (some (.cells z d))∧
 ∀H1:AH,H1.get a.block=H.get a.block→H1.n0=H.n0→H1.st a vs=some (H1.put a.block (some (.cells z d))):=by
 unfold AH.st at h;split at h
 case h_2=>cases h
 rename_i z c e b;obtain ⟨f,h⟩:=aP h;cases h;refine ⟨by simp [b],z,_,rfl,fun H1 g h2=>?_⟩;unfold AH.st;rw [g,h2,b,e];simp only [f,cond_true]
theorem uM {o:AO} {f:Fr} {H H':AH} {r:jI} (c:fA o.o= .st) (h:aA o.o (X.ev f) H=some (r,H')):
 ∃b aU,dq o f=some b∧(H.get b).isSome=true∧H'=H.put b aU∧∀H1:AH,H1.get b=H.get b→H1.n0=H.n0→aA o.o (X.ev f) H1=some (r,H1.put b aU):=by
 obtain ⟨g,d,p⟩:=o;dsimp only at c h;unfold dq;dsimp only;cases p
 case sl sz x lo hi mx=>cases lo<;>simp [fA]at c
 case xt k l=>cases k<;>simp [fA]at c
 all_goals first
  |(simp [fA]at c;done)
  |skip
 case st n x v=>
  simp only [aA]at h⊢;split at h
  case h_2=>cases h
  rename_i a u;obtain ⟨j,h⟩:=aP h;simp only [apQ]at h;obtain ⟨w,h2,e⟩:=h;cases e;obtain ⟨i,z,t,rfl,m⟩:=IB h2;refine ⟨a.block,some (.cells z t),rfl,i,rfl,fun H1 s q=>?_⟩;rw [j,cond_true,m H1 s q];rfl
theorem EB {H:AH} {b sz:Nat} (h:H.get b=none):H.lz b sz=false:=by
 unfold AH.lz;rw [h]
theorem pO {o:AO} {s:Fr} {H H':AH} {r:jI} (w:fA o.o= .read) (h:aA o.o (X.ev s) H=some (r,H')):
 H'=H∧∀H1:AH,(∀b,dq o s=some b→(H.get b).isSome=true→H1.get b=H.get b)→H1.n0=H.n0→aA o.o (X.ev s) H1=some (r,H1):=by
 obtain ⟨g,d,p⟩:=o;dsimp only at w h;unfold dq;dsimp only;cases p
 case sl sz x lo hi mx=>
  simp only [aA,apQ]at h⊢;obtain ⟨v,f,e⟩:=h;cases e;refine ⟨rfl,fun H1 j h2=>⟨v,?_,rfl⟩⟩;rw [←f];cases u:x.ev s<;>try rfl
  rename_i a len cap;rw [u]at f j;simp only [cj]at f⊢;split
  ·rfl
  ·cases a with
   |none=>rfl
   |some a=>
    rename_i l G m y;rw [y]at f;simp only at f⊢
    have n:(a.spot.isNone&&(Nat.beq l 0||H1.lz a.block sz))=(a.spot.isNone&&(Nat.beq l 0||H.lz a.block sz))∨H.get a.block=none:=by
     cases B:a.spot.isNone with
     |false=>left;simp
     |true=>
      cases i:H.get a.block with
      |none=>exact .inr rfl
      |some b=>
       left;have:=j a.block (by simp [B]) (by simp [i]);unfold AH.lz;rw [this]
    rcases n with n|n
    ·rw [n]
    ·obtain ⟨D,f⟩:=aP f
     rw [D];simp only [cond_true];split
     ·rfl
     ·rename_i C
      rw [if_neg C]at f;obtain ⟨t,f⟩:=aP f;rw [EB n,Bool.or_false]at t;simp only [apJ]at t;simp [t.1,t.2]
 case look kk z x k ok=>
  simp only [aA]at h⊢;cases u:x.ev s<;>simp only [u]at h⊢<;>try(cases h;done)
  rename_i A
  cases A with
  |none=>
   simp only at h⊢;obtain ⟨j,h⟩:=aP h;cases h;exact ⟨rfl,fun H1 _ _=>by rw [j];rfl⟩
  |some q=>
   simp only at h⊢
   cases i:H.get q with
   |none=>simp [i]at h
   |some b=>
    cases b with
    |cells z c=>simp [i]at h
    |map es=>
     simp only [i]at h;obtain ⟨j,h⟩:=aP h;refine ⟨?_,fun H1 F E=>?_⟩
     ·split at h<;>first|(cases h;rfl)|cases h
     ·have:=F q rfl (by simp [i])
      rw [this,i,E];simp only [j,cond_true];split at h
      ·cases h;rfl
      ·cases h;rfl
      ·cases h
 case xt k l=>cases k<;>simp [fA]at w
 all_goals first
  |(simp [fA]at w;done)
  |skip
theorem EC:∀{a b:Value},dz a b=true→a=b:=by
 intro a b h;cases a<;>cases b<;>simp [dz]at h<;>simp_all;exact ByteArray.ext h
theorem rS:∀{a b:List Value},eG a b=true→a=b
 |[],[],_=>rfl
 |a::l,b::m,h=>by
  simp only [eG,apJ]at h;rw [EC h.1,rS h.2]
 |[],_::_,h=>by simp [eG]at h
 |_::_,[],h=>by simp [eG]at h
theorem Cq {H:AH} {a:Addr} {vs:List Value} (h:sameAt H (a,vs)=true):H.ldn a vs.length=some vs:=by
 unfold sameAt at h;dsimp only at h;split at h
 ·rename_i m b
  rw [b,rS h]
 ·cases h
theorem ED {x y:Option pG} (h:m9 x y=true):x=y:=by
 unfold m9 at h;split at h
 ·simp only [apJ,Nat.beq_eq]at h
  rw [h.1,rS h.2]
 ·rfl
 ·cases h
open Go
theorem ma {n:Nat}:∀{l:List Nat},wA n l=true↔n∈l
 |[]=>by simp [wA]
 |x::l=>by
  simp only [wA,Bool.or_eq_true,nb,apS,apY];rw [ma (l:=l)];constructor
  ·rintro (h|h)
   ·exact .inl h.symm
   ·exact .inr h
  ·rintro (h|h)
   ·exact .inl h.symm
   ·exact .inr h
theorem mb {x y:AO} (h:j7 x y=true):(∀d,x.d=some d→d∉tmpsOf y)∧(∀d,x.d=some d→y.d≠some d):=by
 unfold j7 at h
 cases f:x.d with
 |none=>exact ⟨fun _ h=>(by cases h),fun _ h=>(by cases h)⟩
 |some d=>
  simp only [f,apJ,Bool.not_eq_true']at h;refine ⟨fun e a=>?_,fun e a=>?_⟩
  ·cases a
   intro c;rw [ma.2 c]at h;cases h.1
  ·cases a
   intro b;rw [b]at h;simp at h
theorem Fr.jt {f:Fr} {d:Option Nat} {v:Value} {x:Nat}:(f.bg d v).get x=if d=some x then v else f.get x:=by
 cases d with
 |none=>simp [Fr.bg]
 |some k=>
  simp only [Fr.bg,Fr.bR,apH];by_cases h:x=k
  ·simp [h]
  ·rw [if_neg h,if_neg (fun e=>h e.symm)]
inductive One (call:Cl) (o:AO) (fr:Fr) (H:AH) (x:Value) (H':AH):Prop where
 |off (h:o.wanted fr=false) (e:x=undef) (e2:H'=H)
 |val (h:o.wanted fr=true) (e:aA o.o (X.ev fr) H=some (.v x,H'))
 |call (h:o.wanted fr=true) (f:Nat) (as:List Value) (H1:AH) (e:aA o.o (X.ev fr) H=some (.enter f as,H1)) (e2:call f as H1=some (x,H'))
theorem eC {call:Cl} {o:AO} {b k:Fr} {H H':AH}:kP call o b H=some (k,H')↔∃x,k=b.bg o.d x∧One call o b H x H':=by
 unfold kP;constructor
 ·intro h
  cases a:o.wanted b with
  |false=>
   simp only [a,cond_false,apH,apO]at h;exact ⟨undef,h.1.symm,.off a rfl h.2.symm⟩
  |true=>
   simp only [a,cond_true]at h
   cases c:aA o.o (X.ev b) H with
   |none=>simp [c]at h
   |some l=>
    obtain ⟨res,j⟩:=l;simp only [c]at h
    cases res with
    |v x=>
     simp only [apH,apO]at h;obtain ⟨rfl,rfl⟩:=h;exact ⟨x,rfl,.val a c⟩
    |enter f as=>
     simp only at h
     cases g:call f as j with
     |none=>simp [g]at h
     |some r=>
      obtain ⟨x,m⟩:=r;simp only [g,apH,apO]at h;obtain ⟨rfl,rfl⟩:=h;exact ⟨x,rfl,.call a f as j c g⟩
 ·rintro ⟨x,rfl,h⟩
  cases h with
  |off h e i=>subst e;subst i;simp [h]
  |val h e=>simp [h,e]
  |call h f as j e i=>simp [h,e,i]
def qp (o:AO) (fr gi:Fr):Prop:=∀t∈tmpsOf o,gi.get t=fr.get t
theorem qp.ev {o:AO} {b a:Fr} (h:qp o b a):∀x∈o.o.xs,X.ev a x=X.ev b x:=by
 intro x c
 cases x with
 |t n=>
  exact h n (by
   unfold tmpsOf
   exact List.mem_append_right _ (List.mem_filterMap.2 ⟨.t n,c,rfl⟩))
 |k v=>rfl
 |f n=>rfl
theorem qp.wanted {o:AO} {fr a:Fr} (h:qp o fr a):o.wanted a=o.wanted fr:=by
 unfold AO.wanted
 cases d:o.g with
 |none=>rfl
 |some c=>
  obtain ⟨t,b⟩:=c;simp only;rw [h t (by unfold tmpsOf;rw [d];simp)]
theorem qp.one {call:Cl} {o:AO} {e d:Fr} {H H':AH} {x:Value} (h:qp o e d) (k:One call o e H x H'):One call o d H x H':=by
 have g:∀H,aA o.o (X.ev d) H=aA o.o (X.ev e) H:=fun H=>Cp h.ev H
 cases k with
 |off a b c=>exact .off (h.wanted.trans a) b c
 |val a b=>exact .val (h.wanted.trans a) ((g _).trans b)
 |call a f as i b c=>exact .call (h.wanted.trans a) f as i ((g _).trans b) c
theorem EF {o:AO} {fr b:Fr} (h:qp o fr b):dq o b=dq o fr:=by
 have a:=h.ev;unfold dq;cases c:o.o<;>simp only [c,cQ.xs,apY,aqg,or_false,forall_eq_or_imp,forall_eq]at a⊢;all_goals (simp only [a])
structure pH (call:Cl) (O:Nat→AO) (n:Nat) (sF:Nat→Fr) (sH:Nat→AH) (rT:Nat→Nat→Prop):Prop where
 step:∀t,t<n→kP call (O t) (sF t) (sH t)=some (sF (t+1),sH (t+1))
 n0:∀t,t<n→(sH (t+1)).n0=(sH t).n0
 nx:∀t,t<n→(sH t).nx≤(sH (t+1)).nx
 pair:∀p q,p<q→q<n→rT p q∨(j7 (O p) (O q)=true∧j7 (O q) (O p)=true∧eR (fA (O p).o) (fA (O q).o)=true)
 c0:∀p q,p<q→q<n→¬ rT p q→(O p).wanted (sF p)=true→(O q).wanted (sF q)=true→fA (O p).o= .load→fA (O q).o= .kN→
  ∃x,ff (O p) (sF p) (sH p)=some x∧sameAt (sH (q+1)) x=true
 c1:∀p q,p<q→q<n→¬ rT p q→(O p).wanted (sF p)=true→(O q).wanted (sF q)=true→fA (O p).o= .alloc→fA (O q).o= .kN→
  (sH (q+1)).get (sH p).nx=(sH (p+1)).get (sH p).nx
 c2:∀p q,p<q→q<n→¬ rT p q→(O p).wanted (sF p)=true→(O q).wanted (sF q)=true→(fA (O p).o= .load∨fA (O p).o= .read∨fA (O p).o= .st)→fA (O q).o= .st→
  ∀b b',dq (O p) (sF p)=some b→dq (O q) (sF q)=some b'→b≠b'
section
variable{call:Cl} {O:Nat→AO} {n:Nat} {sF:Nat→Fr} {sH:Nat→AH} {rT:Nat→Nat→Prop} (R:pH call O n sF sH rT)
include R
theorem pH.QU (t:Nat) (h:t≤n):(sH t).n0=(sH 0).n0:=by
 induction t with
 |zero=>rfl
 |succ t ih=>exact (R.n0 t (by omega)).trans (ih (by omega))
theorem pH.nxs {t:Nat} (k:Nat) (h:t+k≤n):(sH t).nx≤(sH (t+k)).nx:=by
 induction k with
 |zero=>exact apK _
 |succ k ih=>exact ap2 (ih (by omega)) (R.nx (t+k) (by omega))
theorem pH.ja {t u:Nat} (h:t≤u) (a:u≤n):(sH t).nx≤(sH u).nx:=by
 have:=R.nxs (t:=t) (u- t) (by omega);rwa [show t+(u- t)=u by omega]at this
omit R in
def uN (O:Nat→AO) (sF:Nat→Fr) (t:Nat):Value:=(sF (t+1)).get ((O t).d.getD 0)
omit R in
def uO (O:Nat→AO) (sF:Nat→Fr) (S:Nat→Bool):Nat→Fr
 |0=>sF 0
 |t+1=>bif S t then(uO O sF S t).bg (O t).d (uN O sF t)else uO O sF S t
theorem pH.frame {t:Nat} (a:t<n) (x:Nat):(sF (t+1)).get x=if(O t).d=some x then uN O sF t else(sF t).get x:=by
 obtain ⟨v,b,_⟩:=eC.1 (R.step t a);by_cases h:(O t).d=some x
 ·rw [if_pos h]
  unfold uN;rw [h];rfl
 ·rw [if_neg h,b,Fr.jt,if_neg h]
theorem pH.one {t:Nat} (a:t<n):∃x,One call (O t) (sF t) (sH t) x (sH (t+1))∧∀f:Fr,f.bg (O t).d x=f.bg (O t).d (uN O sF t):=by
 obtain ⟨v,b,e⟩:=eC.1 (R.step t a);refine ⟨v,e,fun f=>?_⟩
 cases c:(O t).d with
 |none=>rfl
 |some k=>
  have:uN O sF t=v:=by
   unfold uN;rw [b,c];simp [Fr.bg,Fr.bR]
  rw [this]
omit R in
theorem uP {S S':Nat→Bool} {x m:Nat} (h:∀p,p<m→(O p).d=some x→S p=S' p):(uO O sF S m).get x=(uO O sF S' m).get x:=by
 induction m with
 |zero=>rfl
 |succ m ih=>
  have ih:=ih fun p b=>h p (by omega)
  simp only [uO];by_cases a:(O m).d=some x
  ·have:=h m (by omega) a
   rw [this];cases S' m
   ·exact ih
   ·simp only [cond_true,Fr.jt,if_pos a]
  ·cases S m<;>cases S' m<;>simp only [cond_true,cond_false,Fr.jt,if_neg a]<;>exact ih
omit R in
theorem rU {S:Nat→Bool} {x t m:Nat} (f:t≤m) (h:∀p,t≤p→p<m→S p=true→(O p).d≠some x):(uO O sF S m).get x=(uO O sF S t).get x:=by
 induction m with
 |zero=>obtain rfl:t=0:=by omega
        rfl
 |succ m ih=>
  rcases Nat.lt_or_ge m t with a|a
  · obtain rfl:t=m+1:=by omega
    rfl
  · have ih:=ih a fun p c b=>h p c (by omega)
    simp only [uO]
    cases e:S m with
    |false=>exact ih
    |true=>simp only [cond_true,Fr.jt,if_neg (h m a (by omega) e)];exact ih
theorem pH.AB {m:Nat} (a:m≤n) (x:Nat):(uO O sF (fun _=>true) m).get x=(sF m).get x:=by
 induction m with
 |zero=>rfl
 |succ m ih=>
  rw [R.frame (by omega),uO,cond_true,Fr.jt,ih (by omega)]
omit R in
structure SV (n:Nat) (rT:Nat→Nat→Prop) (S:Nat→Bool) (t:Nat):Prop where
 lt:t<n
 out:S t=false
 rdy:∀p,p<t→rT p t→S p=true
 cls:∀p q,p<q→q<n→S q=true→rT p q→S p=true
variable{S:Nat→Bool} {t:Nat} (C:SV n rT S t)
include C
theorem pH.before {p:Nat} (a:p<t) (c:S p=false):¬ rT p t∧j7 (O p) (O t)=true∧j7 (O t) (O p)=true∧eR (fA (O p).o) (fA (O t).o)=true:=by
 have b:¬ rT p t:=fun h=>by rw [C.rdy p a h]at c;cases c
 exact ⟨b,(R.pair p t a C.lt).resolve_left b⟩
theorem pH.behind {p:Nat} (b:t<p) (a:p<n) (d:S p=true):¬ rT t p∧j7 (O t) (O p)=true∧j7 (O p) (O t)=true∧eR (fA (O t).o) (fA (O p).o)=true:=by
 have c:¬ rT t p:=fun h=>by have:=C.cls t p b a d h;rw [C.out]at this;cases this
 exact ⟨c,(R.pair t p b a).resolve_left c⟩
theorem pH.tI:qp (O t) (sF t) (uO O sF S n):=by
 intro x d;rw [rU (t:=t) (Nat.le_of_lt C.lt),←R.AB (Nat.le_of_lt C.lt)]
 ·refine uP fun p b c=>?_
  cases a:S p with
  |true=>rfl
  |false=>exact absurd d ((mb (R.before C b a).2.1).1 x c)
 ·intro p b e a c
  rcases Nat.lt_or_eq_of_le b with h|h
  ·exact (mb (R.behind C h e a).2.2.1).1 x c d
  ·subst h;rw [C.out]at a;cases a
omit R C in
def ins (S:Nat→Bool) (t:Nat):Nat→Bool:=fun p=>bif Nat.beq p t then true else S p
omit R C in
theorem gu:ins S t t=true:=by simp [ins]
omit R C in
theorem iM {p:Nat} (h:p≠t):ins S t p=S p:=by
 unfold ins;rw [nb,decide_eq_false h];rfl
theorem pH.IC (x:Nat):(uO O sF (ins S t) n).get x=((uO O sF S n).bg (O t).d (uN O sF t)).get x:=by
 rw [Fr.jt];by_cases a:(O t).d=some x
 ·rw [if_pos a,rU (t:=t+1) C.lt]
  ·rw [uO,gu,cond_true,Fr.jt,if_pos a]
  ·intro p f c b
   rw [iM (by omega)]at b;have:=(mb (R.behind C (by omega) c b).2.1).2 x a;exact this
 ·rw [if_neg a]
  refine uP fun p f g=>?_
  exact iM (fun e=>a (e▸g))
end
end
section
open Go
inductive Cr (O:Nat→AO) (sF:Nat→Fr) (sH:Nat→AH) (t b:Nat):Prop where
 |alloc (w:(O t).wanted (sF t)=true) (k:fA (O t).o= .alloc) (e:b=(sH t).nx)
 |st (w:(O t).wanted (sF t)=true) (k:fA (O t).o= .st) (e:dq (O t) (sF t)=some b)
 |kN (w:(O t).wanted (sF t)=true) (k:fA (O t).o= .kN)
open Classical in
noncomputable def gS (O:Nat→AO) (sF:Nat→Fr) (sH:Nat→AH) (S:Nat→Bool):Nat→Nat→Option pG
 |0=>(sH 0).raw
 |t+1=>fun b=>if S t=true∧Cr O sF sH t b then(sH (t+1)).raw b else gS O sF sH S t b
noncomputable def gB (O:Nat→AO) (sF:Nat→Fr) (sH:Nat→AH) (S:Nat→Bool):Nat→Option (Nat×ByteArray)
 |0=>(sH 0).bs
 |t+1=>if S t=true∧(O t).wanted (sF t)=true∧fA (O t).o= .kN then(sH (t+1)).bs else gB O sF sH S t
noncomputable def wm (O:Nat→AO) (sF:Nat→Fr) (sH:Nat→AH) (S:Nat→Bool) (m nx:Nat):AH:=⟨gS O sF sH S m,(sH 0).n0,nx,.nil,gB O sF sH S m⟩
section
variable{call:Cl} {O:Nat→AO} {n:Nat} {sF:Nat→Fr} {sH:Nat→AH} {rT:Nat→Nat→Prop}
theorem AD (S:Nat→Bool) (m a b:Nat):(wm O sF sH S m a).raw b=gS O sF sH S m b:=rfl
theorem mH (S:Nat→Bool) (m a b:Nat) (h:b<a):(wm O sF sH S m a).get b=gS O sF sH S m b:=by
 rw [AH.fQ (by exact h)];rfl
theorem AE {S S':Nat→Bool} {b m:Nat} (h:∀p,p<m→Cr O sF sH p b→S p=S' p):gS O sF sH S m b=gS O sF sH S' m b:=by
 induction m with
 |zero=>rfl
 |succ m ih=>
  have ih:=ih fun p c=>h p (by omega)
  simp only [gS];by_cases a:Cr O sF sH m b
  ·rw [h m (by omega) a,ih]
  ·rw [if_neg (fun e=>a e.2),if_neg (fun e=>a e.2),ih]
theorem qU {S:Nat→Bool} {b t m:Nat} (f:t≤m) (h:∀p,t≤p→p<m→S p=true→¬ Cr O sF sH p b):gS O sF sH S m b=gS O sF sH S t b:=by
 induction m with
 |zero=>obtain rfl:t=0:=by omega
        rfl
 |succ m ih=>
  rcases Nat.lt_or_ge m t with a|a
  · obtain rfl:t=m+1:=by omega
    rfl
  · have ih:=ih a fun p d c=>h p d (by omega)
    simp only [gS];rw [if_neg (fun e=>h m a (by omega) e.1 e.2),ih]
theorem AG {S S':Nat→Bool} {m:Nat} (h:∀p,p<m→(O p).wanted (sF p)=true→fA (O p).o= .kN→S p=S' p):gB O sF sH S m=gB O sF sH S' m:=by
 induction m with
 |zero=>rfl
 |succ m ih=>
  have ih:=ih fun p b=>h p (by omega)
  simp only [gB];by_cases a:(O m).wanted (sF m)=true∧fA (O m).o= .kN
  ·rw [h m (by omega) a.1 a.2,ih]
  ·rw [if_neg (fun e=>a e.2),if_neg (fun e=>a e.2),ih]
theorem uQ {S:Nat→Bool} {t m:Nat} (d:t≤m) (h:∀p,t≤p→p<m→S p=true→(O p).wanted (sF p)=true→fA (O p).o≠ .kN):gB O sF sH S m=gB O sF sH S t:=by
 induction m with
 |zero=>obtain rfl:t=0:=by omega
        rfl
 |succ m ih=>
  rcases Nat.lt_or_ge m t with a|a
  · obtain rfl:t=m+1:=by omega
    rfl
  · have ih:=ih a fun p c b=>h p c (by omega)
    simp only [gB];rw [if_neg (fun e=>h m a (by omega) e.1 e.2.1 e.2.2),ih]
variable(R:pH call O n sF sH rT)
include R
theorem pH.Nr {t:Nat} (g:t<n) (h:¬ ((O t).wanted (sF t)=true∧fA (O t).o= .kN)):(sH (t+1)).bs=(sH t).bs:=by
 obtain ⟨x,i,_⟩:=R.one g
 cases i with
 |off a e d=>rw [d]
 |call a f as j e d=>exact absurd ⟨a,ku e⟩ h
 |val a e=>
  cases b:fA (O t).o with
  |pure=>rw [(pM b e).1]
  |load=>rw [(pN b e).1]
  |read=>rw [(pO b e).1]
  |kN=>exact absurd ⟨a,b⟩ h
  |alloc=>
   obtain ⟨aU,d,_⟩:=kT b e;rw [d];rfl
  |st=>
   obtain ⟨c,aU,h2,_,d,_⟩:=uM b e;rw [d];rfl
theorem pH.EG {m:Nat} (a:m≤n):gB O sF sH (fun _=>true) m=(sH m).bs:=by
 induction m with
 |zero=>rfl
 |succ m ih=>
  simp only [gB];by_cases h:(O m).wanted (sF m)=true∧fA (O m).o= .kN
  ·rw [if_pos (by first|exact ⟨rfl,h⟩|exact ⟨trivial,h⟩)]
  ·rw [if_neg (fun e=>h e.2),ih (by omega),R.Nr (by omega) h]
theorem pH.still {t:Nat} (j:t<n) {b:Nat} (h:¬ Cr O sF sH t b):(sH (t+1)).raw b=(sH t).raw b:=by
 obtain ⟨x,k,_⟩:=R.one j
 cases k with
 |off a e g=>rw [g]
 |call a f as l e g=>exact absurd (.kN a (ku e)) h
 |val a e=>
  cases d:fA (O t).o with
  |pure=>rw [(pM d e).1]
  |load=>rw [(pN d e).1]
  |read=>rw [(pO d e).1]
  |kN=>exact absurd (.kN a d) h
  |alloc=>
   obtain ⟨aU,g,_⟩:=kT d e;rw [g,AH.cY,if_neg];exact fun i=>h (.alloc a d i)
  |st=>
   obtain ⟨c,aU,h2,_,g,_⟩:=uM d e;rw [g,AH.dg,if_neg];intro i;subst i;exact h (.st a d h2)
theorem pH.EH {m:Nat} (a:m≤n) (b:Nat):gS O sF sH (fun _=>true) m b=(sH m).raw b:=by
 induction m with
 |zero=>rfl
 |succ m ih=>
  simp only [gS];by_cases h:Cr O sF sH m b
  ·rw [if_pos ⟨rfl,h⟩]
  ·rw [if_neg (fun e=>h e.2),ih (by omega),R.still (by omega) h]
theorem pH.ez {t:Nat} (c:t<n) (w:(O t).wanted (sF t)=true) (k:fA (O t).o= .alloc):(sH (t+1)).nx=(sH t).nx+1:=by
 obtain ⟨x,d,_⟩:=R.one c
 cases d with
 |off a e b=>rw [w]at a;cases a
 |call a f as g e b=>rw [ku e]at k;cases k
 |val a e=>
  obtain ⟨aU,b,_⟩:=kT k e;rw [b];rfl
structure Dom (O:Nat→AO) (n:Nat) (sF:Nat→Fr) (sH:Nat→AH) (S:Nat→Bool) (Dm:Nat→Prop):Prop where
 EI:∀b,Dm b→b<(sH 0).nx∨∃t,t<n∧S t=true∧(sH t).nx≤b∧b<(sH (t+1)).nx
 sts:∀p,p<n→S p=true→(O p).wanted (sF p)=true→fA (O p).o= .st→∀b,dq (O p) (sF p)=some b→Dm b
variable{S:Nat→Bool} {Dm:Nat→Prop} (D:Dom O n sF sH S Dm)
include D
theorem pH.uR {p:Nat} (c:p<n) (d:S p=false) (w:(O p).wanted (sF p)=true) (k:fA (O p).o= .alloc):¬ Dm (sH p).nx:=by
 intro h;rcases D.EI _ h with h|⟨t,e,b,f,h2⟩
 ·have:=R.ja (ap8 p) (by omega);omega
 ·rcases Nat.lt_trichotomy t p with a|a|a
  ·have:=R.ja (show t+1≤p by omega) (by omega);omega
  ·subst a;rw [d]at b;cases b
  ·have:=R.ja (show p+1≤t by omega) (by omega)
   rw [R.ez c w k]at this;omega
variable{t:Nat} (C:SV n rT S t)
include C
theorem pH.ahead {b:Nat} (j:Dm b) (h:∀p,p<t→S p=false→(O p).wanted (sF p)=true→fA (O p).o= .st→fA (O t).o= .st→dq (O p) (sF p)≠some b):gS O sF sH S t b=(sH t).raw b:=by
 rw [←R.EH (Nat.le_of_lt C.lt)];refine AE fun p d g=>?_
 cases f:S p with
 |true=>rfl
 |false=>
  exfalso;obtain ⟨_,_,_,a⟩:=R.before C d f;have i:p<n:=Nat.lt_trans d C.lt
  cases g with
  |alloc w k e=>subst e;exact R.uR D i f w k j
  |st w k e=>
   rw [k]at a
   cases c:fA (O t).o<;>rw [c]at a<;>first
    |(simp [eR,yq.j6]at a;done)
    |exact h p d f w k c e
  |kN w k=>
   rw [k]at a;cases c:fA (O t).o<;>rw [c]at a<;>simp [eR,yq.j6]at a
theorem pH.load {a:Addr} {vs:List Value} (w:(O t).wanted (sF t)=true) (k:fA (O t).o= .load) (A:ff (O t) (sF t) (sH t)=some (a,vs)) (E:dq (O t) (sF t)=some a.block) (f:(sH t).ldn a vs.length=some vs) (B:Dm a.block):
 (wm O sF sH S n (sH n).nx).ldn a vs.length=some vs:=by
 have l:a.block<(sH t).nx:=by
  obtain ⟨x,s⟩:=aqi.1 (dF f).1;exact AH.bk s
 have key:∀m,t≤m→m≤n→(wm O sF sH S m (sH n).nx).ldn a vs.length=some vs:=by
  intro m z
  induction m with
  |zero=>
   intro v;obtain rfl:t=0:=by omega
   rw [←f];refine eS ?_ rfl;rw [mH _ _ _ _ (by have:=R.ja (ap8 n) (apK _);omega),AH.fQ l];rfl
  |succ m ih=>
   intro v;rcases Nat.lt_or_eq_of_le z with q|q
   ·have ih:=ih (by omega) (by omega)
    have h:a.block<(sH n).nx:=by have:=R.ja (Nat.le_of_lt C.lt) (apK _);omega
    by_cases b:S m=true∧Cr O sF sH m a.block
    ·obtain ⟨b,u⟩:=b
     have g:t<m:=by
      rcases Nat.lt_or_eq_of_le (show t≤m by omega)with h2|h2
      ·exact h2
      ·subst h2;rw [C.out]at b;cases b
     obtain ⟨j,_,_,y⟩:=R.behind C g (by omega) b
     cases u with
     |alloc c d e=>
      have:=R.ja (show t≤m by omega) (by omega);omega
     |st c d e=>exact absurd rfl (R.c2 t m g (by omega) j w c (.inl k) d a.block a.block E e)
     |kN c d=>
      obtain ⟨x,r,G⟩:=R.c0 t m g (by omega) j w c k d;rw [A]at r;cases r;have F:=Cq G;rw [←F];refine eS ?_ (R.QU (m+1) (by omega)).symm;rw [mH _ _ _ _ h];have:a.block<(sH (m+1)).nx:=by have:=R.ja (show t≤m+1 by omega) (by omega);omega
      rw [AH.fQ this];simp only [gS];rw [if_pos ⟨b,.kN c d⟩]
    ·rw [←ih]
     refine eS ?_ rfl;rw [mH _ _ _ _ h,mH _ _ _ _ h];simp only [gS];rw [if_neg b]
   ·subst q
    rw [←f];refine eS ?_ (R.QU _ (by omega)).symm;rw [mH _ _ _ _ (by have:=R.ja (show m+1≤n by omega) (apK _);omega),AH.fQ l];exact R.ahead D C B fun p H b c d i=>by rw [k]at i;cases i
 exact key n (Nat.le_of_lt C.lt) (apK _)
theorem pH.look {b:Nat} (w:(O t).wanted (sF t)=true) (k:fA (O t).o= .read∨fA (O t).o= .st) (l:dq (O t) (sF t)=some b) (hs:((sH t).get b).isSome=true) (u:Dm b):
 (wm O sF sH S n (sH n).nx).get b=(sH t).get b:=by
 have s:b<(sH t).nx:=by
  obtain ⟨x,q⟩:=aqi.1 hs;exact AH.bk q
 rw [mH _ _ _ _ (by have:=R.ja (Nat.le_of_lt C.lt) (apK _);omega),AH.fQ s,qU (t:=t) (Nat.le_of_lt C.lt)]
 ·refine R.ahead D C u fun p g f c a m e=>?_
  obtain ⟨h,_⟩:=R.before C g f;exact absurd rfl (R.c2 p t g C.lt h c w (.inr (.inr a)) m b b e l)
 ·intro p g j f r
  have d:t<p:=by
   rcases Nat.lt_or_eq_of_le g with h2|h2
   ·exact h2
   ·subst h2;rw [C.out]at f;cases f
  obtain ⟨h,_,_,i⟩:=R.behind C d j f
  cases r with
  |alloc c a e=>
   have:=R.ja (show t≤p by omega) (by omega);omega
  |st c a e=>
   exact absurd rfl (R.c2 t p d j h w c (.inr k) a b b l e)
  |kN c a=>
   rw [a]at i;rcases k with k|k<;>rw [k]at i<;>simp [eR,yq.j6]at i
omit R D C in
theorem pP {b:Nat} (h:¬ Cr O sF sH t b):gS O sF sH (ins S t) n b=gS O sF sH S n b:=
 AE fun p c a=>iM (fun e=>h (e▸a))
theorem pH.rV {b:Nat} (h:Cr O sF sH t b):gS O sF sH (ins S t) n b=(sH (t+1)).raw b:=by
 have stop:(∀p,t<p→p<n→S p=true→¬ Cr O sF sH p b)→gS O sF sH (ins S t) n b=(sH (t+1)).raw b:=by
  intro u;rw [qU (t:=t+1) C.lt]
  ·simp only [gS]
   rw [if_pos ⟨gu,h⟩]
  ·intro p i g a
   rw [iM (by omega)]at a;exact u p (by omega) g a
 cases h with
 |kN w k=>
  refine stop fun p i g a l=>?_
  obtain ⟨q,_,_,d⟩:=R.behind C i g a;rw [k]at d;cases s:fA (O p).o<;>rw [s]at d<;>simp [eR,yq.j6]at d
 |st w k e=>
  refine stop fun p i g a l=>?_
  obtain ⟨q,_,_,d⟩:=R.behind C i g a
  cases l with
  |alloc f c j=>rw [k,c]at d;simp [eR,yq.j6]at d
  |kN f c=>rw [k,c]at d;simp [eR,yq.j6]at d
  |st f c j=>exact absurd rfl (R.c2 t p i g q w f (.inr (.inr k)) c b b e j)
 |alloc w k e=>
  have key:∀m,t+1≤m→m≤n→gS O sF sH (ins S t) m b=(sH (t+1)).raw b:=by
   intro m d
   induction m with
   |zero=>omega
   |succ m ih=>
    intro x;rcases Nat.lt_or_eq_of_le d with v|v
    ·have ih:=ih (by omega) (by omega)
     simp only [gS];by_cases a:ins S t m=true∧Cr O sF sH m b
     ·rw [if_pos a]
      obtain ⟨a,l⟩:=a;rw [iM (by omega)]at a;obtain ⟨q,_,_,_⟩:=R.behind C (show t<m by omega) (by omega) a
      cases l with
      |alloc f c j=>
       have h2:=R.ja (show t+1≤m by omega) (by omega);rw [R.ez C.lt w k]at h2;omega
      |st f c j=>
       have:=D.sts m (by omega) a f c b j;subst e;exact absurd this (R.uR D C.lt C.out w k)
      |kN f c=>
       have r:=R.c1 t m (by omega) (by omega) q w f k c;have h2:=R.ez C.lt w k;have y:=R.ja (show t+1≤m+1 by omega) (by omega);rw [AH.fQ (by omega),AH.fQ (by omega)]at r;rw [e];exact r
     ·rw [if_neg a,ih]
    ·have:m=t:=by omega
     subst this;simp only [gS];rw [if_pos ⟨gu,.alloc w k e⟩]
  exact key n C.lt (apK _)
end
end
section
open Go
section
variable{call:Cl} {O:Nat→AO} {n:Nat} {sF:Nat→Fr} {sH:Nat→AH} {rT:Nat→Nat→Prop}
structure Step (call:Cl) (O:Nat→AO) (n:Nat) (sF:Nat→Fr) (sH:Nat→AH) (S:Nat→Bool) (Dm:Nat→Prop) (t:Nat) (Hx Hy:AH):Prop where
 run:kP call (O t) (uO O sF S n) Hx=some ((uO O sF S n).bg (O t).d (uN O sF t),Hy)
 pre:∀b,Dm b→Hx.raw b=gS O sF sH S n b
 n0x:Hx.n0=(sH 0).n0
 post:∀b,gS O sF sH (ins S t) n b=Hy.raw b
 n0y:Hy.n0=(sH 0).n0
 bsx:Hx.bs=gB O sF sH S n
 bsy:gB O sF sH (ins S t) n=Hy.bs
 lo:(sH 0).nx≤Hx.nx
 hi:Hy.nx≤(sH n).nx
 out:¬ Dm Hx.nx
 fresh:fA (O t).o= .kN→∀b,Hx.nx≤b→¬ Dm b
 new:∀b,Hx.nx≤b→b<Hy.nx→(sH t).nx≤b∧b<(sH (t+1)).nx
variable(R:pH call O n sF sH rT) {S:Nat→Bool} {Dm:Nat→Prop} (D:Dom O n sF sH S Dm) {t:Nat} (C:SV n rT S t)
include R D
theorem pH.qV {b:Nat} (h:(sH n).nx≤b):¬ Dm b:=by
 intro a;rcases D.EI b a with c|⟨p,d,_,c,h2⟩
 ·have:=R.ja (ap8 n) (apK _);omega
 ·have:=R.ja (show p+1≤n by omega) (apK _);omega
include C
omit R D C in
theorem y9 (h:¬ ((O t).wanted (sF t)=true∧fA (O t).o= .kN)):gB O sF sH (ins S t) n=gB O sF sH S n:=
 AG fun p _ w k=>iM (fun e=>h (e▸⟨w,k⟩))
theorem pH.same {x:Value} (c:∀f:Fr,f.bg (O t).d x=f.bg (O t).d (uN O sF t)) (a:∀b,¬ Cr O sF sH t b)
 (h:One call (O t) (sF t) (wm O sF sH S n (sH n).nx) x (wm O sF sH S n (sH n).nx)):Step call O n sF sH S Dm t (wm O sF sH S n (sH n).nx) (wm O sF sH S n (sH n).nx)where
 run:=eC.2 ⟨x,(c _).symm,(R.tI C).one h⟩
 pre:=fun b _=>rfl
 n0x:=rfl
 post:=fun b=>pP (a b)
 n0y:=rfl
 bsx:=rfl
 bsy:=y9 fun e=>a 0 (.kN e.1 e.2)
 lo:=R.ja (ap8 n) (apK _)
 hi:=apK _
 out:=R.qV D (apK _)
 fresh:=fun _ b g=>R.qV D g
 new:=fun b i h2=>by omega
theorem pH.Nt (I:(O t).wanted (sF t)=true→∀b,dq (O t) (sF t)=some b→Dm b):∃L Hy,Step call O n sF sH S Dm t L Hy:=by
 obtain ⟨x,z,r⟩:=R.one C.lt;have Y:=R.ja (show t+1≤n from C.lt) (apK _);have X:=R.ja (show t≤n by have:=C.lt;omega) (apK _);have Q:=R.ja (ap8 t) (Nat.le_of_lt C.lt);have N:(wm O sF sH S n (sH n).nx).n0=(sH t).n0:=(R.QU t (Nat.le_of_lt C.lt)).symm
 have T:(O t).wanted (sF t)=true→fA (O t).o= .kN→∃L Hy,Step call O n sF sH S Dm t L Hy:=by
  intro w k
  have B:∀p,t<p→p<n→S p=true→False:=by
   intro p l u g;obtain ⟨_,_,_,y⟩:=R.behind C l u g;rw [k]at y;cases d:fA (O p).o<;>rw [d]at y<;>simp [eR,yq.j6]at y
  have fresh:∀b,(sH t).nx≤b→¬ Dm b:=by
   intro b j W;rcases D.EI b W with h2|⟨p,l,g,h2,q⟩
   ·omega
   ·rcases Nat.lt_trichotomy p t with i|i|i
    ·have:=R.ja (show p+1≤t by omega) (Nat.le_of_lt C.lt);omega
    ·subst i;rw [C.out]at g;cases g
    ·exact B p i l g
  have K:(sH t).bs=gB O sF sH S n:=by
   rw [uQ (t:=t) (Nat.le_of_lt C.lt),←R.EG (Nat.le_of_lt C.lt)]
   ·refine AG fun p l F E=>?_
    cases g:S p with
    |true=>rfl
    |false=>
     obtain ⟨_,_,_,y⟩:=R.before C l g;rw [k,E]at y;simp [eR,yq.j6]at y
   ·intro p l u g F E
    rcases Nat.lt_or_eq_of_le l with i|i
    ·exact B p i u g
    ·subst i;rw [C.out]at g;cases g
  have J:gB O sF sH (ins S t) n=(sH (t+1)).bs:=by
   rw [uQ (t:=t+1) C.lt]
   ·simp only [gB]
    rw [if_pos ⟨gu,w,k⟩]
   ·intro p l u g F E
    rw [iM (by omega)]at g;exact B p (by omega) u g
  refine ⟨sH t,sH (t+1),?_,?_,R.QU t (Nat.le_of_lt C.lt),?_,R.QU (t+1) C.lt,K,J,Q,Y,fresh _ (apK _),fun _=>fresh,fun b h2 q=>⟨h2,q⟩⟩
  ·exact eC.2 ⟨x,(r _).symm,(R.tI C).one z⟩
  ·intro b j
   rw [qU (t:=t) (Nat.le_of_lt C.lt)]
   ·exact (R.ahead D C j fun p l g F E M=>by rw [k]at M;cases M).symm
   ·intro p l u g
    rcases Nat.lt_or_eq_of_le l with i|i
    ·exact (B p i u g).elim
    ·subst i;rw [C.out]at g;cases g
  ·intro b
   exact R.rV D C (.kN w k)
 cases z with
 |off w e A=>
  exact ⟨_,_,R.same D C r (fun b s=>by
   have:(O t).wanted (sF t)=true:=by cases s<;>assumption
   rw [w]at this
   cases this) (.off w e rfl)⟩
 |call w f as H1 e A=>exact T w (ku e)
 |val w e=>
  have quiet:(fA (O t).o≠ .alloc)→(fA (O t).o≠ .st)→(fA (O t).o≠ .kN)→∀b,¬ Cr O sF sH t b:=by
   intro h2 q i b s
   cases s with
   |alloc _ k _=>exact h2 k
   |st _ k _=>exact q k
   |kN _ k=>exact i k
  cases d:fA (O t).o with
  |kN=>exact T w d
  |pure=>
   exact ⟨_,_,R.same D C r (quiet (by simp [d]) (by simp [d]) (by simp [d])) (.val w ((pM d e).2 _))⟩
  |load=>
   obtain ⟨_,a,Z,V,m,U,v⟩:=pN d e;exact ⟨_,_,R.same D C r (quiet (by simp [d]) (by simp [d]) (by simp [d])) (.val w (v _ (R.load D C w d V m U (I w _ m))))⟩
  |read=>
   obtain ⟨_,v⟩:=pO d e;exact ⟨_,_,R.same D C r (quiet (by simp [d]) (by simp [d]) (by simp [d])) (.val w (v _ (fun b m G=>R.look D C w (.inl d) m G (I w _ m)) N))⟩
  |st=>
   obtain ⟨c,aU,m,G,A,v⟩:=uM d e;have q:=v (wm O sF sH S n (sH n).nx) (R.look D C w (.inr d) m G (I w _ m)) N;have H:One call (O t) (sF t) (wm O sF sH S n (sH n).nx) x ((wm O sF sH S n (sH n).nx).put c aU):=.val w q;refine ⟨_,_,eC.2 ⟨x,(r _).symm,(R.tI C).one H⟩,fun b _=>rfl,rfl,fun b=>?_,rfl,rfl,y9 (fun e=>by rw [d]at e;cases e.2),R.ja (ap8 n) (apK _),apK _,R.qV D (apK _),fun _ b j=>R.qV D j,fun b z h2=>?_⟩
   ·rw [AH.dg]
    by_cases j:b=c
    ·subst j
     rw [if_pos rfl,R.rV D C (.st w d m),A,AH.dg,if_pos rfl]
    ·rw [if_neg j,pP]
     ·rfl
     ·intro s
      cases s with
      |alloc _ k _=>rw [d]at k;cases k
      |kN _ k=>rw [d]at k;cases k
      |st _ _ e=>rw [m]at e;cases e;exact j rfl
   ·have:b<(sH n).nx:=h2
    have:(sH n).nx≤b:=z;omega
  |alloc=>
   obtain ⟨aU,A,v⟩:=kT d e;have q:=v (wm O sF sH S n (sH t).nx) rfl;have H:One call (O t) (sF t) (wm O sF sH S n (sH t).nx) x ((wm O sF sH S n (sH t).nx).alloc aU):=.val w q;have HV:=R.ez C.lt w d;refine ⟨_,_,eC.2 ⟨x,(r _).symm,(R.tI C).one H⟩,fun b _=>rfl,rfl,fun b=>?_,rfl,rfl,y9 (fun e=>by rw [d]at e;cases e.2),Q,?_,R.uR D C.lt C.out w d,fun h=>?_,fun b z h2=>?_⟩
   ·rw [AH.cY]
    by_cases j:b=(wm O sF sH S n (sH t).nx).nx
    ·have P:b=(sH t).nx:=j
     rw [if_pos j,R.rV D C (.alloc w d P),A,AH.cY,if_pos P]
    ·rw [if_neg j,pP]
     ·rfl
     ·intro s
      cases s with
      |alloc _ k e=>exact j e
      |kN _ k=>rw [d]at k;cases k
      |st _ k e=>rw [d]at k;cases k
   ·show(sH t).nx+1≤_
    omega
   ·rw [d]at h;cases h
   ·have rJ:(sH t).nx≤b:=z
    have wF:b<(sH t).nx+1:=h2;omega
end
end
section
open Go
theorem uS {α:Type}:∀(l:List α) (n:Nat),nth l n=l[n]?
 |[],n=>by simp [nth]
 |x::l,0=>by simp [nth]
 |x::l,n+1=>by simp [nth,uS l n]
theorem pQ {call:Cl}:∀(l:List AO) (a:Fr) (H:AH) (b:List (Fr×AH)),kQ call l a H=some b→
 b.length=l.length∧ig (a,H) b=(((a,H)::b)[l.length]?).getD (a,H)∧
 ∀t o,l[t]?=some o→∃s d,((a,H)::b)[t]?=some s∧((a,H)::b)[t+1]?=some d∧kP call o s.1 s.2=some d
 |[],a,H,b,h=>by
  simp only [kQ,apH]at h;subst h;exact ⟨rfl,rfl,fun t o h=>(by simp at h)⟩
 |o::l,a,H,b,h=>by
  simp only [kQ]at h
  cases f:kP call o a H with
  |none=>simp [f]at h
  |some r=>
   obtain ⟨g,i⟩:=r;simp only [f]at h
   cases h2:kQ call l g i with
   |none=>simp [h2]at h
   |some c=>
    simp only [h2,apH]at h;subst h;obtain ⟨j,p,n⟩:=pQ l g i c h2;refine ⟨by simp [j],?_,fun t k e=>?_⟩
    ·simp only [ig,p,List.length_cons,List.getElem?_cons_succ]
     cases m:((g,i)::c)[l.length]? with
     |some q=>rfl
     |none=>
      have:=List.getElem?_eq_none_iff.1 m;simp only [List.length_cons,j]at this;omega
    ·cases t with
     |zero=>
      simp only [apF,apH]at e;subst e;exact ⟨_,_,rfl,rfl,f⟩
     |succ t=>
      obtain ⟨s,d,w,v,u⟩:=n t k (by simpa using e);exact ⟨s,d,by simpa using w,by simpa using v,u⟩
theorem nH:∀(l:List (Fr×AH)),chain l=true→∀t s c,l[t]?=some s→l[t+1]?=some c→c.2.n0=s.2.n0∧s.2.nx≤c.2.nx
 |[],_,t,s,c,h,_=>by simp at h
 |[a],_,t,s,c,_,h=>by simp at h
 |a::b::l,d,t,s,c,e,h2=>by
  simp only [chain,apJ,nb,apS,Nat.ble_eq]at d
  cases t with
  |zero=>
   simp at e h2;subst e;subst h2;exact ⟨d.1.1.symm,d.1.2⟩
  |succ t=>exact nH (b::l) d.2 t s c (by simpa using e) (by simpa using h2)
theorem kU {l:List AO} {f:List (List Nat)}:∀(ord:List Nat) (am:List (Nat×Nat)) (t:Nat) (r:Row),(l7 l f ord am)[t]?=some r→
 l[r.j]?=some r.o∧r.k=fA r.o.o∧f[r.j]?=some r.dep∧
  ∀i,r.m.testBit i=true→∃e∈r.dep,e=i∨(∃q<t,∃r':Row,(l7 l f ord am)[q]?=some r'∧r'.j=e∧r'.m.testBit i=true)∨(tE e am).testBit i=true
 |[],am,t,r,h=>by simp [l7]at h
 |j::ord,am,t,r,h=>by
  simp only [l7]at h⊢
  cases c:nth l j with
  |none=>simp [c]at h
  |some o=>
   cases n:nth f j with
   |none=>simp [c,n]at h
   |some d=>
    simp only [c,n]at h⊢
    cases t with
    |zero=>
     simp only [apF,apH]at h;subst h;refine ⟨by rw [←uS];exact c,rfl,by rw [←uS];exact n,fun i hi=>?_⟩
     have key:∀(d:List Nat),(nz am d).testBit i=true→∃e∈d,e=i∨(tE e am).testBit i=true:=by
      intro d
      induction d with
      |nil=>intro h;simp [nz]at h
      |cons e d ih=>
       intro h;simp only [nz,Nat.testBit_or,Bool.or_eq_true]at h;rcases h with h|h|h
       ·obtain ⟨y,b,h2⟩:=ih h
        exact ⟨y,List.mem_cons_of_mem _ b,h2⟩
       ·refine ⟨e,List.mem_cons_self,.inl ?_⟩
        rw [Nat.one_shiftLeft,Nat.testBit_two_pow]at h
        simpa using h
       ·exact ⟨e,List.mem_cons_self,.inr h⟩
     obtain ⟨e,b,h2⟩:=key d hi;exact ⟨e,b,h2.imp id .inr⟩
    |succ t=>
     simp only [List.getElem?_cons_succ]at h;obtain ⟨b,h2,x,w⟩:=kU ord _ t r h;refine ⟨b,h2,x,fun i hi=>?_⟩;obtain ⟨e,p,a⟩:=w i hi;refine ⟨e,p,?_⟩;rcases a with a|⟨q,z,r',v,u,s⟩|a
     ·exact .inl a
     ·exact .inr (.inl ⟨q+1,by omega,r',by simpa using v,u,s⟩)
     ·simp only [tE,nb,Bool.cond_decide]at a
      split at a
      ·rename_i g
       exact .inr (.inl ⟨0,by omega,_,rfl,g,a⟩)
      ·exact .inr (.inr a)
theorem rW:∀(rs:List Row) (done:List Nat),Ao rs done=true→∀(t:Nat) (r:Row),rs[t]?=some r→
 (r.j∉done∧∀(q:Nat) (r':Row),q<t→rs[q]?=some r'→r'.j≠r.j)∧∀e∈r.dep,e∈done∨∃q<t,∃r':Row,rs[q]?=some r'∧r'.j=e
 |[],_,_,t,r,h=>by simp at h
 |y::rs,done,h,t,r,a=>by
  simp only [Ao,apJ,Bool.not_eq_true',apW]at h;obtain ⟨⟨k,h2⟩,p⟩:=h
  cases t with
  |zero=>
   simp only [apF,apH]at a;subst a;refine ⟨⟨fun c=>?_,fun q _ g=>by omega⟩,fun e d=>.inl (ma.1 (h2 e d))⟩;rw [ma.2 c]at k;cases k
  |succ t=>
   simp only [List.getElem?_cons_succ]at a;obtain ⟨⟨i,o⟩,n⟩:=rW rs _ p t r a;refine ⟨⟨fun c=>i (List.mem_cons_of_mem _ c),fun q r' g b=>?_⟩,fun e d=>?_⟩
   ·cases q with
    |zero=>
     simp only [apF,apH]at b;subst b;exact fun e=>i (by rw [←e];exact List.mem_cons_self)
    |succ q=>exact o q r' (by omega) (by simpa using b)
   ·rcases n e d with f|⟨q,g,r',m,l⟩
    ·rcases apY.1 f with rfl|f
     ·exact .inr ⟨0,by omega,y,rfl,rfl⟩
     ·exact .inl f
    ·exact .inr ⟨q+1,by omega,r',by simpa using m,l⟩
theorem AJ:∀(rs:List Row),pw rs=true→∀(p q:Nat) (x y:Row),p<q→rs[p]?=some x→rs[q]?=some y→DW x y=true
 |[],_,p,q,x,y,_,h,_=>by simp at h
 |z::rs,h,p,q,x,y,c,b,a=>by
  simp only [pw,apJ,apW]at h
  cases q with
  |zero=>omega
  |succ q=>
   simp only [List.getElem?_cons_succ]at a
   cases p with
   |zero=>
    simp only [apF,apH]at b;subst b;exact h.1 y (apL a)
   |succ p=>exact AJ rs h.2 p q x y (by omega) (by simpa using b) a
theorem qq {p:Nat} {x:Row}:∀(rs:List Row) (a q:Nat) (y:Row),rs[q]?=some y→∀c∈yM p (a+q) x y,c∈uD p x a rs
 |[],a,q,y,h,c,_=>by simp at h
 |z::rs,a,q,y,h,c,b=>by
  simp only [uD]
  cases q with
  |zero=>
   simp only [apF,apH]at h;subst h;exact List.mem_append_left _ (by simpa using b)
  |succ q=>
   exact List.mem_append_right _ (qq rs (a+1) q y (by simpa using h) c (by rwa [show a+1+q=a+(q+1) by omega]))
theorem rX:∀(rs:List Row) (a p q:Nat) (x y:Row),p<q→rs[p]?=some x→rs[q]?=some y→∀c∈yM (a+p) (a+q) x y,c∈tF a rs
 |[],_,p,q,x,y,_,h,_,_,_=>by simp at h
 |z::rs,a,p,q,x,y,e,d,b,c,f=>by
  simp only [tF]
  cases q with
  |zero=>omega
  |succ q=>
   simp only [List.getElem?_cons_succ]at b
   cases p with
   |zero=>
    simp only [apF,apH]at d;subst d;exact List.mem_append_left _ (qq rs (a+1) q y b c (by rwa [show a+1+q=a+(q+1) by omega]))
   |succ p=>
    refine List.mem_append_right _ (rX rs (a+1) p q x y (by omega) (by simpa using d) b c ?_);rwa [show a+1+p=a+(p+1) by omega,show a+1+q=a+(q+1) by omega]
theorem EK {n i:Nat} (h:i<n):i∈Iq n:=by
 induction n with
 |zero=>omega
 |succ n ih=>
  simp only [Iq,apY];by_cases e:i=n
  ·exact .inl e
  ·exact .inr (ih (by omega))
def SY:Row:=⟨⟨none,none,.mkmap⟩,.pure,0,[],0⟩
def rowAt (rs:List Row) (t:Nat):Row:=(rs[t]?).getD SY
def SZ (rs:List Row) (p q:Nat):Prop:=(rowAt rs q).m.testBit (rowAt rs p).j=true
theorem cw {rs:List Row} {t:Nat} (h:t<rs.length):rs[t]?=some (rowAt rs t):=by
 unfold rowAt;rw [apG h];rfl
def DB (s0:Fr×AH) (ss:List (Fr×AH)) (t:Nat):Fr:=(((s0::ss)[t]?).getD s0).1
def zd (s0:Fr×AH) (ss:List (Fr×AH)) (t:Nat):AH:=(((s0::ss)[t]?).getD s0).2
theorem Nv {call:Cl} {rs:List Row} (u:∀(t:Nat) (r:Row),rs[t]?=some r→r.k=fA r.o.o) (J:pw rs=true) {d:Fr} {H:AH} {a:List (Fr×AH)} (O:kQ call (rs.map (·.o)) d H=some a) (D:chain ((d,H)::a)=true)
 (K:(tF 0 rs).all (ko (rs.map (·.o)) ((d,H)::a))=true):
 pH call (fun t=>(rowAt rs t).o) rs.length (DB (d,H) a) (zd (d,H) a) (SZ rs):=by
 obtain ⟨C,_,I⟩:=pQ _ _ _ _ O
 have st:∀t,t<rs.length→∃s s',((d,H)::a)[t]?=some s∧((d,H)::a)[t+1]?=some s'∧kP call (rowAt rs t).o s.1 s.2=some s':=
  fun t v=>I t (rowAt rs t).o (by rw [aqa,cw v];rfl)
 have w:∀p q,p<q→q<rs.length→∀c∈yM p q (rowAt rs p) (rowAt rs q),ko (rs.map (·.o)) ((d,H)::a) c=true:=by
  intro p q f e c L;exact apW.1 K c (rX rs 0 p q _ _ f (cw (by omega)) (cw e) c (by simpa using L))
 have un:∀p q k,p<q→q<rs.length→(rowAt rs p).o.wanted (DB (d,H) a p)=true→(rowAt rs q).o.wanted (DB (d,H) a q)=true→ko (rs.map (·.o)) ((d,H)::a) (k,p,q)=true→
  (match k with
   |0=>match ff (rowAt rs p).o (DB (d,H) a p) (zd (d,H) a p)with|some x=>sameAt (zd (d,H) a (q+1)) x|none=>false
   |1=>m9 ((zd (d,H) a (p+1)).get (zd (d,H) a p).nx) ((zd (d,H) a (q+1)).get (zd (d,H) a p).nx)
   |_=>match dq (rowAt rs p).o (DB (d,H) a p),dq (rowAt rs q).o (DB (d,H) a q)with|some b,some E=>!Nat.beq b E|_,_=>true)=true:=by
  intro p q k f e wp l h;obtain ⟨U,T,B,F,_⟩:=st p (by omega);obtain ⟨S,R,A,a4,_⟩:=st q e;have Q:(rs.map (·.o))[p]?=some (rowAt rs p).o:=by rw [aqa,cw (by omega)];rfl
  have P:(rs.map (·.o))[q]?=some (rowAt rs q).o:=by rw [aqa,cw e];rfl
  unfold DB zd at*;rw [B,Option.getD_some]at wp;rw [A,Option.getD_some]at l;unfold ko at h;simp only [uS,Q,P,B,F,A,a4,wp,l,Bool.not_true,Bool.false_or]at h;rw [B,F,A,a4];simp only [Option.getD_some];exact h
 refine ⟨fun t v=>?_,fun t v=>?_,fun t v=>?_,fun p q f e=>?_,?_,?_,?_⟩
 ·obtain ⟨s,s',i,h2,z⟩:=st t v
  unfold DB zd;rw [i,h2];exact z
 ·obtain ⟨s,s',i,h2,z⟩:=st t v
  unfold zd;rw [i,h2];exact (nH _ D t s s' i h2).1
 ·obtain ⟨s,s',i,h2,z⟩:=st t v
  unfold zd;rw [i,h2];exact (nH _ D t s s' i h2).2
 ·have:=AJ rs J p q _ _ f (cw (by omega)) (cw e)
  simp only [DW,Bool.or_eq_true,apJ]at this;rw [←u p _ (cw (by omega)),←u q _ (cw e)];rcases this with h|⟨⟨i,h2⟩,z⟩
  ·exact .inl h
  ·exact .inr ⟨i,h2,z⟩
 ·intro p q f e y wp l g n
  rw [←u p _ (cw (by omega))]at g;rw [←u q _ (cw e)]at n
  have:=un p q 0 f e wp l (w p q f e _ (by
   unfold yM;rw [show(rowAt rs q).m.testBit (rowAt rs p).j=false from aqj.2 y,g,n]
   simp))
  simp only at this;split at this
  ·rename_i x G
   exact ⟨x,G,this⟩
  ·cases this
 ·intro p q f e y wp l g n
  rw [←u p _ (cw (by omega))]at g;rw [←u q _ (cw e)]at n
  have:=un p q 1 f e wp l (w p q f e _ (by
   unfold yM;rw [show(rowAt rs q).m.testBit (rowAt rs p).j=false from aqj.2 y,g,n]
   simp))
  exact (ED this).symm
 ·intro p q f e y wp l g n b E N M
  rw [←u p _ (cw (by omega))]at g;rw [←u q _ (cw e)]at n
  have:=un p q 2 f e wp l (w p q f e _ (by
   unfold yM;rw [show(rowAt rs q).m.testBit (rowAt rs p).j=false from aqj.2 y,n]
   rcases g with g|g|g<;>rw [g]<;>simp))
  simp only [N,M,nb]at this
  simpa using this
open Go Go.RowKit
section
variable{P:Program}
theorem Rel.rY {w0 w:World} {φ:bS} {H H1:AH} (R:Rel w0 φ H w) (h:∀b,φ.m b≠none→H1.raw b=H.raw b) (B:H1.n0=H.n0) (r:φ.n0≤H1.nx) (u:H1.bs=H.bs):Rel w0 φ H1 w where
 n0:=B.trans R.n0
 qQ:=R.qQ
 qR:=r
 c0:=R.c0
 below:=R.below
 wD:=R.wD
 jJ:=R.jJ
 lJ:=fun b z cs a d=>R.lJ b z cs a (by rw [←h b (by rw [R.jJ b a];simp)];exact d)
 cells:=fun b l z cs a c d=>R.cells b l z cs a c (by rw [←h b (by rw [c];simp)];exact d)
 maps:=fun b l es a c d=>R.maps b l es a c (by rw [←h b (by rw [c];simp)];exact d)
 inj:=fun j i q p x v f h2 o n t=>R.inj j i q p x v f h2 (by rw [←h j (by rw [f];simp)];exact o) (by rw [←h i (by rw [h2];simp)];exact n) t
 tD:=fun b s e=>by
  obtain ⟨f,h2,l,g,A,y⟩:=R.tD b s (by rw [←u];exact e);exact ⟨f,by rw [h b (by rw [g];simp)];exact h2,l,g,A,y.uF rfl (fun _ _ _=>rfl) fun C F E k D=>.inl ⟨E,k,by rw [←h C (by rw [k];simp)];exact D⟩⟩
theorem eB.comp {φ a f:bS} {H d o n:AH} {w i g:World} (h:eB φ H w a d i) (k:eB a o i f n g) (q:H.nx≤o.nx) (h2:n.nx≤d.nx):eB φ H w f d g where
 le:=bS.le_trans h.le k.le
 n0:=k.n0.trans h.n0
 c0:=k.c0.trans h.c0
 nx:=h.nx
 new:=fun b l e j=>by
  cases c:a.m b with
  |none=>exact ⟨ap2 q (k.new b l c j).1,ap3 (k.new b l c j).2 h2⟩
  |some p=>exact h.new b p e c
 size:=ap2 h.size k.size
theorem uT {φ:bS} {b:Fr} {a:Act} (F:lY φ b a) {x:X} (h:MU x=true) {d:Addr} (e:x.ev b= .pointer (some d)):φ.m d.block≠none:=by
 cases x with
 |t n=>
  have:=F n;rw [show b.get n= .pointer (some d) from e]at this;obtain ⟨l,_,c,_⟩:=this.yO;rw [c];simp
 |k v=>rw [show v= .pointer (some d) from e]at h;cases h
 |f n=>cases e
theorem ID {φ:bS} {b:Fr} {a:Act} (F:lY φ b a) {x:X} (h:MU x=true) {d:Nat} (e:x.ev b= .map (some d)):φ.m d≠none:=by
 cases x with
 |t n=>
  have:=F n;rw [show b.get n= .map (some d) from e]at this;obtain ⟨l,c,_⟩:=this.ZS;rw [c];simp
 |k v=>rw [show v= .map (some d) from e]at h;cases h
 |f n=>cases e
theorem Nw {φ:bS} {b:Fr} {a:Act} (F:lY φ b a) {x:X} (h:MU x=true) {d:Addr} {n c:Nat} (e:x.ev b= .slice (some d) n c) (hs:d.spot=none):φ.m d.block≠none:=by
 cases x with
 |t m=>
  have:=F m;rw [show b.get m= .slice (some d) n c from e]at this;rcases this.DZ with⟨l,j,_,i,_⟩|⟨g,_⟩
  ·rw [i];simp
  ·rw [hs]at g;cases g
 |k v=>rw [show v= .slice (some d) n c from e]at h;cases h
 |f n=>cases e
theorem EL {φ:bS} {d:Fr} {a:Act} (F:lY φ d a) {o:AO} (h:o.o.xs.all MU=true) {b:Nat} (e:dq o d=some b):φ.m b≠none:=by
 unfold dq at e;cases g:o.o<;>simp only [g,cQ.xs,List.all_cons,apJ]at h e<;>(try(cases e;done))
 case st n x v=>
  split at e<;>cases e;rename_i c;exact uT F h.1 c
 case ld x=>
  split at e<;>cases e;rename_i c;exact uT F h.1 c
 case ldn n x=>
  split at e<;>cases e;rename_i c;exact uT F h.1 c
 case look kk z x k ok=>
  split at e<;>cases e;rename_i c;exact ID F h.1 c
 case sl sz x lo hi mx=>
  split at e
  ·rename_i c
   obtain ⟨f,e⟩:=aP e;cases e;exact Nw F h.1 c (by simpa using f)
  ·cases e
def yw (S:Nat→Bool):Nat→Nat
 |0=>0
 |m+1=>yw S m+(bif S m then 0 else 1)
theorem wJ {S:Nat→Bool}:∀{m:Nat},yw S m=0→∀t,t<m→S t=true
 |0,_,t,h=>by omega
 |m+1,h,t,b=>by
  simp only [yw]at h;by_cases e:t=m
  ·subst e
   cases a:S t with
   |true=>rfl
   |false=>rw [a]at h;simp at h
  ·exact wJ (m:=m) (by omega) t (by omega)
theorem uU {S S':Nat→Bool}:∀{m:Nat},(∀t,t<m→S t=true→S' t=true)→yw S' m≤yw S m
 |0,_=>apK _
 |m+1,h=>by
  have:=uU (S:=S) (S':=S') (m:=m) fun t b=>h t (by omega)
  simp only [yw]
  cases a:S m with
  |true=>rw [h m (by omega) a];simpa using this
  |false=>cases S' m<;>simp<;>omega
theorem AK {S:Nat→Bool} {t:Nat} (a:S t=false):∀{m:Nat},t<m→yw (ins S t) m+1≤yw S m
 |0,h=>by omega
 |m+1,h=>by
  simp only [yw];by_cases e:t=m
  ·subst e
   rw [gu,a]
   have:=uU (S:=S) (S':=ins S t) (m:=t) fun p _ b=>by
    by_cases e:p=t
    ·subst e;exact gu
    ·rw [iM e];exact b
   simp;omega
  ·rw [iM (fun h=>e h.symm)]
   have:=AK a (m:=m) (by omega);omega
theorem IE {m:Nat}:yw (fun _=>false) m=m:=by
 induction m with
 |zero=>rfl
 |succ m ih=>simp [yw,ih]
def ts (rs:List Row) (cC:Array Bool) (t:Nat):Bool:=cC.getD (rowAt rs t).j false
structure IF (w0 w:World) (φ:bS) (O:Nat→AO) (n:Nat) (sF:Nat→Fr) (sH:Nat→AH) (nt:Nat) (S:Nat→Bool) (lN:bS) (a1:Act) (w1:World):Prop where
 rel:Rel w0 lN (wm O sF sH S n (sH n).nx) w1
 S3:lY lN (uO O sF S n) a1
 size:a1.tmps.size=nt
 defs:a1.defers=[]
 EI:Dom O n sF sH S (fun b=>lN.m b≠none)
 grow:eB φ (sH 0) w lN (sH n) w1
theorem S4 {call:Cl} (W:pL P call) {O:Nat→AO} {n:Nat} {y:Nat→Fr} {g:Nat→AH} {H:Nat→Nat→Prop} (R:pH call O n y g H) {w0 w:World} {φ:bS} (c:φ.n0≤(g 0).nx) {A:Nat} {S:Nat→Bool} {t:Nat} (C:SV n H S t)
 {f:bS} {L:Act} {w1:World} (I:IF w0 w φ O n y g A S f L w1) {z:Array Oper} {j:Nat} {o:Oper} (U:z[j]?=some o) (X:Lr P A z o=some (O t)) (E:(O t).o.xs.all MU=true)
 {Q:Exit→Act→World→Prop} {K:Act→World→Prop} (Y:∀d J q,IF w0 w φ O n y g A (ins S t) d J q→K J q):wpOp P z Q j K L w1:=by
 obtain ⟨Hx,Hy,a⟩:=R.Nt I.EI C (fun _ b c=>EL I.S3 E (by rw [EF (R.tI C)];exact c));have D:f.n0≤Hx.nx:=by rw [I.grow.n0];exact ap2 c a.lo
 refine Ew W U X I.S3 (I.rel.rY (fun b c=>a.pre b c) a.n0x D a.bsx) (Classical.not_not.1 a.out) (fun T b c=>Classical.not_not.1 (a.fresh T b c)) I.size I.defs a.run ?_;intro d v v' q Z u hv kO F2 M V;refine Y d _ q ⟨?_,?_,M,V,?_,I.grow.comp u a.lo a.hi⟩
 ·refine Z.rY (fun b _=>a.post b) a.n0y.symm ?_ a.bsy
  show d.n0≤(g n).nx;rw [u.n0,I.grow.n0];exact ap2 c (R.ja (ap8 n) (apK _))
 ·intro x
  rw [R.IC C x];exact F2 x
 ·refine ⟨fun b c=>?_,fun p B r w k b F=>?_⟩
  ·by_cases i:f.m b=none
   ·obtain ⟨l,N⟩:∃l,d.m b=some l:=by
     cases h2:d.m b with
     |none=>exact absurd h2 c
     |some l=>exact ⟨l,rfl⟩
    have s:=u.new b l i N;have G:=a.new b s.1 s.2;exact .inr ⟨t,C.lt,gu,G.1,G.2⟩
   ·rcases I.EI.EI b i with h|⟨p,B,r,h2,s⟩
    ·exact .inl h
    ·refine .inr ⟨p,B,?_,h2,s⟩
     by_cases e:p=t
     ·subst e;exact gu
     ·rw [iM e];exact r
  ·have up:∀b,f.m b≠none→d.m b≠none:=by
    intro b h
    cases i:f.m b with
    |none=>exact absurd i h
    |some l=>rw [u.le _ _ i];simp
   by_cases e:p=t
   ·subst e
    exact up b (EL I.S3 E (by rw [EF (R.tI C)];exact F))
   ·rw [iM e]at r
    exact up b (I.EI.sts p B r w k b F)
theorem wK {d:Nat} {c:Array Oper}:∀{l:List Oper} {a:List AO},ox P d c l=some a→a.length=l.length∧∀(j:Nat) (o:Oper) (b:AO),l[j]?=some o→a[j]?=some b→Lr P d c o=some b
 |[],a,h=>by
  simp [ox]at h;subst h;exact ⟨rfl,fun j o b h=>(by simp at h)⟩
 |x::l,a,h=>by
  simp only [ox]at h
  cases e:Lr P d c x with
  |none=>simp [e]at h
  |some y=>
   cases h2:ox P d c l with
   |none=>simp [e,h2]at h
   |some m=>
    simp only [e,h2,apH]at h;subst h;obtain ⟨k,i⟩:=wK h2;refine ⟨by simp [k],fun j o b f g=>?_⟩
    cases j with
    |zero=>
     simp at f g;subst f;subst g;exact e
    |succ j=>exact i j o b (by simpa using f) (by simpa using g)
theorem uV {o:Oper} {i:Nat}:i∈Ip o↔∃e∈o.after,Region.binds .any e=true∧e.on=i:=by
 unfold Ip;rw [List.mem_filterMap];constructor
 ·rintro ⟨e,b,h⟩
  cases a:Region.binds .any e with
  |false=>rw [a]at h;cases h
  |true=>rw [a]at h;cases h;exact ⟨e,by simpa using b,a,rfl⟩
 ·rintro ⟨e,b,a,rfl⟩
  exact ⟨e,by simpa using b,by rw [a];rfl⟩
theorem Nx (hm:P.follows .mixedOrders=true) {call:Cl} (fW:pL P call):EA P call:=by
 intro nt id g ac hc l ck hac X w A H H' fr cB a h F R R0 hs hd;obtain ⟨Dz,ord,hl,tH,S5⟩:=rR hc;generalize wL:l7 Dz (g.toList.map Ip) ord []=rs at tH S5;rw [S5]at hac;cases hac;simp only [yN,apJ,nb,apS,apW]at tH;obtain ⟨⟨⟨⟨aao,hlen⟩,aap⟩,aaq⟩,nZ⟩:=tH;obtain ⟨LB,S6⟩:=wK hl;have hn:rs.length=g.size:=by rw [hlen,LB];simp
 have row:∀t,t<rs.length→∃o,g[(rowAt rs t).j]?=some o∧Lr P nt g o=some (rowAt rs t).o∧(rowAt rs t).dep=Ip o∧(rowAt rs t).o.o.xs.all MU=true:=by
  intro t f;have hg:=cw f;obtain ⟨d,h2,W,_⟩:=kU ord [] t (rowAt rs t) (by rw [wL];exact hg);rw [aqa]at W
  cases n:g.toList[(rowAt rs t).j]? with
  |none=>simp [n]at W
  |some o=>
   simp [n]at W;exact ⟨o,by simpa using n,S6 _ o _ n d,W.symm,apW.2 (aao _ (apL hg))⟩
 have S7:∀t,t<rs.length→∀i,(rowAt rs t).m.testBit i=true→∃e∈(rowAt rs t).dep,e=i∨∃q<t,(rowAt rs q).j=e∧(rowAt rs q).m.testBit i=true:=by
  intro t f i hi;obtain ⟨_,_,_,h4⟩:=kU ord [] t (rowAt rs t) (by rw [wL];exact cw f);obtain ⟨e,k,B⟩:=h4 i hi;refine ⟨e,k,?_⟩;rcases B with B|⟨q,s,r',h6,h7,h8⟩|B
  ·exact .inl B
  ·rw [wL]at h6
   have:rowAt rs q=r':=by unfold rowAt;rw [h6];rfl
   exact .inr ⟨q,s,by rw [this];exact h7,by rw [this];exact h8⟩
  ·simp [tE]at B
 have J:∀t,t<rs.length→(∀q,q<t→(rowAt rs q).j≠(rowAt rs t).j)∧∀e∈(rowAt rs t).dep,∃q<t,(rowAt rs q).j=e:=by
  intro t f;obtain ⟨⟨_,d⟩,h2⟩:=rW rs [] aaq t _ (cw f);refine ⟨fun q s=>d q _ s (cw (by omega)),fun e k=>?_⟩;rcases h2 e k with W|⟨q,s,r',h4,B⟩
  ·cases W
  ·exact ⟨q,s,by unfold rowAt;rw [h4];exact B⟩
 have Y:∀i,i<g.size→∃t,t<rs.length∧(rowAt rs t).j=i:=by
  intro i hi;have:=ma.1 (aap i (EK (by rw [LB];simpa using hi)));obtain ⟨r,hr,e⟩:=aqd.1 this;obtain ⟨t,f,e2⟩:=List.mem_iff_getElem.1 hr;refine ⟨t,f,?_⟩;unfold rowAt;rw [apG f,Option.getD_some,e2];exact e
 have K:∀t,t<rs.length→(rowAt rs t).j<g.size:=by
  intro t f;obtain ⟨o,n,_⟩:=row t f;exact (apU.1 n).1
 unfold Cc at h
 cases hT:kQ call (rs.map (·.o)) fr H with
 |none=>simp [hT]at h
 |some N=>
  simp only [hT]at h;obtain ⟨Dw,h⟩:=aP h;simp only [apJ]at Dw;have D:=Nv (fun t r hr=>(kU ord [] t r (by rw [wL];exact hr)).2.1) nZ hT Dw.1 Dw.2;have wM:=(pQ _ _ _ _ hT).2.1;rw [List.length_map]at wM;simp only [apH]at h;rw [wM]at h;have hFn:DB (fr,H) N rs.length=cB:=by unfold DB;rw [h]
  have hHn:zd (fr,H) N rs.length=H':=by unfold zd;rw [h]
  have kh:DB (fr,H) N 0=fr:=rfl;have v:zd (fr,H) N 0=H:=rfl;generalize DB (fr,H) N=sF at*;generalize zd (fr,H) N=Z at*
  have main:∀(fuel:Nat) (cC:Array Bool) (z:bS) (y:Act) (w1:World),cC.size=g.size→yw (ts rs cC) rs.length≤fuel→
   (∀(j:Nat) (o:Oper),g[j]?=some o→cC.getD j false=true→∀e∈Ip o,cC.getD e false=true)→
   IF X w A (fun t=>(rowAt rs t).o) rs.length sF Z nt (ts rs cC) z y w1→
   wpAny P .any g (Ey X A w H nt .normal cB H') fuel cC y w1:=by
   have fin:∀(cC:Array Bool) (z:bS) (y:Act) (w1:World),(∀t,t<rs.length→ts rs cC t=true)→
    IF X w A (fun t=>(rowAt rs t).o) rs.length sF Z nt (ts rs cC) z y w1→Ey X A w H nt .normal cB H' .normal y w1:=by
    intro cC z y w1 T I;refine ⟨rfl,z,?_,?_,?_,I.size,I.defs⟩
    ·rw [←hHn]
     refine I.rel.rY (fun b _=>?_) (by rw [D.QU _ (apK _)];rfl) ?_ (by rw [←D.EG (apK _)];exact AG fun p c _ _=>(T p c).symm)
     ·rw [AD,←D.EH (apK _)]
      exact AE fun p c _=>(T p c).symm
     ·rw [I.grow.n0]
      exact ap2 R.qR (by rw [←v];exact D.ja (ap8 _) (apK _))
    ·rw [←hHn,←v];exact I.grow
    ·intro x
     rw [←hFn,←D.AB (apK _)];rw [uP (S:=fun _=>true) (S':=ts rs cC) fun p c _=>(T p c).symm];exact I.S3 x
   intro fuel
   induction fuel with
   |zero=>
    intro cC z y w1 jG hun IG I;have T:=wJ (Nat.le_zero.1 hun);refine ⟨?_,fin cC z y w1 T I⟩;rw [List.eq_nil_iff_forall_not_mem];intro i hi;obtain ⟨h0,o,n,_⟩:=mem_ready.1 hi;obtain ⟨t,f,rfl⟩:=Y i (apU.1 n).1;have d:=T t f;unfold ts at d;have Q:(rowAt rs t).j<cC.size:=by rw [jG];exact K t f
    simp [Q]at h0 d;rw [h0]at d;cases d
   |succ fuel ih=>
    intro cC z y w1 jG hun IG I;refine ⟨fun hr=>?_,fun i hi=>?_⟩
    ·refine fin cC z y w1 ?_ I
     intro t
     induction t using Nat.strongRecOn with
     |_ t iht=>
      intro f
      cases u:ts rs cC t with
      |true=>rfl
      |false=>
       exfalso;obtain ⟨o,n,_,Ny,_⟩:=row t f
       have:(rowAt rs t).j∈Region.ready .any g cC:=by
        refine mem_ready.2 ⟨?_,o,n,fun e k hb=>?_⟩
        ·have Q:(rowAt rs t).j<cC.size:=by rw [jG];exact K t f
         unfold ts at u;simp [Q]at u⊢;exact u
        ·obtain ⟨q,s,e2⟩:=(J t f).2 e.on (by rw [Ny];exact uV.2 ⟨e,k,hb,rfl⟩)
         have:=iht q s (by omega);unfold ts at this;rw [e2]at this;exact this
       rw [hr]at this;cases this
    ·obtain ⟨h0,o',M,LC⟩:=mem_ready.1 hi
     obtain ⟨t,f,rfl⟩:=Y i (apU.1 M).1;obtain ⟨o,n,aau,Ny,hx⟩:=row t f;rw [n]at M;cases M;have Q:(rowAt rs t).j<cC.size:=by rw [jG];exact K t f
     have Ns:ts rs cC t=false:=by
      unfold ts;simp [Q]at h0⊢;exact h0
     have closed:∀q,q<rs.length→(∀e∈(rowAt rs q).dep,cC.getD e false=true)→∀i,(rowAt rs q).m.testBit i=true→cC.getD i false=true:=by
      intro q
      induction q using Nat.strongRecOn with
      |_ q ihq=>
       intro s WJ i hi;obtain ⟨e,k,B⟩:=S7 q s i hi;rcases B with rfl|⟨p,c,h6,h7⟩
       ·exact WJ _ k
       ·refine ihq p c (by omega) (fun e' he'=>?_) i h7
        obtain ⟨op,qS,_,WI,_⟩:=row p (by omega);exact IG _ op qS (by rw [h6];exact WJ e k) e' (by rw [←WI];exact he')
     have C:SV rs.length (SZ rs) (ts rs cC) t:=by
      refine ⟨f,Ns,fun p c ha=>?_,fun p q wI s hSq ha=>?_⟩
      ·refine closed t f (fun e k=>?_) _ ha
       rw [Ny]at k;obtain ⟨ed,d,h2,rfl⟩:=uV.1 k;exact LC ed d h2
      ·refine closed q s (fun e k=>?_) _ ha
       obtain ⟨oq,hoq,_,WJ,_⟩:=row q s;exact IG _ oq hoq hSq e (by rw [←WJ];exact k)
     have U:∀p,p<rs.length→ts rs (cC.setIfInBounds (rowAt rs t).j true) p=ins (ts rs cC) t p:=by
      intro p c;unfold ts;by_cases e:p=t
      ·subst e
       rw [gu];simp [Q]
      ·rw [iM e]
       refine getD_set_ne false ?_;rcases Nat.lt_or_gt_of_ne e with d|d
       ·exact fun h2=>(J t f).1 p d h2.symm
       ·exact (J p c).1 t d
     refine S4 (O:=fun t=>(rowAt rs t).o) fW D (by rw [v];exact R.qR) C I n aau hx ?_;intro lO a2 w2 E;refine ih _ lO a2 w2 (by simp [jG]) ?_ ?_ ?_
     ·have d:=AK Ns f
      have h2:yw (ts rs (cC.setIfInBounds (rowAt rs t).j true)) rs.length≤yw (ins (ts rs cC) t) rs.length:=
       uU fun p c h=>by rw [U p c];exact h
      omega
     ·intro j oj L hj e k
      by_cases ej:(rowAt rs t).j=j
      ·subst ej
       rw [n]at L;cases L;obtain ⟨ed,d,h2,rfl⟩:=uV.1 k;exact getD_set_true (LC ed d h2)
      ·rw [getD_set_ne false ej]at hj
       exact getD_set_true (IG j oj L hj e k)
     ·have eF:∀x,(uO (fun t=>(rowAt rs t).o) sF (ts rs (cC.setIfInBounds (rowAt rs t).j true)) rs.length).get x=(uO (fun t=>(rowAt rs t).o) sF (ins (ts rs cC) t) rs.length).get x:=
       fun x=>uP fun p c _=>U p c
      refine ⟨E.rel.rY (fun b _=>AE fun p c _=>U p c) rfl E.rel.qR (AG fun p c _ _=>U p c),fun x=>by rw [eF];exact E.S3 x,E.size,E.defs,⟨fun b hb=>?_,fun p c u=>?_⟩,E.grow⟩
      ·rcases E.EI.EI b hb with d|⟨p,c,u,h2⟩
       ·exact .inl d
       ·exact .inr ⟨p,c,by rw [U p c];exact u,h2⟩
      ·rw [U p c]at u
       exact E.EI.sts p c u
  refine wp_region_any hm ?_
  have WK:∀t,ts rs (Array.replicate g.size false) t=false:=by
   intro t;unfold ts;by_cases h:(rowAt rs t).j<g.size<;>simp [h]
  refine main g.size _ A a _ (by simp) ?_ ?_ ?_
  ·rw [←hn]
   have:yw (ts rs (Array.replicate g.size false)) rs.length≤yw (fun _=>false) rs.length:=uU fun p _ h=>by cases h
   rw [IE]at this;rwa [hn]at this⊢
  ·intro j o _ h
   exfalso;by_cases h2:j<g.size<;>simp [h2]at h
  ·have R':Rel X A H {w with drawn:=w.drawn+1}:=R.drew rfl rfl rfl rfl
   refine ⟨R'.rY (fun b _=>?_) (by show(Z 0).n0=_;rw [v]) ?_ ?_,fun x=>?_,hs,hd,⟨fun b hb=>.inl ?_,fun p c u=>?_⟩,?_⟩
   ·rw [AD,qU (t:=0) (ap8 _)]
    ·show(Z 0).raw b=_;rw [v]
    ·intro p _ _ h;rw [WK]at h;cases h
   ·refine ap2 R.qR ?_
    rw [←v];exact D.ja (ap8 _) (apK _)
   ·show gB _ _ _ _ _=_
    rw [uQ (t:=0) (ap8 _)]
    ·show(Z 0).bs=_;rw [v]
    ·intro p _ _ h;rw [WK]at h;cases h
   ·rw [rU (t:=0) (ap8 _)]
    ·show V A ((sF 0).get x) _;rw [kh];exact F x
    ·intro p _ _ h;rw [WK]at h;cases h
   ·rw [v]
    rcases Nat.lt_or_ge b H.nx with d|d
    ·exact d
    ·exact absurd (R0 b d) hb
   ·rw [WK]at u;cases u
   ·have G:eB A H w A H {w with drawn:=w.drawn+1}:=eB.of_heap rfl
    rw [v];refine ⟨G.le,G.n0,G.c0,?_,fun b l d h2=>(by rw [d]at h2;cases h2),G.size⟩;rw [←v];exact D.ja (ap8 _) (apK _)
end
end
section
open Go Go.RowKit
section
variable{P:Program}
def pR (tmps:Array Value):ResultVar→Sem Value
 | .tmp t=>pure (tmps.getD t undef)
 | .cell a t=>do loadVar t (←asAddr (tmps.getD a undef))
theorem uW (fn:Func) (tmps:Array Value):results fn tmps=(do
 let vs←fn.results.toList.mapM (pR tmps)
 pure (if h:vs.toArray.size=1 then vs.toArray[0]else .tuple vs.toArray)):=by
 have e:results fn tmps=(do
  let vs←fn.results.mapM (pR tmps)
  pure (if h:vs.size=1 then vs[0]else .tuple vs)):=rfl
 rw [e,Array.mapM_eq_mapM_toList];simp
theorem qW {w0 w:World} {φ:bS} {H:AH} {g:Fr} {a:Act} (F:lY φ g a) (R:Rel w0 φ H w):∀(l:List ResultVar) (m:List RS) (vs:List Value),wB P l=some m→RS.all g H m=some vs→
 ∃e,(l.mapM (pR a.tmps)).run P w= .ok e w∧VL φ vs e
 |[],m,vs,c,h=>by
  simp [wB]at c;subst c;simp [RS.all]at h;subst h;exact ⟨[],by simp,.nil⟩
 | .tmp t::l,m,vs,c,h=>by
  simp only [wB,apQ]at c;obtain ⟨f,o,rfl⟩:=c;simp only [RS.all,RS.get]at h
  cases b:RS.all g H f with
  |none=>simp [b]at h
  |some us=>
   simp only [b,apH]at h;subst h;obtain ⟨e,q,h2⟩:=qW F R l f us o b;refine ⟨a.tmps.getD t undef::e,?_,.cons (F t) h2⟩;simp [List.mapM_cons,pR,q]
 | .cell t ty::l,m,vs,c,h=>by
  simp only [wB]at c;split at c
  ·rename_i n f s B o
   cases c;simp only [RS.all,RS.get]at h;cases k:g.get t<;>simp [k]at h;rename_i p;cases p<;>simp at h;rename_i A
   cases d:H.ldn A n with
   |none=>simp [d]at h
   |some ws=>
    cases b:RS.all g H f with
    |none=>simp [d,b]at h
    |some us=>
     simp [d,b]at h;subst h;obtain ⟨e,q,h2⟩:=qW F R l f us o b;have j:=F t;rw [k]at j;obtain ⟨r,i,z,x,u,G,E⟩:=Ea R j d;have C:=run_loadCells_list (P:=P) w r i E;rw [x]at C;refine ⟨.agg i.toArray::e,?_,.cons (.agg (by simpa using u) (by simpa using G)) h2⟩;have y:a.tmps.getD t undef= .pointer (some r):=z;simp only [List.mapM_cons,pR,y];simp [asAddr,loadVar,kr s,c8 B,C,q]
  ·rename_i n f s B o
   cases c;simp only [RS.all,RS.get]at h;cases k:g.get t<;>simp [k]at h;rename_i p;cases p<;>simp at h;rename_i A
   cases d:H.ld A with
   |none=>simp [d]at h
   |some v=>
    cases b:RS.all g H f with
    |none=>simp [d,b]at h
    |some us=>
     simp [d,b]at h;subst h;obtain ⟨e,q,h2⟩:=qW F R l f us o b;have j:=F t;rw [k]at j;obtain ⟨r,D,z,x,u⟩:=Lt R j d;refine ⟨D::e,?_,.cons u h2⟩;have y:a.tmps.getD t undef= .pointer (some r):=z;simp only [List.mapM_cons,pR,y];simp [asAddr,loadVar,kr s,x,q]
  ·cases c
theorem qt {w0 w:World} {φ:bS} {H:AH} {b:Fr} {a:Act} (F:lY φ b a) (R:Rel w0 φ H w) {fn:Func} {m:List RS} {vs:List Value} (c:wB P fn.results.toList=some m) (h:RS.all b H m=some vs):
 ∃v',(results fn a.tmps).run P w= .ok v' w∧V φ (qh vs) v':=by
 obtain ⟨e,d,h2⟩:=qW F R _ _ _ c h;rw [uW];simp only [Sem.run_bind,d,Result.andThen_ok,Sem.run_pure]
 cases h2 with
 |nil=>exact ⟨_,rfl,.tuple .nil⟩
 |cons x y=>
  cases y with
  |nil=>exact ⟨_,rfl,x⟩
  |cons y z=>
   refine ⟨_,rfl,?_⟩;simp only [List.size_toArray,List.length_cons];rw [dif_neg (by omega)];exact .tuple (.cons x (.cons y z))
theorem Fr.rZ:∀(l:List Value) (i:Nat) (f:Fr) (t:Nat),(Fr.rF i l f).get t=if i≤t∧t<i+l.length then l.getD (t- i) undef else f.get t
 |[],i,f,t=>by
  simp only [Fr.rF,List.length_nil];rw [if_neg (by omega)]
 |v::l,i,f,t=>by
  simp only [Fr.rF,List.length_cons];rw [Fr.rZ l,Fr.bR];by_cases a:t=i
  ·subst a
   rw [if_neg (by omega),if_pos rfl,if_pos (by omega)];simp
  ·by_cases h2:i+1≤t∧t<i+1+l.length
   ·rw [if_pos h2,if_pos (by omega)]
    obtain ⟨k,b⟩:∃k,t- i=k+1:=⟨t- i- 1,by omega⟩
    rw [b,show t- (i+1)=k by omega];simp
   ·rw [if_neg h2,if_neg a,if_neg (by omega)]
theorem Fr.get_nil (t:Nat):(⟨.nil⟩:Fr).get t=undef:=by
 unfold Fr.get;cases t<;>rfl
theorem Fr.fQ (l:List Value) (t:Nat):(Fr.of l).get t=l.getD t undef:=by
 unfold Fr.of;rw [Fr.rZ,Fr.get_nil];split
 ·rfl
 ·rename_i h
  simp only [List.getD_eq_getElem?_getD];rw [aql (by omega)];rfl
theorem wN {φ:bS} {as:List Value} {as':Array Value} (k:Nat) (h:VL φ as as'.toList) (t:Nat):V φ ((Fr.of as).get t) ((as'++Array.replicate k undef).getD t undef):=by
 rw [Fr.fQ];have f:=h.length;simp only [List.getD_eq_getElem?_getD]
 cases b:as[t]? with
 |some v=>
  obtain ⟨v',e,c⟩:=h.get t v b
  have d:t<as'.size:=by
   have:=(apM.1 e).1
   simpa using this
  have a:(as'++Array.replicate k undef).getD t undef=v':=by
   rw [Array.getD_eq_getD_getElem?,Array.getElem?_append_left d];simp only [Array.getElem?_toList]at e;rw [e];rfl
  rw [a];exact c
 |none=>
  have g:=List.getElem?_eq_none_iff.1 b
  have a:(as'++Array.replicate k undef).getD t undef=undef:=by
   rw [Array.getD_eq_getD_getElem?,Array.getElem?_append_right (by rw [←Array.length_toList,←f];exact g)];rw [Array.getElem?_replicate];split<;>rfl
  rw [a];exact rI _
def wO (P:Program) (E:Env):Prop:=∀f F,E f=some F→∃fn,P.funcs[f]?=some fn∧ar P fn=some F
abbrev kl:=Nat→Option (List Value→AH→Option (Value×AH))
def wP (P:Program) (O:kl):Prop:=∀f g,O f=some g→∀as H v H',g as H=some (v,H')→yW P f∧Nq P f as H v H'
theorem uX (D:P.follows .mixedOrders=true) {E:Env} {O:kl} (K:wO P E) (J:wP P O):∀n,pL P (fM E O n)
 |0=>fun f as H v N h=>by simp [fM]at h
 |n+1=>fun f as H v N h=>by
  have ih:=uX D K J n;simp only [fM]at h
  cases s:O f with
  |some g=>
   simp only [s]at h;exact J f g s as H v N h
  |none=>
   simp only [s]at h
   cases u:E f with
   |none=>simp [u]at h
   |some F=>
    simp only [u]at h;obtain ⟨b,h⟩:=aP h;obtain ⟨fn,G,d⟩:=K f F u;unfold ar at d
    cases o:fn.body with
    |none=>simp [o]at d
    |some c=>
     simp only [o]at d;split at d
     case h_2=>cases d
     rename_i x r U B;split at d
     case isTrue=>cases d
     rename_i C;cases d;simp only [Bool.or_eq_true,not_or,Bool.not_eq_true,decide_eq_false_iff_not,Nat.not_lt]at C;refine ⟨⟨fn,G,by rw [o];rfl,C.1⟩, ?_⟩;intro w0 φ w k R W A;refine calls_of_wp G o ?_
     have Y:k.size=fn.params.size+fn.nfree:=by
      have:=A.length;rw [nb]at b;simp at b this;omega
     cases m:aG (fM E O n) n x (Fr.of as) H with
     |none=>simp [m]at h
     |some q=>
      obtain ⟨ex,L,M⟩:=q;have V:=IA ih (Nx D ih) n c x (w0:=w0) (w:=w) (φ:=φ) (a:={tmps:=k++Array.replicate (fn.ntmps- k.size) undef,defers:=[]}) U m (fun t=>wN _ A t) R W (by simp;omega) rfl;refine wp_mono V ?_;rintro e a2 X ⟨rfl,z,p,Q,S,Z,I⟩
      cases ex with
      |exit i=>simp [m]at h
      |normal=>
       simp only [m]at h
       cases j:RS.all L M r with
       |none=>simp [j]at h
       |some T=>
        simp only [j,apH,apO]at h;obtain ⟨rfl,rfl⟩:=h;obtain ⟨l,y,h2⟩:=qt S p B j;exact ⟨I,l,y,z,l,rfl,h2,p,Q⟩
      |ret=>
       simp only [m]at h
       cases j:RS.all L M r with
       |none=>simp [j]at h
       |some T=>
        simp only [j,apH,apO]at h;obtain ⟨rfl,rfl⟩:=h;obtain ⟨l,y,h2⟩:=qt S p B j;exact ⟨I,l,y,z,l,rfl,h2,p,Q⟩
end
end
section
open Go
def Ct (c d:Cl):Prop:=∀f as H r,c f as H=some r→d f as H=some r
theorem qX {c d:Cl} (h:Ct c d) {o:AO} {g:Fr} {H:AH} {r:Fr×AH} (k:kP c o g H=some r):kP d o g H=some r:=by
 obtain ⟨j,l⟩:=r;obtain ⟨x,e,k⟩:=eC.1 k;refine eC.2 ⟨x,e,?_⟩
 cases k with
 |off a b c=>exact .off a b c
 |val a b=>exact .val a b
 |call a f as i b c=>exact .call a f as i b (h _ _ _ _ c)
theorem uY {c d:Cl} (h:Ct c d):∀{l:List AO} {a:Fr} {H:AH} {r:Fr×AH},ops c l a H=some r→ops d l a H=some r
 |[],a,H,r,k=>k
 |o::l,a,H,r,k=>by
  simp only [ops]at k⊢
  cases b:kP c o a H with
  |none=>simp [b]at k
  |some q=>
   rw [qX h b];simp only [b]at k;exact uY h k
theorem qY {c d:Cl} (h:Ct c d):∀{l:List AO} {a:Fr} {H:AH} {r:List (Fr×AH)},kQ c l a H=some r→kQ d l a H=some r
 |[],a,H,r,k=>k
 |o::l,a,H,r,k=>by
  simp only [kQ]at k⊢
  cases b:kP c o a H with
  |none=>simp [b]at k
  |some q=>
   rw [qX h b];simp only [b]at k⊢
   cases h2:kQ c l q.1 q.2 with
   |none=>simp [h2]at k
   |some e=>rw [qY h h2];simpa [h2]using k
theorem eT {c d:Cl} (h:Ct c d):∀{n:Nat} {a:AC} {f:Fr} {H:AH} {r:Ex×Fr×AH},aG c n a f H=some r→aG d n a f H=some r:=by
 intro n
 induction n with
 |zero=>intro a f H r k;simp [aG]at k
 |succ n ih=>
  intro a f H r k
  cases a with
  |cL l=>
   simp only [aG]at k⊢
   cases e:ops c l f H with
   |none=>simp [e]at k
   |some q=>rw [uY h e];simpa [e]using k
  |bO l o=>
   simp only [aG,Cc]at k⊢
   cases e:kQ c l f H with
   |none=>simp [e]at k
   |some q=>rw [qY h e];simpa [e]using k
  |seq a b=>
   simp only [aG]at k⊢
   cases e:aG c n a f H with
   |none=>simp [e]at k
   |some q=>
    rw [ih e];obtain ⟨ex,g,j⟩:=q
    cases ex<;>simp only [e]at k⊢<;>first
     |exact ih k
     |exact k
  |cond x a b=>
   simp only [aG]at k⊢
   cases m:x.ev f<;>simp only [m]at k⊢<;>first
    |(cases k;done)
    |skip
   rename_i t;cases t<;>exact ih k
  |block i a=>
   simp only [aG]at k⊢
   cases e:aG c n a f H with
   |none=>simp [e]at k
   |some q=>
    rw [ih e];obtain ⟨ex,g,j⟩:=q;cases ex<;>simp only [e]at k⊢<;>exact k
  |loop a=>
   simp only [aG]at k⊢
   cases e:aG c n a f H with
   |none=>simp [e]at k
   |some q=>
    rw [ih e];obtain ⟨ex,g,j⟩:=q
    cases ex<;>simp only [e]at k⊢<;>first
     |exact ih k
     |exact k
  |_=>simpa only [aG]using k
theorem tJ {E:Env} {O:kl}:∀n,Ct (fM E O n) (fM E O (n+1))
 |0=>fun f as H r k=>by simp [fM]at k
 |n+1=>fun f as H r k=>by
  have ih:=tJ (E:=E) (O:=O) n;rw [fM]at k⊢
  cases b:O f with
  |some g=>simpa [b]using k
  |none=>
   simp only [b]at k⊢
   cases c:E f with
   |none=>simp [c]at k
   |some F=>
    simp only [c]at k⊢;obtain ⟨d,k⟩:=aP k;rw [d,cond_true]
    cases a:aG (fM E O n) n F.body (Fr.of as) H with
    |none=>simp [a]at k
    |some q=>
     rw [fT (ap7 n) (eT ih a)]
     simpa [a]using k
theorem dW {E:Env} {O:kl} {n m:Nat} (h:n≤m):Ct (fM E O n) (fM E O m):=by
 induction m with
 |zero=>obtain rfl:n=0:=by omega
        exact fun _ _ _ _ k=>k
 |succ m ih=>
  rcases Nat.lt_or_eq_of_le h with a|a
  · exact fun f as H r k=>tJ m f as H r (ih (by omega) f as H r k)
  · subst a;exact fun _ _ _ _ k=>k
section
variable(E:Env) (O:kl)
def Ca (f:Nat) (as:List Value) (H:AH) (Q:Value→AH→Prop):Prop:=∃n x H',fM E O n f as H=some (x,H')∧Q x H'
def Wp (c:AC) (fr:Fr) (H:AH) (Q:Ex→Fr→AH→Prop):Prop:=∃n ex cB H',aG (fM E O n) n c fr H=some (ex,cB,H')∧Q ex cB H'
def qI (o:AO) (fr:Fr) (H:AH) (Q:Fr→AH→Prop):Prop:=∃n cB H',kP (fM E O n) o fr H=some (cB,H')∧Q cB H'
def Wo (l:List AO) (fr:Fr) (H:AH) (Q:Fr→AH→Prop):Prop:=∃n cB H',ops (fM E O n) l fr H=some (cB,H')∧Q cB H'
def Wt (l:List AO) (fr:Fr) (H:AH) (Q:List (Fr×AH)→Prop):Prop:=∃n ss,kQ (fM E O n) l fr H=some ss∧Q ss
variable{E O}
theorem Ca.mono {f:Nat} {as:List Value} {H:AH} {Q Q':Value→AH→Prop} (h:Ca E O f as H Q) (k:∀x H',Q x H'→Q' x H'):Ca E O f as H Q':=
 let⟨n,x,H',e,q⟩:=h;⟨n,x,H',e,k _ _ q⟩
theorem Wp.mono {c:AC} {b:Fr} {H:AH} {Q Q':Ex→Fr→AH→Prop} (h:Wp E O c b H Q) (k:∀ex a H',Q ex a H'→Q' ex a H'):Wp E O c b H Q':=
 let⟨n,x,a,H',e,q⟩:=h;⟨n,x,a,H',e,k _ _ _ q⟩
theorem oE {n m:Nat} (h:n≤m) {c:AC} {a:Fr} {H:AH} {r:Ex×Fr×AH} (k:aG (fM E O n) n c a H=some r):aG (fM E O m) m c a H=some r:=
 fT h (eT (dW h) k)
theorem Wp.skip {a:Fr} {H:AH} {Q:Ex→Fr→AH→Prop} (h:Q .normal a H):Wp E O .skip a H Q:=⟨1,_,_,_,rfl,h⟩
theorem Wp.ret {a:Fr} {H:AH} {Q:Ex→Fr→AH→Prop} (h:Q .ret a H):Wp E O .ret a H Q:=⟨1,_,_,_,rfl,h⟩
theorem Wp.exit {i:Nat} {a:Fr} {H:AH} {Q:Ex→Fr→AH→Prop} (h:Q (.exit i) a H):Wp E O (.exit i) a H Q:=⟨1,_,_,_,rfl,h⟩
def EN (k:Fr→AH→Prop) (Q:Ex→Fr→AH→Prop):Ex→Fr→AH→Prop
 | .normal,fr,H=>k fr H
 |ex,fr,H=>Q ex fr H
theorem Wp.seq {a b:AC} {d:Fr} {H:AH} {Q:Ex→Fr→AH→Prop} (h:Wp E O a d H (EN (fun k H'=>Wp E O b k H' Q) Q)):Wp E O (.seq a b) d H Q:=by
 obtain ⟨n,ex,c,f,e,q⟩:=h
 cases ex with
 |normal=>
  obtain ⟨m,l,j,p,o,g⟩:=q;refine ⟨max n m+1,l,j,p,?_,g⟩;simp only [aG];rw [eT (dW (ap7 _)) (oE (Nat.le_max_left n m) e)];exact eT (dW (ap7 _)) (oE (Nat.le_max_right n m) o)
 |exit i=>
  refine ⟨n+1,_,c,f,?_,q⟩;simp only [aG];rw [eT (dW (ap7 _)) e]
 |ret=>
  refine ⟨n+1,_,c,f,?_,q⟩;simp only [aG];rw [eT (dW (ap7 _)) e]
theorem Wp.cond {x:X} {a b:AC} {c:Fr} {H:AH} {Q:Ex→Fr→AH→Prop} {t:Bool} (d:x.ev c= .bool t) (h:Wp E O (bif t then a else b) c H Q):Wp E O (.cond x a b) c H Q:=by
 obtain ⟨n,ex,f,g,e,q⟩:=h;refine ⟨n+1,ex,f,g,?_,q⟩;simp only [aG,d];cases t<;>exact eT (dW (ap7 _)) e
def r5 (i:Nat) (Q:Ex→Fr→AH→Prop):Ex→Fr→AH→Prop
 | .exit j,fr,H=>if j=i then Q .normal fr H else Q (.exit j) fr H
 |ex,fr,H=>Q ex fr H
theorem Wp.block {i:Nat} {a:AC} {g:Fr} {H:AH} {Q:Ex→Fr→AH→Prop} (h:Wp E O a g H (r5 i Q)):Wp E O (.block i a) g H Q:=by
 obtain ⟨n,ex,c,f,e,q⟩:=h;have d:=eT (dW (ap7 n)) e
 cases ex with
 |normal=>exact ⟨n+1,_,c,f,by simp only [aG];rw [d],q⟩
 |ret=>exact ⟨n+1,_,c,f,by simp only [aG];rw [d],q⟩
 |exit j=>
  simp only [r5]at q;by_cases b:j=i
  ·rw [if_pos b]at q
   refine ⟨n+1,_,c,f,?_,q⟩;simp only [aG];rw [d];simp [nb,b]
  ·rw [if_neg b]at q
   refine ⟨n+1,_,c,f,?_,q⟩;simp only [aG];rw [d];simp [nb,b]
theorem Wp.S8 {a:AC} {c:Fr} {H:AH} {Q:Ex→Fr→AH→Prop} (h:Wp E O a c H (EN (fun j H'=>Wp E O (.loop a) j H' Q) Q)):Wp E O (.loop a) c H Q:=by
 obtain ⟨n,ex,b,d,e,q⟩:=h
 cases ex with
 |normal=>
  obtain ⟨m,k,g,o,l,f⟩:=q;refine ⟨max n m+1,k,g,o,?_,f⟩;simp only [aG];rw [eT (dW (ap7 _)) (oE (Nat.le_max_left n m) e)];exact eT (dW (ap7 _)) (oE (Nat.le_max_right n m) l)
 |exit i=>
  refine ⟨n+1,_,b,d,?_,q⟩;simp only [aG];rw [eT (dW (ap7 _)) e]
 |ret=>
  refine ⟨n+1,_,b,d,?_,q⟩;simp only [aG];rw [eT (dW (ap7 _)) e]
theorem Wp.loop {a:AC} {Q:Ex→Fr→AH→Prop} (I:Nat→Fr→AH→Prop) (step:∀k b H,I k b H→Wp E O a b H (EN (fun c H'=>∃j,j<k∧I j c H') Q)) (k:Nat) {b:Fr} {H:AH} (h:I k b H):Wp E O (.loop a) b H Q:=by
 induction k using Nat.strongRecOn generalizing b H with
 |_ k ih=>
  refine Wp.S8 ((step k b H h).mono ?_);intro ex c H' q
  cases ex with
  |normal=>obtain ⟨j,d,e⟩:=q;exact ih j d e
  |exit i=>exact q
  |ret=>exact q
theorem Wp.cL {l:List AO} {a:Fr} {H:AH} {Q:Ex→Fr→AH→Prop} (h:Wo E O l a H (Q .normal)):Wp E O (.cL l) a H Q:=by
 obtain ⟨n,b,c,e,q⟩:=h;refine ⟨n+1,_,b,c,?_,q⟩;simp only [aG];rw [uY (dW (ap7 _)) e]
theorem Wo.nil {a:Fr} {H:AH} {Q:Fr→AH→Prop} (h:Q a H):Wo E O [] a H Q:=⟨0,a,H,rfl,h⟩
theorem Wo.cons {o:AO} {l:List AO} {a:Fr} {H:AH} {Q:Fr→AH→Prop} (h:qI E O o a H (fun c H'=>Wo E O l c H' Q)):Wo E O (o::l) a H Q:=by
 obtain ⟨n,g,i,e,m,b,f,d,q⟩:=h;refine ⟨max n m,b,f,?_,q⟩;simp only [ops];rw [qX (dW (Nat.le_max_left n m)) e];exact uY (dW (Nat.le_max_right n m)) d
theorem qI.val {o:AO} {a:Fr} {H H':AH} {x:Value} {Q:Fr→AH→Prop} (b:o.wanted a=true) (h:aA o.o (X.ev a) H=some (.v x,H')) (q:Q (a.bg o.d x) H'):qI E O o a H Q:=
 ⟨0,_,_,eC.2 ⟨x,rfl,.val b h⟩,q⟩
theorem qI.off {o:AO} {a:Fr} {H:AH} {Q:Fr→AH→Prop} (b:o.wanted a=false) (q:Q (a.bg o.d undef) H):qI E O o a H Q:=
 ⟨0,_,_,eC.2 ⟨undef,rfl,.off b rfl rfl⟩,q⟩
theorem qI.call {o:AO} {a:Fr} {H H1:AH} {f:Nat} {as:List Value} {Q:Fr→AH→Prop} (b:o.wanted a=true) (h:aA o.o (X.ev a) H=some (.enter f as,H1)) (q:Ca E O f as H1 (fun x H'=>Q (a.bg o.d x) H')):qI E O o a H Q:=by
 obtain ⟨n,x,H',e,q⟩:=q;exact ⟨n,_,_,eC.2 ⟨x,rfl,.call b f as H1 h e⟩,q⟩
theorem Wp.bO {l:List AO} {ck:List (Nat×Nat×Nat)} {a:Fr} {H:AH} {Q:Ex→Fr→AH→Prop}
 (h:Wt E O l a H (fun b=>(chain ((a,H)::b)=true∧ck.all (ko l ((a,H)::b))=true)∧Q .normal (ig (a,H) b).1 (ig (a,H) b).2)):Wp E O (.bO l ck) a H Q:=by
 obtain ⟨n,b,e,⟨c,h2⟩,q⟩:=h;refine ⟨n+1,_,_,_,?_,q⟩;simp only [aG,Cc];rw [qY (dW (ap7 _)) e];simp [c,h2]
theorem Wt.nil {a:Fr} {H:AH} {Q:List (Fr×AH)→Prop} (h:Q []):Wt E O [] a H Q:=⟨0,[],rfl,h⟩
theorem Wt.cons {o:AO} {l:List AO} {c:Fr} {H:AH} {Q:List (Fr×AH)→Prop} (h:qI E O o c H (fun b H'=>Wt E O l b H' (fun a=>Q ((b,H')::a)))):Wt E O (o::l) c H Q:=by
 obtain ⟨n,f,g,e,m,a,d,q⟩:=h;refine ⟨max n m,_,?_,q⟩;simp only [kQ];rw [qX (dW (Nat.le_max_left n m)) e];simp only;rw [qY (dW (Nat.le_max_right n m)) d]
def wR (r:List RS) (Q:Value→AH→Prop):Ex→Fr→AH→Prop
 | .exit _,_,_=>False
 |_,fr,H=>∃vs,RS.all fr H r=some vs∧Q (qh vs) H
theorem Ca.body {f:Nat} {F:AF} {as:List Value} {H:AH} {Q:Value→AH→Prop} (b:O f=none) (d:E f=some F) (c:as.length=F.np) (h:Wp E O F.body (Fr.of as) H (wR F.res Q)):Ca E O f as H Q:=by
 obtain ⟨n,ex,j,k,e,q⟩:=h
 cases ex with
 |exit i=>exact q.elim
 |normal=>
  obtain ⟨g,a,q⟩:=q;refine ⟨n+1,_,_,?_,q⟩;simp only [fM,b,d];rw [nb,decide_eq_true c,cond_true,e];simp [a]
 |ret=>
  obtain ⟨g,a,q⟩:=q;refine ⟨n+1,_,_,?_,q⟩;simp only [fM,b,d];rw [nb,decide_eq_true c,cond_true,e];simp [a]
theorem Ca.pI {f:Nat} {g:List Value→AH→Option (Value×AH)} {as:List Value} {H H':AH} {x:Value} {Q:Value→AH→Prop} (a:O f=some g) (h:g as H=some (x,H')) (q:Q x H'):Ca E O f as H Q:=
 ⟨1,x,H',by simp [fM,a,h],q⟩
end
end
section
open Go Go.RowKit
def tK (W:World) (b:Nat):Option pG:=match W.heap[b]? with
 |some (.cells cs _ _)=>some (.cells 1048576 cs.toList)
 |_=>none
def H0 (W:World):AH:=⟨tK W,W.heap.size,W.heap.size,.nil,none⟩
def qJ (W:World):bS:=⟨W.heap.size,W.heap.size,fun b=>if b<W.heap.size then some ⟨b,0,0,1⟩else none⟩
theorem ze (W:World) (b:Nat):(H0 W).raw b=tK W b:=rfl
theorem S9 (W:World):∀b,b<(qJ W).n0→(qJ W).m b=some ⟨b,0,0,1⟩:=fun b a=>if_pos a
theorem aaw {W:World} (i:Ce W):Rel W (qJ W) (H0 W) W where
 n0:=rfl
 qQ:=apK _
 qR:=apK _
 c0:=rfl
 below:=Below.refl _ _
 jJ:=fun b c=>if_pos c
 lJ:=fun b z cs c a=>by
  rw [ze]at a;unfold tK at a;split at a
  ·rename_i p e j g
   cases a;exact ⟨e,j,by rw [g]⟩
  ·cases a
 cells:=fun b l z cs c d a=>by
  have:¬ b<W.heap.size:=Nat.not_lt.2 c;simp only [qJ,if_neg this]at d;cases d
 maps:=fun b l es c d a=>by
  have:¬ b<W.heap.size:=Nat.not_lt.2 c;simp only [qJ,if_neg this]at d;cases d
 inj:=fun k q n m h o f h2 _ _ _=>by
  have:¬ k<W.heap.size:=Nat.not_lt.2 h;simp only [qJ,if_neg this]at f;cases f
 tD:=fun b s e=>by cases e
 wD:=i
theorem NA (W:World):qk (qJ W) (H0 W):=fun b a=>if_neg (Nat.not_lt.2 a)
theorem wS {P:Program} {E:Env} {O:kl} {W:World} (d:Ce W) (b:P.follows .mixedOrders=true) (i:wO P E) (g:wP P O) {f:Nat} {as:List Value} {as':Array Value} (a:VL (qJ W) as as'.toList)
 (h:Ca E O f as (H0 W) (fun x _=>x= .bool true)):Calls P f as' W fun e w'=>e= .returned (.bool true)∧Below W.heap.size W w':=by
 obtain ⟨n,x,l,e,rfl⟩:=h;refine ((uX b i g n f as _ _ _ e).2 W (qJ W) W as' (aaw d) (NA W) a).mono ?_;rintro e w' ⟨j,k,rfl,c,R,G⟩;rw [c.bool];exact ⟨rfl,R.below⟩
def Good (P:Program) (f:Nat) (F:AF):Prop:=∃fn,P.funcs[f]?=some fn∧ar P fn=some F
def zf (P:Program) (g:Nat→Nat) (t:T (Option AF)):Prop:=∀k F,t.get none k=some F→Good P (g k) F
theorem zf.nil {P:Program} {g:Nat→Nat}:zf P g .nil:=fun k F h=>by cases k<;>cases h
theorem zf.node {P:Program} {g:Nat→Nat} {v:Option AF} {l r:T (Option AF)} (h:∀F,v=some F→Good P (g 0) F) (c:zf P (fun k=>g (2*k+1)) l) (b:zf P (fun k=>g (2*k+2)) r):zf P g (.node v l r):=by
 intro k F a;simp only [T.get,nb,Bool.cond_decide]at a;split at a
 ·rename_i e
  subst e;exact h F a
 ·split at a
  ·have:=c _ F a
   simp only at this;rwa [show 2*(k/2)+1=k by omega]at this
  ·have:=b _ F a
   simp only at this;rwa [show 2*(k/2- 1)+2=k by omega]at this
open Go Go.RowKit
theorem Rel.Ta {w0 w w':World} {φ:bS} {H:AH} (R:Rel w0 φ H w) (B:Below w.heap.size w w'):Rel w0 φ H w' where
 n0:=R.n0
 qQ:=R.qQ
 qR:=R.qR
 c0:=R.c0
 below:=⟨B.os.trans R.below.os,B.tape.trans R.below.tape,B.output.trans R.below.output,ap2 R.below.size B.size,fun k i=>(B.block k (ap3 i R.below.size)).trans (R.below.block k i)⟩
 jJ:=R.jJ
 lJ:=fun b z cs f d=>by
  obtain ⟨e,r,o⟩:=R.lJ b z cs f d;exact ⟨e,r,(B.block b (apU.1 o).1).trans o⟩
 cells:=fun b l z cs f j d=>by
  obtain ⟨h,h2,m,arr,e,a,g,q,p⟩:=R.cells b l z cs f j d;exact ⟨h,h2,m,arr,e,(B.block l.c (apU.1 a).1).trans a,g,q,p⟩
 maps:=fun b l es f j d=>by
  obtain ⟨h,n,t,a,g⟩:=R.maps b l es f j d;exact ⟨h,n,t,(B.block l.c (apU.1 a).1).trans a,g⟩
 inj:=R.inj
 wD:=R.wD
 tD:=fun b s e=>by
  obtain ⟨h,h2,l,m,a,g⟩:=R.tD b s e;exact ⟨h,h2,l,m,a,g.uF rfl (fun k i _=>B.block k i) fun A y x v u=>.inl ⟨x,v,u⟩⟩
def He:AH:=⟨fun _=>none,0,0,.nil,none⟩
def isTrue:Option (Value×AH)→Bool
 |some (.bool true,_)=>true
 |_=>false
theorem zg {P:Program} {E:Env} {O:kl} (o:P.follows .mixedOrders=true) (r:wO P E) (q:wP P O) {n f:Nat} (h:isTrue (fM E O n f [] He)=true) (H:AH):yW P f∧Nq P f [] H (.bool true) H:=by
 unfold isTrue at h;split at h
 case h_2=>cases h
 rename_i v e;obtain ⟨t,h2⟩:=uX o r q n f [] He (.bool true) v e;refine ⟨t,?_⟩;intro y i w a R J m
 have u:Rel w ⟨0,w.heap.size,fun _=>none⟩ He w:=⟨rfl,ap8 _,apK _,rfl,Below.refl _ _,fun b d=>absurd d (ap6 _),fun b z cs d=>absurd d (ap6 _),
  fun b l z cs _ c=>(by cases c),fun b l es _ c=>(by cases c),fun I F D C _ _ c=>(by cases c),fun b s e=>(by cases e),R.wD.below R.below⟩
 have j:VL ⟨0,w.heap.size,fun _=>none⟩ [] a.toList:=by
  have:=m.length;have e:a.toList=[]:=aqe this.symm;rw [e];exact .nil
 refine (h2 w _ w a u (fun _ _=>rfl) j).mono ?_;rintro e A ⟨x,B,rfl,p,g,G⟩;rw [p.bool];refine ⟨i,_,rfl,.same rfl,R.Ta g.below,bS.le_refl _,rfl,rfl,apK _,fun b l h k=>(by rw [h]at k;cases k),g.below.size⟩
def IH (f:Nat):kl:=fun g=>bif Nat.beq g f then some (fun as H=>match as with|[]=>some (.bool true,H)|_=>none)else none
theorem II {P:Program} {E:Env} (d:P.follows .mixedOrders=true) (i:wO P E) {n f:Nat} (h:isTrue (fM E (fun _=>none) n f [] He)=true):wP P (IH f):=by
 intro g k c as H v j b;by_cases e:g=f
 case neg=>simp [IH,nb,e]at c
 subst e;simp only [IH,nb,decide_true,cond_true,apH]at c;subst c
 cases as with
 |nil=>
  simp only [apH,apO]at b;obtain ⟨rfl,rfl⟩:=b;exact zg d i (fun f g h=>by cases h) h H
 |cons a l=>simp at b
end
section
open Go Go.RowKit
section
variable{E:Env} {O:kl}
def IJ (E:Env) (O:kl) (r:Option (jI×AH)) (Q:Value→AH→Prop):Prop:=match r with
 |some (.v x,H)=>Q x H
 |some (.enter f as,H)=>Ca E O f as H Q
 |none=>False
theorem IK (a:Fr) (H:AH) (Q:Ex→Fr→AH→Prop):Wp E O .skip a H Q↔Q .normal a H:=by
 refine ⟨fun⟨n,ex,b,c,e,q⟩=>?_,Wp.skip⟩
 cases n with
 |zero=>simp [aG]at e
 |succ n=>simp only [aG,apH,apO]at e;obtain ⟨rfl,rfl,rfl⟩:=e;exact q
theorem NB (a:Fr) (H:AH) (Q:Ex→Fr→AH→Prop):Wp E O .ret a H Q↔Q .ret a H:=by
 refine ⟨fun⟨n,ex,b,c,e,q⟩=>?_,Wp.ret⟩
 cases n with
 |zero=>simp [aG]at e
 |succ n=>simp only [aG,apH,apO]at e;obtain ⟨rfl,rfl,rfl⟩:=e;exact q
theorem IL (i:Nat) (a:Fr) (H:AH) (Q:Ex→Fr→AH→Prop):Wp E O (.exit i) a H Q↔Q (.exit i) a H:=by
 refine ⟨fun⟨n,ex,b,c,e,q⟩=>?_,Wp.exit⟩
 cases n with
 |zero=>simp [aG]at e
 |succ n=>simp only [aG,apH,apO]at e;obtain ⟨rfl,rfl,rfl⟩:=e;exact q
theorem NC (l:List AO) (a:Fr) (H:AH) (Q:Ex→Fr→AH→Prop):Wp E O (.cL l) a H Q↔Wo E O l a H (Q .normal):=by
 refine ⟨fun⟨n,ex,b,c,e,q⟩=>?_,Wp.cL⟩
 cases n with
 |zero=>simp [aG]at e
 |succ n=>
  simp only [aG]at e
  cases h:ops (fM E O (n+1)) l a H with
  |none=>simp [h]at e
  |some r=>
   simp only [h,apH,apO]at e;obtain ⟨rfl,rfl,rfl⟩:=e;exact ⟨n+1,_,_,h,q⟩
theorem ND (a b:AC) (d:Fr) (H:AH) (Q:Ex→Fr→AH→Prop):Wp E O (.seq a b) d H Q↔Wp E O a d H (EN (fun f H'=>Wp E O b f H' Q) Q):=by
 refine ⟨fun⟨n,ex,f,H',e,q⟩=>?_,Wp.seq⟩
 cases n with
 |zero=>simp [aG]at e
 |succ n=>
  simp only [aG]at e
  cases h:aG (fM E O (n+1)) n a d H with
  |none=>simp [h]at e
  |some r=>
   obtain ⟨g,j,k⟩:=r;have c:=fT (ap7 n) h
   cases g with
   |normal=>
    simp only [h]at e;exact ⟨n+1,_,_,_,c,n+1,_,_,_,fT (ap7 n) e,q⟩
   |exit i=>
    simp only [h,apH,apO]at e;obtain ⟨rfl,rfl,rfl⟩:=e;exact ⟨n+1,_,_,_,c,q⟩
   |ret=>
    simp only [h,apH,apO]at e;obtain ⟨rfl,rfl,rfl⟩:=e;exact ⟨n+1,_,_,_,c,q⟩
theorem EO (i:Nat) (a:AC) (b:Fr) (H:AH) (Q:Ex→Fr→AH→Prop):Wp E O (.block i a) b H Q↔Wp E O a b H (r5 i Q):=by
 refine ⟨fun⟨n,ex,l,m,e,q⟩=>?_,Wp.block⟩
 cases n with
 |zero=>simp [aG]at e
 |succ n=>
  simp only [aG]at e
  cases h:aG (fM E O (n+1)) n a b H with
  |none=>simp [h]at e
  |some r=>
   obtain ⟨d,g,k⟩:=r;have f:=fT (ap7 n) h;refine ⟨n+1,d,g,k,f,?_⟩
   cases d with
   |normal=>simp only [h,apH,apO]at e;obtain ⟨rfl,rfl,rfl⟩:=e;exact q
   |ret=>simp only [h,apH,apO]at e;obtain ⟨rfl,rfl,rfl⟩:=e;exact q
   |exit j=>
    simp only [h,nb,Bool.cond_decide]at e;simp only [r5];by_cases c:j=i
    ·rw [if_pos c]at e⊢
     simp only [apH,apO]at e;obtain ⟨rfl,rfl,rfl⟩:=e;exact q
    ·rw [if_neg c]at e⊢
     simp only [apH,apO]at e;obtain ⟨rfl,rfl,rfl⟩:=e;exact q
theorem iq (o:AO) (l:List AO) (a:Fr) (H:AH) (Q:Fr→AH→Prop):Wo E O (o::l) a H Q↔qI E O o a H (fun b H'=>Wo E O l b H' Q):=by
 refine ⟨fun⟨n,b,H',e,q⟩=>?_,Wo.cons⟩;simp only [ops]at e
 cases h:kP (fM E O n) o a H with
 |none=>simp [h]at e
 |some r=>
  simp only [h]at e;exact ⟨n,_,_,h,n,_,_,e,q⟩
theorem gv (o:AO) (g:Fr) (H:AH) (Q:Fr→AH→Prop) (j:o.wanted g=true):qI E O o g H Q↔IJ E O (aA o.o (X.ev g) H) (fun x H'=>Q (g.bg o.d x) H'):=by
 constructor
 ·rintro ⟨n,l,H',e,q⟩
  obtain ⟨x,rfl,h⟩:=eC.1 e
  cases h with
  |off a _ _=>rw [j]at a;cases a
  |val a b=>rw [b];exact q
  |call a f as k b c=>rw [b];exact ⟨n,x,H',c,q⟩
 ·intro h
  cases i:aA o.o (X.ev g) H with
  |none=>rw [i]at h;exact h.elim
  |some r=>
   obtain ⟨res,k⟩:=r;rw [i]at h
   cases res with
   |v x=>exact qI.val j i h
   |enter f as=>exact qI.call j i h
theorem AN (o:AO) (i:Fr) (H:AH) (Q:Fr→AH→Prop) (g:o.wanted i=false):qI E O o i H Q↔Q (i.bg o.d undef) H:=by
 constructor
 ·rintro ⟨n,j,l,e,q⟩
  obtain ⟨x,rfl,h⟩:=eC.1 e
  cases h with
  |off _ a b=>subst a;subst b;exact q
  |val a b=>rw [g]at a;cases a
  |call a f as k b c=>rw [g]at a;cases a
 ·exact fun h=>qI.off g h
inductive Ko where
 |seq (b:AC)
 |aU (i:Nat)
def Un (E:Env) (O:kl):Ex→List Ko→Fr→AH→(Ex→Fr→AH→Prop)→Prop
 |ex,[],fr,H,Q=>Q ex fr H
 | .normal,.seq b::ks,fr,H,Q=>Wp E O b fr H (fun ex cB H'=>Un E O ex ks cB H' Q)
 | .normal,.aU _::ks,fr,H,Q=>Un E O .normal ks fr H Q
 | .exit j,.seq _::ks,fr,H,Q=>Un E O (.exit j) ks fr H Q
 | .exit j,.aU i::ks,fr,H,Q=>if j=i then Un E O .normal ks fr H Q else Un E O (.exit j) ks fr H Q
 | .ret,_::ks,fr,H,Q=>Un E O .ret ks fr H Q
def Wk (E:Env) (O:kl) (c:AC) (ks:List Ko) (fr:Fr) (H:AH) (Q:Ex→Fr→AH→Prop):Prop:=Wp E O c fr H (fun ex cB H'=>Un E O ex ks cB H' Q)
def Wr (E:Env) (O:kl) (l:List AO) (ks:List Ko) (fr:Fr) (H:AH) (Q:Ex→Fr→AH→Prop):Prop:=Wo E O l fr H (fun cB H'=>Un E O .normal ks cB H' Q)
def tt (l:List AO) (ck:List (Nat×Nat×Nat)) (acc:List (Fr×AH)):Bool:=chain acc.reverse&&ck.all (ko l acc.reverse)
def Wd (E:Env) (O:kl) (l0:List AO) (ck:List (Nat×Nat×Nat)) (acc:List (Fr×AH)) (l:List AO) (ks:List Ko) (fr:Fr) (H:AH) (Q:Ex→Fr→AH→Prop):Prop:=
 Wt E O l fr H (fun ss=>tt l0 ck (ss.reverse++acc)=true∧Un E O .normal ks (ig (fr,H) ss).1 (ig (fr,H) ss).2 Q)
variable{ks:List Ko} {fr:Fr} {H:AH} {Q:Ex→Fr→AH→Prop}
@[simp]theorem EP (ex:Ex):Un E O ex [] fr H Q=Q ex fr H:=by cases ex<;>rfl
@[simp]theorem afU (b:AC):Un E O .normal (.seq b::ks) fr H Q=Wk E O b ks fr H Q:=rfl
@[simp]theorem afV (i:Nat):Un E O .normal (.aU i::ks) fr H Q=Un E O .normal ks fr H Q:=rfl
@[simp]theorem afW (j:Nat) (b:AC):Un E O (.exit j) (.seq b::ks) fr H Q=Un E O (.exit j) ks fr H Q:=rfl
theorem Tb (i j:Nat):Un E O (.exit j) (.aU i::ks) fr H Q=if j=i then Un E O .normal ks fr H Q else Un E O (.exit j) ks fr H Q:=rfl
@[simp]theorem NF (i:Nat):Un E O (.exit i) (.aU i::ks) fr H Q=Un E O .normal ks fr H Q:=by rw [Tb,if_pos rfl]
@[simp]theorem aax (k:Ko):Un E O .ret (k::ks) fr H Q=Un E O .ret ks fr H Q:=by cases k<;>rfl
@[simp]theorem IM:Wk E O .skip ks fr H Q↔Un E O .normal ks fr H Q:=IK _ _ _
@[simp]theorem NG:Wk E O .ret ks fr H Q↔Un E O .ret ks fr H Q:=NB _ _ _
@[simp]theorem IN (i:Nat):Wk E O (.exit i) ks fr H Q↔Un E O (.exit i) ks fr H Q:=IL _ _ _ _
@[simp]theorem NH (l:List AO):Wk E O (.cL l) ks fr H Q↔Wr E O l ks fr H Q:=NC _ _ _ _
@[simp]theorem NI (a b:AC):Wk E O (.seq a b) ks fr H Q↔Wk E O a (.seq b::ks) fr H Q:=by
 unfold Wk;rw [ND]
 have e:EN (fun c d=>Wp E O b c d fun ex c d=>Un E O ex ks c d Q) (fun ex c d=>Un E O ex ks c d Q)=fun ex c d=>Un E O ex (.seq b::ks) c d Q:=by
  funext ex c d;cases ex<;>rfl
 rw [e]
@[simp]theorem ER (i:Nat) (a:AC):Wk E O (.block i a) ks fr H Q↔Wk E O a (.aU i::ks) fr H Q:=by
 unfold Wk;rw [EO]
 have e:r5 i (fun ex b c=>Un E O ex ks b c Q)=fun ex b c=>Un E O ex (.aU i::ks) b c Q:=by
  funext ex b c;cases ex<;>rfl
 rw [e]
theorem qu {x:X} {a b:AC} {c:Bool} {Q:Ex→Fr→AH→Prop} (d:x.ev fr= .bool c):Wp E O (.cond x a b) fr H Q↔Wp E O (bif c then a else b) fr H Q:=by
 refine ⟨?_,Wp.cond d⟩;rintro ⟨n,ex,f,g,e,q⟩
 cases n with
 |zero=>simp [aG]at e
 |succ n=>
  simp only [aG,d]at e;cases c<;>exact ⟨n+1,_,_,_,fT (ap7 n) e,q⟩
@[simp]theorem ES {x:X} {a b:AC} (c:x.ev fr= .bool true):Wk E O (.cond x a b) ks fr H Q↔Wk E O a ks fr H Q:=qu c
@[simp]theorem ET {x:X} {a b:AC} (c:x.ev fr= .bool false):Wk E O (.cond x a b) ks fr H Q↔Wk E O b ks fr H Q:=qu c
@[simp]theorem NJ:Wr E O [] ks fr H Q↔Un E O .normal ks fr H Q:=by
 refine ⟨fun⟨n,a,b,e,q⟩=>?_,fun q=>Wo.nil q⟩;simp only [ops,apH,apO]at e;obtain ⟨rfl,rfl⟩:=e;exact q
def cQ.bl:cQ→Bool
 | .call _ _| .callv _ _=>true
 |_=>false
def AP:Option (jI×AH)→Bool
 |some (.v _,_)=>true
 |_=>false
def valOf:Option (jI×AH)→Value
 |some (.v x,_)=>x
 |_=>undef
def gw (H:AH):Option (jI×AH)→AH
 |some (_,H')=>H'
 |none=>H
@[simp]theorem afX (x:Value) (H:AH):AP (some (.v x,H))=true:=rfl
@[simp]theorem WL (x:Value) (H:AH):valOf (some (.v x,H))=x:=rfl
@[simp]theorem Tc (x:Value) (H H':AH):gw H (some (.v x,H'))=H':=rfl
theorem qZ (r:Option (jI×AH)) (a:∀f as H',r≠some (.enter f as,H')) (Q:Value→AH→Prop):IJ E O r Q↔AP r=true∧Q (valOf r) (gw H r):=by
 cases r with
 |none=>simp [IJ,AP]
 |some q=>
  obtain ⟨res,H'⟩:=q
  cases res with
  |v x=>simp [IJ]
  |enter f as=>exact absurd rfl (a f as H')
theorem rh {p:cQ} {a:X→Value} (h:p.bl=false):∀f as H',aA p a H≠some (.enter f as,H'):=by
 intro f as H' e
 cases p<;>first
  |(simp [cQ.bl]at h;done)
  |(simp only [aA,Bool.cond_eq_ite]at e
    (repeat' split at e)<;>simp at e)
@[simp]theorem aay (d:Nat) (p:cQ) (l:List AO) (h:p.bl=false):Wr E O (⟨none,some d,p⟩::l) ks fr H Q↔
  AP (aA p (X.ev fr) H)=true∧Wr E O l ks (fr.put d (valOf (aA p (X.ev fr) H))) (gw H (aA p (X.ev fr) H)) Q:=by
 unfold Wr;rw [iq,gv _ _ _ _ rfl,qZ _ (rh h)];rfl
@[simp]theorem aaz (p:cQ) (l:List AO) (h:p.bl=false):Wr E O (⟨none,none,p⟩::l) ks fr H Q↔
  AP (aA p (X.ev fr) H)=true∧Wr E O l ks fr (gw H (aA p (X.ev fr) H)) Q:=by
 unfold Wr;rw [iq,gv _ _ _ _ rfl,qZ _ (rh h)];rfl
@[simp]theorem Td {t:Nat} {b:Bool} (d:Option Nat) (p:cQ) (l:List AO) (h:fr.get t= .bool b):Wr E O (⟨some (t,b),d,p⟩::l) ks fr H Q↔Wr E O (⟨none,d,p⟩::l) ks fr H Q:=by
 unfold Wr;rw [iq,iq,gv _ _ _ _ (by simp [AO.wanted,h]),gv _ _ _ _ rfl]
theorem zh {t:Nat} {b:Bool} (d:Option Nat) (p:cQ) (l:List AO) (h:fr.get t≠ .bool b):Wr E O (⟨some (t,b),d,p⟩::l) ks fr H Q↔Wr E O l ks (fr.bg d undef) H Q:=by
 unfold Wr;rw [iq,AN];unfold AO.wanted;dsimp only
 cases a:fr.get t<;>first
  |rfl
  |(rw [a]at h;simpa using h)
@[simp]theorem WM {t:Nat} (d:Nat) (p:cQ) (l:List AO) (h:fr.get t= .bool false):Wr E O (⟨some (t,true),some d,p⟩::l) ks fr H Q↔Wr E O l ks (fr.put d undef) H Q:=
 zh _ _ _ (by rw [h];simp)
@[simp]theorem WN {t:Nat} (d:Nat) (p:cQ) (l:List AO) (h:fr.get t= .bool true):Wr E O (⟨some (t,false),some d,p⟩::l) ks fr H Q↔Wr E O l ks (fr.put d undef) H Q:=
 zh _ _ _ (by rw [h];simp)
theorem bf {d:Nat} {f:Nat} {as:List X} {l:List AO} (h:Ca E O f (as.map (X.ev fr)) H (fun x H'=>Wr E O l ks (fr.put d x) H' Q)):Wr E O (⟨none,some d,.call f as⟩::l) ks fr H Q:=by
 unfold Wr;rw [iq,gv _ _ _ _ rfl];exact h
theorem oF (l:List AO) (ck:List (Nat×Nat×Nat)) (h:Wd E O l ck [(fr,H)] l ks fr H Q):Wk E O (.bO l ck) ks fr H Q:=by
 refine Wp.bO ?_;obtain ⟨n,b,e,a,h2⟩:=h;unfold tt at a;simp only [List.reverse_append,List.reverse_cons,List.reverse_nil,List.nil_append,List.reverse_reverse,List.cons_append,apJ]at a;exact ⟨n,b,e,a,h2⟩
variable{l0:List AO} {ck:List (Nat×Nat×Nat)} {acc:List (Fr×AH)}
@[simp]theorem NK:Wd E O l0 ck acc [] ks fr H Q↔tt l0 ck acc=true∧Un E O .normal ks fr H Q:=by
 refine ⟨fun⟨n,a,e,q⟩=>?_,fun q=>Wt.nil (by simpa [ig]using q)⟩;simp only [kQ,apH]at e;subst e
 simpa [ig]using q
theorem ju (o:AO) (l:List AO) (fr:Fr) (H:AH) (Q:List (Fr×AH)→Prop):Wt E O (o::l) fr H Q↔qI E O o fr H (fun b H'=>Wt E O l b H' (fun a=>Q ((b,H')::a))):=by
 refine ⟨fun⟨n,a,e,q⟩=>?_,Wt.cons⟩;simp only [kQ]at e
 cases h:kP (fM E O n) o fr H with
 |none=>simp [h]at e
 |some r=>
  simp only [h]at e
  cases h2:kQ (fM E O n) l r.1 r.2 with
  |none=>simp [h2]at e
  |some c=>
   simp only [h2,apH]at e;subst e;exact ⟨n,_,_,h,n,_,h2,q⟩
theorem jv (o:AO) (l:List AO):Wd E O l0 ck acc (o::l) ks fr H Q↔qI E O o fr H (fun a H'=>Wd E O l0 ck ((a,H')::acc) l ks a H' Q):=by
 unfold Wd;rw [ju];simp only [ig,List.reverse_cons,ap5,List.singleton_append]
@[simp]theorem aaA (d:Nat) (p:cQ) (l:List AO) (h:p.bl=false):Wd E O l0 ck acc (⟨none,some d,p⟩::l) ks fr H Q↔
  AP (aA p (X.ev fr) H)=true∧Wd E O l0 ck ((fr.put d (valOf (aA p (X.ev fr) H)),gw H (aA p (X.ev fr) H))::acc) l ks (fr.put d (valOf (aA p (X.ev fr) H))) (gw H (aA p (X.ev fr) H)) Q:=by
 rw [jv,gv _ _ _ _ rfl,qZ _ (rh h)];rfl
@[simp]theorem aaB (p:cQ) (l:List AO) (h:p.bl=false):Wd E O l0 ck acc (⟨none,none,p⟩::l) ks fr H Q↔
  AP (aA p (X.ev fr) H)=true∧Wd E O l0 ck ((fr,gw H (aA p (X.ev fr) H))::acc) l ks fr (gw H (aA p (X.ev fr) H)) Q:=by
 rw [jv,gv _ _ _ _ rfl,qZ _ (rh h)];rfl
@[simp]theorem Te {t:Nat} {b:Bool} (d:Option Nat) (p:cQ) (l:List AO) (h:fr.get t= .bool b):Wd E O l0 ck acc (⟨some (t,b),d,p⟩::l) ks fr H Q↔Wd E O l0 ck acc (⟨none,d,p⟩::l) ks fr H Q:=by
 rw [jv,jv,gv _ _ _ _ (by simp [AO.wanted,h]),gv _ _ _ _ rfl]
theorem zi {t:Nat} {b:Bool} (d:Option Nat) (p:cQ) (l:List AO) (h:fr.get t≠ .bool b):Wd E O l0 ck acc (⟨some (t,b),d,p⟩::l) ks fr H Q↔Wd E O l0 ck ((fr.bg d undef,H)::acc) l ks (fr.bg d undef) H Q:=by
 rw [jv,AN];unfold AO.wanted;dsimp only
 cases a:fr.get t<;>first
  |rfl
  |(rw [a]at h;simpa using h)
@[simp]theorem WO {t:Nat} (d:Nat) (p:cQ) (l:List AO) (h:fr.get t= .bool false):Wd E O l0 ck acc (⟨some (t,true),some d,p⟩::l) ks fr H Q↔Wd E O l0 ck ((fr.put d undef,H)::acc) l ks (fr.put d undef) H Q:=
 zi _ _ _ (by rw [h];simp)
@[simp]theorem WQ {t:Nat} (d:Nat) (p:cQ) (l:List AO) (h:fr.get t= .bool true):Wd E O l0 ck acc (⟨some (t,false),some d,p⟩::l) ks fr H Q↔Wd E O l0 ck ((fr.put d undef,H)::acc) l ks (fr.put d undef) H Q:=
 zi _ _ _ (by rw [h];simp)
theorem mI {d:Nat} {f:Nat} {as:List X} {l:List AO} (h:Ca E O f (as.map (X.ev fr)) H (fun x H'=>Wd E O l0 ck ((fr.put d x,H')::acc) l ks (fr.put d x) H' Q)):Wd E O l0 ck acc (⟨none,some d,.call f as⟩::l) ks fr H Q:=by
 rw [jv,gv _ _ _ _ rfl];exact h
theorem Ca.dI {f:Nat} {F:AF} {as:List Value} {H:AH} {Q:Value→AH→Prop} (a:O f=none) (c:E f=some F) (b:as.length=F.np) (h:Wk E O F.body [] (Fr.of as) H (wR F.res Q)):Ca E O f as H Q:=
 Ca.body a c b (Wp.mono h fun ex fr H q=>by simpa using q)
def wT (E:Env) (O:kl) (I:Nat→Fr→AH→Prop) (k:Nat) (ks:List Ko) (Q:Ex→Fr→AH→Prop):Ex→Fr→AH→Prop
 | .normal,fr,H=>∃j,j<k∧I j fr H
 | .exit i,fr,H=>Un E O (.exit i) ks fr H Q
 | .ret,fr,H=>Un E O .ret ks fr H Q
@[simp]theorem WR (I:Nat→Fr→AH→Prop) (k:Nat):wT E O I k ks Q .normal fr H=∃j,j<k∧I j fr H:=rfl
@[simp]theorem WS (I:Nat→Fr→AH→Prop) (k i:Nat):wT E O I k ks Q (.exit i) fr H=Un E O (.exit i) ks fr H Q:=rfl
@[simp]theorem WT (I:Nat→Fr→AH→Prop) (k:Nat):wT E O I k ks Q .ret fr H=Un E O .ret ks fr H Q:=rfl
theorem eL {a:AC} (I:Nat→Fr→AH→Prop) (step:∀k fr H,I k fr H→Wk E O a [] fr H (wT E O I k ks Q)) (k:Nat) (h:I k fr H):Wk E O (.loop a) ks fr H Q:=by
 refine Wp.loop I (fun k fr H b=>?_) k h;refine (step k fr H b).mono ?_;intro ex c d q;rw [EP]at q;cases ex<;>exact q
attribute [simp] Fr.bR Fr.fQ X.ev qh RS.all RS.get
@[simp]theorem aaC (r:List RS) (Q:Value→AH→Prop):wR r Q .normal fr H=∃vs,RS.all fr H r=some vs∧Q (qh vs) H:=rfl
@[simp]theorem aaD (r:List RS) (Q:Value→AH→Prop):wR r Q .ret fr H=∃vs,RS.all fr H r=some vs∧Q (qh vs) H:=rfl
@[simp]theorem QW (x:X):(cQ.mv x).bl=false:=rfl
@[simp]theorem LD (c a b:X):(cQ.pick c a b).bl=false:=rfl
@[simp]theorem IP (z:List Value):(cQ.alloc z).bl=false:=rfl
@[simp]theorem NL (x:X):(cQ.box x).bl=false:=rfl
@[simp]theorem IQ (z:List Value) (ps:List (Nat×Nat×X)):(cQ.build z ps).bl=false:=rfl
@[simp]theorem NM (len sz:Nat) (z:List Value) (ps:List (Nat×Nat×X)):(cQ.bsl len sz z ps).bl=false:=rfl
@[simp]theorem QX (x:X):(cQ.ld x).bl=false:=rfl
@[simp]theorem NN (n:Nat) (x:X):(cQ.ldn n x).bl=false:=rfl
@[simp]theorem QY (n:Nat) (x v:X):(cQ.st n x v).bl=false:=rfl
@[simp]theorem LF (x:X):(cQ.bB x).bl=false:=rfl
@[simp]theorem NO (op:BinOp) (x y:X):(cQ.bin op x y).bl=false:=rfl
@[simp]theorem NP (k:Nat) (neg:Bool) (x y:X):(cQ.eqk k neg x y).bl=false:=rfl
@[simp]theorem QZ (op:UnOp) (x:X):(cQ.un op x).bl=false:=rfl
@[simp]theorem NQ (k:IntKind) (x:X):(cQ.B9 k x).bl=false:=rfl
@[simp]theorem NS (x:X):(cQ.QH x).bl=false:=rfl
@[simp]theorem NT (f:Nat) (first cap:List X):(cQ.mkf f first cap).bl=false:=rfl
@[simp]theorem IS:cQ.mkmap.bl=false:=rfl
@[simp]theorem LG (sz bytes:Nat) (z:List Value) (x:X):(cQ.mksl sz bytes z x).bl=false:=rfl
@[simp]theorem Q5 (sz:Nat) (x:X) (lo hi mx:Option X):(cQ.sl sz x lo hi mx).bl=false:=rfl
@[simp]theorem Q6 (off:Nat) (x:X):(cQ.fa off x).bl=false:=rfl
@[simp]theorem Q7 (sz:Nat) (x i:X):(cQ.ia sz x i).bl=false:=rfl
@[simp]theorem NU (len sz:Nat) (x i:X):(cQ.wz len sz x i).bl=false:=rfl
@[simp]theorem Q8 (x i:X):(cQ.ix x i).bl=false:=rfl
@[simp]theorem LH (kk:Nat) (z:Value) (x k:X) (ok:Bool):(cQ.look kk z x k ok).bl=false:=rfl
@[simp]theorem NV (kk:Nat) (x k v:X):(cQ.qg kk x k v).bl=false:=rfl
@[simp]theorem NW (x:X) (i:Nat):(cQ.ext x i).bl=false:=rfl
@[simp]theorem NX (sz bytes:Nat) (s x:X):(cQ.app sz bytes s x).bl=false:=rfl
@[simp]theorem LI (sz:Nat) (d s:X):(cQ.copy sz d s).bl=false:=rfl
@[simp]theorem LJ (x:X):(cQ.lens x).bl=false:=rfl
@[simp]theorem LK (x:X):(cQ.eQ x).bl=false:=rfl
@[simp]theorem NY (t:Nat) (x:X):(cQ.QI t x).bl=false:=rfl
@[simp]theorem NZ (x:X) (l:List X):(cQ.mxl x l).bl=false:=rfl
@[simp]theorem N0 (x:X) (l:List X):(cQ.mnl x l).bl=false:=rfl
@[simp]theorem N1 (neg:Bool) (offs:List (Nat×Nat)) (x y:X):(cQ.eqs neg offs x y).bl=false:=rfl
@[simp]theorem WU (b:Bool):DT .not (.bool b)=some (.bool !b):=rfl
@[simp]theorem WV (k:IntKind) (n:Int):DT .neg (.int k n)=some (.int k (k.wrap (0- n))):=rfl
@[simp]theorem Tf (k:IntKind) (a b:Int):de .add (.int k a) (.int k b)=some (.int k (k.wrap (a+b))):=by simp [de,dL,jq]
@[simp]theorem Tg (k:IntKind) (a b:Int):de .sub (.int k a) (.int k b)=some (.int k (k.wrap (a- b))):=by simp [de,dL,jq]
@[simp]theorem Th (k:IntKind) (a b:Int):de .mul (.int k a) (.int k b)=some (.int k (k.wrap (a*b))):=by simp [de,dL,jq]
@[simp]theorem Ti (k:IntKind) (a b:Int):de .eql (.int k a) (.int k b)=some (.bool (decide (a=b))):=by simp [de,dL,jq];rfl
@[simp]theorem Tj (k:IntKind) (a b:Int):de .neq (.int k a) (.int k b)=some (.bool (!decide (a=b))):=by simp [de,dL,jq];rfl
@[simp]theorem Tk (k:IntKind) (a b:Int):de .lss (.int k a) (.int k b)=some (.bool (decide (a<b))):=by simp [de,dL,jq]
@[simp]theorem Tl (k:IntKind) (a b:Int):de .leq (.int k a) (.int k b)=some (.bool (decide (a≤b))):=by simp [de,dL,jq]
@[simp]theorem Tm (k:IntKind) (a b:Int):de .gtr (.int k a) (.int k b)=some (.bool (decide (a>b))):=by simp [de,dL,jq]
@[simp]theorem Tn (k:IntKind) (a b:Int):de .geq (.int k a) (.int k b)=some (.bool (decide (a≥b))):=by simp [de,dL,jq]
def bT (a b:ByteArray):Bool:=a.data.toList==b.data.toList
@[simp]theorem To (a b:ByteArray):de .eql (.string a) (.string b)=some (.bool (bT a b)):=rfl
@[simp]theorem Tp (a b:ByteArray):de .neq (.string a) (.string b)=some (.bool (!bT a b)):=rfl
theorem jj {a b:ByteArray}:bT a b=true↔a=b:=by
 unfold bT;constructor
 ·intro h
  have:a.data.toList=b.data.toList:=by simpa using h
  exact ByteArray.ext (Array.toList_inj.1 this)
 ·rintro rfl;simp
def dk (s:ByteArray) (i:Nat):Int:=((s[i]?).getD 0).toNat
theorem EU {x i:X} {a:X→Value} {H:AH} {s:ByteArray} {n:Nat} (b:a x= .string s) (hi:a i= .int .i64 n) (h:n<s.size):aA (.ix x i) a H=some (.v (.int .u8 (dk s n)),H):=by
 simp only [aA,b,hi];rw [if_pos (by omega)];simp only [Int.toNat_natCast];unfold dk;have:s[n]?=some s[n]:=getElem?_pos s n h;rw [this];rfl
end
end
end Go.Proofs.YtppcmpmnglaleaaGreat.A
