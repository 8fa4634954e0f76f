/- Texts that stand one behind the other: AbsB, AbsC, AbsD, AbsE, AbsF, AbsG, AbsH, AbsI, AbsJ, AbsK, AbsL, AbsM. -/
import Derived.Test.YtppcmpmnglaleaaGreatDoorG8
import Derived.Deep.LoopGhost
import Derived.Orders
set_option linter.unusedVariables false
set_option linter.unusedSimpArgs false
namespace Go.Proofs.YtppcmpmnglaleaaGreatDoor.A
section
open Go Go.RowKit
section
variable{P:Program}
def Io (P:Program) (f:Nat) (as:List Value) (H:AH) (v:Value) (H':AH):Prop:=
 ∀(w0:World) (φ:cg) (w:World) (as':Array Value),Rel w0 φ H w→r5 φ H→VL φ as as'.toList→
  Calls P f as' w fun e w'=>∃ei v',e= .returned v'∧V ei v v'∧Rel w0 ei H' w'∧Grow φ H w ei H' w'
def rh (P:Program) (call:Cl):Prop:=∀f as H v H',call f as H=some (v,H')→Fw P f∧Io P f as H v H'
theorem V.Fx {φ:cg} {v:Value} {b:Bool} (h:V φ v (.bool b)):v= .bool b:=by
 cases h;rfl
theorem Fy {φ:cg} {fr:Fr} {a:Act} (F:mT φ fr a) {f:Array Oper} {o:Oper} {g:Option (Nat×Bool)} {d:Option Nat} {p:cW} (e:wW f o.guard=some g):
 Region.wanted o (yielded f a.tmps)=AO.wanted ⟨g,d,p⟩ fr:=by
 unfold Region.wanted AO.wanted
 cases m:o.guard with
 |none=>rw [m]at e;simp [wW]at e;subst e;rfl
 |some n=>
  obtain ⟨j,b⟩:=n;rw [m]at e;simp only [wW]at e
  cases k:(f[j]?).bind (·.dst)with
  |none=>simp [k]at e
  |some t=>
   simp [k]at e;subst e;dsimp only;have h:=F t
   have q:yielded f a.tmps j=match a.tmps[t]? with|some (.bool b)=>some b|_=>none:=by
    unfold yielded;rw [k];rfl
   rw [q]
   cases l:fr.get t with
   |bool c=>
    rw [l]at h;have:=h.bool
    have h2:a.tmps[t]?=some (.bool c):=by
     cases i:a.tmps[t]? with
     |none=>simp [i,undef]at this
     |some u=>simp [i]at this;rw [this]
    rw [h2];simp
   |_=>
    have:∀c,a.tmps[t]?≠some (.bool c):=by
     intro c r;have h2:a.tmps.getD t undef= .bool c:=by simp [r]
     rw [h2]at h;have:=h.Fx;rw [this]at l;cases l
    dsimp only
    cases i:a.tmps[t]? with
    |none=>rfl
    |some u=>cases u<;>first|rfl|exact absurd i (this _)
theorem jV {p:cW} {a:X→Value} {H H':AH} {f:Nat} {as:List Value} (h:aB p a H=some (.enter f as,H')):fO p= .lu:=by
 cases p<;>first
  |rfl
  |(exfalso
    simp only [aB,Bool.cond_eq_ite]at h
    (repeat' split at h)<;>simp at h)
theorem Ip {call:Cl} (gP:rh P call) {nt:Nat} {A:Array Oper} {i:Nat} {o:Oper} {J:AO} (hi:A[i]?=some o) (c:QI P nt A o=some J)
 {w0 w:World} {φ:cg} {H H':AH} {q E:Fr} {a:Act} (F:mT φ q a) (R:Rel w0 φ H w) (O:φ.m H.nx=none) (M:fO J.o= .lu→r5 φ H) (hs:a.tmps.size=nt) (hd:a.defers=[]) (h:kW call J q H=some (E,H'))
 {Q:Exit→Act→World→Prop} {K:Act→World→Prop}
 (y:∀b v v' w',Rel w0 b H' w'→Grow φ H w b H' w'→V b v v'→E=q.aT o.dst v→mT b E (a.put o.dst v')→(a.put o.dst v').tmps.size=nt→(a.put o.dst v').defers=[]→K (a.put o.dst v') w'):
 wpOp P A Q i K a w:=by
 unfold wpOp;simp only [hi];unfold QI at c;split at c
 case h_2=>cases c
 rename_i g hg;obtain ⟨N,c⟩:=aE c;cases c
 obtain ⟨p,C⟩:∃p,Mw P o=p:=⟨_,rfl⟩
 rw [C]at h M
 have u:∀n,o.dst=some n→n<a.tmps.size:=by
  intro n l;rw [l]at N;rw [hs]
  simpa [QH]using N
 have t:∀v,(a.put o.dst v).tmps.size=nt:=by
  intro v;cases hq:o.dst<;>simp [Act.put,hs]
 have s:∀v,(a.put o.dst v).defers=[]:=by
  intro v;cases hq:o.dst<;>simp [Act.put,hd]
 have hw:=Fy F (o:=o) (d:=o.dst) (p:=p) hg;rw [hw];unfold kW at h
 cases L:AO.wanted ⟨g,o.dst,p⟩ q with
 |false=>
  simp only [L,cond_false,avh,avo]at h;obtain ⟨rfl,rfl⟩:=h;simp only [Bool.false_eq_true,if_false];exact y φ undef undef w R (Grow.refl _ _ _) (tF _) rfl (F.aT u (tF _)) (t _) (s _)
 |true=>
  simp only [L,cond_true]at h;simp only [if_true];left;unfold Oper.wp
  cases k:aB p (X.ev q) H with
  |none=>simp [k]at h
  |some rr=>
   obtain ⟨res,S⟩:=rr;simp only [k]at h
   cases res with
   |v x=>
    simp only [avh,avo]at h;obtain ⟨rfl,rfl⟩:=h;obtain ⟨b,w',nx,I,z,G,l⟩:=Im F R O C k (fun f as h=>by cases h);rw [I];rcases l with⟨W,rfl,j⟩|⟨rfl,rfl⟩
    ·rw [Oper.upon_value]
     exact y b x W w' z G j rfl ((F.mono G.le).aT u j) (t _) (s _)
    ·rw [Oper.upon_skip]
     exact y b undef undef w' z G (tF _) rfl ((F.mono G.le).aT u (tF _)) (t _) (s _)
   |enter f as=>
    simp only at h
    cases D:call f as S with
    |none=>simp [D]at h
    |some Z=>
     obtain ⟨x,H2⟩:=Z;simp only [D,avh,avo]at h;obtain ⟨rfl,rfl⟩:=h;obtain ⟨hf,B⟩:=gP f as S x H2 D;obtain ⟨b,w',nx,I,z,G,r,rfl,l⟩:=Im F R O C k (fun f' r h=>by cases h;exact hf);rw [I,Oper.upon_enter];refine (B w0 b w' r z (G.fresh (M (jV k))) l).mono ?_;rintro e Y ⟨U,v',rfl,j,R2,T⟩;exact y U x v' Y R2 (G.trans T) j rfl ((F.mono (G.trans T).le).aT u j) (t _) (s _)
def afK:Ex→Exit
 | .normal=>.normal
 | .exit i=>.exit i
 | .ret=>.ret
def Iq (w0:World) (φ:cg) (w:World) (H:AH) (nt:Nat) (ex:Ex) (cq:Fr) (H':AH) (e:Exit) (a':Act) (w':World):Prop:=
 e=afK ex∧∃ei,Rel w0 ei H' w'∧Grow φ H w ei H' w'∧mT ei cq a'∧a'.tmps.size=nt∧a'.defers=[]
theorem Ir {call:Cl} (y:rh P call) {d:Nat} {c:Array Oper} {w0:World} {Q:Exit→Act→World→Prop}:∀(l:List Oper) (i:List AO) (k:Nat) {w:World} {φ:cg} {H H':AH} {e g:Fr} {a:Act},
 qb P d c l=some i→(∀j o,l[j]?=some o→c[k+j]?=some o)→ops call i e H=some (g,H')→mT φ e a→Rel w0 φ H w→r5 φ H→a.tmps.size=d→a.defers=[]→
 (∀p a' w',Rel w0 p H' w'→Grow φ H w p H' w'→mT p g a'→a'.tmps.size=d→a'.defers=[]→Q .normal a' w')→wpOps P c Q (List.range' k l.length) a w
 |[],i,k,w,φ,H,H',e,g,a,b,_,h,F,R,n,q,t,u=>by
  simp [qb]at b;subst b;simp only [ops,avh,avo]at h;obtain ⟨rfl,rfl⟩:=h;exact u φ a w R (Grow.refl _ _ _) F q t
 |o::l,i,k,w,φ,H,H',e,g,a,b,hi,h,F,R,n,q,t,u=>by
  simp only [qb]at b
  cases f:QI P d c o with
  |none=>simp [f]at b
  |some K=>
   cases s:qb P d c l with
   |none=>simp [f,s]at b
   |some m=>
    simp [f,s]at b;subst b;simp only [ops]at h
    cases x:kW call K e H with
    |none=>simp [x]at h
    |some r=>
     obtain ⟨X,Y⟩:=r;simp only [x]at h;simp only [List.length_cons,List.range'_succ,wpOps_cons];refine Ip y (by simpa using hi 0 o (by simp)) f F R (n _ (avk _)) (fun _=>n) q t x ?_;intro U v W V N z _ _ T E J;refine Ir y l m (k+1) s (fun j C G=>by have:=hi (j+1) C (by simpa using G);rwa [show k+(j+1)=k+1+j by omega]at this) h T N (z.fresh n) E J ?_;intro A L B M O S D I;exact u A L B M (z.trans O) S D I
def mV (l:List AO) (dp:List (List Nat)):List Nat→List (Nat×Nat)→List Row
 |[],_=>[]
 |j::r,am=>match nth l j,nth dp j with
  |some o,some d=>⟨o,fO o.o,j,d,pr am d⟩::mV l dp r ((j,pr am d)::am)
  |_,_=>[]
theorem y8 {α:Type} (l:List AO) (a:List (List Nat)):∀(ord:List Nat) (am:List (Nat×Nat)) (k:List Row→α),C9 l a ord am k=k (mV l a ord am)
 |[],am,k=>rfl
 |j::r,am,k=>by
  simp only [C9,mV]
  cases b:nth l j with
  |none=>rfl
  |some o=>
   cases c:nth a j with
   |none=>rfl
   |some d=>
    simp only [force_eq];rw [y8 l a r]
theorem tO {b id:Nat} {a:Array Oper} {ac:AC} (h:eW P b (.region id a true)=some ac):
 ∃l ord,qb P b a a.toList=some l∧Br l.length (mV l (a.toList.map Mx) ord [])=true∧
  ac= .bz ((mV l (a.toList.map Mx) ord []).map (·.o)) (vW 0 (mV l (a.toList.map Mx) ord [])):=by
 simp only [eW]at h
 cases c:qb P b a a.toList with
 |none=>simp [c]at h
 |some l=>
  simp only [c,QJ,y8]at h;obtain ⟨d,h2⟩:=aE h;cases h2;exact ⟨l,_,rfl,d,rfl⟩
theorem BA {b id:Nat} {a:Array Oper} {ac:AC} (h:eW P b (.region id a true)=some ac):∃l ck,ac= .bz l ck:=by
 obtain ⟨_,_,_,_,e⟩:=tO h;exact ⟨_,_,e⟩
def Is (P:Program) (call:Cl):Prop:=∀(nt:Nat) (id:Nat) (c9:Array Oper) (ac:AC),eW P nt (.region id c9 true)=some ac→∀(l:List AO) (ck:List (Nat×Nat×Nat)),ac= .bz l ck→
 ∀(w0 w:World) (φ:cg) (H H':AH) (fr cq:Fr) (a:Act),yV call l ck fr H=some (cq,H')→mT φ fr a→Rel w0 φ H w→r5 φ H→a.tmps.size=nt→a.defers=[]→
  (Code.region id c9 true).wp P (Iq w0 φ w H nt .normal cq H') a w
theorem gL {call:Cl}:∀{n m:Nat} {c:AC} {e:Fr} {H:AH} {r:Ex×Fr×AH},n≤m→aG call n c e H=some r→aG call m c e H=some r:=by
 intro n
 induction n with
 |zero=>intro m c e H r _ h;simp [aG]at h
 |succ n ih=>
  intro m c e H r o h
  obtain ⟨m,rfl⟩:∃k,m=k+1:=⟨m- 1,by omega⟩
  have f:n≤m:=by omega
  cases c with
  |seq a b=>
   simp only [aG]at h⊢
   cases d:aG call n a e H with
   |none=>simp [d]at h
   |some q=>
    rw [ih f d];obtain ⟨ex,g,j⟩:=q
    cases ex<;>simp only [d]at h⊢<;>first
     |exact ih f h
     |exact h
  |cond x a b=>
   simp only [aG]at h⊢
   cases l:x.ev e<;>simp only [l]at h⊢<;>first
    |(cases h;done)
    |skip
   rename_i t;cases t<;>exact ih f h
  |block i a=>
   simp only [aG]at h⊢
   cases d:aG call n a e H with
   |none=>simp [d]at h
   |some q=>
    rw [ih f d];obtain ⟨ex,g,j⟩:=q;cases ex<;>simp only [d]at h⊢<;>exact h
  |loop a=>
   simp only [aG]at h⊢
   cases d:aG call n a e H with
   |none=>simp [d]at h
   |some q=>
    rw [ih f d];obtain ⟨ex,g,j⟩:=q
    cases ex<;>simp only [d]at h⊢<;>first
     |exact ih f h
     |exact h
  |_=>simpa only [aG]using h
theorem MR {call:Cl} (gP:rh P call) (Yp:Is P call) {s:Nat} {w0:World}:∀(m:Nat) (c:Code) (ac:AC) {w:World} {φ:cg} {H H':AH} {A N:Fr} {a:Act} {ex:Ex},
 eW P s c=some ac→aG call m ac A H=some (ex,N,H')→mT φ A a→Rel w0 φ H w→r5 φ H→a.tmps.size=s→a.defers=[]→c.wp P (Iq w0 φ w H s ex N H') a w:=by
 intro m
 induction m with
 |zero=>intro c ac w φ H H' A N a ex _ h;simp [aG]at h
 |succ m ih=>
  intro c ac w φ H H' A N a ex d h F R D u v
  cases c with
  |skip=>
   simp [eW]at d;subst d;simp only [aG,avh,avo]at h;obtain ⟨rfl,rfl,rfl⟩:=h;exact wp_skip ⟨rfl,φ,R,Grow.refl _ _ _,F,u,v⟩
  |region id U draw=>
   cases draw with
   |false=>
    simp only [eW]at d
    cases Z:qb P s U U.toList with
    |none=>simp [Z]at d
    |some l=>
     simp [Z]at d;subst d;simp only [aG]at h
     cases f:ops call l A H with
     |none=>simp [f]at h
     |some r=>
      obtain ⟨t,p⟩:=r;simp only [f,avh,avo]at h;obtain ⟨rfl,rfl,rfl⟩:=h;refine wp_region ?_;have:=Ir (Q:=Iq w0 φ w H s .normal t p) gP U.toList l 0 Z (fun j o V=>by simpa using V) f F R D u v (fun ei a' w' R' G F' fZ Yq=>⟨rfl,ei,R',G,F',fZ,Yq⟩);rwa [Array.length_toList,←List.range_eq_range']at this
   |true=>
    have sV:=d;obtain ⟨l,ck,Yr⟩:=BA d;rw [Yr]at h;simp only [aG]at h;split at h
    case h_2=>cases h
    rename_i t p f;simp only [avh,avo]at h;obtain ⟨rfl,rfl,rfl⟩:=h;exact Yp s id U _ sV _ _ Yr w0 w φ H p A t a f F R D u v
  |refuse r=>
   simp only [eW,avh]at d;subst d;simp only [aG,X.ev]at h;cases h
  |seq x y=>
   simp only [eW]at d
   cases g:eW P s x with
   |none=>simp [g]at d
   |some B=>
    cases K:eW P s y with
    |none=>simp [g,K]at d
    |some ay=>
     simp [g,K]at d;subst d;simp only [aG]at h;refine wp_seq ?_
     cases f:aG call m B A H with
     |none=>simp [f]at h
     |some r=>
      obtain ⟨L7,t,p⟩:=r;have k:=ih x B g f F R D u v
      cases L7 with
      |normal=>
       simp only [f]at h;refine wp_mono k ?_;rintro e C k ⟨rfl,J,R1,E,F1,Y,Yo⟩;refine wp_mono (ih y ay K h F1 R1 (E.fresh D) Y Yo) ?_;rintro e a2 W ⟨he,I,O,S,T,L,M⟩;exact ⟨he,I,O,E.trans S,T,L,M⟩
      |exit i=>
       simp only [f,avh,avo]at h;obtain ⟨rfl,rfl,rfl⟩:=h;refine wp_mono k ?_;rintro e C k ⟨rfl,q⟩;exact ⟨rfl,q⟩
      |ret=>
       simp only [f,avh,avo]at h;obtain ⟨rfl,rfl,rfl⟩:=h;refine wp_mono k ?_;rintro e C k ⟨rfl,q⟩;exact ⟨rfl,q⟩
  |cond x y z=>
   simp only [eW]at d;split at d
   case h_2=>cases d
   rename_i xx ay az g K hz;cases d;simp only [aG]at h;have hv:=dQ F g;cases hq:xx.ev A<;>simp [hq]at h;rename_i b;rw [hq]at hv;refine wp_cond hv.bool ?_;cases b
   ·simp only [Bool.false_eq_true,if_false]
    exact ih z az hz h F R D u v
   ·simp only [if_true]
    exact ih y ay K h F R D u v
  |block i x=>
   simp only [eW]at d
   cases g:eW P s x with
   |none=>simp [g]at d
   |some B=>
    simp [g]at d;subst d;simp only [aG]at h;refine wp_block ?_
    cases f:aG call m B A H with
    |none=>simp [f]at h
    |some r=>
     obtain ⟨L7,t,p⟩:=r;have k:=ih x B g f F R D u v;refine wp_mono k ?_;rintro e C w3 ⟨rfl,q⟩
     cases L7 with
     |normal=>
      simp only [f,avh,avo]at h;obtain ⟨rfl,rfl,rfl⟩:=h;exact ⟨rfl,q⟩
     |ret=>
      simp only [f,avh,avo]at h;obtain ⟨rfl,rfl,rfl⟩:=h;exact ⟨rfl,q⟩
     |exit j=>
      simp only [f,nb,Bool.cond_decide]at h;show Exit.inBlock i _ (.exit j) C w3;simp only [Exit.inBlock];by_cases V:j=i
      ·rw [if_pos V]at h⊢
       simp only [avh,avo]at h;obtain ⟨rfl,rfl,rfl⟩:=h;exact ⟨rfl,q⟩
      ·rw [if_neg V]at h⊢
       simp only [avh,avo]at h;obtain ⟨rfl,rfl,rfl⟩:=h;exact ⟨rfl,q⟩
  |loop x=>
   simp only [eW]at d
   cases g:eW P s x with
   |none=>simp [g]at d
   |some B=>
    simp [g]at d;subst d;refine wp_loop_ghost (fun n C k=>n≤m+1∧∃t p J,aG call n (.loop B) t p=some (ex,N,H')∧mT J t C∧Rel w0 J p k∧Grow φ H w J p k∧C.tmps.size=s∧C.defers=[]) (m+1) ⟨avk _,A,H,φ,h,F,R,Grow.refl _ _ _,u,v⟩ ?_;rintro n C k ⟨hn,t,p,J,f,F1,R1,E,Y,Yo⟩
    cases n with
    |zero=>simp [aG]at f
    |succ n=>
     simp only [aG]at f
     cases h2:aG call n B t p with
     |none=>simp [h2]at f
     |some r=>
      obtain ⟨WS,gv,H2⟩:=r;have mono:aG call m B t p=some (WS,gv,H2):=gL (by omega) h2;have W:=ih x B g mono F1 R1 (E.fresh D) Y Yo;refine wp_mono W ?_;rintro e a2 W ⟨rfl,I,O,S,T,L,M⟩
      cases WS with
      |normal=>
       simp only [h2]at f;exact ⟨n,by omega,by omega,gv,H2,I,f,T,O,E.trans S,L,M⟩
      |exit j=>
       simp only [h2,avh,avo]at f;obtain ⟨rfl,rfl,rfl⟩:=f;exact ⟨rfl,I,O,E.trans S,T,L,M⟩
      |ret=>
       simp only [h2,avh,avo]at f;obtain ⟨rfl,rfl,rfl⟩:=f;exact ⟨rfl,I,O,E.trans S,T,L,M⟩
  |exit i=>
   simp [eW]at d;subst d;simp only [aG,avh,avo]at h;obtain ⟨rfl,rfl,rfl⟩:=h;exact wp_exit ⟨rfl,φ,R,Grow.refl _ _ _,F,u,v⟩
  |ret=>
   simp [eW]at d;subst d;simp only [aG,avh,avo]at h;obtain ⟨rfl,rfl,rfl⟩:=h;exact wp_ret ⟨rfl,φ,R,Grow.refl _ _ _,F,u,v⟩
  |_=>simp [eW]at d
end
end
section
open Go
theorem FA {p:cW} {e QS:X→Value} (h:∀x∈p.xs,e x=QS x) (H:AH):aB p e H=aB p QS H:=by
 have g:∀(l:List X),(∀x∈l,e x=QS x)→l.map e=l.map QS:=fun l i=>List.map_congr_left i
 have mp:∀(l:List (Nat×Nat×X)),(∀x∈l.map (fun p=>p.2.2),e x=QS x)→(l.map fun p=>(p.1,p.2.1,e p.2.2))=l.map fun p=>(p.1,p.2.1,QS p.2.2):=
  fun l i=>List.map_congr_left fun p m=>by rw [i _ (avN.2 ⟨p,m,rfl⟩)]
 have j:∀(l:Option X),(∀x∈l.toList,e x=QS x)→l.map e=l.map QS:=fun l i=>by cases l<;>simp_all
 cases p
 case build z ps=>simp only [aB];rw [mp ps h]
 case bsl a b c ps=>simp only [aB];rw [mp ps h]
 case mkf f a b=>
  simp only [aB];rw [g a fun x d=>h x (by simp [cW.xs,d]),g b fun x d=>h x (by simp [cW.xs,d])]
 case call f as=>simp only [aB];rw [g as h]
 case xt k l=>simp only [aB];rw [g l h]
 case callv x as=>
  simp only [aB];rw [g as fun x d=>h x (by simp [cW.xs,d]),h x (by simp [cW.xs])]
 case mxl x as=>
  simp only [aB];rw [g as fun x d=>h x (by simp [cW.xs,d]),h x (by simp [cW.xs])]
 case mnl x as=>
  simp only [aB];rw [g as fun x d=>h x (by simp [cW.xs,d]),h x (by simp [cW.xs])]
 case sl sz x lo hi mx=>
  simp only [aB];rw [h x (by simp [cW.xs]),j lo fun x d=>h x (by simp [cW.xs]at d⊢;simp [d]),j hi fun x d=>h x (by simp [cW.xs]at d⊢;simp [d]),j mx fun x d=>h x (by simp [cW.xs]at d⊢;simp [d])]
 all_goals
  simp only [cW.xs,avy,avQ,or_false,forall_eq_or_imp,forall_eq,implies_true,false_imp_iff]at h;simp only [aB,h]
theorem BB {sz:Nat} {H H1:AH} {x:Value} {hi mx:Option Value}:cw sz H1 x none hi mx=cw sz H x none hi mx:=by
 cases x<;>try rfl
 rename_i a len cap;simp only [cw]
 cases b:bK len cap none hi mx with
 |none=>rfl
 |some r=>
  obtain ⟨l,h,m⟩:=r
  have c:l=0:=by
   unfold bK at b;simp only [avr]at b;obtain ⟨_,_,_,_,_,e,d⟩:=b;simp at e d;omega
  subst c;simp
theorem nL {p:cW} {g:X→Value} {H H':AH} {r:j7} (d:fO p= .pure) (h:aB p g H=some (r,H')):
 H'=H∧∀H1:AH,aB p g H1=some (r,H1):=by
 cases p
 case sl sz x lo hi mx=>
  cases lo with
  |some l=>simp [fO]at d
  |none=>
   simp only [aB,Option.map_none,avq]at h⊢;obtain ⟨v,i,e⟩:=h;cases e;exact ⟨rfl,fun H1=>⟨v,BB.trans i,rfl⟩⟩
 case eqk k neg x y=>
  simp only [aB,avq]at h⊢;obtain ⟨b,f,e⟩:=h;cases e;exact ⟨rfl,fun H1=>⟨b,f,rfl⟩⟩
 case xt k l=>
  cases k<;>first
   |(simp [fO]at d;done)
   |skip
  all_goals
   simp only [aB,HF]at h⊢
   split at h<;>simp_all<;>first
    |(obtain ⟨a,⟨j,b,c,rfl,rfl⟩,h2⟩:=h;exact ⟨rfl,fun _=>⟨_,⟨j,c⟩,h2⟩⟩)
    |(obtain ⟨_,c,_,_⟩:=h;simp_all;done)
    |(obtain ⟨_,_,c,_,_⟩:=h;simp_all;done)
    |skip
 case eqs neg offs x y=>
  simp only [aB]at h⊢;split at h
  · simp only [avq]at h⊢
    obtain ⟨b,f,e⟩:=h;cases e;exact ⟨rfl,fun H1=>⟨b,f,rfl⟩⟩
  · cases h
 all_goals first
  |(simp [fO]at d;done)
  |(simp only [aB,Bool.cond_eq_ite,avq]at h⊢
    (repeat' split at h)<;>simp_all<;>try(obtain ⟨_,_,c,h2⟩:=h;simp_all))
theorem j9 {p:cW} {d:X→Value} {H H':AH} {r:j7} (a:fO p= .alloc) (h:aB p d H=some (r,H')):
 ∃aX,H'=H.alloc aX∧∀H1:AH,H1.nx=H.nx→aB p d H1=some (r,H1.alloc aX):=by
 cases p
 case sl sz x lo hi mx=>cases lo<;>simp [fO]at a
 case xt k l=>cases k<;>simp [fO]at a
 all_goals first
  |(simp [fO]at a;done)
  |skip
 case alloc z=>
  simp only [aB,avh,avo]at h⊢;obtain ⟨rfl,rfl⟩:=h;exact ⟨_,rfl,fun H1 e=>⟨by rw [e],rfl⟩⟩
 case box x=>
  simp only [aB,Bool.cond_eq_ite]at h⊢;split at h
  ·cases h
  ·rename_i f
   simp only [avh,avo]at h;obtain ⟨rfl,rfl⟩:=h;exact ⟨_,rfl,fun H1 e=>by rw [if_neg f,e]⟩
 case bsl len sz z ps=>
  simp only [aB,avq]at h⊢;obtain ⟨c,b,e⟩:=h;cases e;exact ⟨_,rfl,fun H1 e=>⟨c,b,by rw [e]⟩⟩
 case mkmap=>
  simp only [aB,avh,avo]at h⊢;obtain ⟨rfl,rfl⟩:=h;exact ⟨_,rfl,fun H1 e=>⟨by rw [e],rfl⟩⟩
 case mksl sz bytes z x=>
  simp only [aB,Bool.cond_eq_ite]at h⊢;split at h
  ·split at h
   ·rename_i b
    simp only [avh,avo]at h;obtain ⟨rfl,rfl⟩:=h;exact ⟨_,rfl,fun H1 e=>by rw [if_pos b,e]⟩
   ·cases h
  ·cases h
theorem oR {n0:Nat}:∀{l m:List Value},aS n0 l=some m→m.length=l.length
 |[],m,h=>by simp [aS]at h;subst h;rfl
 |v::l,m,h=>by
  simp only [aS]at h;split at h
  ·rename_i x b c a
   cases h;simp [oR a]
  ·cases h
theorem dM {H:AH} {a:Addr} {n:Nat} {vs:List Value} (h:H.ldn a n=some vs):(H.get a.block).isSome=true∧vs.length=n:=by
 unfold AH.ldn at h;split at h
 case h_2=>cases h
 rename_i z c e b;obtain ⟨d,h⟩:=aE h;simp at d;refine ⟨by simp [b],?_⟩;simp only [Bool.cond_eq_ite]at h;split at h
 ·rw [oR h];simp;omega
 ·cases h;simp;omega
theorem fP {H H1:AH} {a:Addr} {n:Nat} (b:H1.get a.block=H.get a.block) (c:H1.n0=H.n0):H1.ldn a n=H.ldn a n:=by
 unfold AH.ldn;rw [b,c]
theorem bh {H:AH} {a:Addr} {v:Value}:H.ld a=some v↔H.ldn a 1=some [v]:=by
 unfold AH.ld AH.ldn
 cases g:a.spot with
 |some x=>simp
 |none=>
  cases h:H.get a.block with
  |none=>simp
  |some b=>
   cases b with
   |map es=>simp
   |cells z c=>
    simp only
    cases d:c[a.off]? with
    |none=>
     have:=List.getElem?_eq_none_iff.1 d;have:decide (a.off+1≤c.length)=false:=by simp;omega
     simp [this]
    |some u=>
     have e:=(avm.1 d).1;have f:decide (a.off+1≤c.length)=true:=by simp;omega
     have h2:List.take 1 (List.drop a.off c)=[u]:=by
      have:=(avm.1 d).2;rw [List.drop_eq_getElem_cons e,this];rfl
     simp only [f,cond_true,h2]
     cases i:decide (a.block<H.n0)with
     |false=>simp
     |true=>
      simp only [cond_true,aS];cases bw H.n0 u<;>simp
theorem nM {o:AO} {i:Fr} {H H':AH} {r:j7} (f:fO o.o= .load) (h:aB o.o (X.ev i) H=some (r,H')):
 H'=H∧∃a vs,fB o i H=some (a,vs)∧dz o i=some a.block∧H.ldn a vs.length=some vs∧∀H1:AH,H1.ldn a vs.length=some vs→aB o.o (X.ev i) H1=some (r,H1):=by
 obtain ⟨g,d,p⟩:=o;dsimp only at f h;unfold fB dz;dsimp only;cases p
 case sl sz x lo hi mx=>cases lo<;>simp [fO]at f
 case xt k l=>cases k<;>simp [fO]at f
 all_goals first
  |(simp [fO]at f;done)
  |skip
 case ld x=>
  simp only [aB]at h⊢;split at h
  case h_2=>cases h
  rename_i a m;simp only [avq]at h;obtain ⟨v,b,e⟩:=h;cases e;have c:=bh.1 b;refine ⟨rfl,a,[v],?_,rfl,c,fun H1 j=>?_⟩
  ·rw [c];rfl
  ·rw [bh.2 j];rfl
 case ldn n x=>
  simp only [aB]at h⊢;split at h
  case h_2=>cases h
  rename_i a m;simp only [avq]at h;obtain ⟨vs,b,e⟩:=h;cases e;have c:=(dM b).2;subst c;refine ⟨rfl,a,vs,?_,rfl,b,fun H1 j=>?_⟩
  ·rw [b];rfl
  ·rw [j];rfl
theorem MS {H H':AH} {a:Addr} {vs:List Value} (h:H.st a vs=some H'):(H.get a.block).isSome=true∧∃z d,H'=H.put a.block (some (.cells z d))∧
 ∀H1:AH,H1.get a.block=H.get a.block→H1.n0=H.n0→H1.st a vs=some (H1.put a.block (some (.cells z d))):=by
 unfold AH.st at h;split at h
 case h_2=>cases h
 rename_i z c e b;obtain ⟨f,h⟩:=aE h;cases h;refine ⟨by simp [b],z,_,rfl,fun H1 g h2=>?_⟩;unfold AH.st;rw [g,h2,b,e];simp only [f,cond_true]
theorem sW {o:AO} {f:Fr} {H H':AH} {r:j7} (c:fO o.o= .st) (h:aB o.o (X.ev f) H=some (r,H')):
 ∃b aX,dz o f=some b∧(H.get b).isSome=true∧H'=H.put b aX∧∀H1:AH,H1.get b=H.get b→H1.n0=H.n0→aB o.o (X.ev f) H1=some (r,H1.put b aX):=by
 obtain ⟨g,d,p⟩:=o;dsimp only at c h;unfold dz;dsimp only;cases p
 case sl sz x lo hi mx=>cases lo<;>simp [fO]at c
 case xt k l=>cases k<;>simp [fO]at c
 all_goals first
  |(simp [fO]at c;done)
  |skip
 case st n x v=>
  simp only [aB]at h⊢;split at h
  case h_2=>cases h
  rename_i a u;obtain ⟨j,h⟩:=aE h;simp only [avq]at h;obtain ⟨w,h2,e⟩:=h;cases e;obtain ⟨i,z,t,rfl,m⟩:=MS h2;refine ⟨a.block,some (.cells z t),rfl,i,rfl,fun H1 s q=>?_⟩;rw [j,cond_true,m H1 s q];rfl
theorem It {H:AH} {b sz:Nat} (h:H.get b=none):H.lS b sz=false:=by
 unfold AH.lS;rw [h]
theorem nN {o:AO} {s:Fr} {H H':AH} {r:j7} (w:fO o.o= .read) (h:aB o.o (X.ev s) H=some (r,H')):
 H'=H∧∀H1:AH,(∀b,dz o s=some b→(H.get b).isSome=true→H1.get b=H.get b)→H1.n0=H.n0→aB o.o (X.ev s) H1=some (r,H1):=by
 obtain ⟨g,d,p⟩:=o;dsimp only at w h;unfold dz;dsimp only;cases p
 case sl sz x lo hi mx=>
  simp only [aB,avq]at h⊢;obtain ⟨v,f,e⟩:=h;cases e;refine ⟨rfl,fun H1 j h2=>⟨v,?_,rfl⟩⟩;rw [←f];cases u:x.ev s<;>try rfl
  rename_i a len cap;rw [u]at f j;simp only [cw]at f⊢;split
  ·rfl
  ·cases a with
   |none=>rfl
   |some a=>
    rename_i l G m C;rw [C]at f;simp only at f⊢
    have n:(a.spot.isNone&&(Nat.beq l 0||H1.lS a.block sz))=(a.spot.isNone&&(Nat.beq l 0||H.lS a.block sz))∨H.get a.block=none:=by
     cases A:a.spot.isNone with
     |false=>left;simp
     |true=>
      cases i:H.get a.block with
      |none=>exact .inr rfl
      |some b=>
       left;have:=j a.block (by simp [A]) (by simp [i]);unfold AH.lS;rw [this]
    rcases n with n|n
    ·rw [n]
    ·obtain ⟨D,f⟩:=aE f
     rw [D];simp only [cond_true];split
     ·rfl
     ·rename_i B
      rw [if_neg B]at f;obtain ⟨t,f⟩:=aE f;rw [It n,Bool.or_false]at t;simp only [avj]at t;simp [t.1,t.2]
 case look kk z x k ok=>
  simp only [aB]at h⊢;cases u:x.ev s<;>simp only [u]at h⊢<;>try(cases h;done)
  rename_i y
  cases y with
  |none=>
   simp only at h⊢;obtain ⟨j,h⟩:=aE h;cases h;exact ⟨rfl,fun H1 _ _=>by rw [j];rfl⟩
  |some q=>
   simp only at h⊢
   cases i:H.get q with
   |none=>simp [i]at h
   |some b=>
    cases b with
    |cells z c=>simp [i]at h
    |map es=>
     simp only [i]at h;obtain ⟨j,h⟩:=aE h;refine ⟨?_,fun H1 F E=>?_⟩
     ·split at h<;>first|(cases h;rfl)|cases h
     ·have:=F q rfl (by simp [i])
      rw [this,i,E];simp only [j,cond_true];split at h
      ·cases h;rfl
      ·cases h;rfl
      ·cases h
 case xt k l=>cases k<;>simp [fO]at w
 all_goals first
  |(simp [fO]at w;done)
  |skip
theorem Iu:∀{a b:Value},dK a b=true→a=b:=by
 intro a b h;cases a<;>cases b<;>simp [dK]at h<;>simp_all;exact ByteArray.ext h
theorem tP:∀{a b:List Value},fI a b=true→a=b
 |[],[],_=>rfl
 |a::l,b::m,h=>by
  simp only [fI,avj]at h;rw [Iu h.1,tP h.2]
 |[],_::_,h=>by simp [fI]at h
 |_::_,[],h=>by simp [fI]at h
theorem FB {H:AH} {a:Addr} {vs:List Value} (h:sameAt H (a,vs)=true):H.ldn a vs.length=some vs:=by
 unfold sameAt at h;dsimp only at h;split at h
 ·rename_i m b
  rw [b,tP h]
 ·cases h
theorem Iv {x y:Option q7} (h:oP x y=true):x=y:=by
 unfold oP at h;split at h
 ·simp only [avj,Nat.beq_eq]at h
  rw [h.1,tP h.2]
 ·rfl
 ·cases h
open Go
theorem mW {n:Nat}:∀{l:List Nat},yW n l=true↔n∈l
 |[]=>by simp [yW]
 |x::l=>by
  simp only [yW,Bool.or_eq_true,nb,avs,avy];rw [mW (l:=l)];constructor
  ·rintro (h|h)
   ·exact .inl h.symm
   ·exact .inr h
  ·rintro (h|h)
   ·exact .inl h.symm
   ·exact .inr h
theorem mX {x y:AO} (h:kZ x y=true):(∀d,x.d=some d→d∉tmpsOf y)∧(∀d,x.d=some d→y.d≠some d):=by
 unfold kZ at h
 cases f:x.d with
 |none=>exact ⟨fun _ h=>(by cases h),fun _ h=>(by cases h)⟩
 |some d=>
  simp only [f,avj,Bool.not_eq_true']at h;refine ⟨fun e a=>?_,fun e a=>?_⟩
  ·cases a
   intro c;rw [mW.2 c]at h;cases h.1
  ·cases a
   intro b;rw [b]at h;simp at h
theorem Fr.kb {f:Fr} {d:Option Nat} {v:Value} {x:Nat}:(f.aT d v).get x=if d=some x then v else f.get x:=by
 cases d with
 |none=>simp [Fr.aT]
 |some k=>
  simp only [Fr.aT,Fr.bZ,avh];by_cases h:x=k
  ·simp [h]
  ·rw [if_neg h,if_neg (fun e=>h e.symm)]
inductive One (call:Cl) (o:AO) (fr:Fr) (H:AH) (x:Value) (H':AH):Prop where
 |off (h:o.wanted fr=false) (e:x=undef) (e2:H'=H)
 |val (h:o.wanted fr=true) (e:aB o.o (X.ev fr) H=some (.v x,H'))
 |call (h:o.wanted fr=true) (f:Nat) (as:List Value) (H1:AH) (e:aB o.o (X.ev fr) H=some (.enter f as,H1)) (e2:call f as H1=some (x,H'))
theorem eS {call:Cl} {o:AO} {b k:Fr} {H H':AH}:kW call o b H=some (k,H')↔∃x,k=b.aT o.d x∧One call o b H x H':=by
 unfold kW;constructor
 ·intro h
  cases a:o.wanted b with
  |false=>
   simp only [a,cond_false,avh,avo]at h;exact ⟨undef,h.1.symm,.off a rfl h.2.symm⟩
  |true=>
   simp only [a,cond_true]at h
   cases c:aB o.o (X.ev b) H with
   |none=>simp [c]at h
   |some l=>
    obtain ⟨res,j⟩:=l;simp only [c]at h
    cases res with
    |v x=>
     simp only [avh,avo]at h;obtain ⟨rfl,rfl⟩:=h;exact ⟨x,rfl,.val a c⟩
    |enter f as=>
     simp only at h
     cases g:call f as j with
     |none=>simp [g]at h
     |some r=>
      obtain ⟨x,m⟩:=r;simp only [g,avh,avo]at h;obtain ⟨rfl,rfl⟩:=h;exact ⟨x,rfl,.call a f as j c g⟩
 ·rintro ⟨x,rfl,h⟩
  cases h with
  |off h e i=>subst e;subst i;simp [h]
  |val h e=>simp [h,e]
  |call h f as j e i=>simp [h,e,i]
def sb (o:AO) (fr gv:Fr):Prop:=∀t∈tmpsOf o,gv.get t=fr.get t
theorem sb.ev {o:AO} {b a:Fr} (h:sb o b a):∀x∈o.o.xs,X.ev a x=X.ev b x:=by
 intro x c
 cases x with
 |t n=>
  exact h n (by
   unfold tmpsOf
   exact List.mem_append_right _ (List.mem_filterMap.2 ⟨.t n,c,rfl⟩))
 |k v=>rfl
 |f n=>rfl
theorem sb.wanted {o:AO} {fr a:Fr} (h:sb o fr a):o.wanted a=o.wanted fr:=by
 unfold AO.wanted
 cases d:o.g with
 |none=>rfl
 |some c=>
  obtain ⟨t,b⟩:=c;simp only;rw [h t (by unfold tmpsOf;rw [d];simp)]
theorem sb.one {call:Cl} {o:AO} {e d:Fr} {H H':AH} {x:Value} (h:sb o e d) (k:One call o e H x H'):One call o d H x H':=by
 have g:∀H,aB o.o (X.ev d) H=aB o.o (X.ev e) H:=fun H=>FA h.ev H
 cases k with
 |off a b c=>exact .off (h.wanted.trans a) b c
 |val a b=>exact .val (h.wanted.trans a) ((g _).trans b)
 |call a f as i b c=>exact .call (h.wanted.trans a) f as i ((g _).trans b) c
theorem Iw {o:AO} {fr b:Fr} (h:sb o fr b):dz o b=dz o fr:=by
 have a:=h.ev;unfold dz;cases c:o.o<;>simp only [c,cW.xs,avy,avQ,or_false,forall_eq_or_imp,forall_eq]at a⊢;all_goals (simp only [a])
structure qV (call:Cl) (O:Nat→AO) (n:Nat) (sF:Nat→Fr) (sH:Nat→AH) (tQ:Nat→Nat→Prop):Prop where
 step:∀t,t<n→kW call (O t) (sF t) (sH t)=some (sF (t+1),sH (t+1))
 n0:∀t,t<n→(sH (t+1)).n0=(sH t).n0
 nx:∀t,t<n→(sH t).nx≤(sH (t+1)).nx
 pair:∀p q,p<q→q<n→tQ p q∨(kZ (O p) (O q)=true∧kZ (O q) (O p)=true∧fi (fO (O p).o) (fO (O q).o)=true)
 c0:∀p q,p<q→q<n→¬ tQ p q→(O p).wanted (sF p)=true→(O q).wanted (sF q)=true→fO (O p).o= .load→fO (O q).o= .lu→
  ∃x,fB (O p) (sF p) (sH p)=some x∧sameAt (sH (q+1)) x=true
 c1:∀p q,p<q→q<n→¬ tQ p q→(O p).wanted (sF p)=true→(O q).wanted (sF q)=true→fO (O p).o= .alloc→fO (O q).o= .lu→
  (sH (q+1)).get (sH p).nx=(sH (p+1)).get (sH p).nx
 c2:∀p q,p<q→q<n→¬ tQ p q→(O p).wanted (sF p)=true→(O q).wanted (sF q)=true→(fO (O p).o= .load∨fO (O p).o= .read∨fO (O p).o= .st)→fO (O q).o= .st→
  ∀b b',dz (O p) (sF p)=some b→dz (O q) (sF q)=some b'→b≠b'
section
variable{call:Cl} {O:Nat→AO} {n:Nat} {sF:Nat→Fr} {sH:Nat→AH} {tQ:Nat→Nat→Prop} (R:qV call O n sF sH tQ)
include R
theorem qV.WT (t:Nat) (h:t≤n):(sH t).n0=(sH 0).n0:=by
 induction t with
 |zero=>rfl
 |succ t ih=>exact (R.n0 t (by omega)).trans (ih (by omega))
theorem qV.nxs {t:Nat} (k:Nat) (h:t+k≤n):(sH t).nx≤(sH (t+k)).nx:=by
 induction k with
 |zero=>exact avk _
 |succ k ih=>exact avC (ih (by omega)) (R.nx (t+k) (by omega))
theorem qV.jM {t u:Nat} (h:t≤u) (a:u≤n):(sH t).nx≤(sH u).nx:=by
 have:=R.nxs (t:=t) (u- t) (by omega);rwa [show t+(u- t)=u by omega]at this
omit R in
def xb (O:Nat→AO) (sF:Nat→Fr) (t:Nat):Value:=(sF (t+1)).get ((O t).d.getD 0)
omit R in
def xd (O:Nat→AO) (sF:Nat→Fr) (S:Nat→Bool):Nat→Fr
 |0=>sF 0
 |t+1=>bif S t then(xd O sF S t).aT (O t).d (xb O sF t)else xd O sF S t
theorem qV.frame {t:Nat} (a:t<n) (x:Nat):(sF (t+1)).get x=if(O t).d=some x then xb O sF t else(sF t).get x:=by
 obtain ⟨v,b,_⟩:=eS.1 (R.step t a);by_cases h:(O t).d=some x
 ·rw [if_pos h]
  unfold xb;rw [h];rfl
 ·rw [if_neg h,b,Fr.kb,if_neg h]
theorem qV.one {t:Nat} (a:t<n):∃x,One call (O t) (sF t) (sH t) x (sH (t+1))∧∀f:Fr,f.aT (O t).d x=f.aT (O t).d (xb O sF t):=by
 obtain ⟨v,b,e⟩:=eS.1 (R.step t a);refine ⟨v,e,fun f=>?_⟩
 cases c:(O t).d with
 |none=>rfl
 |some k=>
  have:xb O sF t=v:=by
   unfold xb;rw [b,c];simp [Fr.aT,Fr.bZ]
  rw [this]
omit R in
theorem xe {S S':Nat→Bool} {x m:Nat} (h:∀p,p<m→(O p).d=some x→S p=S' p):(xd O sF S m).get x=(xd O sF S' m).get x:=by
 induction m with
 |zero=>rfl
 |succ m ih=>
  have ih:=ih fun p b=>h p (by omega)
  simp only [xd];by_cases a:(O m).d=some x
  ·have:=h m (by omega) a
   rw [this];cases S' m
   ·exact ih
   ·simp only [cond_true,Fr.kb,if_pos a]
  ·cases S m<;>cases S' m<;>simp only [cond_true,cond_false,Fr.kb,if_neg a]<;>exact ih
omit R in
theorem tR {S:Nat→Bool} {x t m:Nat} (f:t≤m) (h:∀p,t≤p→p<m→S p=true→(O p).d≠some x):(xd O sF S m).get x=(xd O sF S t).get x:=by
 induction m with
 |zero=>obtain rfl:t=0:=by omega
        rfl
 |succ m ih=>
  rcases Nat.lt_or_ge m t with a|a
  · obtain rfl:t=m+1:=by omega
    rfl
  · have ih:=ih a fun p c b=>h p c (by omega)
    simp only [xd]
    cases e:S m with
    |false=>exact ih
    |true=>simp only [cond_true,Fr.kb,if_neg (h m a (by omega) e)];exact ih
theorem qV.Dq {m:Nat} (a:m≤n) (x:Nat):(xd O sF (fun _=>true) m).get x=(sF m).get x:=by
 induction m with
 |zero=>rfl
 |succ m ih=>
  rw [R.frame (by omega),xd,cond_true,Fr.kb,ih (by omega)]
omit R in
structure Yt (n:Nat) (tQ:Nat→Nat→Prop) (S:Nat→Bool) (t:Nat):Prop where
 lt:t<n
 out:S t=false
 rdy:∀p,p<t→tQ p t→S p=true
 cls:∀p q,p<q→q<n→S q=true→tQ p q→S p=true
variable{S:Nat→Bool} {t:Nat} (C:Yt n tQ S t)
include C
theorem qV.before {p:Nat} (a:p<t) (c:S p=false):¬ tQ p t∧kZ (O p) (O t)=true∧kZ (O t) (O p)=true∧fi (fO (O p).o) (fO (O t).o)=true:=by
 have b:¬ tQ p t:=fun h=>by rw [C.rdy p a h]at c;cases c
 exact ⟨b,(R.pair p t a C.lt).resolve_left b⟩
theorem qV.behind {p:Nat} (b:t<p) (a:p<n) (d:S p=true):¬ tQ t p∧kZ (O t) (O p)=true∧kZ (O p) (O t)=true∧fi (fO (O t).o) (fO (O p).o)=true:=by
 have c:¬ tQ t p:=fun h=>by have:=C.cls t p b a d h;rw [C.out]at this;cases this
 exact ⟨c,(R.pair t p b a).resolve_left c⟩
theorem qV.agree:sb (O t) (sF t) (xd O sF S n):=by
 intro x d;rw [tR (t:=t) (Nat.le_of_lt C.lt),←R.Dq (Nat.le_of_lt C.lt)]
 ·refine xe fun p b c=>?_
  cases a:S p with
  |true=>rfl
  |false=>exact absurd d ((mX (R.before C b a).2.1).1 x c)
 ·intro p b e a c
  rcases Nat.lt_or_eq_of_le b with h|h
  ·exact (mX (R.behind C h e a).2.2.1).1 x c d
  ·subst h;rw [C.out]at a;cases a
omit R C in
def ins (S:Nat→Bool) (t:Nat):Nat→Bool:=fun p=>bif Nat.beq p t then true else S p
omit R C in
theorem ij:ins S t t=true:=by simp [ins]
omit R C in
theorem jD {p:Nat} (h:p≠t):ins S t p=S p:=by
 unfold ins;rw [nb,decide_eq_false h];rfl
theorem qV.MU (x:Nat):(xd O sF (ins S t) n).get x=((xd O sF S n).aT (O t).d (xb O sF t)).get x:=by
 rw [Fr.kb];by_cases a:(O t).d=some x
 ·rw [if_pos a,tR (t:=t+1) C.lt]
  ·rw [xd,ij,cond_true,Fr.kb,if_pos a]
  ·intro p g f c
   rw [jD (by omega)]at c;have:=(mX (R.behind C (by omega) f c).2.1).2 x a;exact this
 ·rw [if_neg a]
  refine xe fun p g b=>?_
  exact jD (fun e=>a (e▸b))
end
end
section
open Go
inductive FC (O:Nat→AO) (sF:Nat→Fr) (sH:Nat→AH) (t b:Nat):Prop where
 |alloc (w:(O t).wanted (sF t)=true) (k:fO (O t).o= .alloc) (e:b=(sH t).nx)
 |st (w:(O t).wanted (sF t)=true) (k:fO (O t).o= .st) (e:dz (O t) (sF t)=some b)
 |lu (w:(O t).wanted (sF t)=true) (k:fO (O t).o= .lu)
open Classical in
noncomputable def gS (O:Nat→AO) (sF:Nat→Fr) (sH:Nat→AH) (S:Nat→Bool):Nat→Nat→Option q7
 |0=>(sH 0).raw
 |t+1=>fun b=>if S t=true∧FC O sF sH t b then(sH (t+1)).raw b else gS O sF sH S t b
noncomputable def gB (O:Nat→AO) (sF:Nat→Fr) (sH:Nat→AH) (S:Nat→Bool):Nat→Option (Nat×ByteArray)
 |0=>(sH 0).bs
 |t+1=>if S t=true∧(O t).wanted (sF t)=true∧fO (O t).o= .lu then(sH (t+1)).bs else gB O sF sH S t
noncomputable def yM (O:Nat→AO) (sF:Nat→Fr) (sH:Nat→AH) (S:Nat→Bool) (m nx:Nat):AH:=⟨gS O sF sH S m,(sH 0).n0,nx,.nil,gB O sF sH S m⟩
section
variable{call:Cl} {O:Nat→AO} {n:Nat} {sF:Nat→Fr} {sH:Nat→AH} {tQ:Nat→Nat→Prop}
theorem Dr (S:Nat→Bool) (m a b:Nat):(yM O sF sH S m a).raw b=gS O sF sH S m b:=rfl
theorem nO (S:Nat→Bool) (m a b:Nat) (h:b<a):(yM O sF sH S m a).get b=gS O sF sH S m b:=by
 rw [AH.fN (by exact h)];rfl
theorem Ds {S S':Nat→Bool} {b m:Nat} (h:∀p,p<m→FC O sF sH p b→S p=S' p):gS O sF sH S m b=gS O sF sH S' m b:=by
 induction m with
 |zero=>rfl
 |succ m ih=>
  have ih:=ih fun p c=>h p (by omega)
  simp only [gS];by_cases a:FC O sF sH m b
  ·rw [h m (by omega) a,ih]
  ·rw [if_neg (fun e=>a e.2),if_neg (fun e=>a e.2),ih]
theorem sX {S:Nat→Bool} {b t m:Nat} (f:t≤m) (h:∀p,t≤p→p<m→S p=true→¬ FC O sF sH p b):gS O sF sH S m b=gS O sF sH S t b:=by
 induction m with
 |zero=>obtain rfl:t=0:=by omega
        rfl
 |succ m ih=>
  rcases Nat.lt_or_ge m t with a|a
  · obtain rfl:t=m+1:=by omega
    rfl
  · have ih:=ih a fun p d c=>h p d (by omega)
    simp only [gS];rw [if_neg (fun e=>h m a (by omega) e.1 e.2),ih]
theorem Dt {S S':Nat→Bool} {m:Nat} (h:∀p,p<m→(O p).wanted (sF p)=true→fO (O p).o= .lu→S p=S' p):gB O sF sH S m=gB O sF sH S' m:=by
 induction m with
 |zero=>rfl
 |succ m ih=>
  have ih:=ih fun p b=>h p (by omega)
  simp only [gB];by_cases a:(O m).wanted (sF m)=true∧fO (O m).o= .lu
  ·rw [h m (by omega) a.1 a.2,ih]
  ·rw [if_neg (fun e=>a e.2),if_neg (fun e=>a e.2),ih]
theorem xf {S:Nat→Bool} {t m:Nat} (d:t≤m) (h:∀p,t≤p→p<m→S p=true→(O p).wanted (sF p)=true→fO (O p).o≠ .lu):gB O sF sH S m=gB O sF sH S t:=by
 induction m with
 |zero=>obtain rfl:t=0:=by omega
        rfl
 |succ m ih=>
  rcases Nat.lt_or_ge m t with a|a
  · obtain rfl:t=m+1:=by omega
    rfl
  · have ih:=ih a fun p c b=>h p c (by omega)
    simp only [gB];rw [if_neg (fun e=>h m a (by omega) e.1 e.2.1 e.2.2),ih]
variable(R:qV call O n sF sH tQ)
include R
theorem qV.S8 {t:Nat} (g:t<n) (h:¬ ((O t).wanted (sF t)=true∧fO (O t).o= .lu)):(sH (t+1)).bs=(sH t).bs:=by
 obtain ⟨x,i,_⟩:=R.one g
 cases i with
 |off a e d=>rw [d]
 |call a f as j e d=>exact absurd ⟨a,jV e⟩ h
 |val a e=>
  cases b:fO (O t).o with
  |pure=>rw [(nL b e).1]
  |load=>rw [(nM b e).1]
  |read=>rw [(nN b e).1]
  |lu=>exact absurd ⟨a,b⟩ h
  |alloc=>
   obtain ⟨aX,d,_⟩:=j9 b e;rw [d];rfl
  |st=>
   obtain ⟨c,aX,h2,_,d,_⟩:=sW b e;rw [d];rfl
theorem qV.Ix {m:Nat} (a:m≤n):gB O sF sH (fun _=>true) m=(sH m).bs:=by
 induction m with
 |zero=>rfl
 |succ m ih=>
  simp only [gB];by_cases h:(O m).wanted (sF m)=true∧fO (O m).o= .lu
  ·rw [if_pos (by first|exact ⟨rfl,h⟩|exact ⟨trivial,h⟩)]
  ·rw [if_neg (fun e=>h e.2),ih (by omega),R.S8 (by omega) h]
theorem qV.still {t:Nat} (j:t<n) {b:Nat} (h:¬ FC O sF sH t b):(sH (t+1)).raw b=(sH t).raw b:=by
 obtain ⟨x,k,_⟩:=R.one j
 cases k with
 |off a e g=>rw [g]
 |call a f as l e g=>exact absurd (.lu a (jV e)) h
 |val a e=>
  cases d:fO (O t).o with
  |pure=>rw [(nL d e).1]
  |load=>rw [(nM d e).1]
  |read=>rw [(nN d e).1]
  |lu=>exact absurd (.lu a d) h
  |alloc=>
   obtain ⟨aX,g,_⟩:=j9 d e;rw [g,AH.db,if_neg];exact fun i=>h (.alloc a d i)
  |st=>
   obtain ⟨c,aX,h2,_,g,_⟩:=sW d e;rw [g,AH.dm,if_neg];intro i;subst i;exact h (.st a d h2)
theorem qV.Iy {m:Nat} (a:m≤n) (b:Nat):gS O sF sH (fun _=>true) m b=(sH m).raw b:=by
 induction m with
 |zero=>rfl
 |succ m ih=>
  simp only [gS];by_cases h:FC O sF sH m b
  ·rw [if_pos ⟨rfl,h⟩]
  ·rw [if_neg (fun e=>h e.2),ih (by omega),R.still (by omega) h]
theorem qV.eP {t:Nat} (c:t<n) (w:(O t).wanted (sF t)=true) (k:fO (O t).o= .alloc):(sH (t+1)).nx=(sH t).nx+1:=by
 obtain ⟨x,d,_⟩:=R.one c
 cases d with
 |off a e b=>rw [w]at a;cases a
 |call a f as g e b=>rw [jV e]at k;cases k
 |val a e=>
  obtain ⟨aX,b,_⟩:=j9 k e;rw [b];rfl
structure Dom (O:Nat→AO) (n:Nat) (sF:Nat→Fr) (sH:Nat→AH) (S:Nat→Bool) (Dm:Nat→Prop):Prop where
 Iz:∀b,Dm b→b<(sH 0).nx∨∃t,t<n∧S t=true∧(sH t).nx≤b∧b<(sH (t+1)).nx
 sts:∀p,p<n→S p=true→(O p).wanted (sF p)=true→fO (O p).o= .st→∀b,dz (O p) (sF p)=some b→Dm b
variable{S:Nat→Bool} {Dm:Nat→Prop} (D:Dom O n sF sH S Dm)
include D
theorem qV.xg {p:Nat} (c:p<n) (d:S p=false) (w:(O p).wanted (sF p)=true) (k:fO (O p).o= .alloc):¬ Dm (sH p).nx:=by
 intro h;rcases D.Iz _ h with h|⟨t,e,b,f,h2⟩
 ·have:=R.jM (avI p) (by omega);omega
 ·rcases Nat.lt_trichotomy t p with a|a|a
  ·have:=R.jM (show t+1≤p by omega) (by omega);omega
  ·subst a;rw [d]at b;cases b
  ·have:=R.jM (show p+1≤t by omega) (by omega)
   rw [R.eP c w k]at this;omega
variable{t:Nat} (C:Yt n tQ S t)
include C
theorem qV.ahead {b:Nat} (j:Dm b) (h:∀p,p<t→S p=false→(O p).wanted (sF p)=true→fO (O p).o= .st→fO (O t).o= .st→dz (O p) (sF p)≠some b):gS O sF sH S t b=(sH t).raw b:=by
 rw [←R.Iy (Nat.le_of_lt C.lt)];refine Ds fun p d g=>?_
 cases f:S p with
 |true=>rfl
 |false=>
  exfalso;obtain ⟨_,_,_,a⟩:=R.before C d f;have i:p<n:=Nat.lt_trans d C.lt
  cases g with
  |alloc w k e=>subst e;exact R.xg D i f w k j
  |st w k e=>
   rw [k]at a
   cases c:fO (O t).o<;>rw [c]at a<;>first
    |(simp [fi,A0.kY]at a;done)
    |exact h p d f w k c e
  |lu w k=>
   rw [k]at a;cases c:fO (O t).o<;>rw [c]at a<;>simp [fi,A0.kY]at a
theorem qV.load {a:Addr} {vs:List Value} (w:(O t).wanted (sF t)=true) (k:fO (O t).o= .load) (A:fB (O t) (sF t) (sH t)=some (a,vs)) (E:dz (O t) (sF t)=some a.block) (f:(sH t).ldn a vs.length=some vs) (B:Dm a.block):
 (yM O sF sH S n (sH n).nx).ldn a vs.length=some vs:=by
 have l:a.block<(sH t).nx:=by
  obtain ⟨x,s⟩:=avS.1 (dM f).1;exact AH.bc s
 have key:∀m,t≤m→m≤n→(yM O sF sH S m (sH n).nx).ldn a vs.length=some vs:=by
  intro m z
  induction m with
  |zero=>
   intro v;obtain rfl:t=0:=by omega
   rw [←f];refine fP ?_ rfl;rw [nO _ _ _ _ (by have:=R.jM (avI n) (avk _);omega),AH.fN l];rfl
  |succ m ih=>
   intro v;rcases Nat.lt_or_eq_of_le z with q|q
   ·have ih:=ih (by omega) (by omega)
    have h:a.block<(sH n).nx:=by have:=R.jM (Nat.le_of_lt C.lt) (avk _);omega
    by_cases b:S m=true∧FC O sF sH m a.block
    ·obtain ⟨b,u⟩:=b
     have g:t<m:=by
      rcases Nat.lt_or_eq_of_le (show t≤m by omega)with h2|h2
      ·exact h2
      ·subst h2;rw [C.out]at b;cases b
     obtain ⟨j,_,_,y⟩:=R.behind C g (by omega) b
     cases u with
     |alloc c d e=>
      have:=R.jM (show t≤m by omega) (by omega);omega
     |st c d e=>exact absurd rfl (R.c2 t m g (by omega) j w c (.inl k) d a.block a.block E e)
     |lu c d=>
      obtain ⟨x,r,G⟩:=R.c0 t m g (by omega) j w c k d;rw [A]at r;cases r;have F:=FB G;rw [←F];refine fP ?_ (R.WT (m+1) (by omega)).symm;rw [nO _ _ _ _ h];have:a.block<(sH (m+1)).nx:=by have:=R.jM (show t≤m+1 by omega) (by omega);omega
      rw [AH.fN this];simp only [gS];rw [if_pos ⟨b,.lu c d⟩]
    ·rw [←ih]
     refine fP ?_ rfl;rw [nO _ _ _ _ h,nO _ _ _ _ h];simp only [gS];rw [if_neg b]
   ·subst q
    rw [←f];refine fP ?_ (R.WT _ (by omega)).symm;rw [nO _ _ _ _ (by have:=R.jM (show m+1≤n by omega) (avk _);omega),AH.fN l];exact R.ahead D C B fun p H b c d i=>by rw [k]at i;cases i
 exact key n (Nat.le_of_lt C.lt) (avk _)
theorem qV.look {b:Nat} (w:(O t).wanted (sF t)=true) (k:fO (O t).o= .read∨fO (O t).o= .st) (l:dz (O t) (sF t)=some b) (hs:((sH t).get b).isSome=true) (u:Dm b):
 (yM O sF sH S n (sH n).nx).get b=(sH t).get b:=by
 have s:b<(sH t).nx:=by
  obtain ⟨x,q⟩:=avS.1 hs;exact AH.bc q
 rw [nO _ _ _ _ (by have:=R.jM (Nat.le_of_lt C.lt) (avk _);omega),AH.fN s,sX (t:=t) (Nat.le_of_lt C.lt)]
 ·refine R.ahead D C u fun p g f c a m e=>?_
  obtain ⟨h,_⟩:=R.before C g f;exact absurd rfl (R.c2 p t g C.lt h c w (.inr (.inr a)) m b b e l)
 ·intro p g j f r
  have d:t<p:=by
   rcases Nat.lt_or_eq_of_le g with h2|h2
   ·exact h2
   ·subst h2;rw [C.out]at f;cases f
  obtain ⟨h,_,_,i⟩:=R.behind C d j f
  cases r with
  |alloc c a e=>
   have:=R.jM (show t≤p by omega) (by omega);omega
  |st c a e=>
   exact absurd rfl (R.c2 t p d j h w c (.inr k) a b b l e)
  |lu c a=>
   rw [a]at i;rcases k with k|k<;>rw [k]at i<;>simp [fi,A0.kY]at i
omit R D C in
theorem ri {b:Nat} (h:¬ FC O sF sH t b):gS O sF sH (ins S t) n b=gS O sF sH S n b:=
 Ds fun p c a=>jD (fun e=>h (e▸a))
theorem qV.tS {b:Nat} (h:FC O sF sH t b):gS O sF sH (ins S t) n b=(sH (t+1)).raw b:=by
 have stop:(∀p,t<p→p<n→S p=true→¬ FC O sF sH p b)→gS O sF sH (ins S t) n b=(sH (t+1)).raw b:=by
  intro u;rw [sX (t:=t+1) C.lt]
  ·simp only [gS]
   rw [if_pos ⟨ij,h⟩]
  ·intro p i g a
   rw [jD (by omega)]at a;exact u p (by omega) g a
 cases h with
 |lu w k=>
  refine stop fun p i g a l=>?_
  obtain ⟨q,_,_,d⟩:=R.behind C i g a;rw [k]at d;cases s:fO (O p).o<;>rw [s]at d<;>simp [fi,A0.kY]at d
 |st w k e=>
  refine stop fun p i g a l=>?_
  obtain ⟨q,_,_,d⟩:=R.behind C i g a
  cases l with
  |alloc f c j=>rw [k,c]at d;simp [fi,A0.kY]at d
  |lu f c=>rw [k,c]at d;simp [fi,A0.kY]at d
  |st f c j=>exact absurd rfl (R.c2 t p i g q w f (.inr (.inr k)) c b b e j)
 |alloc w k e=>
  have key:∀m,t+1≤m→m≤n→gS O sF sH (ins S t) m b=(sH (t+1)).raw b:=by
   intro m d
   induction m with
   |zero=>omega
   |succ m ih=>
    intro x;rcases Nat.lt_or_eq_of_le d with v|v
    ·have ih:=ih (by omega) (by omega)
     simp only [gS];by_cases a:ins S t m=true∧FC O sF sH m b
     ·rw [if_pos a]
      obtain ⟨a,l⟩:=a;rw [jD (by omega)]at a;obtain ⟨q,_,_,_⟩:=R.behind C (show t<m by omega) (by omega) a
      cases l with
      |alloc f c j=>
       have h2:=R.jM (show t+1≤m by omega) (by omega);rw [R.eP C.lt w k]at h2;omega
      |st f c j=>
       have:=D.sts m (by omega) a f c b j;subst e;exact absurd this (R.xg D C.lt C.out w k)
      |lu f c=>
       have r:=R.c1 t m (by omega) (by omega) q w f k c;have h2:=R.eP C.lt w k;have y:=R.jM (show t+1≤m+1 by omega) (by omega);rw [AH.fN (by omega),AH.fN (by omega)]at r;rw [e];exact r
     ·rw [if_neg a,ih]
    ·have:m=t:=by omega
     subst this;simp only [gS];rw [if_pos ⟨ij,.alloc w k e⟩]
  exact key n C.lt (avk _)
end
end
section
open Go
section
variable{call:Cl} {O:Nat→AO} {n:Nat} {sF:Nat→Fr} {sH:Nat→AH} {tQ:Nat→Nat→Prop}
structure Step (call:Cl) (O:Nat→AO) (n:Nat) (sF:Nat→Fr) (sH:Nat→AH) (S:Nat→Bool) (Dm:Nat→Prop) (t:Nat) (Hx Hy:AH):Prop where
 run:kW call (O t) (xd O sF S n) Hx=some ((xd O sF S n).aT (O t).d (xb O sF t),Hy)
 pre:∀b,Dm b→Hx.raw b=gS O sF sH S n b
 n0x:Hx.n0=(sH 0).n0
 post:∀b,gS O sF sH (ins S t) n b=Hy.raw b
 n0y:Hy.n0=(sH 0).n0
 bsx:Hx.bs=gB O sF sH S n
 bsy:gB O sF sH (ins S t) n=Hy.bs
 lo:(sH 0).nx≤Hx.nx
 hi:Hy.nx≤(sH n).nx
 out:¬ Dm Hx.nx
 fresh:fO (O t).o= .lu→∀b,Hx.nx≤b→¬ Dm b
 new:∀b,Hx.nx≤b→b<Hy.nx→(sH t).nx≤b∧b<(sH (t+1)).nx
variable(R:qV call O n sF sH tQ) {S:Nat→Bool} {Dm:Nat→Prop} (D:Dom O n sF sH S Dm) {t:Nat} (C:Yt n tQ S t)
include R D
theorem qV.sY {b:Nat} (h:(sH n).nx≤b):¬ Dm b:=by
 intro a;rcases D.Iz b a with c|⟨p,d,_,c,h2⟩
 ·have:=R.jM (avI n) (avk _);omega
 ·have:=R.jM (show p+1≤n by omega) (avk _);omega
include C
omit R D C in
theorem BC (h:¬ ((O t).wanted (sF t)=true∧fO (O t).o= .lu)):gB O sF sH (ins S t) n=gB O sF sH S n:=
 Dt fun p _ w k=>jD (fun e=>h (e▸⟨w,k⟩))
theorem qV.same {x:Value} (c:∀f:Fr,f.aT (O t).d x=f.aT (O t).d (xb O sF t)) (a:∀b,¬ FC O sF sH t b)
 (h:One call (O t) (sF t) (yM O sF sH S n (sH n).nx) x (yM O sF sH S n (sH n).nx)):Step call O n sF sH S Dm t (yM O sF sH S n (sH n).nx) (yM O sF sH S n (sH n).nx)where
 run:=eS.2 ⟨x,(c _).symm,(R.agree C).one h⟩
 pre:=fun b _=>rfl
 n0x:=rfl
 post:=fun b=>ri (a b)
 n0y:=rfl
 bsx:=rfl
 bsy:=BC fun e=>a 0 (.lu e.1 e.2)
 lo:=R.jM (avI n) (avk _)
 hi:=avk _
 out:=R.sY D (avk _)
 fresh:=fun _ b g=>R.sY D g
 new:=fun b i h2=>by omega
theorem qV.S9 (I:(O t).wanted (sF t)=true→∀b,dz (O t) (sF t)=some b→Dm b):∃L Hy,Step call O n sF sH S Dm t L Hy:=by
 obtain ⟨x,z,r⟩:=R.one C.lt;have Y:=R.jM (show t+1≤n from C.lt) (avk _);have X:=R.jM (show t≤n by have:=C.lt;omega) (avk _);have Q:=R.jM (avI t) (Nat.le_of_lt C.lt);have N:(yM O sF sH S n (sH n).nx).n0=(sH t).n0:=(R.WT t (Nat.le_of_lt C.lt)).symm
 have T:(O t).wanted (sF t)=true→fO (O t).o= .lu→∃L Hy,Step call O n sF sH S Dm t L Hy:=by
  intro w k
  have B:∀p,t<p→p<n→S p=true→False:=by
   intro p l u g;obtain ⟨_,_,_,y⟩:=R.behind C l u g;rw [k]at y;cases d:fO (O p).o<;>rw [d]at y<;>simp [fi,A0.kY]at y
  have fresh:∀b,(sH t).nx≤b→¬ Dm b:=by
   intro b j W;rcases D.Iz b W with h2|⟨p,l,g,h2,q⟩
   ·omega
   ·rcases Nat.lt_trichotomy p t with i|i|i
    ·have:=R.jM (show p+1≤t by omega) (Nat.le_of_lt C.lt);omega
    ·subst i;rw [C.out]at g;cases g
    ·exact B p i l g
  have K:(sH t).bs=gB O sF sH S n:=by
   rw [xf (t:=t) (Nat.le_of_lt C.lt),←R.Ix (Nat.le_of_lt C.lt)]
   ·refine Dt fun p l F E=>?_
    cases g:S p with
    |true=>rfl
    |false=>
     obtain ⟨_,_,_,y⟩:=R.before C l g;rw [k,E]at y;simp [fi,A0.kY]at y
   ·intro p l u g F E
    rcases Nat.lt_or_eq_of_le l with i|i
    ·exact B p i u g
    ·subst i;rw [C.out]at g;cases g
  have J:gB O sF sH (ins S t) n=(sH (t+1)).bs:=by
   rw [xf (t:=t+1) C.lt]
   ·simp only [gB]
    rw [if_pos ⟨ij,w,k⟩]
   ·intro p l u g F E
    rw [jD (by omega)]at g;exact B p (by omega) u g
  refine ⟨sH t,sH (t+1),?_,?_,R.WT t (Nat.le_of_lt C.lt),?_,R.WT (t+1) C.lt,K,J,Q,Y,fresh _ (avk _),fun _=>fresh,fun b h2 q=>⟨h2,q⟩⟩
  ·exact eS.2 ⟨x,(r _).symm,(R.agree C).one z⟩
  ·intro b j
   rw [sX (t:=t) (Nat.le_of_lt C.lt)]
   ·exact (R.ahead D C j fun p l g F E M=>by rw [k]at M;cases M).symm
   ·intro p l u g
    rcases Nat.lt_or_eq_of_le l with i|i
    ·exact (B p i u g).elim
    ·subst i;rw [C.out]at g;cases g
  ·intro b
   exact R.tS D C (.lu w k)
 cases z with
 |off w e A=>
  exact ⟨_,_,R.same D C r (fun b s=>by
   have:(O t).wanted (sF t)=true:=by cases s<;>assumption
   rw [w]at this
   cases this) (.off w e rfl)⟩
 |call w f as H1 e A=>exact T w (jV e)
 |val w e=>
  have quiet:(fO (O t).o≠ .alloc)→(fO (O t).o≠ .st)→(fO (O t).o≠ .lu)→∀b,¬ FC O sF sH t b:=by
   intro h2 q i b s
   cases s with
   |alloc _ k _=>exact h2 k
   |st _ k _=>exact q k
   |lu _ k=>exact i k
  cases d:fO (O t).o with
  |lu=>exact T w d
  |pure=>
   exact ⟨_,_,R.same D C r (quiet (by simp [d]) (by simp [d]) (by simp [d])) (.val w ((nL d e).2 _))⟩
  |load=>
   obtain ⟨_,a,Z,V,m,U,v⟩:=nM d e;exact ⟨_,_,R.same D C r (quiet (by simp [d]) (by simp [d]) (by simp [d])) (.val w (v _ (R.load D C w d V m U (I w _ m))))⟩
  |read=>
   obtain ⟨_,v⟩:=nN d e;exact ⟨_,_,R.same D C r (quiet (by simp [d]) (by simp [d]) (by simp [d])) (.val w (v _ (fun b m G=>R.look D C w (.inl d) m G (I w _ m)) N))⟩
  |st=>
   obtain ⟨c,aX,m,G,A,v⟩:=sW d e;have q:=v (yM O sF sH S n (sH n).nx) (R.look D C w (.inr d) m G (I w _ m)) N;have H:One call (O t) (sF t) (yM O sF sH S n (sH n).nx) x ((yM O sF sH S n (sH n).nx).put c aX):=.val w q;refine ⟨_,_,eS.2 ⟨x,(r _).symm,(R.agree C).one H⟩,fun b _=>rfl,rfl,fun b=>?_,rfl,rfl,BC (fun e=>by rw [d]at e;cases e.2),R.jM (avI n) (avk _),avk _,R.sY D (avk _),fun _ b j=>R.sY D j,fun b z h2=>?_⟩
   ·rw [AH.dm]
    by_cases j:b=c
    ·subst j
     rw [if_pos rfl,R.tS D C (.st w d m),A,AH.dm,if_pos rfl]
    ·rw [if_neg j,ri]
     ·rfl
     ·intro s
      cases s with
      |alloc _ k _=>rw [d]at k;cases k
      |lu _ k=>rw [d]at k;cases k
      |st _ _ e=>rw [m]at e;cases e;exact j rfl
   ·have:b<(sH n).nx:=h2
    have:(sH n).nx≤b:=z;omega
  |alloc=>
   obtain ⟨aX,A,v⟩:=j9 d e;have q:=v (yM O sF sH S n (sH t).nx) rfl;have H:One call (O t) (sF t) (yM O sF sH S n (sH t).nx) x ((yM O sF sH S n (sH t).nx).alloc aX):=.val w q;have rj:=R.eP C.lt w d;refine ⟨_,_,eS.2 ⟨x,(r _).symm,(R.agree C).one H⟩,fun b _=>rfl,rfl,fun b=>?_,rfl,rfl,BC (fun e=>by rw [d]at e;cases e.2),Q,?_,R.xg D C.lt C.out w d,fun h=>?_,fun b z h2=>?_⟩
   ·rw [AH.db]
    by_cases j:b=(yM O sF sH S n (sH t).nx).nx
    ·have P:b=(sH t).nx:=j
     rw [if_pos j,R.tS D C (.alloc w d P),A,AH.db,if_pos P]
    ·rw [if_neg j,ri]
     ·rfl
     ·intro s
      cases s with
      |alloc _ k e=>exact j e
      |lu _ k=>rw [d]at k;cases k
      |st _ k e=>rw [d]at k;cases k
   ·show(sH t).nx+1≤_
    omega
   ·rw [d]at h;cases h
   ·have tG:(sH t).nx≤b:=z
    have y6:b<(sH t).nx+1:=h2;omega
end
end
section
open Go
theorem xh {α:Type}:∀(l:List α) (n:Nat),nth l n=l[n]?
 |[],n=>by simp [nth]
 |x::l,0=>by simp [nth]
 |x::l,n+1=>by simp [nth,xh l n]
theorem rk {call:Cl}:∀(l:List AO) (a:Fr) (H:AH) (b:List (Fr×AH)),kX call l a H=some b→
 b.length=l.length∧ie (a,H) b=(((a,H)::b)[l.length]?).getD (a,H)∧
 ∀t o,l[t]?=some o→∃s d,((a,H)::b)[t]?=some s∧((a,H)::b)[t+1]?=some d∧kW call o s.1 s.2=some d
 |[],a,H,b,h=>by
  simp only [kX,avh]at h;subst h;exact ⟨rfl,rfl,fun t o h=>(by simp at h)⟩
 |o::l,a,H,b,h=>by
  simp only [kX]at h
  cases f:kW call o a H with
  |none=>simp [f]at h
  |some r=>
   obtain ⟨g,i⟩:=r;simp only [f]at h
   cases h2:kX call l g i with
   |none=>simp [h2]at h
   |some c=>
    simp only [h2,avh]at h;subst h;obtain ⟨j,p,n⟩:=rk l g i c h2;refine ⟨by simp [j],?_,fun t k e=>?_⟩
    ·simp only [ie,p,List.length_cons,List.getElem?_cons_succ]
     cases m:((g,i)::c)[l.length]? with
     |some q=>rfl
     |none=>
      have:=List.getElem?_eq_none_iff.1 m;simp only [List.length_cons,j]at this;omega
    ·cases t with
     |zero=>
      simp only [avf,avh]at e;subst e;exact ⟨_,_,rfl,rfl,f⟩
     |succ t=>
      obtain ⟨s,d,w,v,u⟩:=n t k (by simpa using e);exact ⟨s,d,by simpa using w,by simpa using v,u⟩
theorem pA:∀(l:List (Fr×AH)),chain l=true→∀t s c,l[t]?=some s→l[t+1]?=some c→c.2.n0=s.2.n0∧s.2.nx≤c.2.nx
 |[],_,t,s,c,h,_=>by simp at h
 |[a],_,t,s,c,_,h=>by simp at h
 |a::b::l,d,t,s,c,e,h2=>by
  simp only [chain,avj,nb,avs,Nat.ble_eq]at d
  cases t with
  |zero=>
   simp at e h2;subst e;subst h2;exact ⟨d.1.1.symm,d.1.2⟩
  |succ t=>exact pA (b::l) d.2 t s c (by simpa using e) (by simpa using h2)
theorem lU {l:List AO} {f:List (List Nat)}:∀(ord:List Nat) (am:List (Nat×Nat)) (t:Nat) (r:Row),(mV l f ord am)[t]?=some r→
 l[r.j]?=some r.o∧r.k=fO r.o.o∧f[r.j]?=some r.dep∧
  ∀i,r.m.testBit i=true→∃e∈r.dep,e=i∨(∃q<t,∃r':Row,(mV l f ord am)[q]?=some r'∧r'.j=e∧r'.m.testBit i=true)∨(vV e am).testBit i=true
 |[],am,t,r,h=>by simp [mV]at h
 |j::ord,am,t,r,h=>by
  simp only [mV]at h⊢
  cases c:nth l j with
  |none=>simp [c]at h
  |some o=>
   cases n:nth f j with
   |none=>simp [c,n]at h
   |some d=>
    simp only [c,n]at h⊢
    cases t with
    |zero=>
     simp only [avf,avh]at h;subst h;refine ⟨by rw [←xh];exact c,rfl,by rw [←xh];exact n,fun i hi=>?_⟩
     have key:∀(d:List Nat),(pr am d).testBit i=true→∃e∈d,e=i∨(vV e am).testBit i=true:=by
      intro d
      induction d with
      |nil=>intro h;simp [pr]at h
      |cons e d ih=>
       intro h;simp only [pr,Nat.testBit_or,Bool.or_eq_true]at h;rcases h with h|h|h
       ·obtain ⟨y,b,h2⟩:=ih h
        exact ⟨y,List.mem_cons_of_mem _ b,h2⟩
       ·refine ⟨e,List.mem_cons_self,.inl ?_⟩
        rw [Nat.one_shiftLeft,Nat.testBit_two_pow]at h
        simpa using h
       ·exact ⟨e,List.mem_cons_self,.inr h⟩
     obtain ⟨e,b,h2⟩:=key d hi;exact ⟨e,b,h2.imp id .inr⟩
    |succ t=>
     simp only [List.getElem?_cons_succ]at h;obtain ⟨b,h2,x,w⟩:=lU ord _ t r h;refine ⟨b,h2,x,fun i hi=>?_⟩;obtain ⟨e,p,a⟩:=w i hi;refine ⟨e,p,?_⟩;rcases a with a|⟨q,z,r',v,u,s⟩|a
     ·exact .inl a
     ·exact .inr (.inl ⟨q+1,by omega,r',by simpa using v,u,s⟩)
     ·simp only [vV,nb,Bool.cond_decide]at a
      split at a
      ·rename_i g
       exact .inr (.inl ⟨0,by omega,_,rfl,g,a⟩)
      ·exact .inr (.inr a)
theorem tT:∀(rs:List Row) (done:List Nat),Da rs done=true→∀(t:Nat) (r:Row),rs[t]?=some r→
 (r.j∉done∧∀(q:Nat) (r':Row),q<t→rs[q]?=some r'→r'.j≠r.j)∧∀e∈r.dep,e∈done∨∃q<t,∃r':Row,rs[q]?=some r'∧r'.j=e
 |[],_,_,t,r,h=>by simp at h
 |y::rs,done,h,t,r,a=>by
  simp only [Da,avj,Bool.not_eq_true',avw]at h;obtain ⟨⟨k,h2⟩,p⟩:=h
  cases t with
  |zero=>
   simp only [avf,avh]at a;subst a;refine ⟨⟨fun c=>?_,fun q _ g=>by omega⟩,fun e d=>.inl (mW.1 (h2 e d))⟩;rw [mW.2 c]at k;cases k
  |succ t=>
   simp only [List.getElem?_cons_succ]at a;obtain ⟨⟨i,o⟩,n⟩:=tT rs _ p t r a;refine ⟨⟨fun c=>i (List.mem_cons_of_mem _ c),fun q r' g b=>?_⟩,fun e d=>?_⟩
   ·cases q with
    |zero=>
     simp only [avf,avh]at b;subst b;exact fun e=>i (by rw [←e];exact List.mem_cons_self)
    |succ q=>exact o q r' (by omega) (by simpa using b)
   ·rcases n e d with f|⟨q,g,r',m,l⟩
    ·rcases avy.1 f with rfl|f
     ·exact .inr ⟨0,by omega,y,rfl,rfl⟩
     ·exact .inl f
    ·exact .inr ⟨q+1,by omega,r',by simpa using m,l⟩
theorem Dv:∀(rs:List Row),pw rs=true→∀(p q:Nat) (x y:Row),p<q→rs[p]?=some x→rs[q]?=some y→HJ x y=true
 |[],_,p,q,x,y,_,h,_=>by simp at h
 |z::rs,h,p,q,x,y,c,b,a=>by
  simp only [pw,avj,avw]at h
  cases q with
  |zero=>omega
  |succ q=>
   simp only [List.getElem?_cons_succ]at a
   cases p with
   |zero=>
    simp only [avf,avh]at b;subst b;exact h.1 y (avl a)
   |succ p=>exact Dv rs h.2 p q x y (by omega) (by simpa using b) a
theorem sg {p:Nat} {x:Row}:∀(rs:List Row) (a q:Nat) (y:Row),rs[q]?=some y→∀c∈Bq p (a+q) x y,c∈wX p x a rs
 |[],a,q,y,h,c,_=>by simp at h
 |z::rs,a,q,y,h,c,b=>by
  simp only [wX]
  cases q with
  |zero=>
   simp only [avf,avh]at h;subst h;exact List.mem_append_left _ (by simpa using b)
  |succ q=>
   exact List.mem_append_right _ (sg rs (a+1) q y (by simpa using h) c (by rwa [show a+1+q=a+(q+1) by omega]))
theorem tU:∀(rs:List Row) (a p q:Nat) (x y:Row),p<q→rs[p]?=some x→rs[q]?=some y→∀c∈Bq (a+p) (a+q) x y,c∈vW a rs
 |[],_,p,q,x,y,_,h,_,_,_=>by simp at h
 |z::rs,a,p,q,x,y,e,d,b,c,f=>by
  simp only [vW]
  cases q with
  |zero=>omega
  |succ q=>
   simp only [List.getElem?_cons_succ]at b
   cases p with
   |zero=>
    simp only [avf,avh]at d;subst d;exact List.mem_append_left _ (sg rs (a+1) q y b c (by rwa [show a+1+q=a+(q+1) by omega]))
   |succ p=>
    refine List.mem_append_right _ (tU rs (a+1) p q x y (by omega) (by simpa using d) b c ?_);rwa [show a+1+p=a+(p+1) by omega,show a+1+q=a+(q+1) by omega]
theorem IB {n i:Nat} (h:i<n):i∈My n:=by
 induction n with
 |zero=>omega
 |succ n ih=>
  simp only [My,avy];by_cases e:i=n
  ·exact .inl e
  ·exact .inr (ih (by omega))
def Yw:Row:=⟨⟨none,none,.mkmap⟩,.pure,0,[],0⟩
def rowAt (rs:List Row) (t:Nat):Row:=(rs[t]?).getD Yw
def Yx (rs:List Row) (p q:Nat):Prop:=(rowAt rs q).m.testBit (rowAt rs p).j=true
theorem cB {rs:List Row} {t:Nat} (h:t<rs.length):rs[t]?=some (rowAt rs t):=by
 unfold rowAt;rw [avg h];rfl
def Hj (s0:Fr×AH) (ss:List (Fr×AH)) (t:Nat):Fr:=(((s0::ss)[t]?).getD s0).1
def BD (s0:Fr×AH) (ss:List (Fr×AH)) (t:Nat):AH:=(((s0::ss)[t]?).getD s0).2
theorem Tb {call:Cl} {rs:List Row} (u:∀(t:Nat) (r:Row),rs[t]?=some r→r.k=fO r.o.o) (K:pw rs=true) {d:Fr} {H:AH} {a:List (Fr×AH)} (P:kX call (rs.map (·.o)) d H=some a) (D:chain ((d,H)::a)=true)
 (L:(vW 0 rs).all (lr (rs.map (·.o)) ((d,H)::a))=true):
 qV call (fun t=>(rowAt rs t).o) rs.length (Hj (d,H) a) (BD (d,H) a) (Yx rs):=by
 obtain ⟨C,_,J⟩:=rk _ _ _ _ P
 have st:∀t,t<rs.length→∃s s',((d,H)::a)[t]?=some s∧((d,H)::a)[t+1]?=some s'∧kW call (rowAt rs t).o s.1 s.2=some s':=
  fun t v=>J t (rowAt rs t).o (by rw [avK,cB v];rfl)
 have w:∀p q,p<q→q<rs.length→∀c∈Bq p q (rowAt rs p) (rowAt rs q),lr (rs.map (·.o)) ((d,H)::a) c=true:=by
  intro p q f e c M;exact avw.1 L c (tU rs 0 p q _ _ f (cB (by omega)) (cB e) c (by simpa using M))
 have un:∀p q k,p<q→q<rs.length→(rowAt rs p).o.wanted (Hj (d,H) a p)=true→(rowAt rs q).o.wanted (Hj (d,H) a q)=true→lr (rs.map (·.o)) ((d,H)::a) (k,p,q)=true→
  (match k with
   |0=>match fB (rowAt rs p).o (Hj (d,H) a p) (BD (d,H) a p)with|some x=>sameAt (BD (d,H) a (q+1)) x|none=>false
   |1=>oP ((BD (d,H) a (p+1)).get (BD (d,H) a p).nx) ((BD (d,H) a (q+1)).get (BD (d,H) a p).nx)
   |_=>match dz (rowAt rs p).o (Hj (d,H) a p),dz (rowAt rs q).o (Hj (d,H) a q)with|some b,some E=>!Nat.beq b E|_,_=>true)=true:=by
  intro p q k f e wp l h;obtain ⟨V,U,B,G,_⟩:=st p (by omega);obtain ⟨T,S,A,F,_⟩:=st q e;have R:(rs.map (·.o))[p]?=some (rowAt rs p).o:=by rw [avK,cB (by omega)];rfl
  have Q:(rs.map (·.o))[q]?=some (rowAt rs q).o:=by rw [avK,cB e];rfl
  unfold Hj BD at*;rw [B,Option.getD_some]at wp;rw [A,Option.getD_some]at l;unfold lr at h;simp only [xh,R,Q,B,G,A,F,wp,l,Bool.not_true,Bool.false_or]at h;rw [B,G,A,F];simp only [Option.getD_some];exact h
 refine ⟨fun t v=>?_,fun t v=>?_,fun t v=>?_,fun p q f e=>?_,?_,?_,?_⟩
 ·obtain ⟨s,s',i,h2,z⟩:=st t v
  unfold Hj BD;rw [i,h2];exact z
 ·obtain ⟨s,s',i,h2,z⟩:=st t v
  unfold BD;rw [i,h2];exact (pA _ D t s s' i h2).1
 ·obtain ⟨s,s',i,h2,z⟩:=st t v
  unfold BD;rw [i,h2];exact (pA _ D t s s' i h2).2
 ·have:=Dv rs K p q _ _ f (cB (by omega)) (cB e)
  simp only [HJ,Bool.or_eq_true,avj]at this;rw [←u p _ (cB (by omega)),←u q _ (cB e)];rcases this with h|⟨⟨i,h2⟩,z⟩
  ·exact .inl h
  ·exact .inr ⟨i,h2,z⟩
 ·intro p q f e y wp l g n
  rw [←u p _ (cB (by omega))]at g;rw [←u q _ (cB e)]at n
  have:=un p q 0 f e wp l (w p q f e _ (by
   unfold Bq;rw [show(rowAt rs q).m.testBit (rowAt rs p).j=false from avT.2 y,g,n]
   simp))
  simp only at this;split at this
  ·rename_i x I
   exact ⟨x,I,this⟩
  ·cases this
 ·intro p q f e y wp l g n
  rw [←u p _ (cB (by omega))]at g;rw [←u q _ (cB e)]at n
  have:=un p q 1 f e wp l (w p q f e _ (by
   unfold Bq;rw [show(rowAt rs q).m.testBit (rowAt rs p).j=false from avT.2 y,g,n]
   simp))
  exact (Iv this).symm
 ·intro p q f e y wp l g n b E O N
  rw [←u p _ (cB (by omega))]at g;rw [←u q _ (cB e)]at n
  have:=un p q 2 f e wp l (w p q f e _ (by
   unfold Bq;rw [show(rowAt rs q).m.testBit (rowAt rs p).j=false from avT.2 y,n]
   rcases g with g|g|g<;>rw [g]<;>simp))
  simp only [O,N,nb]at this
  simpa using this
open Go Go.RowKit
section
variable{P:Program}
theorem Rel.tV {w0 w:World} {φ:cg} {H H1:AH} (R:Rel w0 φ H w) (h:∀b,φ.m b≠none→H1.raw b=H.raw b) (B:H1.n0=H.n0) (r:φ.n0≤H1.nx) (u:H1.bs=H.bs):Rel w0 φ H1 w where
 n0:=B.trans R.n0
 q9:=R.q9
 rZ:=r
 c0:=R.c0
 below:=R.below
 wZ:=R.wZ
 jJ:=R.jJ
 lv:=fun b z cs a d=>R.lv b z cs a (by rw [←h b (by rw [R.jJ b a];simp)];exact d)
 cells:=fun b l z cs a c d=>R.cells b l z cs a c (by rw [←h b (by rw [c];simp)];exact d)
 maps:=fun b l es a c d=>R.maps b l es a c (by rw [←h b (by rw [c];simp)];exact d)
 inj:=fun j i q p x v f h2 o n t=>R.inj j i q p x v f h2 (by rw [←h j (by rw [f];simp)];exact o) (by rw [←h i (by rw [h2];simp)];exact n) t
 pY:=fun b s e=>by
  obtain ⟨f,h2,l,g,A,y⟩:=R.pY b s (by rw [←u];exact e);exact ⟨f,by rw [h b (by rw [g];simp)];exact h2,l,g,A,y.tD rfl (fun _ _ _=>rfl) fun C F E k D=>.inl ⟨E,k,by rw [←h C (by rw [k];simp)];exact D⟩⟩
theorem Grow.comp {φ a f:cg} {H d o n:AH} {w i g:World} (h:Grow φ H w a d i) (k:Grow a o i f n g) (q:H.nx≤o.nx) (h2:n.nx≤d.nx):Grow φ H w f d g where
 le:=cg.le_trans h.le k.le
 n0:=k.n0.trans h.n0
 c0:=k.c0.trans h.c0
 nx:=h.nx
 new:=fun b l e j=>by
  cases c:a.m b with
  |none=>exact ⟨avC q (k.new b l c j).1,avD (k.new b l c j).2 h2⟩
  |some p=>exact h.new b p e c
 size:=avC h.size k.size
theorem xi {φ:cg} {b:Fr} {a:Act} (F:mT φ b a) {x:X} (h:SJ x=true) {d:Addr} (e:x.ev b= .pointer (some d)):φ.m d.block≠none:=by
 cases x with
 |t n=>
  have:=F n;rw [show b.get n= .pointer (some d) from e]at this;obtain ⟨l,_,c,_⟩:=this.y3;rw [c];simp
 |k v=>rw [show v= .pointer (some d) from e]at h;cases h
 |f n=>cases e
theorem MW {φ:cg} {b:Fr} {a:Act} (F:mT φ b a) {x:X} (h:SJ x=true) {d:Nat} (e:x.ev b= .map (some d)):φ.m d≠none:=by
 cases x with
 |t n=>
  have:=F n;rw [show b.get n= .map (some d) from e]at this;obtain ⟨l,c,_⟩:=this.mp1;rw [c];simp
 |k v=>rw [show v= .map (some d) from e]at h;cases h
 |f n=>cases e
theorem Tc {φ:cg} {b:Fr} {a:Act} (F:mT φ b a) {x:X} (h:SJ x=true) {d:Addr} {n c:Nat} (e:x.ev b= .slice (some d) n c) (hs:d.spot=none):φ.m d.block≠none:=by
 cases x with
 |t m=>
  have:=F m;rw [show b.get m= .slice (some d) n c from e]at this;rcases this.HO with⟨l,j,_,i,_⟩|⟨g,_⟩
  ·rw [i];simp
  ·rw [hs]at g;cases g
 |k v=>rw [show v= .slice (some d) n c from e]at h;cases h
 |f n=>cases e
theorem IC {φ:cg} {d:Fr} {a:Act} (F:mT φ d a) {o:AO} (h:o.o.xs.all SJ=true) {b:Nat} (e:dz o d=some b):φ.m b≠none:=by
 unfold dz at e;cases g:o.o<;>simp only [g,cW.xs,List.all_cons,avj]at h e<;>(try(cases e;done))
 case st n x v=>
  split at e<;>cases e;rename_i c;exact xi F h.1 c
 case ld x=>
  split at e<;>cases e;rename_i c;exact xi F h.1 c
 case ldn n x=>
  split at e<;>cases e;rename_i c;exact xi F h.1 c
 case look kk z x k ok=>
  split at e<;>cases e;rename_i c;exact MW F h.1 c
 case sl sz x lo hi mx=>
  split at e
  ·rename_i c
   obtain ⟨f,e⟩:=aE e;cases e;exact Tc F h.1 c (by simpa using f)
  ·cases e
def Ba (S:Nat→Bool):Nat→Nat
 |0=>0
 |m+1=>Ba S m+(bif S m then 0 else 1)
theorem zd {S:Nat→Bool}:∀{m:Nat},Ba S m=0→∀t,t<m→S t=true
 |0,_,t,h=>by omega
 |m+1,h,t,b=>by
  simp only [Ba]at h;by_cases e:t=m
  ·subst e
   cases a:S t with
   |true=>rfl
   |false=>rw [a]at h;simp at h
  ·exact zd (m:=m) (by omega) t (by omega)
theorem xj {S S':Nat→Bool}:∀{m:Nat},(∀t,t<m→S t=true→S' t=true)→Ba S' m≤Ba S m
 |0,_=>avk _
 |m+1,h=>by
  have:=xj (S:=S) (S':=S') (m:=m) fun t b=>h t (by omega)
  simp only [Ba]
  cases a:S m with
  |true=>rw [h m (by omega) a];simpa using this
  |false=>cases S' m<;>simp<;>omega
theorem Dw {S:Nat→Bool} {t:Nat} (a:S t=false):∀{m:Nat},t<m→Ba (ins S t) m+1≤Ba S m
 |0,h=>by omega
 |m+1,h=>by
  simp only [Ba];by_cases e:t=m
  ·subst e
   rw [ij,a]
   have:=xj (S:=S) (S':=ins S t) (m:=t) fun p _ b=>by
    by_cases e:p=t
    ·subst e;exact ij
    ·rw [jD e];exact b
   simp;omega
  ·rw [jD (fun h=>e h.symm)]
   have:=Dw a (m:=m) (by omega);omega
theorem MY {m:Nat}:Ba (fun _=>false) m=m:=by
 induction m with
 |zero=>rfl
 |succ m ih=>simp [Ba,ih]
def vE (rs:List Row) (listed:Array Bool) (t:Nat):Bool:=listed.getD (rowAt rs t).j false
structure MZ (w0 w:World) (φ:cg) (O:Nat→AO) (n:Nat) (sF:Nat→Fr) (sH:Nat→AH) (nt:Nat) (S:Nat→Bool) (mK:cg) (a1:Act) (w1:World):Prop where
 rel:Rel w0 mK (yM O sF sH S n (sH n).nx) w1
 Yy:mT mK (xd O sF S n) a1
 size:a1.tmps.size=nt
 defs:a1.defers=[]
 Iz:Dom O n sF sH S (fun b=>mK.m b≠none)
 grow:Grow φ (sH 0) w mK (sH n) w1
theorem Yz {call:Cl} (W:rh P call) {O:Nat→AO} {n:Nat} {y:Nat→Fr} {g:Nat→AH} {G:Nat→Nat→Prop} (R:qV call O n y g G) {w0 w:World} {φ:cg} (c:φ.n0≤(g 0).nx) {A:Nat} {S:Nat→Bool} {t:Nat} (C:Yt n G S t)
 {f:cg} {J:Act} {w1:World} (I:MZ w0 w φ O n y g A S f J w1) {z:Array Oper} {j:Nat} {o:Oper} (U:z[j]?=some o) (X:QI P A z o=some (O t)) (D:(O t).o.xs.all SJ=true)
 {Q:Exit→Act→World→Prop} {K:Act→World→Prop} (Y:∀d H q,MZ w0 w φ O n y g A (ins S t) d H q→K H q):wpOp P z Q j K J w1:=by
 obtain ⟨Hx,Hy,a⟩:=R.S9 I.Iz C (fun _ b c=>IC I.Yy D (by rw [Iw (R.agree C)];exact c));have M:f.n0≤Hx.nx:=by rw [I.grow.n0];exact avC c a.lo
 refine Ip W U X I.Yy (I.rel.tV (fun b c=>a.pre b c) a.n0x M a.bsx) (Classical.not_not.1 a.out) (fun T b c=>Classical.not_not.1 (a.fresh T b c)) I.size I.defs a.run ?_;intro d v v' q Z u hv gu F2 L V;refine Y d _ q ⟨?_,?_,L,V,?_,I.grow.comp u a.lo a.hi⟩
 ·refine Z.tV (fun b _=>a.post b) a.n0y.symm ?_ a.bsy
  show d.n0≤(g n).nx;rw [u.n0,I.grow.n0];exact avC c (R.jM (avI n) (avk _))
 ·intro x
  rw [R.MU C x];exact F2 x
 ·refine ⟨fun b c=>?_,fun p B r w k b E=>?_⟩
  ·by_cases i:f.m b=none
   ·obtain ⟨l,N⟩:∃l,d.m b=some l:=by
     cases h2:d.m b with
     |none=>exact absurd h2 c
     |some l=>exact ⟨l,rfl⟩
    have s:=u.new b l i N;have F:=a.new b s.1 s.2;exact .inr ⟨t,C.lt,ij,F.1,F.2⟩
   ·rcases I.Iz.Iz b i with h|⟨p,B,r,h2,s⟩
    ·exact .inl h
    ·refine .inr ⟨p,B,?_,h2,s⟩
     by_cases e:p=t
     ·subst e;exact ij
     ·rw [jD e];exact r
  ·have up:∀b,f.m b≠none→d.m b≠none:=by
    intro b h
    cases i:f.m b with
    |none=>exact absurd i h
    |some l=>rw [u.le _ _ i];simp
   by_cases e:p=t
   ·subst e
    exact up b (IC I.Yy D (by rw [Iw (R.agree C)];exact E))
   ·rw [jD e]at r
    exact up b (I.Iz.sts p B r w k b E)
theorem ze {d:Nat} {c:Array Oper}:∀{l:List Oper} {a:List AO},qb P d c l=some a→a.length=l.length∧∀(j:Nat) (o:Oper) (b:AO),l[j]?=some o→a[j]?=some b→QI P d c o=some b
 |[],a,h=>by
  simp [qb]at h;subst h;exact ⟨rfl,fun j o b h=>(by simp at h)⟩
 |x::l,a,h=>by
  simp only [qb]at h
  cases e:QI P d c x with
  |none=>simp [e]at h
  |some y=>
   cases h2:qb P d c l with
   |none=>simp [e,h2]at h
   |some m=>
    simp only [e,h2,avh]at h;subst h;obtain ⟨k,i⟩:=ze h2;refine ⟨by simp [k],fun j o b f g=>?_⟩
    cases j with
    |zero=>
     simp at f g;subst f;subst g;exact e
    |succ j=>exact i j o b (by simpa using f) (by simpa using g)
theorem xl {o:Oper} {i:Nat}:i∈Mx o↔∃e∈o.after,Region.binds .any e=true∧e.on=i:=by
 unfold Mx;rw [List.mem_filterMap];constructor
 ·rintro ⟨e,b,h⟩
  cases a:Region.binds .any e with
  |false=>rw [a]at h;cases h
  |true=>rw [a]at h;cases h;exact ⟨e,by simpa using b,a,rfl⟩
 ·rintro ⟨e,b,a,rfl⟩
  exact ⟨e,by simpa using b,by rw [a];rfl⟩
theorem Td (hm:P.follows .mixedOrders=true) {call:Cl} (gP:rh P call):Is P call:=by
 intro nt id g ac hc l ck hac w0 w A H H' fr cq a h F R R0 hs hd;obtain ⟨Hh,ord,hl,mu,YA⟩:=tO hc;generalize BE:mV Hh (g.toList.map Mx) ord []=rs at mu YA;rw [YA]at hac;cases hac;simp only [Br,avj,nb,avs,avw]at mu;obtain ⟨⟨⟨⟨afP,hlen⟩,afQ⟩,afR⟩,pB⟩:=mu;obtain ⟨QT,YB⟩:=ze hl;have hn:rs.length=g.size:=by rw [hlen,QT];simp
 have row:∀t,t<rs.length→∃o,g[(rowAt rs t).j]?=some o∧QI P nt g o=some (rowAt rs t).o∧(rowAt rs t).dep=Mx o∧(rowAt rs t).o.o.xs.all SJ=true:=by
  intro t f;have hg:=cB f;obtain ⟨d,h2,Z,_⟩:=lU ord [] t (rowAt rs t) (by rw [BE];exact hg);rw [avK]at Z
  cases n:g.toList[(rowAt rs t).j]? with
  |none=>simp [n]at Z
  |some o=>
   simp [n]at Z;exact ⟨o,by simpa using n,YB _ o _ n d,Z.symm,avw.2 (afP _ (avl hg))⟩
 have YC:∀t,t<rs.length→∀i,(rowAt rs t).m.testBit i=true→∃e∈(rowAt rs t).dep,e=i∨∃q<t,(rowAt rs q).j=e∧(rowAt rs q).m.testBit i=true:=by
  intro t f i hi;obtain ⟨_,_,_,h4⟩:=lU ord [] t (rowAt rs t) (by rw [BE];exact cB f);obtain ⟨e,k,J⟩:=h4 i hi;refine ⟨e,k,?_⟩;rcases J with J|⟨q,s,r',h6,h7,h8⟩|J
  ·exact .inl J
  ·rw [BE]at h6
   have:rowAt rs q=r':=by unfold rowAt;rw [h6];rfl
   exact .inr ⟨q,s,by rw [this];exact h7,by rw [this];exact h8⟩
  ·simp [vV]at J
 have M:∀t,t<rs.length→(∀q,q<t→(rowAt rs q).j≠(rowAt rs t).j)∧∀e∈(rowAt rs t).dep,∃q<t,(rowAt rs q).j=e:=by
  intro t f;obtain ⟨⟨_,d⟩,h2⟩:=tT rs [] afR t _ (cB f);refine ⟨fun q s=>d q _ s (cB (by omega)),fun e k=>?_⟩;rcases h2 e k with Z|⟨q,s,r',h4,J⟩
  ·cases Z
  ·exact ⟨q,s,by unfold rowAt;rw [h4];exact J⟩
 have sur:∀i,i<g.size→∃t,t<rs.length∧(rowAt rs t).j=i:=by
  intro i hi;have:=mW.1 (afQ i (IB (by rw [QT];simpa using hi)));obtain ⟨r,hr,e⟩:=avN.1 this;obtain ⟨t,f,e2⟩:=List.mem_iff_getElem.1 hr;refine ⟨t,f,?_⟩;unfold rowAt;rw [avg f,Option.getD_some,e2];exact e
 have N:∀t,t<rs.length→(rowAt rs t).j<g.size:=by
  intro t f;obtain ⟨o,n,_⟩:=row t f;exact (avu.1 n).1
 unfold yV at h
 cases hT:kX call (rs.map (·.o)) fr H with
 |none=>simp [hT]at h
 |some U=>
  simp only [hT]at h;obtain ⟨Di,h⟩:=aE h;simp only [avj]at Di;have K:=Tb (fun t r hr=>(lU ord [] t r (by rw [BE];exact hr)).2.1) pB hT Di.1 Di.2;have zf:=(rk _ _ _ _ hT).2.1;rw [List.length_map]at zf;simp only [avh]at h;rw [zf]at h;have hFn:Hj (fr,H) U rs.length=cq:=by unfold Hj;rw [h]
  have hHn:BD (fr,H) U rs.length=H':=by unfold BD;rw [h]
  have pC:Hj (fr,H) U 0=fr:=rfl;have v:BD (fr,H) U 0=H:=rfl;generalize Hj (fr,H) U=sF at*;generalize BD (fr,H) U=sH at*
  have main:∀(fuel:Nat) (listed:Array Bool) (z:cg) (y:Act) (w1:World),listed.size=g.size→Ba (vE rs listed) rs.length≤fuel→
   (∀(j:Nat) (o:Oper),g[j]?=some o→listed.getD j false=true→∀e∈Mx o,listed.getD e false=true)→
   MZ w0 w A (fun t=>(rowAt rs t).o) rs.length sF sH nt (vE rs listed) z y w1→
   wpAny P .any g (Iq w0 A w H nt .normal cq H') fuel listed y w1:=by
   have fin:∀(listed:Array Bool) (z:cg) (y:Act) (w1:World),(∀t,t<rs.length→vE rs listed t=true)→
    MZ w0 w A (fun t=>(rowAt rs t).o) rs.length sF sH nt (vE rs listed) z y w1→Iq w0 A w H nt .normal cq H' .normal y w1:=by
    intro listed z y w1 X I;refine ⟨rfl,z,?_,?_,?_,I.size,I.defs⟩
    ·rw [←hHn]
     refine I.rel.tV (fun b _=>?_) (by rw [K.WT _ (avk _)];rfl) ?_ (by rw [←K.Ix (avk _)];exact Dt fun p c _ _=>(X p c).symm)
     ·rw [Dr,←K.Iy (avk _)]
      exact Ds fun p c _=>(X p c).symm
     ·rw [I.grow.n0]
      exact avC R.rZ (by rw [←v];exact K.jM (avI _) (avk _))
    ·rw [←hHn,←v];exact I.grow
    ·intro x
     rw [←hFn,←K.Dq (avk _)];rw [xe (S:=fun _=>true) (S':=vE rs listed) fun p c _=>(X p c).symm];exact I.Yy x
   intro fuel
   induction fuel with
   |zero=>
    intro listed z y w1 iD hun D I;have X:=zd (Nat.le_zero.1 hun);refine ⟨?_,fin listed z y w1 X I⟩;rw [List.eq_nil_iff_forall_not_mem];intro i hi;obtain ⟨h0,o,n,_⟩:=mem_ready.1 hi;obtain ⟨t,f,rfl⟩:=sur i (avu.1 n).1;have d:=X t f;unfold vE at d;have W:(rowAt rs t).j<listed.size:=by rw [iD];exact N t f
    simp [W]at h0 d;rw [h0]at d;cases d
   |succ fuel ih=>
    intro listed z y w1 iD hun D I;refine ⟨fun hr=>?_,fun i hi=>?_⟩
    ·refine fin listed z y w1 ?_ I
     intro t
     induction t using Nat.strongRecOn with
     |_ t iht=>
      intro f
      cases u:vE rs listed t with
      |true=>rfl
      |false=>
       exfalso;obtain ⟨o,n,_,Te,_⟩:=row t f
       have:(rowAt rs t).j∈Region.ready .any g listed:=by
        refine mem_ready.2 ⟨?_,o,n,fun e k hb=>?_⟩
        ·have W:(rowAt rs t).j<listed.size:=by rw [iD];exact N t f
         unfold vE at u;simp [W]at u⊢;exact u
        ·obtain ⟨q,s,e2⟩:=(M t f).2 e.on (by rw [Te];exact xl.2 ⟨e,k,hb,rfl⟩)
         have:=iht q s (by omega);unfold vE at this;rw [e2]at this;exact this
       rw [hr]at this;cases this
    ·obtain ⟨h0,o',T,QU⟩:=mem_ready.1 hi
     obtain ⟨t,f,rfl⟩:=sur i (avu.1 T).1;obtain ⟨o,n,afV,Te,hx⟩:=row t f;rw [n]at T;cases T;have W:(rowAt rs t).j<listed.size:=by rw [iD];exact N t f
     have Yu:vE rs listed t=false:=by
      unfold vE;simp [W]at h0⊢;exact h0
     have closed:∀q,q<rs.length→(∀e∈(rowAt rs q).dep,listed.getD e false=true)→∀i,(rowAt rs q).m.testBit i=true→listed.getD i false=true:=by
      intro q
      induction q using Nat.strongRecOn with
      |_ q ihq=>
       intro s B i hi;obtain ⟨e,k,J⟩:=YC q s i hi;rcases J with rfl|⟨p,c,h6,h7⟩
       ·exact B _ k
       ·refine ihq p c (by omega) (fun e' he'=>?_) i h7
        obtain ⟨op,qd,_,hdp,_⟩:=row p (by omega);exact D _ op qd (by rw [h6];exact B e k) e' (by rw [←hdp];exact he')
     have C:Yt rs.length (Yx rs) (vE rs listed) t:=by
      refine ⟨f,Yu,fun p c ha=>?_,fun p q y9 s hSq ha=>?_⟩
      ·refine closed t f (fun e k=>?_) _ ha
       rw [Te]at k;obtain ⟨ed,d,h2,rfl⟩:=xl.1 k;exact QU ed d h2
      ·refine closed q s (fun e k=>?_) _ ha
       obtain ⟨oq,hoq,_,B,_⟩:=row q s;exact D _ oq hoq hSq e (by rw [←B];exact k)
     have Y:∀p,p<rs.length→vE rs (listed.setIfInBounds (rowAt rs t).j true) p=ins (vE rs listed) t p:=by
      intro p c;unfold vE;by_cases e:p=t
      ·subst e
       rw [ij];simp [W]
      ·rw [jD e]
       refine getD_set_ne false ?_;rcases Nat.lt_or_gt_of_ne e with d|d
       ·exact fun h2=>(M t f).1 p d h2.symm
       ·exact (M p c).1 t d
     refine Yz (O:=fun t=>(rowAt rs t).o) gP K (by rw [v];exact R.rZ) C I n afV hx ?_;intro nK a2 w2 L;refine ih _ nK a2 w2 (by simp [iD]) ?_ ?_ ?_
     ·have d:=Dw Yu f
      have h2:Ba (vE rs (listed.setIfInBounds (rowAt rs t).j true)) rs.length≤Ba (ins (vE rs listed) t) rs.length:=
       xj fun p c h=>by rw [Y p c];exact h
      omega
     ·intro j oj Q hj e k
      by_cases ej:(rowAt rs t).j=j
      ·subst ej
       rw [n]at Q;cases Q;obtain ⟨ed,d,h2,rfl⟩:=xl.1 k;exact getD_set_true (QU ed d h2)
      ·rw [getD_set_ne false ej]at hj
       exact getD_set_true (D j oj Q hj e k)
     ·have eF:∀x,(xd (fun t=>(rowAt rs t).o) sF (vE rs (listed.setIfInBounds (rowAt rs t).j true)) rs.length).get x=(xd (fun t=>(rowAt rs t).o) sF (ins (vE rs listed) t) rs.length).get x:=
       fun x=>xe fun p c _=>Y p c
      refine ⟨L.rel.tV (fun b _=>Ds fun p c _=>Y p c) rfl L.rel.rZ (Dt fun p c _ _=>Y p c),fun x=>by rw [eF];exact L.Yy x,L.size,L.defs,⟨fun b hb=>?_,fun p c u=>?_⟩,L.grow⟩
      ·rcases L.Iz.Iz b hb with d|⟨p,c,u,h2⟩
       ·exact .inl d
       ·exact .inr ⟨p,c,by rw [Y p c];exact u,h2⟩
      ·rw [Y p c]at u
       exact L.Iz.sts p c u
  refine wp_region_any hm ?_
  have E:∀t,vE rs (Array.replicate g.size false) t=false:=by
   intro t;unfold vE;by_cases h:(rowAt rs t).j<g.size<;>simp [h]
  refine main g.size _ A a _ (by simp) ?_ ?_ ?_
  ·rw [←hn]
   have:Ba (vE rs (Array.replicate g.size false)) rs.length≤Ba (fun _=>false) rs.length:=xj fun p _ h=>by cases h
   rw [MY]at this;rwa [hn]at this⊢
  ·intro j o _ h
   exfalso;by_cases h2:j<g.size<;>simp [h2]at h
  ·have R':Rel w0 A H {w with drawn:=w.drawn+1}:=R.drew rfl rfl rfl rfl
   refine ⟨R'.tV (fun b _=>?_) (by show(sH 0).n0=_;rw [v]) ?_ ?_,fun x=>?_,hs,hd,⟨fun b hb=>.inl ?_,fun p c u=>?_⟩,?_⟩
   ·rw [Dr,sX (t:=0) (avI _)]
    ·show(sH 0).raw b=_;rw [v]
    ·intro p _ _ h;rw [E]at h;cases h
   ·refine avC R.rZ ?_
    rw [←v];exact K.jM (avI _) (avk _)
   ·show gB _ _ _ _ _=_
    rw [xf (t:=0) (avI _)]
    ·show(sH 0).bs=_;rw [v]
    ·intro p _ _ h;rw [E]at h;cases h
   ·rw [tR (t:=0) (avI _)]
    ·show V A ((sF 0).get x) _;rw [pC];exact F x
    ·intro p _ _ h;rw [E]at h;cases h
   ·rw [v]
    rcases Nat.lt_or_ge b H.nx with d|d
    ·exact d
    ·exact absurd (R0 b d) hb
   ·rw [E]at u;cases u
   ·have G:Grow A H w A H {w with drawn:=w.drawn+1}:=Grow.of_heap rfl
    rw [v];refine ⟨G.le,G.n0,G.c0,?_,fun b l d h2=>(by rw [d]at h2;cases h2),G.size⟩;rw [←v];exact K.jM (avI _) (avk _)
end
end
section
open Go Go.RowKit
section
variable{P:Program}
def rl (tmps:Array Value):ResultVar→Sem Value
 | .tmp t=>pure (tmps.getD t undef)
 | .cell a t=>do loadVar t (←asAddr (tmps.getD a undef))
theorem xm (fn:Func) (tmps:Array Value):results fn tmps=(do
 let vs←fn.results.toList.mapM (rl tmps)
 pure (if h:vs.toArray.size=1 then vs.toArray[0]else .tuple vs.toArray)):=by
 have e:results fn tmps=(do
  let vs←fn.results.mapM (rl tmps)
  pure (if h:vs.size=1 then vs[0]else .tuple vs)):=rfl
 rw [e,Array.mapM_eq_mapM_toList];simp
theorem sZ {w0 w:World} {φ:cg} {H:AH} {g:Fr} {a:Act} (F:mT φ g a) (R:Rel w0 φ H w):∀(l:List ResultVar) (m:List RS) (vs:List Value),yX P l=some m→RS.all g H m=some vs→
 ∃e,(l.mapM (rl a.tmps)).run P w= .ok e w∧VL φ vs e
 |[],m,vs,c,h=>by
  simp [yX]at c;subst c;simp [RS.all]at h;subst h;exact ⟨[],by simp,.nil⟩
 | .tmp t::l,m,vs,c,h=>by
  simp only [yX,avq]at c;obtain ⟨f,o,rfl⟩:=c;simp only [RS.all,RS.get]at h
  cases b:RS.all g H f with
  |none=>simp [b]at h
  |some us=>
   simp only [b,avh]at h;subst h;obtain ⟨e,q,h2⟩:=sZ F R l f us o b;refine ⟨a.tmps.getD t undef::e,?_,.cons (F t) h2⟩;simp [List.mapM_cons,rl,q]
 | .cell t ty::l,m,vs,c,h=>by
  simp only [yX]at c;split at c
  ·rename_i n f s B o
   cases c;simp only [RS.all,RS.get]at h;cases k:g.get t<;>simp [k]at h;rename_i p;cases p<;>simp at h;rename_i A
   cases d:H.ldn A n with
   |none=>simp [d]at h
   |some ws=>
    cases b:RS.all g H f with
    |none=>simp [d,b]at h
    |some us=>
     simp [d,b]at h;subst h;obtain ⟨e,q,h2⟩:=sZ F R l f us o b;have j:=F t;rw [k]at j;obtain ⟨r,i,z,x,u,G,E⟩:=HS R j d;have C:=run_loadCells_list (P:=P) w r i E;rw [x]at C;refine ⟨.agg i.toArray::e,?_,.cons (.agg (by simpa using u) (by simpa using G)) h2⟩;have y:a.tmps.getD t undef= .pointer (some r):=z;simp only [List.mapM_cons,rl,y];simp [asAddr,loadVar,lz s,de B,C,q]
  ·rename_i n f s B o
   cases c;simp only [RS.all,RS.get]at h;cases k:g.get t<;>simp [k]at h;rename_i p;cases p<;>simp at h;rename_i A
   cases d:H.ld A with
   |none=>simp [d]at h
   |some v=>
    cases b:RS.all g H f with
    |none=>simp [d,b]at h
    |some us=>
     simp [d,b]at h;subst h;obtain ⟨e,q,h2⟩:=sZ F R l f us o b;have j:=F t;rw [k]at j;obtain ⟨r,D,z,x,u⟩:=QK R j d;refine ⟨D::e,?_,.cons u h2⟩;have y:a.tmps.getD t undef= .pointer (some r):=z;simp only [List.mapM_cons,rl,y];simp [asAddr,loadVar,lz s,x,q]
  ·cases c
theorem sj {w0 w:World} {φ:cg} {H:AH} {b:Fr} {a:Act} (F:mT φ b a) (R:Rel w0 φ H w) {fn:Func} {m:List RS} {vs:List Value} (c:yX P fn.results.toList=some m) (h:RS.all b H m=some vs):
 ∃v',(results fn a.tmps).run P w= .ok v' w∧V φ (rX vs) v':=by
 obtain ⟨e,d,h2⟩:=sZ F R _ _ _ c h;rw [xm];simp only [Sem.run_bind,d,Result.andThen_ok,Sem.run_pure]
 cases h2 with
 |nil=>exact ⟨_,rfl,.tuple .nil⟩
 |cons x y=>
  cases y with
  |nil=>exact ⟨_,rfl,x⟩
  |cons y z=>
   refine ⟨_,rfl,?_⟩;simp only [List.size_toArray,List.length_cons];rw [dif_neg (by omega)];exact .tuple (.cons x (.cons y z))
theorem Fr.tW:∀(l:List Value) (i:Nat) (f:Fr) (t:Nat),(Fr.tz i l f).get t=if i≤t∧t<i+l.length then l.getD (t- i) undef else f.get t
 |[],i,f,t=>by
  simp only [Fr.tz,List.length_nil];rw [if_neg (by omega)]
 |v::l,i,f,t=>by
  simp only [Fr.tz,List.length_cons];rw [Fr.tW l,Fr.bZ];by_cases a:t=i
  ·subst a
   rw [if_neg (by omega),if_pos rfl,if_pos (by omega)];simp
  ·by_cases h2:i+1≤t∧t<i+1+l.length
   ·rw [if_pos h2,if_pos (by omega)]
    obtain ⟨k,b⟩:∃k,t- i=k+1:=⟨t- i- 1,by omega⟩
    rw [b,show t- (i+1)=k by omega];simp
   ·rw [if_neg h2,if_neg a,if_neg (by omega)]
theorem Fr.get_nil (t:Nat):(⟨.nil⟩:Fr).get t=undef:=by
 unfold Fr.get;cases t<;>rfl
theorem Fr.fN (l:List Value) (t:Nat):(Fr.of l).get t=l.getD t undef:=by
 unfold Fr.of;rw [Fr.tW,Fr.get_nil];split
 ·rfl
 ·rename_i h
  simp only [List.getD_eq_getElem?_getD];rw [avV (by omega)];rfl
theorem zg {φ:cg} {as:List Value} {as':Array Value} (k:Nat) (h:VL φ as as'.toList) (t:Nat):V φ ((Fr.of as).get t) ((as'++Array.replicate k undef).getD t undef):=by
 rw [Fr.fN];have f:=h.length;simp only [List.getD_eq_getElem?_getD]
 cases b:as[t]? with
 |some v=>
  obtain ⟨v',e,c⟩:=h.get t v b
  have d:t<as'.size:=by
   have:=(avm.1 e).1
   simpa using this
  have a:(as'++Array.replicate k undef).getD t undef=v':=by
   rw [Array.getD_eq_getD_getElem?,Array.getElem?_append_left d];simp only [Array.getElem?_toList]at e;rw [e];rfl
  rw [a];exact c
 |none=>
  have g:=List.getElem?_eq_none_iff.1 b
  have a:(as'++Array.replicate k undef).getD t undef=undef:=by
   rw [Array.getD_eq_getD_getElem?,Array.getElem?_append_right (by rw [←Array.length_toList,←f];exact g)];rw [Array.getElem?_replicate];split<;>rfl
  rw [a];exact tF _
def ID (P:Program) (E:Env):Prop:=∀f F,E f=some F→∃fn,P.funcs[f]?=some fn∧al P fn=some F
abbrev kG:=Nat→Option (List Value→AH→Option (Value×AH))
def Dy (P:Program) (O:kG):Prop:=∀f g,O f=some g→∀as H v H',g as H=some (v,H')→Fw P f∧Io P f as H v H'
theorem Dz (D:P.follows .mixedOrders=true) {E:Env} {O:kG} (K:ID P E) (J:Dy P O):∀n,rh P (gK E O n)
 |0=>fun f as H v N h=>by simp [gK]at h
 |n+1=>fun f as H v N h=>by
  have ih:=Dz D K J n;simp only [gK]at h
  cases s:O f with
  |some g=>
   simp only [s]at h;exact J f g s as H v N h
  |none=>
   simp only [s]at h
   cases u:E f with
   |none=>simp [u]at h
   |some F=>
    simp only [u]at h;obtain ⟨b,h⟩:=aE h;obtain ⟨fn,G,d⟩:=K f F u;unfold al at d
    cases o:fn.body with
    |none=>simp [o]at d
    |some c=>
     simp only [o]at d;split at d
     case h_2=>cases d
     rename_i x r U B;split at d
     case isTrue=>cases d
     rename_i C;cases d;simp only [Bool.or_eq_true,not_or,Bool.not_eq_true,decide_eq_false_iff_not,Nat.not_lt]at C;refine ⟨⟨fn,G,by rw [o];rfl,C.1⟩, ?_⟩;intro w0 φ w k R W A;refine calls_of_wp G o ?_
     have Y:k.size=fn.params.size+fn.nfree:=by
      have:=A.length;rw [nb]at b;simp at b this;omega
     cases m:aG (gK E O n) n x (Fr.of as) H with
     |none=>simp [m]at h
     |some q=>
      obtain ⟨ex,L,M⟩:=q;have V:=MR ih (Td D ih) n c x (w0:=w0) (w:=w) (φ:=φ) (a:={tmps:=k++Array.replicate (fn.ntmps- k.size) undef,defers:=[]}) U m (fun t=>zg _ A t) R W (by simp;omega) rfl;refine wp_mono V ?_;rintro e a2 X ⟨rfl,z,p,Q,S,Z,I⟩
      cases ex with
      |exit i=>simp [m]at h
      |normal=>
       simp only [m]at h
       cases j:RS.all L M r with
       |none=>simp [j]at h
       |some T=>
        simp only [j,avh,avo]at h;obtain ⟨rfl,rfl⟩:=h;obtain ⟨l,y,h2⟩:=sj S p B j;exact ⟨I,l,y,z,l,rfl,h2,p,Q⟩
      |ret=>
       simp only [m]at h
       cases j:RS.all L M r with
       |none=>simp [j]at h
       |some T=>
        simp only [j,avh,avo]at h;obtain ⟨rfl,rfl⟩:=h;obtain ⟨l,y,h2⟩:=sj S p B j;exact ⟨I,l,y,z,l,rfl,h2,p,Q⟩
end
end
section
open Go
def FF (c d:Cl):Prop:=∀f as H r,c f as H=some r→d f as H=some r
theorem ta {c d:Cl} (h:FF c d) {o:AO} {g:Fr} {H:AH} {r:Fr×AH} (k:kW c o g H=some r):kW d o g H=some r:=by
 obtain ⟨j,l⟩:=r;obtain ⟨x,e,k⟩:=eS.1 k;refine eS.2 ⟨x,e,?_⟩
 cases k with
 |off a b c=>exact .off a b c
 |val a b=>exact .val a b
 |call a f as i b c=>exact .call a f as i b (h _ _ _ _ c)
theorem xn {c d:Cl} (h:FF c d):∀{l:List AO} {a:Fr} {H:AH} {r:Fr×AH},ops c l a H=some r→ops d l a H=some r
 |[],a,H,r,k=>k
 |o::l,a,H,r,k=>by
  simp only [ops]at k⊢
  cases b:kW c o a H with
  |none=>simp [b]at k
  |some q=>
   rw [ta h b];simp only [b]at k;exact xn h k
theorem tc {c d:Cl} (h:FF c d):∀{l:List AO} {a:Fr} {H:AH} {r:List (Fr×AH)},kX c l a H=some r→kX d l a H=some r
 |[],a,H,r,k=>k
 |o::l,a,H,r,k=>by
  simp only [kX]at k⊢
  cases b:kW c o a H with
  |none=>simp [b]at k
  |some q=>
   rw [ta h b];simp only [b]at k⊢
   cases h2:kX c l q.1 q.2 with
   |none=>simp [h2]at k
   |some e=>rw [tc h h2];simpa [h2]using k
theorem fj {c d:Cl} (h:FF c d):∀{n:Nat} {a:AC} {f:Fr} {H:AH} {r:Ex×Fr×AH},aG c n a f H=some r→aG d n a f H=some r:=by
 intro n
 induction n with
 |zero=>intro a f H r k;simp [aG]at k
 |succ n ih=>
  intro a f H r k
  cases a with
  |bC l=>
   simp only [aG]at k⊢
   cases e:ops c l f H with
   |none=>simp [e]at k
   |some q=>rw [xn h e];simpa [e]using k
  |bz l o=>
   simp only [aG,yV]at k⊢
   cases e:kX c l f H with
   |none=>simp [e]at k
   |some q=>rw [tc h e];simpa [e]using k
  |seq a b=>
   simp only [aG]at k⊢
   cases e:aG c n a f H with
   |none=>simp [e]at k
   |some q=>
    rw [ih e];obtain ⟨ex,g,j⟩:=q
    cases ex<;>simp only [e]at k⊢<;>first
     |exact ih k
     |exact k
  |cond x a b=>
   simp only [aG]at k⊢
   cases m:x.ev f<;>simp only [m]at k⊢<;>first
    |(cases k;done)
    |skip
   rename_i t;cases t<;>exact ih k
  |block i a=>
   simp only [aG]at k⊢
   cases e:aG c n a f H with
   |none=>simp [e]at k
   |some q=>
    rw [ih e];obtain ⟨ex,g,j⟩:=q;cases ex<;>simp only [e]at k⊢<;>exact k
  |loop a=>
   simp only [aG]at k⊢
   cases e:aG c n a f H with
   |none=>simp [e]at k
   |some q=>
    rw [ih e];obtain ⟨ex,g,j⟩:=q
    cases ex<;>simp only [e]at k⊢<;>first
     |exact ih k
     |exact k
  |_=>simpa only [aG]using k
theorem vY {E:Env} {O:kG}:∀n,FF (gK E O n) (gK E O (n+1))
 |0=>fun f as H r k=>by simp [gK]at k
 |n+1=>fun f as H r k=>by
  have ih:=vY (E:=E) (O:=O) n;rw [gK]at k⊢
  cases b:O f with
  |some g=>simpa [b]using k
  |none=>
   simp only [b]at k⊢
   cases c:E f with
   |none=>simp [c]at k
   |some F=>
    simp only [c]at k⊢;obtain ⟨d,k⟩:=aE k;rw [d,cond_true]
    cases a:aG (gK E O n) n F.body (Fr.of as) H with
    |none=>simp [a]at k
    |some q=>
     rw [gL (avH n) (fj ih a)]
     simpa [a]using k
theorem ep {E:Env} {O:kG} {n m:Nat} (h:n≤m):FF (gK E O n) (gK E O m):=by
 induction m with
 |zero=>obtain rfl:n=0:=by omega
        exact fun _ _ _ _ k=>k
 |succ m ih=>
  rcases Nat.lt_or_eq_of_le h with a|a
  · exact fun f as H r k=>vY m f as H r (ih (by omega) f as H r k)
  · subst a;exact fun _ _ _ _ k=>k
section
variable(E:Env) (O:kG)
def Ca (f:Nat) (as:List Value) (H:AH) (Q:Value→AH→Prop):Prop:=∃n x H',gK E O n f as H=some (x,H')∧Q x H'
def Wp (c:AC) (fr:Fr) (H:AH) (Q:Ex→Fr→AH→Prop):Prop:=∃n ex cq H',aG (gK E O n) n c fr H=some (ex,cq,H')∧Q ex cq H'
def sL (o:AO) (fr:Fr) (H:AH) (Q:Fr→AH→Prop):Prop:=∃n cq H',kW (gK E O n) o fr H=some (cq,H')∧Q cq H'
def Wo (l:List AO) (fr:Fr) (H:AH) (Q:Fr→AH→Prop):Prop:=∃n cq H',ops (gK E O n) l fr H=some (cq,H')∧Q cq H'
def Wt (l:List AO) (fr:Fr) (H:AH) (Q:List (Fr×AH)→Prop):Prop:=∃n ss,kX (gK E O n) l fr H=some ss∧Q ss
variable{E O}
theorem Ca.mono {f:Nat} {as:List Value} {H:AH} {Q Q':Value→AH→Prop} (h:Ca E O f as H Q) (k:∀x H',Q x H'→Q' x H'):Ca E O f as H Q':=
 let⟨n,x,H',e,q⟩:=h;⟨n,x,H',e,k _ _ q⟩
theorem Wp.mono {c:AC} {b:Fr} {H:AH} {Q Q':Ex→Fr→AH→Prop} (h:Wp E O c b H Q) (k:∀ex a H',Q ex a H'→Q' ex a H'):Wp E O c b H Q':=
 let⟨n,x,a,H',e,q⟩:=h;⟨n,x,a,H',e,k _ _ _ q⟩
theorem qi {n m:Nat} (h:n≤m) {c:AC} {a:Fr} {H:AH} {r:Ex×Fr×AH} (k:aG (gK E O n) n c a H=some r):aG (gK E O m) m c a H=some r:=
 gL h (fj (ep h) k)
theorem Wp.skip {a:Fr} {H:AH} {Q:Ex→Fr→AH→Prop} (h:Q .normal a H):Wp E O .skip a H Q:=⟨1,_,_,_,rfl,h⟩
theorem Wp.ret {a:Fr} {H:AH} {Q:Ex→Fr→AH→Prop} (h:Q .ret a H):Wp E O .ret a H Q:=⟨1,_,_,_,rfl,h⟩
theorem Wp.exit {i:Nat} {a:Fr} {H:AH} {Q:Ex→Fr→AH→Prop} (h:Q (.exit i) a H):Wp E O (.exit i) a H Q:=⟨1,_,_,_,rfl,h⟩
def IF (k:Fr→AH→Prop) (Q:Ex→Fr→AH→Prop):Ex→Fr→AH→Prop
 | .normal,fr,H=>k fr H
 |ex,fr,H=>Q ex fr H
theorem Wp.seq {a b:AC} {d:Fr} {H:AH} {Q:Ex→Fr→AH→Prop} (h:Wp E O a d H (IF (fun k H'=>Wp E O b k H' Q) Q)):Wp E O (.seq a b) d H Q:=by
 obtain ⟨n,ex,c,f,e,q⟩:=h
 cases ex with
 |normal=>
  obtain ⟨m,l,j,p,o,g⟩:=q;refine ⟨max n m+1,l,j,p,?_,g⟩;simp only [aG];rw [fj (ep (avH _)) (qi (Nat.le_max_left n m) e)];exact fj (ep (avH _)) (qi (Nat.le_max_right n m) o)
 |exit i=>
  refine ⟨n+1,_,c,f,?_,q⟩;simp only [aG];rw [fj (ep (avH _)) e]
 |ret=>
  refine ⟨n+1,_,c,f,?_,q⟩;simp only [aG];rw [fj (ep (avH _)) e]
theorem Wp.cond {x:X} {a b:AC} {c:Fr} {H:AH} {Q:Ex→Fr→AH→Prop} {t:Bool} (d:x.ev c= .bool t) (h:Wp E O (bif t then a else b) c H Q):Wp E O (.cond x a b) c H Q:=by
 obtain ⟨n,ex,f,g,e,q⟩:=h;refine ⟨n+1,ex,f,g,?_,q⟩;simp only [aG,d];cases t<;>exact fj (ep (avH _)) e
def tX (i:Nat) (Q:Ex→Fr→AH→Prop):Ex→Fr→AH→Prop
 | .exit j,fr,H=>if j=i then Q .normal fr H else Q (.exit j) fr H
 |ex,fr,H=>Q ex fr H
theorem Wp.block {i:Nat} {a:AC} {g:Fr} {H:AH} {Q:Ex→Fr→AH→Prop} (h:Wp E O a g H (tX i Q)):Wp E O (.block i a) g H Q:=by
 obtain ⟨n,ex,c,f,e,q⟩:=h;have d:=fj (ep (avH n)) e
 cases ex with
 |normal=>exact ⟨n+1,_,c,f,by simp only [aG];rw [d],q⟩
 |ret=>exact ⟨n+1,_,c,f,by simp only [aG];rw [d],q⟩
 |exit j=>
  simp only [tX]at q;by_cases b:j=i
  ·rw [if_pos b]at q
   refine ⟨n+1,_,c,f,?_,q⟩;simp only [aG];rw [d];simp [nb,b]
  ·rw [if_neg b]at q
   refine ⟨n+1,_,c,f,?_,q⟩;simp only [aG];rw [d];simp [nb,b]
theorem Wp.YD {a:AC} {c:Fr} {H:AH} {Q:Ex→Fr→AH→Prop} (h:Wp E O a c H (IF (fun j H'=>Wp E O (.loop a) j H' Q) Q)):Wp E O (.loop a) c H Q:=by
 obtain ⟨n,ex,b,d,e,q⟩:=h
 cases ex with
 |normal=>
  obtain ⟨m,k,g,o,l,f⟩:=q;refine ⟨max n m+1,k,g,o,?_,f⟩;simp only [aG];rw [fj (ep (avH _)) (qi (Nat.le_max_left n m) e)];exact fj (ep (avH _)) (qi (Nat.le_max_right n m) l)
 |exit i=>
  refine ⟨n+1,_,b,d,?_,q⟩;simp only [aG];rw [fj (ep (avH _)) e]
 |ret=>
  refine ⟨n+1,_,b,d,?_,q⟩;simp only [aG];rw [fj (ep (avH _)) e]
theorem Wp.loop {a:AC} {Q:Ex→Fr→AH→Prop} (I:Nat→Fr→AH→Prop) (step:∀k b H,I k b H→Wp E O a b H (IF (fun c H'=>∃j,j<k∧I j c H') Q)) (k:Nat) {b:Fr} {H:AH} (h:I k b H):Wp E O (.loop a) b H Q:=by
 induction k using Nat.strongRecOn generalizing b H with
 |_ k ih=>
  refine Wp.YD ((step k b H h).mono ?_);intro ex c H' q
  cases ex with
  |normal=>obtain ⟨j,d,e⟩:=q;exact ih j d e
  |exit i=>exact q
  |ret=>exact q
theorem Wp.bC {l:List AO} {a:Fr} {H:AH} {Q:Ex→Fr→AH→Prop} (h:Wo E O l a H (Q .normal)):Wp E O (.bC l) a H Q:=by
 obtain ⟨n,b,c,e,q⟩:=h;refine ⟨n+1,_,b,c,?_,q⟩;simp only [aG];rw [xn (ep (avH _)) e]
theorem Wo.nil {a:Fr} {H:AH} {Q:Fr→AH→Prop} (h:Q a H):Wo E O [] a H Q:=⟨0,a,H,rfl,h⟩
theorem Wo.cons {o:AO} {l:List AO} {a:Fr} {H:AH} {Q:Fr→AH→Prop} (h:sL E O o a H (fun c H'=>Wo E O l c H' Q)):Wo E O (o::l) a H Q:=by
 obtain ⟨n,g,i,e,m,b,f,d,q⟩:=h;refine ⟨max n m,b,f,?_,q⟩;simp only [ops];rw [ta (ep (Nat.le_max_left n m)) e];exact xn (ep (Nat.le_max_right n m)) d
theorem sL.val {o:AO} {a:Fr} {H H':AH} {x:Value} {Q:Fr→AH→Prop} (b:o.wanted a=true) (h:aB o.o (X.ev a) H=some (.v x,H')) (q:Q (a.aT o.d x) H'):sL E O o a H Q:=
 ⟨0,_,_,eS.2 ⟨x,rfl,.val b h⟩,q⟩
theorem sL.off {o:AO} {a:Fr} {H:AH} {Q:Fr→AH→Prop} (b:o.wanted a=false) (q:Q (a.aT o.d undef) H):sL E O o a H Q:=
 ⟨0,_,_,eS.2 ⟨undef,rfl,.off b rfl rfl⟩,q⟩
theorem sL.call {o:AO} {a:Fr} {H H1:AH} {f:Nat} {as:List Value} {Q:Fr→AH→Prop} (b:o.wanted a=true) (h:aB o.o (X.ev a) H=some (.enter f as,H1)) (q:Ca E O f as H1 (fun x H'=>Q (a.aT o.d x) H')):sL E O o a H Q:=by
 obtain ⟨n,x,H',e,q⟩:=q;exact ⟨n,_,_,eS.2 ⟨x,rfl,.call b f as H1 h e⟩,q⟩
theorem Wp.bz {l:List AO} {ck:List (Nat×Nat×Nat)} {a:Fr} {H:AH} {Q:Ex→Fr→AH→Prop}
 (h:Wt E O l a H (fun b=>(chain ((a,H)::b)=true∧ck.all (lr l ((a,H)::b))=true)∧Q .normal (ie (a,H) b).1 (ie (a,H) b).2)):Wp E O (.bz l ck) a H Q:=by
 obtain ⟨n,b,e,⟨c,h2⟩,q⟩:=h;refine ⟨n+1,_,_,_,?_,q⟩;simp only [aG,yV];rw [tc (ep (avH _)) e];simp [c,h2]
theorem Wt.nil {a:Fr} {H:AH} {Q:List (Fr×AH)→Prop} (h:Q []):Wt E O [] a H Q:=⟨0,[],rfl,h⟩
theorem Wt.cons {o:AO} {l:List AO} {c:Fr} {H:AH} {Q:List (Fr×AH)→Prop} (h:sL E O o c H (fun b H'=>Wt E O l b H' (fun a=>Q ((b,H')::a)))):Wt E O (o::l) c H Q:=by
 obtain ⟨n,f,g,e,m,a,d,q⟩:=h;refine ⟨max n m,_,?_,q⟩;simp only [kX];rw [ta (ep (Nat.le_max_left n m)) e];simp only;rw [tc (ep (Nat.le_max_right n m)) d]
def zi (r:List RS) (Q:Value→AH→Prop):Ex→Fr→AH→Prop
 | .exit _,_,_=>False
 |_,fr,H=>∃vs,RS.all fr H r=some vs∧Q (rX vs) H
theorem Ca.body {f:Nat} {F:AF} {as:List Value} {H:AH} {Q:Value→AH→Prop} (b:O f=none) (d:E f=some F) (c:as.length=F.np) (h:Wp E O F.body (Fr.of as) H (zi F.res Q)):Ca E O f as H Q:=by
 obtain ⟨n,ex,j,k,e,q⟩:=h
 cases ex with
 |exit i=>exact q.elim
 |normal=>
  obtain ⟨g,a,q⟩:=q;refine ⟨n+1,_,_,?_,q⟩;simp only [gK,b,d];rw [nb,decide_eq_true c,cond_true,e];simp [a]
 |ret=>
  obtain ⟨g,a,q⟩:=q;refine ⟨n+1,_,_,?_,q⟩;simp only [gK,b,d];rw [nb,decide_eq_true c,cond_true,e];simp [a]
theorem Ca.rm {f:Nat} {g:List Value→AH→Option (Value×AH)} {as:List Value} {H H':AH} {x:Value} {Q:Value→AH→Prop} (a:O f=some g) (h:g as H=some (x,H')) (q:Q x H'):Ca E O f as H Q:=
 ⟨1,x,H',by simp [gK,a,h],q⟩
end
end
section
open Go Go.RowKit
def vZ (W:World) (b:Nat):Option q7:=match W.heap[b]? with
 |some (.cells cs _ _)=>some (.cells 1048576 cs.toList)
 |_=>none
def H0 (W:World):AH:=⟨vZ W,W.heap.size,W.heap.size,.nil,none⟩
def tY (W:World):cg:=⟨W.heap.size,W.heap.size,fun b=>if b<W.heap.size then some ⟨b,0,0,1⟩else none⟩
theorem BF (W:World) (b:Nat):(H0 W).raw b=vZ W b:=rfl
theorem afX (W:World):∀b,b<(tY W).n0→(tY W).m b=some ⟨b,0,0,1⟩:=fun b a=>if_pos a
theorem afY {W:World} (i:yY W):Rel W (tY W) (H0 W) W where
 n0:=rfl
 q9:=avk _
 rZ:=avk _
 c0:=rfl
 below:=Below.refl _ _
 jJ:=fun b c=>if_pos c
 lv:=fun b z cs c a=>by
  rw [BF]at a;unfold vZ at a;split at a
  ·rename_i p e j g
   cases a;exact ⟨e,j,by rw [g]⟩
  ·cases a
 cells:=fun b l z cs c d a=>by
  have:¬ b<W.heap.size:=Nat.not_lt.2 c;simp only [tY,if_neg this]at d;cases d
 maps:=fun b l es c d a=>by
  have:¬ b<W.heap.size:=Nat.not_lt.2 c;simp only [tY,if_neg this]at d;cases d
 inj:=fun k q n m h o f h2 _ _ _=>by
  have:¬ k<W.heap.size:=Nat.not_lt.2 h;simp only [tY,if_neg this]at f;cases f
 pY:=fun b s e=>by cases e
 wZ:=i
theorem Tf (W:World):r5 (tY W) (H0 W):=fun b a=>if_neg (Nat.not_lt.2 a)
theorem zj {P:Program} {E:Env} {O:kG} {W:World} (d:yY W) (b:P.follows .mixedOrders=true) (i:ID P E) (g:Dy P O) {f:Nat} {as:List Value} {as':Array Value} (a:VL (tY W) as as'.toList)
 (h:Ca E O f as (H0 W) (fun x _=>x= .bool true)):Calls P f as' W fun e w'=>e= .returned (.bool true)∧Below W.heap.size W w':=by
 obtain ⟨n,x,l,e,rfl⟩:=h;refine ((Dz b i g n f as _ _ _ e).2 W (tY W) W as' (afY d) (Tf W) a).mono ?_;rintro e w' ⟨j,k,rfl,c,R,G⟩;rw [c.bool];exact ⟨rfl,R.below⟩
def Good (P:Program) (f:Nat) (F:AF):Prop:=∃fn,P.funcs[f]?=some fn∧al P fn=some F
def BG (P:Program) (g:Nat→Nat) (t:T (Option AF)):Prop:=∀k F,t.get none k=some F→Good P (g k) F
theorem BG.nil {P:Program} {g:Nat→Nat}:BG P g .nil:=fun k F h=>by cases k<;>cases h
theorem BG.node {P:Program} {g:Nat→Nat} {v:Option AF} {l r:T (Option AF)} (h:∀F,v=some F→Good P (g 0) F) (c:BG P (fun k=>g (2*k+1)) l) (b:BG P (fun k=>g (2*k+2)) r):BG P g (.node v l r):=by
 intro k F a;simp only [T.get,nb,Bool.cond_decide]at a;split at a
 ·rename_i e
  subst e;exact h F a
 ·split at a
  ·have:=c _ F a
   simp only at this;rwa [show 2*(k/2)+1=k by omega]at this
  ·have:=b _ F a
   simp only at this;rwa [show 2*(k/2- 1)+2=k by omega]at this
open Go Go.RowKit
theorem Rel.later {w0 w w':World} {φ:cg} {H:AH} (R:Rel w0 φ H w) (B:Below w.heap.size w w'):Rel w0 φ H w' where
 n0:=R.n0
 q9:=R.q9
 rZ:=R.rZ
 c0:=R.c0
 below:=⟨B.os.trans R.below.os,B.tape.trans R.below.tape,B.output.trans R.below.output,avC R.below.size B.size,fun k i=>(B.block k (avD i R.below.size)).trans (R.below.block k i)⟩
 jJ:=R.jJ
 lv:=fun b z cs f d=>by
  obtain ⟨e,r,o⟩:=R.lv b z cs f d;exact ⟨e,r,(B.block b (avu.1 o).1).trans o⟩
 cells:=fun b l z cs f j d=>by
  obtain ⟨h,h2,m,arr,e,a,g,q,p⟩:=R.cells b l z cs f j d;exact ⟨h,h2,m,arr,e,(B.block l.c (avu.1 a).1).trans a,g,q,p⟩
 maps:=fun b l es f j d=>by
  obtain ⟨h,n,t,a,g⟩:=R.maps b l es f j d;exact ⟨h,n,t,(B.block l.c (avu.1 a).1).trans a,g⟩
 inj:=R.inj
 wZ:=R.wZ
 pY:=fun b s e=>by
  obtain ⟨h,h2,l,m,a,g⟩:=R.pY b s e;exact ⟨h,h2,l,m,a,g.tD rfl (fun k i _=>B.block k i) fun A y x v u=>.inl ⟨x,v,u⟩⟩
def He:AH:=⟨fun _=>none,0,0,.nil,none⟩
def isTrue:Option (Value×AH)→Bool
 |some (.bool true,_)=>true
 |_=>false
end
section
open Go Go.RowKit
section
variable{E:Env} {O:kG}
def Na (E:Env) (O:kG) (r:Option (j7×AH)) (Q:Value→AH→Prop):Prop:=match r with
 |some (.v x,H)=>Q x H
 |some (.enter f as,H)=>Ca E O f as H Q
 |none=>False
theorem Nb (a:Fr) (H:AH) (Q:Ex→Fr→AH→Prop):Wp E O .skip a H Q↔Q .normal a H:=by
 refine ⟨fun⟨n,ex,b,c,e,q⟩=>?_,Wp.skip⟩
 cases n with
 |zero=>simp [aG]at e
 |succ n=>simp only [aG,avh,avo]at e;obtain ⟨rfl,rfl,rfl⟩:=e;exact q
theorem Tg (a:Fr) (H:AH) (Q:Ex→Fr→AH→Prop):Wp E O .ret a H Q↔Q .ret a H:=by
 refine ⟨fun⟨n,ex,b,c,e,q⟩=>?_,Wp.ret⟩
 cases n with
 |zero=>simp [aG]at e
 |succ n=>simp only [aG,avh,avo]at e;obtain ⟨rfl,rfl,rfl⟩:=e;exact q
theorem Nc (i:Nat) (a:Fr) (H:AH) (Q:Ex→Fr→AH→Prop):Wp E O (.exit i) a H Q↔Q (.exit i) a H:=by
 refine ⟨fun⟨n,ex,b,c,e,q⟩=>?_,Wp.exit⟩
 cases n with
 |zero=>simp [aG]at e
 |succ n=>simp only [aG,avh,avo]at e;obtain ⟨rfl,rfl,rfl⟩:=e;exact q
theorem Th (l:List AO) (a:Fr) (H:AH) (Q:Ex→Fr→AH→Prop):Wp E O (.bC l) a H Q↔Wo E O l a H (Q .normal):=by
 refine ⟨fun⟨n,ex,b,c,e,q⟩=>?_,Wp.bC⟩
 cases n with
 |zero=>simp [aG]at e
 |succ n=>
  simp only [aG]at e
  cases h:ops (gK E O (n+1)) l a H with
  |none=>simp [h]at e
  |some r=>
   simp only [h,avh,avo]at e;obtain ⟨rfl,rfl,rfl⟩:=e;exact ⟨n+1,_,_,h,q⟩
theorem Ti (a b:AC) (d:Fr) (H:AH) (Q:Ex→Fr→AH→Prop):Wp E O (.seq a b) d H Q↔Wp E O a d H (IF (fun f H'=>Wp E O b f H' Q) Q):=by
 refine ⟨fun⟨n,ex,f,H',e,q⟩=>?_,Wp.seq⟩
 cases n with
 |zero=>simp [aG]at e
 |succ n=>
  simp only [aG]at e
  cases h:aG (gK E O (n+1)) n a d H with
  |none=>simp [h]at e
  |some r=>
   obtain ⟨g,j,k⟩:=r;have c:=gL (avH n) h
   cases g with
   |normal=>
    simp only [h]at e;exact ⟨n+1,_,_,_,c,n+1,_,_,_,gL (avH n) e,q⟩
   |exit i=>
    simp only [h,avh,avo]at e;obtain ⟨rfl,rfl,rfl⟩:=e;exact ⟨n+1,_,_,_,c,q⟩
   |ret=>
    simp only [h,avh,avo]at e;obtain ⟨rfl,rfl,rfl⟩:=e;exact ⟨n+1,_,_,_,c,q⟩
theorem IG (i:Nat) (a:AC) (b:Fr) (H:AH) (Q:Ex→Fr→AH→Prop):Wp E O (.block i a) b H Q↔Wp E O a b H (tX i Q):=by
 refine ⟨fun⟨n,ex,l,m,e,q⟩=>?_,Wp.block⟩
 cases n with
 |zero=>simp [aG]at e
 |succ n=>
  simp only [aG]at e
  cases h:aG (gK E O (n+1)) n a b H with
  |none=>simp [h]at e
  |some r=>
   obtain ⟨d,g,k⟩:=r;have f:=gL (avH n) h;refine ⟨n+1,d,g,k,f,?_⟩
   cases d with
   |normal=>simp only [h,avh,avo]at e;obtain ⟨rfl,rfl,rfl⟩:=e;exact q
   |ret=>simp only [h,avh,avo]at e;obtain ⟨rfl,rfl,rfl⟩:=e;exact q
   |exit j=>
    simp only [h,nb,Bool.cond_decide]at e;simp only [tX];by_cases c:j=i
    ·rw [if_pos c]at e⊢
     simp only [avh,avo]at e;obtain ⟨rfl,rfl,rfl⟩:=e;exact q
    ·rw [if_neg c]at e⊢
     simp only [avh,avo]at e;obtain ⟨rfl,rfl,rfl⟩:=e;exact q
theorem jn (o:AO) (l:List AO) (a:Fr) (H:AH) (Q:Fr→AH→Prop):Wo E O (o::l) a H Q↔sL E O o a H (fun b H'=>Wo E O l b H' Q):=by
 refine ⟨fun⟨n,b,H',e,q⟩=>?_,Wo.cons⟩;simp only [ops]at e
 cases h:kW (gK E O n) o a H with
 |none=>simp [h]at e
 |some r=>
  simp only [h]at e;exact ⟨n,_,_,h,n,_,_,e,q⟩
theorem ik (o:AO) (g:Fr) (H:AH) (Q:Fr→AH→Prop) (j:o.wanted g=true):sL E O o g H Q↔Na E O (aB o.o (X.ev g) H) (fun x H'=>Q (g.aT o.d x) H'):=by
 constructor
 ·rintro ⟨n,l,H',e,q⟩
  obtain ⟨x,rfl,h⟩:=eS.1 e
  cases h with
  |off a _ _=>rw [j]at a;cases a
  |val a b=>rw [b];exact q
  |call a f as k b c=>rw [b];exact ⟨n,x,H',c,q⟩
 ·intro h
  cases i:aB o.o (X.ev g) H with
  |none=>rw [i]at h;exact h.elim
  |some r=>
   obtain ⟨res,k⟩:=r;rw [i]at h
   cases res with
   |v x=>exact sL.val j i h
   |enter f as=>exact sL.call j i h
theorem DA (o:AO) (i:Fr) (H:AH) (Q:Fr→AH→Prop) (g:o.wanted i=false):sL E O o i H Q↔Q (i.aT o.d undef) H:=by
 constructor
 ·rintro ⟨n,j,l,e,q⟩
  obtain ⟨x,rfl,h⟩:=eS.1 e
  cases h with
  |off _ a b=>subst a;subst b;exact q
  |val a b=>rw [g]at a;cases a
  |call a f as k b c=>rw [g]at a;cases a
 ·exact fun h=>sL.off g h
inductive Ko where
 |seq (b:AC)
 |aX (i:Nat)
def Un (E:Env) (O:kG):Ex→List Ko→Fr→AH→(Ex→Fr→AH→Prop)→Prop
 |ex,[],fr,H,Q=>Q ex fr H
 | .normal,.seq b::ks,fr,H,Q=>Wp E O b fr H (fun ex cq H'=>Un E O ex ks cq H' Q)
 | .normal,.aX _::ks,fr,H,Q=>Un E O .normal ks fr H Q
 | .exit j,.seq _::ks,fr,H,Q=>Un E O (.exit j) ks fr H Q
 | .exit j,.aX i::ks,fr,H,Q=>if j=i then Un E O .normal ks fr H Q else Un E O (.exit j) ks fr H Q
 | .ret,_::ks,fr,H,Q=>Un E O .ret ks fr H Q
def Wk (E:Env) (O:kG) (c:AC) (ks:List Ko) (fr:Fr) (H:AH) (Q:Ex→Fr→AH→Prop):Prop:=Wp E O c fr H (fun ex cq H'=>Un E O ex ks cq H' Q)
def Wr (E:Env) (O:kG) (l:List AO) (ks:List Ko) (fr:Fr) (H:AH) (Q:Ex→Fr→AH→Prop):Prop:=Wo E O l fr H (fun cq H'=>Un E O .normal ks cq H' Q)
def vF (l:List AO) (ck:List (Nat×Nat×Nat)) (acc:List (Fr×AH)):Bool:=chain acc.reverse&&ck.all (lr l acc.reverse)
def Wd (E:Env) (O:kG) (l0:List AO) (ck:List (Nat×Nat×Nat)) (acc:List (Fr×AH)) (l:List AO) (ks:List Ko) (fr:Fr) (H:AH) (Q:Ex→Fr→AH→Prop):Prop:=
 Wt E O l fr H (fun ss=>vF l0 ck (ss.reverse++acc)=true∧Un E O .normal ks (ie (fr,H) ss).1 (ie (fr,H) ss).2 Q)
variable{ks:List Ko} {fr:Fr} {H:AH} {Q:Ex→Fr→AH→Prop}
@[simp]theorem IH (ex:Ex):Un E O ex [] fr H Q=Q ex fr H:=by cases ex<;>rfl
@[simp]theorem al7 (b:AC):Un E O .normal (.seq b::ks) fr H Q=Wk E O b ks fr H Q:=rfl
@[simp]theorem al8 (i:Nat):Un E O .normal (.aX i::ks) fr H Q=Un E O .normal ks fr H Q:=rfl
@[simp]theorem al9 (j:Nat) (b:AC):Un E O (.exit j) (.seq b::ks) fr H Q=Un E O (.exit j) ks fr H Q:=rfl
theorem YE (i j:Nat):Un E O (.exit j) (.aX i::ks) fr H Q=if j=i then Un E O .normal ks fr H Q else Un E O (.exit j) ks fr H Q:=rfl
@[simp]theorem Tj (i:Nat):Un E O (.exit i) (.aX i::ks) fr H Q=Un E O .normal ks fr H Q:=by rw [YE,if_pos rfl]
@[simp]theorem afZ (k:Ko):Un E O .ret (k::ks) fr H Q=Un E O .ret ks fr H Q:=by cases k<;>rfl
@[simp]theorem Nd:Wk E O .skip ks fr H Q↔Un E O .normal ks fr H Q:=Nb _ _ _
@[simp]theorem Tk:Wk E O .ret ks fr H Q↔Un E O .ret ks fr H Q:=Tg _ _ _
@[simp]theorem Nf (i:Nat):Wk E O (.exit i) ks fr H Q↔Un E O (.exit i) ks fr H Q:=Nc _ _ _ _
@[simp]theorem Tl (l:List AO):Wk E O (.bC l) ks fr H Q↔Wr E O l ks fr H Q:=Th _ _ _ _
@[simp]theorem Tm (a b:AC):Wk E O (.seq a b) ks fr H Q↔Wk E O a (.seq b::ks) fr H Q:=by
 unfold Wk;rw [Ti]
 have e:IF (fun c d=>Wp E O b c d fun ex c d=>Un E O ex ks c d Q) (fun ex c d=>Un E O ex ks c d Q)=fun ex c d=>Un E O ex (.seq b::ks) c d Q:=by
  funext ex c d;cases ex<;>rfl
 rw [e]
@[simp]theorem II (i:Nat) (a:AC):Wk E O (.block i a) ks fr H Q↔Wk E O a (.aX i::ks) fr H Q:=by
 unfold Wk;rw [IG]
 have e:tX i (fun ex b c=>Un E O ex ks b c Q)=fun ex b c=>Un E O ex (.aX i::ks) b c Q:=by
  funext ex b c;cases ex<;>rfl
 rw [e]
theorem sk {x:X} {a b:AC} {c:Bool} {Q:Ex→Fr→AH→Prop} (d:x.ev fr= .bool c):Wp E O (.cond x a b) fr H Q↔Wp E O (bif c then a else b) fr H Q:=by
 refine ⟨?_,Wp.cond d⟩;rintro ⟨n,ex,f,g,e,q⟩
 cases n with
 |zero=>simp [aG]at e
 |succ n=>
  simp only [aG,d]at e;cases c<;>exact ⟨n+1,_,_,_,gL (avH n) e,q⟩
@[simp]theorem IJ {x:X} {a b:AC} (c:x.ev fr= .bool true):Wk E O (.cond x a b) ks fr H Q↔Wk E O a ks fr H Q:=sk c
@[simp]theorem IK {x:X} {a b:AC} (c:x.ev fr= .bool false):Wk E O (.cond x a b) ks fr H Q↔Wk E O b ks fr H Q:=sk c
@[simp]theorem Tn:Wr E O [] ks fr H Q↔Un E O .normal ks fr H Q:=by
 refine ⟨fun⟨n,a,b,e,q⟩=>?_,fun q=>Wo.nil q⟩;simp only [ops,avh,avo]at e;obtain ⟨rfl,rfl⟩:=e;exact q
def cW.bj:cW→Bool
 | .call _ _| .callv _ _=>true
 |_=>false
def DB:Option (j7×AH)→Bool
 |some (.v _,_)=>true
 |_=>false
def valOf:Option (j7×AH)→Value
 |some (.v x,_)=>x
 |_=>undef
def il (H:AH):Option (j7×AH)→AH
 |some (_,H')=>H'
 |none=>H
@[simp]theorem ama (x:Value) (H:AH):DB (some (.v x,H))=true:=rfl
@[simp]theorem acj (x:Value) (H:AH):valOf (some (.v x,H))=x:=rfl
@[simp]theorem YF (x:Value) (H H':AH):il H (some (.v x,H'))=H':=rfl
theorem td (r:Option (j7×AH)) (a:∀f as H',r≠some (.enter f as,H')) (Q:Value→AH→Prop):Na E O r Q↔DB r=true∧Q (valOf r) (il H r):=by
 cases r with
 |none=>simp [Na,DB]
 |some q=>
  obtain ⟨res,H'⟩:=q
  cases res with
  |v x=>simp [Na]
  |enter f as=>exact absurd rfl (a f as H')
theorem te {p:cW} {a:X→Value} (h:p.bj=false):∀f as H',aB p a H≠some (.enter f as,H'):=by
 intro f as H' e
 cases p<;>first
  |(simp [cW.bj]at h;done)
  |(simp only [aB,Bool.cond_eq_ite]at e
    (repeat' split at e)<;>simp at e)
@[simp]theorem af0 (d:Nat) (p:cW) (l:List AO) (h:p.bj=false):Wr E O (⟨none,some d,p⟩::l) ks fr H Q↔
  DB (aB p (X.ev fr) H)=true∧Wr E O l ks (fr.put d (valOf (aB p (X.ev fr) H))) (il H (aB p (X.ev fr) H)) Q:=by
 unfold Wr;rw [jn,ik _ _ _ _ rfl,td _ (te h)];rfl
@[simp]theorem af1 (p:cW) (l:List AO) (h:p.bj=false):Wr E O (⟨none,none,p⟩::l) ks fr H Q↔
  DB (aB p (X.ev fr) H)=true∧Wr E O l ks fr (il H (aB p (X.ev fr) H)) Q:=by
 unfold Wr;rw [jn,ik _ _ _ _ rfl,td _ (te h)];rfl
@[simp]theorem YG {t:Nat} {b:Bool} (d:Option Nat) (p:cW) (l:List AO) (h:fr.get t= .bool b):Wr E O (⟨some (t,b),d,p⟩::l) ks fr H Q↔Wr E O (⟨none,d,p⟩::l) ks fr H Q:=by
 unfold Wr;rw [jn,jn,ik _ _ _ _ (by simp [AO.wanted,h]),ik _ _ _ _ rfl]
theorem BH {t:Nat} {b:Bool} (d:Option Nat) (p:cW) (l:List AO) (h:fr.get t≠ .bool b):Wr E O (⟨some (t,b),d,p⟩::l) ks fr H Q↔Wr E O l ks (fr.aT d undef) H Q:=by
 unfold Wr;rw [jn,DA];unfold AO.wanted;dsimp only
 cases a:fr.get t<;>first
  |rfl
  |(rw [a]at h;simpa using h)
@[simp]theorem ack {t:Nat} (d:Nat) (p:cW) (l:List AO) (h:fr.get t= .bool false):Wr E O (⟨some (t,true),some d,p⟩::l) ks fr H Q↔Wr E O l ks (fr.put d undef) H Q:=
 BH _ _ _ (by rw [h];simp)
@[simp]theorem acm {t:Nat} (d:Nat) (p:cW) (l:List AO) (h:fr.get t= .bool true):Wr E O (⟨some (t,false),some d,p⟩::l) ks fr H Q↔Wr E O l ks (fr.put d undef) H Q:=
 BH _ _ _ (by rw [h];simp)
theorem bS {d:Nat} {f:Nat} {as:List X} {l:List AO} (h:Ca E O f (as.map (X.ev fr)) H (fun x H'=>Wr E O l ks (fr.put d x) H' Q)):Wr E O (⟨none,some d,.call f as⟩::l) ks fr H Q:=by
 unfold Wr;rw [jn,ik _ _ _ _ rfl];exact h
theorem qj (l:List AO) (ck:List (Nat×Nat×Nat)) (h:Wd E O l ck [(fr,H)] l ks fr H Q):Wk E O (.bz l ck) ks fr H Q:=by
 refine Wp.bz ?_;obtain ⟨n,b,e,a,h2⟩:=h;unfold vF at a;simp only [List.reverse_append,List.reverse_cons,List.reverse_nil,List.nil_append,List.reverse_reverse,List.cons_append,avj]at a;exact ⟨n,b,e,a,h2⟩
variable{l0:List AO} {ck:List (Nat×Nat×Nat)} {acc:List (Fr×AH)}
@[simp]theorem To:Wd E O l0 ck acc [] ks fr H Q↔vF l0 ck acc=true∧Un E O .normal ks fr H Q:=by
 refine ⟨fun⟨n,a,e,q⟩=>?_,fun q=>Wt.nil (by simpa [ie]using q)⟩;simp only [kX,avh]at e;subst e
 simpa [ie]using q
theorem kc (o:AO) (l:List AO) (fr:Fr) (H:AH) (Q:List (Fr×AH)→Prop):Wt E O (o::l) fr H Q↔sL E O o fr H (fun b H'=>Wt E O l b H' (fun a=>Q ((b,H')::a))):=by
 refine ⟨fun⟨n,a,e,q⟩=>?_,Wt.cons⟩;simp only [kX]at e
 cases h:kW (gK E O n) o fr H with
 |none=>simp [h]at e
 |some r=>
  simp only [h]at e
  cases h2:kX (gK E O n) l r.1 r.2 with
  |none=>simp [h2]at e
  |some c=>
   simp only [h2,avh]at e;subst e;exact ⟨n,_,_,h,n,_,h2,q⟩
theorem ke (o:AO) (l:List AO):Wd E O l0 ck acc (o::l) ks fr H Q↔sL E O o fr H (fun a H'=>Wd E O l0 ck ((a,H')::acc) l ks a H' Q):=by
 unfold Wd;rw [kc];simp only [ie,List.reverse_cons,avF,List.singleton_append]
@[simp]theorem af2 (d:Nat) (p:cW) (l:List AO) (h:p.bj=false):Wd E O l0 ck acc (⟨none,some d,p⟩::l) ks fr H Q↔
  DB (aB p (X.ev fr) H)=true∧Wd E O l0 ck ((fr.put d (valOf (aB p (X.ev fr) H)),il H (aB p (X.ev fr) H))::acc) l ks (fr.put d (valOf (aB p (X.ev fr) H))) (il H (aB p (X.ev fr) H)) Q:=by
 rw [ke,ik _ _ _ _ rfl,td _ (te h)];rfl
@[simp]theorem af3 (p:cW) (l:List AO) (h:p.bj=false):Wd E O l0 ck acc (⟨none,none,p⟩::l) ks fr H Q↔
  DB (aB p (X.ev fr) H)=true∧Wd E O l0 ck ((fr,il H (aB p (X.ev fr) H))::acc) l ks fr (il H (aB p (X.ev fr) H)) Q:=by
 rw [ke,ik _ _ _ _ rfl,td _ (te h)];rfl
@[simp]theorem YH {t:Nat} {b:Bool} (d:Option Nat) (p:cW) (l:List AO) (h:fr.get t= .bool b):Wd E O l0 ck acc (⟨some (t,b),d,p⟩::l) ks fr H Q↔Wd E O l0 ck acc (⟨none,d,p⟩::l) ks fr H Q:=by
 rw [ke,ke,ik _ _ _ _ (by simp [AO.wanted,h]),ik _ _ _ _ rfl]
theorem BI {t:Nat} {b:Bool} (d:Option Nat) (p:cW) (l:List AO) (h:fr.get t≠ .bool b):Wd E O l0 ck acc (⟨some (t,b),d,p⟩::l) ks fr H Q↔Wd E O l0 ck ((fr.aT d undef,H)::acc) l ks (fr.aT d undef) H Q:=by
 rw [ke,DA];unfold AO.wanted;dsimp only
 cases a:fr.get t<;>first
  |rfl
  |(rw [a]at h;simpa using h)
@[simp]theorem acn {t:Nat} (d:Nat) (p:cW) (l:List AO) (h:fr.get t= .bool false):Wd E O l0 ck acc (⟨some (t,true),some d,p⟩::l) ks fr H Q↔Wd E O l0 ck ((fr.put d undef,H)::acc) l ks (fr.put d undef) H Q:=
 BI _ _ _ (by rw [h];simp)
@[simp]theorem aco {t:Nat} (d:Nat) (p:cW) (l:List AO) (h:fr.get t= .bool true):Wd E O l0 ck acc (⟨some (t,false),some d,p⟩::l) ks fr H Q↔Wd E O l0 ck ((fr.put d undef,H)::acc) l ks (fr.put d undef) H Q:=
 BI _ _ _ (by rw [h];simp)
theorem nP {d:Nat} {f:Nat} {as:List X} {l:List AO} (h:Ca E O f (as.map (X.ev fr)) H (fun x H'=>Wd E O l0 ck ((fr.put d x,H')::acc) l ks (fr.put d x) H' Q)):Wd E O l0 ck acc (⟨none,some d,.call f as⟩::l) ks fr H Q:=by
 rw [ke,ik _ _ _ _ rfl];exact h
theorem Ca.eE {f:Nat} {F:AF} {as:List Value} {H:AH} {Q:Value→AH→Prop} (a:O f=none) (c:E f=some F) (b:as.length=F.np) (h:Wk E O F.body [] (Fr.of as) H (zi F.res Q)):Ca E O f as H Q:=
 Ca.body a c b (Wp.mono h fun ex fr H q=>by simpa using q)
def zk (E:Env) (O:kG) (I:Nat→Fr→AH→Prop) (k:Nat) (ks:List Ko) (Q:Ex→Fr→AH→Prop):Ex→Fr→AH→Prop
 | .normal,fr,H=>∃j,j<k∧I j fr H
 | .exit i,fr,H=>Un E O (.exit i) ks fr H Q
 | .ret,fr,H=>Un E O .ret ks fr H Q
@[simp]theorem acp (I:Nat→Fr→AH→Prop) (k:Nat):zk E O I k ks Q .normal fr H=∃j,j<k∧I j fr H:=rfl
@[simp]theorem acq (I:Nat→Fr→AH→Prop) (k i:Nat):zk E O I k ks Q (.exit i) fr H=Un E O (.exit i) ks fr H Q:=rfl
@[simp]theorem acr (I:Nat→Fr→AH→Prop) (k:Nat):zk E O I k ks Q .ret fr H=Un E O .ret ks fr H Q:=rfl
theorem fJ {a:AC} (I:Nat→Fr→AH→Prop) (step:∀k fr H,I k fr H→Wk E O a [] fr H (zk E O I k ks Q)) (k:Nat) (h:I k fr H):Wk E O (.loop a) ks fr H Q:=by
 refine Wp.loop I (fun k fr H b=>?_) k h;refine (step k fr H b).mono ?_;intro ex c d q;rw [IH]at q;cases ex<;>exact q
attribute [simp] Fr.bZ Fr.fN X.ev rX RS.all RS.get
@[simp]theorem af4 (r:List RS) (Q:Value→AH→Prop):zi r Q .normal fr H=∃vs,RS.all fr H r=some vs∧Q (rX vs) H:=rfl
@[simp]theorem af5 (r:List RS) (Q:Value→AH→Prop):zi r Q .ret fr H=∃vs,RS.all fr H r=some vs∧Q (rX vs) H:=rfl
@[simp]theorem WU (x:X):(cW.mv x).bj=false:=rfl
@[simp]theorem QV (c a b:X):(cW.pick c a b).bj=false:=rfl
@[simp]theorem Ng (z:List Value):(cW.alloc z).bj=false:=rfl
@[simp]theorem Tp (x:X):(cW.box x).bj=false:=rfl
@[simp]theorem Nh (z:List Value) (ps:List (Nat×Nat×X)):(cW.build z ps).bj=false:=rfl
@[simp]theorem Tq (len sz:Nat) (z:List Value) (ps:List (Nat×Nat×X)):(cW.bsl len sz z ps).bj=false:=rfl
@[simp]theorem WV (x:X):(cW.ld x).bj=false:=rfl
@[simp]theorem Tr (n:Nat) (x:X):(cW.ldn n x).bj=false:=rfl
@[simp]theorem WW (n:Nat) (x v:X):(cW.st n x v).bj=false:=rfl
@[simp]theorem QW (x:X):(cW.bB x).bj=false:=rfl
@[simp]theorem Ts (op:BinOp) (x y:X):(cW.bin op x y).bj=false:=rfl
@[simp]theorem Tt (k:Nat) (neg:Bool) (x y:X):(cW.eqk k neg x y).bj=false:=rfl
@[simp]theorem WX (op:UnOp) (x:X):(cW.un op x).bj=false:=rfl
@[simp]theorem Tu (k:IntKind) (x:X):(cW.mJ k x).bj=false:=rfl
@[simp]theorem Tv (x:X):(cW.HG x).bj=false:=rfl
@[simp]theorem Tw (f:Nat) (first cap:List X):(cW.mkf f first cap).bj=false:=rfl
@[simp]theorem Ni:cW.mkmap.bj=false:=rfl
@[simp]theorem QX (sz bytes:Nat) (z:List Value) (x:X):(cW.mksl sz bytes z x).bj=false:=rfl
@[simp]theorem WY (sz:Nat) (x:X) (lo hi mx:Option X):(cW.sl sz x lo hi mx).bj=false:=rfl
@[simp]theorem WZ (off:Nat) (x:X):(cW.fa off x).bj=false:=rfl
@[simp]theorem W0 (sz:Nat) (x i:X):(cW.ia sz x i).bj=false:=rfl
@[simp]theorem Tx (len sz:Nat) (x i:X):(cW.rW len sz x i).bj=false:=rfl
@[simp]theorem W1 (x i:X):(cW.ix x i).bj=false:=rfl
@[simp]theorem QY (kk:Nat) (z:Value) (x k:X) (ok:Bool):(cW.look kk z x k ok).bj=false:=rfl
@[simp]theorem Ty (kk:Nat) (x k v:X):(cW.pq kk x k v).bj=false:=rfl
@[simp]theorem Tz (x:X) (i:Nat):(cW.ext x i).bj=false:=rfl
@[simp]theorem TA (sz bytes:Nat) (s x:X):(cW.app sz bytes s x).bj=false:=rfl
@[simp]theorem QZ (sz:Nat) (d s:X):(cW.copy sz d s).bj=false:=rfl
@[simp]theorem Q5 (x:X):(cW.lens x).bj=false:=rfl
@[simp]theorem Q6 (x:X):(cW.fh x).bj=false:=rfl
@[simp]theorem TB (t:Nat) (x:X):(cW.SE t x).bj=false:=rfl
@[simp]theorem TC (x:X) (l:List X):(cW.mxl x l).bj=false:=rfl
@[simp]theorem TE (x:X) (l:List X):(cW.mnl x l).bj=false:=rfl
@[simp]theorem TF (neg:Bool) (offs:List (Nat×Nat)) (x y:X):(cW.eqs neg offs x y).bj=false:=rfl
@[simp]theorem acs (b:Bool):HD .not (.bool b)=some (.bool !b):=rfl
@[simp]theorem acu (k:IntKind) (n:Int):HD .neg (.int k n)=some (.int k (k.wrap (0- n))):=rfl
@[simp]theorem YI (k:IntKind) (a b:Int):cl .add (.int k a) (.int k b)=some (.int k (k.wrap (a+b))):=by simp [cl,cR,iF]
@[simp]theorem YJ (k:IntKind) (a b:Int):cl .sub (.int k a) (.int k b)=some (.int k (k.wrap (a- b))):=by simp [cl,cR,iF]
@[simp]theorem YK (k:IntKind) (a b:Int):cl .mul (.int k a) (.int k b)=some (.int k (k.wrap (a*b))):=by simp [cl,cR,iF]
@[simp]theorem YL (k:IntKind) (a b:Int):cl .eql (.int k a) (.int k b)=some (.bool (decide (a=b))):=by simp [cl,cR,iF];rfl
@[simp]theorem YM (k:IntKind) (a b:Int):cl .neq (.int k a) (.int k b)=some (.bool (!decide (a=b))):=by simp [cl,cR,iF];rfl
@[simp]theorem YN (k:IntKind) (a b:Int):cl .lss (.int k a) (.int k b)=some (.bool (decide (a<b))):=by simp [cl,cR,iF]
@[simp]theorem YO (k:IntKind) (a b:Int):cl .leq (.int k a) (.int k b)=some (.bool (decide (a≤b))):=by simp [cl,cR,iF]
@[simp]theorem YP (k:IntKind) (a b:Int):cl .gtr (.int k a) (.int k b)=some (.bool (decide (a>b))):=by simp [cl,cR,iF]
@[simp]theorem YQ (k:IntKind) (a b:Int):cl .geq (.int k a) (.int k b)=some (.bool (decide (a≥b))):=by simp [cl,cR,iF]
def bD (a b:ByteArray):Bool:=a.data.toList==b.data.toList
@[simp]theorem YR (a b:ByteArray):cl .eql (.string a) (.string b)=some (.bool (bD a b)):=rfl
@[simp]theorem YS (a b:ByteArray):cl .neq (.string a) (.string b)=some (.bool (!bD a b)):=rfl
theorem gQ {a b:ByteArray}:bD a b=true↔a=b:=by
 unfold bD;constructor
 ·intro h
  have:a.data.toList=b.data.toList:=by simpa using h
  exact ByteArray.ext (Array.toList_inj.1 this)
 ·rintro rfl;simp
def dw (s:ByteArray) (i:Nat):Int:=((s[i]?).getD 0).toNat
theorem IL {x i:X} {a:X→Value} {H:AH} {s:ByteArray} {n:Nat} (b:a x= .string s) (hi:a i= .int .i64 n) (h:n<s.size):aB (.ix x i) a H=some (.v (.int .u8 (dw s n)),H):=by
 simp only [aB,b,hi];rw [if_pos (by omega)];simp only [Int.toNat_natCast];unfold dw;have:s[n]?=some s[n]:=getElem?_pos s n h;rw [this];rfl
end
end
end Go.Proofs.YtppcmpmnglaleaaGreatDoor.A
