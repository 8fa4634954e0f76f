/- Texts that stand one behind the other: AbsB, AbsC, AbsD, AbsE, AbsF, AbsG, AbsH, AbsI, AbsJ, AbsK, AbsL, AbsM. -/
import Derived.Test.YtppcmpmnglaleaaGreatDoorG8
import Derived.Deep.LoopGhost
import Derived.Orders
set_option linter.unusedVariables false
set_option linter.unusedSimpArgs false
namespace Go.Proofs.YtppcmpmnglaleaaGreatDoor.A
section
open Go Go.RowKit
section
variable{P:Program}
def Fk (P:Program) (f:Nat) (as:List Value) (H:AH) (v:Value) (H':AH):Prop:=
 ∀(w0:World) (φ:bM) (w:World) (as':Array Value),Rel w0 φ H w→qB φ H→VL φ as as'.toList→
  Calls P f as' w fun e w'=>∃dG v',e= .returned v'∧V dG v v'∧Rel w0 dG H' w'∧Grow φ H w dG H' w'
def pV (P:Program) (call:Cl):Prop:=∀f as H v H',call f as H=some (v,H')→Dc P f∧Fk P f as H v H'
theorem V.Dd {φ:bM} {v:Value} {b:Bool} (h:V φ v (.bool b)):v= .bool b:=by
 cases h;rfl
theorem De {φ:bM} {fr:Fr} {a:Act} (F:lM φ fr a) {f:Array Oper} {o:Oper} {g:Option (Nat×Bool)} {d:Option Nat} {p:cv} (e:uY f o.guard=some g):
 Region.wanted o (yielded f a.tmps)=AO.wanted ⟨g,d,p⟩ fr:=by
 unfold Region.wanted AO.wanted
 cases m:o.guard with
 |none=>rw [m]at e;simp [uY]at e;subst e;rfl
 |some n=>
  obtain ⟨j,b⟩:=n;rw [m]at e;simp only [uY]at e
  cases k:(f[j]?).bind (·.dst)with
  |none=>simp [k]at e
  |some t=>
   simp [k]at e;subst e;dsimp only;have h:=F t
   have q:yielded f a.tmps j=match a.tmps[t]? with|some (.bool b)=>some b|_=>none:=by
    unfold yielded;rw [k];rfl
   rw [q]
   cases l:fr.get t with
   |bool c=>
    rw [l]at h;have:=h.bool
    have h2:a.tmps[t]?=some (.bool c):=by
     cases i:a.tmps[t]? with
     |none=>simp [i,undef]at this
     |some u=>simp [i]at this;rw [this]
    rw [h2];simp
   |_=>
    have:∀c,a.tmps[t]?≠some (.bool c):=by
     intro c r;have h2:a.tmps.getD t undef= .bool c:=by simp [r]
     rw [h2]at h;have:=h.Dd;rw [this]at l;cases l
    dsimp only
    cases i:a.tmps[t]? with
    |none=>rfl
    |some u=>cases u<;>first|rfl|exact absurd i (this _)
theorem iS {p:cv} {a:X→Value} {H H':AH} {f:Nat} {as:List Value} (h:aq p a H=some (.enter f as,H')):eP p= .j8:=by
 cases p<;>first
  |rfl
  |(exfalso
    simp only [aq,Bool.cond_eq_ite]at h
    (repeat' split at h)<;>simp at h)
theorem Fl {call:Cl} (lj:pV P call) {nt:Nat} {A:Array Oper} {i:Nat} {o:Oper} {J:AO} (hi:A[i]?=some o) (c:Ns P nt A o=some J)
 {w0 w:World} {φ:bM} {H H':AH} {q E:Fr} {a:Act} (F:lM φ q a) (R:Rel w0 φ H w) (O:φ.m H.nx=none) (M:eP J.o= .j8→qB φ H) (hs:a.tmps.size=nt) (hd:a.defers=[]) (h:jM call J q H=some (E,H'))
 {Q:Exit→Act→World→Prop} {K:Act→World→Prop}
 (y:∀b v v' w',Rel w0 b H' w'→Grow φ H w b H' w'→V b v v'→E=q.aO o.dst v→lM b E (a.put o.dst v')→(a.put o.dst v').tmps.size=nt→(a.put o.dst v').defers=[]→K (a.put o.dst v') w'):
 wpOp P A Q i K a w:=by
 unfold wpOp;simp only [hi];unfold Ns at c;split at c
 case h_2=>cases c
 rename_i g hg;obtain ⟨N,c⟩:=aw c;cases c
 obtain ⟨p,C⟩:∃p,JJ P o=p:=⟨_,rfl⟩
 rw [C]at h M
 have u:∀n,o.dst=some n→n<a.tmps.size:=by
  intro n l;rw [l]at N;rw [hs]
  simpa [Nr]using N
 have t:∀v,(a.put o.dst v).tmps.size=nt:=by
  intro v;cases hq:o.dst<;>simp [Act.put,hs]
 have s:∀v,(a.put o.dst v).defers=[]:=by
  intro v;cases hq:o.dst<;>simp [Act.put,hd]
 have hw:=De F (o:=o) (d:=o.dst) (p:=p) hg;rw [hw];unfold jM at h
 cases L:AO.wanted ⟨g,o.dst,p⟩ q with
 |false=>
  simp only [L,cond_false,aqH,aqO]at h;obtain ⟨rfl,rfl⟩:=h;simp only [Bool.false_eq_true,if_false];exact y φ undef undef w R (Grow.refl _ _ _) (rX _) rfl (F.aO u (rX _)) (t _) (s _)
 |true=>
  simp only [L,cond_true]at h;simp only [if_true];left;unfold Oper.wp
  cases k:aq p (X.ev q) H with
  |none=>simp [k]at h
  |some rr=>
   obtain ⟨res,S⟩:=rr;simp only [k]at h
   cases res with
   |v x=>
    simp only [aqH,aqO]at h;obtain ⟨rfl,rfl⟩:=h;obtain ⟨b,w',nx,I,z,G,l⟩:=Fj F R O C k (fun f as h=>by cases h);rw [I];rcases l with⟨W,rfl,j⟩|⟨rfl,rfl⟩
    ·rw [Oper.upon_value]
     exact y b x W w' z G j rfl ((F.mono G.le).aO u j) (t _) (s _)
    ·rw [Oper.upon_skip]
     exact y b undef undef w' z G (rX _) rfl ((F.mono G.le).aO u (rX _)) (t _) (s _)
   |enter f as=>
    simp only at h
    cases D:call f as S with
    |none=>simp [D]at h
    |some Z=>
     obtain ⟨x,H2⟩:=Z;simp only [D,aqH,aqO]at h;obtain ⟨rfl,rfl⟩:=h;obtain ⟨hf,B⟩:=lj f as S x H2 D;obtain ⟨b,w',nx,I,z,G,r,rfl,l⟩:=Fj F R O C k (fun f' r h=>by cases h;exact hf);rw [I,Oper.upon_enter];refine (B w0 b w' r z (G.fresh (M (iS k))) l).mono ?_;rintro e Y ⟨U,v',rfl,j,R2,T⟩;exact y U x v' Y R2 (G.trans T) j rfl ((F.mono (G.trans T).le).aO u j) (t _) (s _)
def abV:Ex→Exit
 | .normal=>.normal
 | .exit i=>.exit i
 | .ret=>.ret
def Fm (w0:World) (φ:bM) (w:World) (H:AH) (nt:Nat) (ex:Ex) (bK:Fr) (H':AH) (e:Exit) (a':Act) (w':World):Prop:=
 e=abV ex∧∃dG,Rel w0 dG H' w'∧Grow φ H w dG H' w'∧lM dG bK a'∧a'.tmps.size=nt∧a'.defers=[]
theorem Fp {call:Cl} (y:pV P call) {d:Nat} {c:Array Oper} {w0:World} {Q:Exit→Act→World→Prop}:∀(l:List Oper) (i:List AO) (k:Nat) {w:World} {φ:bM} {H H':AH} {e g:Fr} {a:Act},
 oE P d c l=some i→(∀j o,l[j]?=some o→c[k+j]?=some o)→ops call i e H=some (g,H')→lM φ e a→Rel w0 φ H w→qB φ H→a.tmps.size=d→a.defers=[]→
 (∀p a' w',Rel w0 p H' w'→Grow φ H w p H' w'→lM p g a'→a'.tmps.size=d→a'.defers=[]→Q .normal a' w')→wpOps P c Q (List.range' k l.length) a w
 |[],i,k,w,φ,H,H',e,g,a,b,_,h,F,R,n,q,t,u=>by
  simp [oE]at b;subst b;simp only [ops,aqH,aqO]at h;obtain ⟨rfl,rfl⟩:=h;exact u φ a w R (Grow.refl _ _ _) F q t
 |o::l,i,k,w,φ,H,H',e,g,a,b,hi,h,F,R,n,q,t,u=>by
  simp only [oE]at b
  cases f:Ns P d c o with
  |none=>simp [f]at b
  |some K=>
   cases s:oE P d c l with
   |none=>simp [f,s]at b
   |some m=>
    simp [f,s]at b;subst b;simp only [ops]at h
    cases x:jM call K e H with
    |none=>simp [x]at h
    |some r=>
     obtain ⟨X,Y⟩:=r;simp only [x]at h;simp only [List.length_cons,List.range'_succ,wpOps_cons];refine Fl y (by simpa using hi 0 o (by simp)) f F R (n _ (aqK _)) (fun _=>n) q t x ?_;intro U v W V N z _ _ T E J;refine Fp y l m (k+1) s (fun j C G=>by have:=hi (j+1) C (by simpa using G);rwa [show k+(j+1)=k+1+j by omega]at this) h T N (z.fresh n) E J ?_;intro A L B M O S D I;exact u A L B M (z.trans O) S D I
def lO (l:List AO) (dp:List (List Nat)):List Nat→List (Nat×Nat)→List Row
 |[],_=>[]
 |j::r,am=>match nth l j,nth dp j with
  |some o,some d=>⟨o,eP o.o,j,d,nD am d⟩::lO l dp r ((j,nD am d)::am)
  |_,_=>[]
theorem xg {α:Type} (l:List AO) (a:List (List Nat)):∀(ord:List Nat) (am:List (Nat×Nat)) (k:List Row→α),AZ l a ord am k=k (lO l a ord am)
 |[],am,k=>rfl
 |j::r,am,k=>by
  simp only [AZ,lO]
  cases b:nth l j with
  |none=>rfl
  |some o=>
   cases c:nth a j with
   |none=>rfl
   |some d=>
    simp only [force_eq];rw [xg l a r]
theorem sj {b id:Nat} {a:Array Oper} {ac:AC} (h:dW P b (.region id a true)=some ac):
 ∃l ord,oE P b a a.toList=some l∧zr l.length (lO l (a.toList.map JK) ord [])=true∧
  ac= .bJ ((lO l (a.toList.map JK) ord []).map (·.o)) (ug 0 (lO l (a.toList.map JK) ord [])):=by
 simp only [dW]at h
 cases c:oE P b a a.toList with
 |none=>simp [c]at h
 |some l=>
  simp only [c,Nt,xg]at h;obtain ⟨d,h2⟩:=aw h;cases h2;exact ⟨l,_,rfl,d,rfl⟩
theorem zE {b id:Nat} {a:Array Oper} {ac:AC} (h:dW P b (.region id a true)=some ac):∃l ck,ac= .bJ l ck:=by
 obtain ⟨_,_,_,_,e⟩:=sj h;exact ⟨_,_,e⟩
def Fq (P:Program) (call:Cl):Prop:=∀(nt:Nat) (id:Nat) (cy:Array Oper) (ac:AC),dW P nt (.region id cy true)=some ac→∀(l:List AO) (ck:List (Nat×Nat×Nat)),ac= .bJ l ck→
 ∀(w0 w:World) (φ:bM) (H H':AH) (fr bK:Fr) (a:Act),wZ call l ck fr H=some (bK,H')→lM φ fr a→Rel w0 φ H w→qB φ H→a.tmps.size=nt→a.defers=[]→
  (Code.region id cy true).wp P (Fm w0 φ w H nt .normal bK H') a w
theorem fm {call:Cl}:∀{n m:Nat} {c:AC} {e:Fr} {H:AH} {r:Ex×Fr×AH},n≤m→aD call n c e H=some r→aD call m c e H=some r:=by
 intro n
 induction n with
 |zero=>intro m c e H r _ h;simp [aD]at h
 |succ n ih=>
  intro m c e H r o h
  obtain ⟨m,rfl⟩:∃k,m=k+1:=⟨m- 1,by omega⟩
  have f:n≤m:=by omega
  cases c with
  |seq a b=>
   simp only [aD]at h⊢
   cases d:aD call n a e H with
   |none=>simp [d]at h
   |some q=>
    rw [ih f d];obtain ⟨ex,g,j⟩:=q
    cases ex<;>simp only [d]at h⊢<;>first
     |exact ih f h
     |exact h
  |cond x a b=>
   simp only [aD]at h⊢
   cases l:x.ev e<;>simp only [l]at h⊢<;>first
    |(cases h;done)
    |skip
   rename_i t;cases t<;>exact ih f h
  |block i a=>
   simp only [aD]at h⊢
   cases d:aD call n a e H with
   |none=>simp [d]at h
   |some q=>
    rw [ih f d];obtain ⟨ex,g,j⟩:=q;cases ex<;>simp only [d]at h⊢<;>exact h
  |loop a=>
   simp only [aD]at h⊢
   cases d:aD call n a e H with
   |none=>simp [d]at h
   |some q=>
    rw [ih f d];obtain ⟨ex,g,j⟩:=q
    cases ex<;>simp only [d]at h⊢<;>first
     |exact ih f h
     |exact h
  |_=>simpa only [aD]using h
theorem JX {call:Cl} (lj:pV P call) (Us:Fq P call) {s:Nat} {w0:World}:∀(m:Nat) (c:Code) (ac:AC) {w:World} {φ:bM} {H H':AH} {A N:Fr} {a:Act} {ex:Ex},
 dW P s c=some ac→aD call m ac A H=some (ex,N,H')→lM φ A a→Rel w0 φ H w→qB φ H→a.tmps.size=s→a.defers=[]→c.wp P (Fm w0 φ w H s ex N H') a w:=by
 intro m
 induction m with
 |zero=>intro c ac w φ H H' A N a ex _ h;simp [aD]at h
 |succ m ih=>
  intro c ac w φ H H' A N a ex d h F R D u v
  cases c with
  |skip=>
   simp [dW]at d;subst d;simp only [aD,aqH,aqO]at h;obtain ⟨rfl,rfl,rfl⟩:=h;exact wp_skip ⟨rfl,φ,R,Grow.refl _ _ _,F,u,v⟩
  |region id U draw=>
   cases draw with
   |false=>
    simp only [dW]at d
    cases Z:oE P s U U.toList with
    |none=>simp [Z]at d
    |some l=>
     simp [Z]at d;subst d;simp only [aD]at h
     cases f:ops call l A H with
     |none=>simp [f]at h
     |some r=>
      obtain ⟨t,p⟩:=r;simp only [f,aqH,aqO]at h;obtain ⟨rfl,rfl,rfl⟩:=h;refine wp_region ?_;have:=Fp (Q:=Fm w0 φ w H s .normal t p) lj U.toList l 0 Z (fun j o V=>by simpa using V) f F R D u v (fun dG a' w' R' G F' gM Ut=>⟨rfl,dG,R',G,F',gM,Ut⟩);rwa [Array.length_toList,←List.range_eq_range']at this
   |true=>
    have rm:=d;obtain ⟨l,ck,Uu⟩:=zE d;rw [Uu]at h;simp only [aD]at h;split at h
    case h_2=>cases h
    rename_i t p f;simp only [aqH,aqO]at h;obtain ⟨rfl,rfl,rfl⟩:=h;exact Us s id U _ rm _ _ Uu w0 w φ H p A t a f F R D u v
  |refuse r=>
   simp only [dW,aqH]at d;subst d;simp only [aD,X.ev]at h;cases h
  |seq x y=>
   simp only [dW]at d
   cases g:dW P s x with
   |none=>simp [g]at d
   |some B=>
    cases K:dW P s y with
    |none=>simp [g,K]at d
    |some ay=>
     simp [g,K]at d;subst d;simp only [aD]at h;refine wp_seq ?_
     cases f:aD call m B A H with
     |none=>simp [f]at h
     |some r=>
      obtain ⟨Jq,t,p⟩:=r;have k:=ih x B g f F R D u v
      cases Jq with
      |normal=>
       simp only [f]at h;refine wp_mono k ?_;rintro e C k ⟨rfl,J,R1,E,F1,Y,Ur⟩;refine wp_mono (ih y ay K h F1 R1 (E.fresh D) Y Ur) ?_;rintro e a2 W ⟨he,I,O,S,T,L,M⟩;exact ⟨he,I,O,E.trans S,T,L,M⟩
      |exit i=>
       simp only [f,aqH,aqO]at h;obtain ⟨rfl,rfl,rfl⟩:=h;refine wp_mono k ?_;rintro e C k ⟨rfl,q⟩;exact ⟨rfl,q⟩
      |ret=>
       simp only [f,aqH,aqO]at h;obtain ⟨rfl,rfl,rfl⟩:=h;refine wp_mono k ?_;rintro e C k ⟨rfl,q⟩;exact ⟨rfl,q⟩
  |cond x y z=>
   simp only [dW]at d;split at d
   case h_2=>cases d
   rename_i xx ay az g K hz;cases d;simp only [aD]at h;have hv:=dk F g;cases hq:xx.ev A<;>simp [hq]at h;rename_i b;rw [hq]at hv;refine wp_cond hv.bool ?_;cases b
   ·simp only [Bool.false_eq_true,if_false]
    exact ih z az hz h F R D u v
   ·simp only [if_true]
    exact ih y ay K h F R D u v
  |block i x=>
   simp only [dW]at d
   cases g:dW P s x with
   |none=>simp [g]at d
   |some B=>
    simp [g]at d;subst d;simp only [aD]at h;refine wp_block ?_
    cases f:aD call m B A H with
    |none=>simp [f]at h
    |some r=>
     obtain ⟨Jq,t,p⟩:=r;have k:=ih x B g f F R D u v;refine wp_mono k ?_;rintro e C w3 ⟨rfl,q⟩
     cases Jq with
     |normal=>
      simp only [f,aqH,aqO]at h;obtain ⟨rfl,rfl,rfl⟩:=h;exact ⟨rfl,q⟩
     |ret=>
      simp only [f,aqH,aqO]at h;obtain ⟨rfl,rfl,rfl⟩:=h;exact ⟨rfl,q⟩
     |exit j=>
      simp only [f,nb,Bool.cond_decide]at h;show Exit.inBlock i _ (.exit j) C w3;simp only [Exit.inBlock];by_cases V:j=i
      ·rw [if_pos V]at h⊢
       simp only [aqH,aqO]at h;obtain ⟨rfl,rfl,rfl⟩:=h;exact ⟨rfl,q⟩
      ·rw [if_neg V]at h⊢
       simp only [aqH,aqO]at h;obtain ⟨rfl,rfl,rfl⟩:=h;exact ⟨rfl,q⟩
  |loop x=>
   simp only [dW]at d
   cases g:dW P s x with
   |none=>simp [g]at d
   |some B=>
    simp [g]at d;subst d;refine wp_loop_ghost (fun n C k=>n≤m+1∧∃t p J,aD call n (.loop B) t p=some (ex,N,H')∧lM J t C∧Rel w0 J p k∧Grow φ H w J p k∧C.tmps.size=s∧C.defers=[]) (m+1) ⟨aqK _,A,H,φ,h,F,R,Grow.refl _ _ _,u,v⟩ ?_;rintro n C k ⟨hn,t,p,J,f,F1,R1,E,Y,Ur⟩
    cases n with
    |zero=>simp [aD]at f
    |succ n=>
     simp only [aD]at f
     cases h2:aD call n B t p with
     |none=>simp [h2]at f
     |some r=>
      obtain ⟨SY,eZ,H2⟩:=r;have mono:aD call m B t p=some (SY,eZ,H2):=fm (by omega) h2;have W:=ih x B g mono F1 R1 (E.fresh D) Y Ur;refine wp_mono W ?_;rintro e a2 W ⟨rfl,I,O,S,T,L,M⟩
      cases SY with
      |normal=>
       simp only [h2]at f;exact ⟨n,by omega,by omega,eZ,H2,I,f,T,O,E.trans S,L,M⟩
      |exit j=>
       simp only [h2,aqH,aqO]at f;obtain ⟨rfl,rfl,rfl⟩:=f;exact ⟨rfl,I,O,E.trans S,T,L,M⟩
      |ret=>
       simp only [h2,aqH,aqO]at f;obtain ⟨rfl,rfl,rfl⟩:=f;exact ⟨rfl,I,O,E.trans S,T,L,M⟩
  |exit i=>
   simp [dW]at d;subst d;simp only [aD,aqH,aqO]at h;obtain ⟨rfl,rfl,rfl⟩:=h;exact wp_exit ⟨rfl,φ,R,Grow.refl _ _ _,F,u,v⟩
  |ret=>
   simp [dW]at d;subst d;simp only [aD,aqH,aqO]at h;obtain ⟨rfl,rfl,rfl⟩:=h;exact wp_ret ⟨rfl,φ,R,Grow.refl _ _ _,F,u,v⟩
  |_=>simp [dW]at d
end
end
section
open Go
theorem Dg {p:cv} {e NA:X→Value} (h:∀x∈p.xs,e x=NA x) (H:AH):aq p e H=aq p NA H:=by
 have g:∀(l:List X),(∀x∈l,e x=NA x)→l.map e=l.map NA:=fun l i=>List.map_congr_left i
 have mp:∀(l:List (Nat×Nat×X)),(∀x∈l.map (fun p=>p.2.2),e x=NA x)→(l.map fun p=>(p.1,p.2.1,e p.2.2))=l.map fun p=>(p.1,p.2.1,NA p.2.2):=
  fun l i=>List.map_congr_left fun p m=>by rw [i _ (ard.2 ⟨p,m,rfl⟩)]
 have j:∀(l:Option X),(∀x∈l.toList,e x=NA x)→l.map e=l.map NA:=fun l i=>by cases l<;>simp_all
 cases p
 case build z ps=>simp only [aq];rw [mp ps h]
 case bsl a b c ps=>simp only [aq];rw [mp ps h]
 case mkf f a b=>
  simp only [aq];rw [g a fun x d=>h x (by simp [cv.xs,d]),g b fun x d=>h x (by simp [cv.xs,d])]
 case call f as=>simp only [aq];rw [g as h]
 case xt k l=>simp only [aq];rw [g l h]
 case callv x as=>
  simp only [aq];rw [g as fun x d=>h x (by simp [cv.xs,d]),h x (by simp [cv.xs])]
 case mxl x as=>
  simp only [aq];rw [g as fun x d=>h x (by simp [cv.xs,d]),h x (by simp [cv.xs])]
 case mnl x as=>
  simp only [aq];rw [g as fun x d=>h x (by simp [cv.xs,d]),h x (by simp [cv.xs])]
 case sl sz x lo hi mx=>
  simp only [aq];rw [h x (by simp [cv.xs]),j lo fun x d=>h x (by simp [cv.xs]at d⊢;simp [d]),j hi fun x d=>h x (by simp [cv.xs]at d⊢;simp [d]),j mx fun x d=>h x (by simp [cv.xs]at d⊢;simp [d])]
 all_goals
  simp only [cv.xs,aqY,arh,or_false,forall_eq_or_imp,forall_eq,implies_true,false_imp_iff]at h;simp only [aq,h]
theorem zF {sz:Nat} {H H1:AH} {x:Value} {hi mx:Option Value}:bS sz H1 x none hi mx=bS sz H x none hi mx:=by
 cases x<;>try rfl
 rename_i a len cap;simp only [bS]
 cases b:bz len cap none hi mx with
 |none=>rfl
 |some r=>
  obtain ⟨l,h,m⟩:=r
  have c:l=0:=by
   unfold bz at b;simp only [aqR]at b;obtain ⟨_,_,_,_,_,e,d⟩:=b;simp at e d;omega
  subst c;simp
theorem mB {p:cv} {g:X→Value} {H H':AH} {r:iY} (d:eP p= .pure) (h:aq p g H=some (r,H')):
 H'=H∧∀H1:AH,aq p g H1=some (r,H1):=by
 cases p
 case sl sz x lo hi mx=>
  cases lo with
  |some l=>simp [eP]at d
  |none=>
   simp only [aq,Option.map_none,aqQ]at h⊢;obtain ⟨v,i,e⟩:=h;cases e;exact ⟨rfl,fun H1=>⟨v,zF.trans i,rfl⟩⟩
 case eqk k neg x y=>
  simp only [aq,aqQ]at h⊢;obtain ⟨b,f,e⟩:=h;cases e;exact ⟨rfl,fun H1=>⟨b,f,rfl⟩⟩
 case xt k l=>
  cases k<;>first
   |(simp [eP]at d;done)
   |skip
  all_goals
   simp only [aq,EM]at h⊢
   split at h<;>simp_all<;>first
    |(obtain ⟨a,⟨j,b,c,rfl,rfl⟩,h2⟩:=h;exact ⟨rfl,fun _=>⟨_,⟨j,c⟩,h2⟩⟩)
    |(obtain ⟨_,c,_,_⟩:=h;simp_all;done)
    |(obtain ⟨_,_,c,_,_⟩:=h;simp_all;done)
    |skip
 case eqs neg offs x y=>
  simp only [aq]at h⊢;split at h
  · simp only [aqQ]at h⊢
    obtain ⟨b,f,e⟩:=h;cases e;exact ⟨rfl,fun H1=>⟨b,f,rfl⟩⟩
  · cases h
 all_goals first
  |(simp [eP]at d;done)
  |(simp only [aq,Bool.cond_eq_ite,aqQ]at h⊢
    (repeat' split at h)<;>simp_all<;>try(obtain ⟨_,_,c,h2⟩:=h;simp_all))
theorem ja {p:cv} {d:X→Value} {H H':AH} {r:iY} (a:eP p= .alloc) (h:aq p d H=some (r,H')):
 ∃aR,H'=H.alloc aR∧∀H1:AH,H1.nx=H.nx→aq p d H1=some (r,H1.alloc aR):=by
 cases p
 case sl sz x lo hi mx=>cases lo<;>simp [eP]at a
 case xt k l=>cases k<;>simp [eP]at a
 all_goals first
  |(simp [eP]at a;done)
  |skip
 case alloc z=>
  simp only [aq,aqH,aqO]at h⊢;obtain ⟨rfl,rfl⟩:=h;exact ⟨_,rfl,fun H1 e=>⟨by rw [e],rfl⟩⟩
 case box x=>
  simp only [aq,Bool.cond_eq_ite]at h⊢;split at h
  ·cases h
  ·rename_i f
   simp only [aqH,aqO]at h;obtain ⟨rfl,rfl⟩:=h;exact ⟨_,rfl,fun H1 e=>by rw [if_neg f,e]⟩
 case bsl len sz z ps=>
  simp only [aq,aqQ]at h⊢;obtain ⟨c,b,e⟩:=h;cases e;exact ⟨_,rfl,fun H1 e=>⟨c,b,by rw [e]⟩⟩
 case mkmap=>
  simp only [aq,aqH,aqO]at h⊢;obtain ⟨rfl,rfl⟩:=h;exact ⟨_,rfl,fun H1 e=>⟨by rw [e],rfl⟩⟩
 case mksl sz bytes z x=>
  simp only [aq,Bool.cond_eq_ite]at h⊢;split at h
  ·split at h
   ·rename_i b
    simp only [aqH,aqO]at h;obtain ⟨rfl,rfl⟩:=h;exact ⟨_,rfl,fun H1 e=>by rw [if_pos b,e]⟩
   ·cases h
  ·cases h
theorem nr {a:Nat}:∀{l m:List Value},aL a l=some m→m.length=l.length
 |[],m,h=>by simp [aL]at h;subst h;rfl
 |v::l,m,h=>by
  simp only [aL]at h;split at h
  ·rename_i x c d b
   cases h;simp [nr b]
  ·cases h
theorem db {H:AH} {a:Addr} {n:Nat} {vs:List Value} (h:H.ldn a n=some vs):(H.get a.block).isSome=true∧vs.length=n:=by
 unfold AH.ldn at h;split at h
 case h_2=>cases h
 rename_i z c e b;obtain ⟨d,h⟩:=aw h;simp at d;refine ⟨by simp [b],?_⟩;simp only [Bool.cond_eq_ite]at h;split at h
 ·rw [nr h];simp;omega
 ·cases h;simp;omega
theorem eR {H H1:AH} {a:Addr} {n:Nat} (b:H1.get a.block=H.get a.block) (c:H1.n0=H.n0):H1.ldn a n=H.ldn a n:=by
 unfold AH.ldn;rw [b,c]
theorem bo {H:AH} {a:Addr} {v:Value}:H.ld a=some v↔H.ldn a 1=some [v]:=by
 unfold AH.ld AH.ldn
 cases g:a.spot with
 |some x=>simp
 |none=>
  cases h:H.get a.block with
  |none=>simp
  |some b=>
   cases b with
   |map es=>simp
   |cells z c=>
    simp only
    cases d:c[a.off]? with
    |none=>
     have:=List.getElem?_eq_none_iff.1 d;have:decide (a.off+1≤c.length)=false:=by simp;omega
     simp [this]
    |some u=>
     have e:=(aqM.1 d).1;have f:decide (a.off+1≤c.length)=true:=by simp;omega
     have h2:List.take 1 (List.drop a.off c)=[u]:=by
      have:=(aqM.1 d).2;rw [List.drop_eq_getElem_cons e,this];rfl
     simp only [f,cond_true,h2]
     cases i:decide (a.block<H.n0)with
     |false=>simp
     |true=>
      simp only [cond_true,aL];cases aX H.n0 u<;>simp
theorem mC {o:AO} {i:Fr} {H H':AH} {r:iY} (f:eP o.o= .load) (h:aq o.o (X.ev i) H=some (r,H')):
 H'=H∧∃a vs,eC o i H=some (a,vs)∧cK o i=some a.block∧H.ldn a vs.length=some vs∧∀H1:AH,H1.ldn a vs.length=some vs→aq o.o (X.ev i) H1=some (r,H1):=by
 obtain ⟨g,d,p⟩:=o;dsimp only at f h;unfold eC cK;dsimp only;cases p
 case sl sz x lo hi mx=>cases lo<;>simp [eP]at f
 case xt k l=>cases k<;>simp [eP]at f
 all_goals first
  |(simp [eP]at f;done)
  |skip
 case ld x=>
  simp only [aq]at h⊢;split at h
  case h_2=>cases h
  rename_i a m;simp only [aqQ]at h;obtain ⟨v,b,e⟩:=h;cases e;have c:=bo.1 b;refine ⟨rfl,a,[v],?_,rfl,c,fun H1 j=>?_⟩
  ·rw [c];rfl
  ·rw [bo.2 j];rfl
 case ldn n x=>
  simp only [aq]at h⊢;split at h
  case h_2=>cases h
  rename_i a m;simp only [aqQ]at h;obtain ⟨vs,b,e⟩:=h;cases e;have c:=(db b).2;subst c;refine ⟨rfl,a,vs,?_,rfl,b,fun H1 j=>?_⟩
  ·rw [b];rfl
  ·rw [j];rfl
theorem JY {H H':AH} {a:Addr} {vs:List Value} (h:H.st a vs=some H'):(H.get a.block).isSome=true∧∃z d,H'=H.put a.block (some (.cells z d))∧
 ∀H1:AH,H1.get a.block=H.get a.block→H1.n0=H.n0→H1.st a vs=some (H1.put a.block (some (.cells z d))):=by
 unfold AH.st at h;split at h
 case h_2=>cases h
 rename_i z c e b;obtain ⟨f,h⟩:=aw h;cases h;refine ⟨by simp [b],z,_,rfl,fun H1 g h2=>?_⟩;unfold AH.st;rw [g,h2,b,e];simp only [f,cond_true]
theorem rp {o:AO} {f:Fr} {H H':AH} {r:iY} (c:eP o.o= .st) (h:aq o.o (X.ev f) H=some (r,H')):
 ∃b aR,cK o f=some b∧(H.get b).isSome=true∧H'=H.put b aR∧∀H1:AH,H1.get b=H.get b→H1.n0=H.n0→aq o.o (X.ev f) H1=some (r,H1.put b aR):=by
 obtain ⟨g,d,p⟩:=o;dsimp only at c h;unfold cK;dsimp only;cases p
 case sl sz x lo hi mx=>cases lo<;>simp [eP]at c
 case xt k l=>cases k<;>simp [eP]at c
 all_goals first
  |(simp [eP]at c;done)
  |skip
 case st n x v=>
  simp only [aq]at h⊢;split at h
  case h_2=>cases h
  rename_i a u;obtain ⟨j,h⟩:=aw h;simp only [aqQ]at h;obtain ⟨w,h2,e⟩:=h;cases e;obtain ⟨i,z,t,rfl,m⟩:=JY h2;refine ⟨a.block,some (.cells z t),rfl,i,rfl,fun H1 s q=>?_⟩;rw [j,cond_true,m H1 s q];rfl
theorem Fs {H:AH} {b sz:Nat} (h:H.get b=none):H.kD b sz=false:=by
 unfold AH.kD;rw [h]
theorem mD {o:AO} {s:Fr} {H H':AH} {r:iY} (w:eP o.o= .read) (h:aq o.o (X.ev s) H=some (r,H')):
 H'=H∧∀H1:AH,(∀b,cK o s=some b→(H.get b).isSome=true→H1.get b=H.get b)→H1.n0=H.n0→aq o.o (X.ev s) H1=some (r,H1):=by
 obtain ⟨g,d,p⟩:=o;dsimp only at w h;unfold cK;dsimp only;cases p
 case sl sz x lo hi mx=>
  simp only [aq,aqQ]at h⊢;obtain ⟨v,f,e⟩:=h;cases e;refine ⟨rfl,fun H1 j h2=>⟨v,?_,rfl⟩⟩;rw [←f];cases u:x.ev s<;>try rfl
  rename_i a len cap;rw [u]at f j;simp only [bS]at f⊢;split
  ·rfl
  ·cases a with
   |none=>rfl
   |some a=>
    rename_i l G m C;rw [C]at f;simp only at f⊢
    have n:(a.spot.isNone&&(Nat.beq l 0||H1.kD a.block sz))=(a.spot.isNone&&(Nat.beq l 0||H.kD a.block sz))∨H.get a.block=none:=by
     cases A:a.spot.isNone with
     |false=>left;simp
     |true=>
      cases i:H.get a.block with
      |none=>exact .inr rfl
      |some b=>
       left;have:=j a.block (by simp [A]) (by simp [i]);unfold AH.kD;rw [this]
    rcases n with n|n
    ·rw [n]
    ·obtain ⟨D,f⟩:=aw f
     rw [D];simp only [cond_true];split
     ·rfl
     ·rename_i B
      rw [if_neg B]at f;obtain ⟨t,f⟩:=aw f;rw [Fs n,Bool.or_false]at t;simp only [aqJ]at t;simp [t.1,t.2]
 case look kk z x k ok=>
  simp only [aq]at h⊢;cases u:x.ev s<;>simp only [u]at h⊢<;>try(cases h;done)
  rename_i y
  cases y with
  |none=>
   simp only at h⊢;obtain ⟨j,h⟩:=aw h;cases h;exact ⟨rfl,fun H1 _ _=>by rw [j];rfl⟩
  |some q=>
   simp only at h⊢
   cases i:H.get q with
   |none=>simp [i]at h
   |some b=>
    cases b with
    |cells z c=>simp [i]at h
    |map es=>
     simp only [i]at h;obtain ⟨j,h⟩:=aw h;refine ⟨?_,fun H1 F E=>?_⟩
     ·split at h<;>first|(cases h;rfl)|cases h
     ·have:=F q rfl (by simp [i])
      rw [this,i,E];simp only [j,cond_true];split at h
      ·cases h;rfl
      ·cases h;rfl
      ·cases h
 case xt k l=>cases k<;>simp [eP]at w
 all_goals first
  |(simp [eP]at w;done)
  |skip
theorem Ft:∀{a b:Value},da a b=true→a=b:=by
 intro a b h;cases a<;>cases b<;>simp [da]at h<;>simp_all;exact ByteArray.ext h
theorem sk:∀{a b:List Value},eK a b=true→a=b
 |[],[],_=>rfl
 |a::l,b::m,h=>by
  simp only [eK,aqJ]at h;rw [Ft h.1,sk h.2]
 |[],_::_,h=>by simp [eK]at h
 |_::_,[],h=>by simp [eK]at h
theorem Dh {H:AH} {a:Addr} {vs:List Value} (h:sameAt H (a,vs)=true):H.ldn a vs.length=some vs:=by
 unfold sameAt at h;dsimp only at h;split at h
 ·rename_i m b
  rw [b,sk h]
 ·cases h
theorem Fu {x y:Option pP} (h:nm x y=true):x=y:=by
 unfold nm at h;split at h
 ·simp only [aqJ,Nat.beq_eq]at h
  rw [h.1,sk h.2]
 ·rfl
 ·cases h
open Go
theorem lP {n:Nat}:∀{l:List Nat},w7 n l=true↔n∈l
 |[]=>by simp [w7]
 |x::l=>by
  simp only [w7,Bool.or_eq_true,nb,aqS,aqY];rw [lP (l:=l)];constructor
  ·rintro (h|h)
   ·exact .inl h.symm
   ·exact .inr h
  ·rintro (h|h)
   ·exact .inl h.symm
   ·exact .inr h
theorem lQ {x y:AO} (h:jP x y=true):(∀d,x.d=some d→d∉tmpsOf y)∧(∀d,x.d=some d→y.d≠some d):=by
 unfold jP at h
 cases f:x.d with
 |none=>exact ⟨fun _ h=>(by cases h),fun _ h=>(by cases h)⟩
 |some d=>
  simp only [f,aqJ,Bool.not_eq_true']at h;refine ⟨fun e a=>?_,fun e a=>?_⟩
  ·cases a
   intro c;rw [lP.2 c]at h;cases h.1
  ·cases a
   intro b;rw [b]at h;simp at h
theorem Fr.jc {f:Fr} {d:Option Nat} {v:Value} {x:Nat}:(f.aO d v).get x=if d=some x then v else f.get x:=by
 cases d with
 |none=>simp [Fr.aO]
 |some k=>
  simp only [Fr.aO,Fr.bG,aqH];by_cases h:x=k
  ·simp [h]
  ·rw [if_neg h,if_neg (fun e=>h e.symm)]
inductive One (call:Cl) (o:AO) (fr:Fr) (H:AH) (x:Value) (H':AH):Prop where
 |off (h:o.wanted fr=false) (e:x=undef) (e2:H'=H)
 |val (h:o.wanted fr=true) (e:aq o.o (X.ev fr) H=some (.v x,H'))
 |call (h:o.wanted fr=true) (f:Nat) (as:List Value) (H1:AH) (e:aq o.o (X.ev fr) H=some (.enter f as,H1)) (e2:call f as H1=some (x,H'))
theorem dT {call:Cl} {o:AO} {b k:Fr} {H H':AH}:jM call o b H=some (k,H')↔∃x,k=b.aO o.d x∧One call o b H x H':=by
 unfold jM;constructor
 ·intro h
  cases a:o.wanted b with
  |false=>
   simp only [a,cond_false,aqH,aqO]at h;exact ⟨undef,h.1.symm,.off a rfl h.2.symm⟩
  |true=>
   simp only [a,cond_true]at h
   cases c:aq o.o (X.ev b) H with
   |none=>simp [c]at h
   |some l=>
    obtain ⟨res,j⟩:=l;simp only [c]at h
    cases res with
    |v x=>
     simp only [aqH,aqO]at h;obtain ⟨rfl,rfl⟩:=h;exact ⟨x,rfl,.val a c⟩
    |enter f as=>
     simp only at h
     cases g:call f as j with
     |none=>simp [g]at h
     |some r=>
      obtain ⟨x,m⟩:=r;simp only [g,aqH,aqO]at h;obtain ⟨rfl,rfl⟩:=h;exact ⟨x,rfl,.call a f as j c g⟩
 ·rintro ⟨x,rfl,h⟩
  cases h with
  |off h e i=>subst e;subst i;simp [h]
  |val h e=>simp [h,e]
  |call h f as j e i=>simp [h,e,i]
def qE (o:AO) (fr eZ:Fr):Prop:=∀t∈tmpsOf o,eZ.get t=fr.get t
theorem qE.ev {o:AO} {b a:Fr} (h:qE o b a):∀x∈o.o.xs,X.ev a x=X.ev b x:=by
 intro x c
 cases x with
 |t n=>
  exact h n (by
   unfold tmpsOf
   exact List.mem_append_right _ (List.mem_filterMap.2 ⟨.t n,c,rfl⟩))
 |k v=>rfl
 |f n=>rfl
theorem qE.wanted {o:AO} {fr a:Fr} (h:qE o fr a):o.wanted a=o.wanted fr:=by
 unfold AO.wanted
 cases d:o.g with
 |none=>rfl
 |some c=>
  obtain ⟨t,b⟩:=c;simp only;rw [h t (by unfold tmpsOf;rw [d];simp)]
theorem qE.one {call:Cl} {o:AO} {e d:Fr} {H H':AH} {x:Value} (h:qE o e d) (k:One call o e H x H'):One call o d H x H':=by
 have g:∀H,aq o.o (X.ev d) H=aq o.o (X.ev e) H:=fun H=>Dg h.ev H
 cases k with
 |off a b c=>exact .off (h.wanted.trans a) b c
 |val a b=>exact .val (h.wanted.trans a) ((g _).trans b)
 |call a f as i b c=>exact .call (h.wanted.trans a) f as i ((g _).trans b) c
theorem Fv {o:AO} {fr b:Fr} (h:qE o fr b):cK o b=cK o fr:=by
 have a:=h.ev;unfold cK;cases c:o.o<;>simp only [c,cv.xs,aqY,arh,or_false,forall_eq_or_imp,forall_eq]at a⊢;all_goals (simp only [a])
structure pL (call:Cl) (O:Nat→AO) (n:Nat) (sF:Nat→Fr) (sH:Nat→AH) (sn:Nat→Nat→Prop):Prop where
 step:∀t,t<n→jM call (O t) (sF t) (sH t)=some (sF (t+1),sH (t+1))
 n0:∀t,t<n→(sH (t+1)).n0=(sH t).n0
 nx:∀t,t<n→(sH t).nx≤(sH (t+1)).nx
 pair:∀p q,p<q→q<n→sn p q∨(jP (O p) (O q)=true∧jP (O q) (O p)=true∧ei (eP (O p).o) (eP (O q).o)=true)
 c0:∀p q,p<q→q<n→¬ sn p q→(O p).wanted (sF p)=true→(O q).wanted (sF q)=true→eP (O p).o= .load→eP (O q).o= .j8→
  ∃x,eC (O p) (sF p) (sH p)=some x∧sameAt (sH (q+1)) x=true
 c1:∀p q,p<q→q<n→¬ sn p q→(O p).wanted (sF p)=true→(O q).wanted (sF q)=true→eP (O p).o= .alloc→eP (O q).o= .j8→
  (sH (q+1)).get (sH p).nx=(sH (p+1)).get (sH p).nx
 c2:∀p q,p<q→q<n→¬ sn p q→(O p).wanted (sF p)=true→(O q).wanted (sF q)=true→(eP (O p).o= .load∨eP (O p).o= .read∨eP (O p).o= .st)→eP (O q).o= .st→
  ∀b b',cK (O p) (sF p)=some b→cK (O q) (sF q)=some b'→b≠b'
section
variable{call:Cl} {O:Nat→AO} {n:Nat} {sF:Nat→Fr} {sH:Nat→AH} {sn:Nat→Nat→Prop} (R:pL call O n sF sH sn)
include R
theorem pL.SZ (t:Nat) (h:t≤n):(sH t).n0=(sH 0).n0:=by
 induction t with
 |zero=>rfl
 |succ t ih=>exact (R.n0 t (by omega)).trans (ih (by omega))
theorem pL.nxs {t:Nat} (k:Nat) (h:t+k≤n):(sH t).nx≤(sH (t+k)).nx:=by
 induction k with
 |zero=>exact aqK _
 |succ k ih=>exact aq2 (ih (by omega)) (R.nx (t+k) (by omega))
theorem pL.iJ {t u:Nat} (h:t≤u) (a:u≤n):(sH t).nx≤(sH u).nx:=by
 have:=R.nxs (t:=t) (u- t) (by omega);rwa [show t+(u- t)=u by omega]at this
omit R in
def vj (O:Nat→AO) (sF:Nat→Fr) (t:Nat):Value:=(sF (t+1)).get ((O t).d.getD 0)
omit R in
def vk (O:Nat→AO) (sF:Nat→Fr) (S:Nat→Bool):Nat→Fr
 |0=>sF 0
 |t+1=>bif S t then(vk O sF S t).aO (O t).d (vj O sF t)else vk O sF S t
theorem pL.frame {t:Nat} (a:t<n) (x:Nat):(sF (t+1)).get x=if(O t).d=some x then vj O sF t else(sF t).get x:=by
 obtain ⟨v,b,_⟩:=dT.1 (R.step t a);by_cases h:(O t).d=some x
 ·rw [if_pos h]
  unfold vj;rw [h];rfl
 ·rw [if_neg h,b,Fr.jc,if_neg h]
theorem pL.one {t:Nat} (a:t<n):∃x,One call (O t) (sF t) (sH t) x (sH (t+1))∧∀f:Fr,f.aO (O t).d x=f.aO (O t).d (vj O sF t):=by
 obtain ⟨v,b,e⟩:=dT.1 (R.step t a);refine ⟨v,e,fun f=>?_⟩
 cases c:(O t).d with
 |none=>rfl
 |some k=>
  have:vj O sF t=v:=by
   unfold vj;rw [b,c];simp [Fr.aO,Fr.bG]
  rw [this]
omit R in
theorem vn {S S':Nat→Bool} {x m:Nat} (h:∀p,p<m→(O p).d=some x→S p=S' p):(vk O sF S m).get x=(vk O sF S' m).get x:=by
 induction m with
 |zero=>rfl
 |succ m ih=>
  have ih:=ih fun p b=>h p (by omega)
  simp only [vk];by_cases a:(O m).d=some x
  ·have:=h m (by omega) a
   rw [this];cases S' m
   ·exact ih
   ·simp only [cond_true,Fr.jc,if_pos a]
  ·cases S m<;>cases S' m<;>simp only [cond_true,cond_false,Fr.jc,if_neg a]<;>exact ih
omit R in
theorem so {S:Nat→Bool} {x t m:Nat} (f:t≤m) (h:∀p,t≤p→p<m→S p=true→(O p).d≠some x):(vk O sF S m).get x=(vk O sF S t).get x:=by
 induction m with
 |zero=>obtain rfl:t=0:=by omega
        rfl
 |succ m ih=>
  rcases Nat.lt_or_ge m t with a|a
  · obtain rfl:t=m+1:=by omega
    rfl
  · have ih:=ih a fun p c b=>h p c (by omega)
    simp only [vk]
    cases e:S m with
    |false=>exact ih
    |true=>simp only [cond_true,Fr.jc,if_neg (h m a (by omega) e)];exact ih
theorem pL.Bj {m:Nat} (a:m≤n) (x:Nat):(vk O sF (fun _=>true) m).get x=(sF m).get x:=by
 induction m with
 |zero=>rfl
 |succ m ih=>
  rw [R.frame (by omega),vk,cond_true,Fr.jc,ih (by omega)]
omit R in
structure Uw (n:Nat) (sn:Nat→Nat→Prop) (S:Nat→Bool) (t:Nat):Prop where
 lt:t<n
 out:S t=false
 rdy:∀p,p<t→sn p t→S p=true
 cls:∀p q,p<q→q<n→S q=true→sn p q→S p=true
variable{S:Nat→Bool} {t:Nat} (C:Uw n sn S t)
include C
theorem pL.before {p:Nat} (a:p<t) (c:S p=false):¬ sn p t∧jP (O p) (O t)=true∧jP (O t) (O p)=true∧ei (eP (O p).o) (eP (O t).o)=true:=by
 have b:¬ sn p t:=fun h=>by rw [C.rdy p a h]at c;cases c
 exact ⟨b,(R.pair p t a C.lt).resolve_left b⟩
theorem pL.behind {p:Nat} (b:t<p) (a:p<n) (d:S p=true):¬ sn t p∧jP (O t) (O p)=true∧jP (O p) (O t)=true∧ei (eP (O t).o) (eP (O p).o)=true:=by
 have c:¬ sn t p:=fun h=>by have:=C.cls t p b a d h;rw [C.out]at this;cases this
 exact ⟨c,(R.pair t p b a).resolve_left c⟩
theorem pL.agree:qE (O t) (sF t) (vk O sF S n):=by
 intro x d;rw [so (t:=t) (Nat.le_of_lt C.lt),←R.Bj (Nat.le_of_lt C.lt)]
 ·refine vn fun p b c=>?_
  cases a:S p with
  |true=>rfl
  |false=>exact absurd d ((lQ (R.before C b a).2.1).1 x c)
 ·intro p b e a c
  rcases Nat.lt_or_eq_of_le b with h|h
  ·exact (lQ (R.behind C h e a).2.2.1).1 x c d
  ·subst h;rw [C.out]at a;cases a
omit R C in
def ins (S:Nat→Bool) (t:Nat):Nat→Bool:=fun p=>bif Nat.beq p t then true else S p
omit R C in
theorem fM:ins S t t=true:=by simp [ins]
omit R C in
theorem iv {p:Nat} (h:p≠t):ins S t p=S p:=by
 unfold ins;rw [nb,decide_eq_false h];rfl
theorem pL.JZ (x:Nat):(vk O sF (ins S t) n).get x=((vk O sF S n).aO (O t).d (vj O sF t)).get x:=by
 rw [Fr.jc];by_cases a:(O t).d=some x
 ·rw [if_pos a,so (t:=t+1) C.lt]
  ·rw [vk,fM,cond_true,Fr.jc,if_pos a]
  ·intro p f c b
   rw [iv (by omega)]at b;have:=(lQ (R.behind C (by omega) c b).2.1).2 x a;exact this
 ·rw [if_neg a]
  refine vn fun p f g=>?_
  exact iv (fun e=>a (e▸g))
end
end
section
open Go
inductive Di (O:Nat→AO) (sF:Nat→Fr) (sH:Nat→AH) (t b:Nat):Prop where
 |alloc (w:(O t).wanted (sF t)=true) (k:eP (O t).o= .alloc) (e:b=(sH t).nx)
 |st (w:(O t).wanted (sF t)=true) (k:eP (O t).o= .st) (e:cK (O t) (sF t)=some b)
 |j8 (w:(O t).wanted (sF t)=true) (k:eP (O t).o= .j8)
open Classical in
noncomputable def gS (O:Nat→AO) (sF:Nat→Fr) (sH:Nat→AH) (S:Nat→Bool):Nat→Nat→Option pP
 |0=>(sH 0).raw
 |t+1=>fun b=>if S t=true∧Di O sF sH t b then(sH (t+1)).raw b else gS O sF sH S t b
noncomputable def gB (O:Nat→AO) (sF:Nat→Fr) (sH:Nat→AH) (S:Nat→Bool):Nat→Option (Nat×ByteArray)
 |0=>(sH 0).bs
 |t+1=>if S t=true∧(O t).wanted (sF t)=true∧eP (O t).o= .j8 then(sH (t+1)).bs else gB O sF sH S t
noncomputable def wP (O:Nat→AO) (sF:Nat→Fr) (sH:Nat→AH) (S:Nat→Bool) (m nx:Nat):AH:=⟨gS O sF sH S m,(sH 0).n0,nx,.nil,gB O sF sH S m⟩
section
variable{call:Cl} {O:Nat→AO} {n:Nat} {sF:Nat→Fr} {sH:Nat→AH} {sn:Nat→Nat→Prop}
theorem Bk (S:Nat→Bool) (m a b:Nat):(wP O sF sH S m a).raw b=gS O sF sH S m b:=rfl
theorem mE (S:Nat→Bool) (m a b:Nat) (h:b<a):(wP O sF sH S m a).get b=gS O sF sH S m b:=by
 rw [AH.eO (by exact h)];rfl
theorem Bl {S S':Nat→Bool} {b m:Nat} (h:∀p,p<m→Di O sF sH p b→S p=S' p):gS O sF sH S m b=gS O sF sH S' m b:=by
 induction m with
 |zero=>rfl
 |succ m ih=>
  have ih:=ih fun p c=>h p (by omega)
  simp only [gS];by_cases a:Di O sF sH m b
  ·rw [h m (by omega) a,ih]
  ·rw [if_neg (fun e=>a e.2),if_neg (fun e=>a e.2),ih]
theorem rq {S:Nat→Bool} {b t m:Nat} (f:t≤m) (h:∀p,t≤p→p<m→S p=true→¬ Di O sF sH p b):gS O sF sH S m b=gS O sF sH S t b:=by
 induction m with
 |zero=>obtain rfl:t=0:=by omega
        rfl
 |succ m ih=>
  rcases Nat.lt_or_ge m t with a|a
  · obtain rfl:t=m+1:=by omega
    rfl
  · have ih:=ih a fun p d c=>h p d (by omega)
    simp only [gS];rw [if_neg (fun e=>h m a (by omega) e.1 e.2),ih]
theorem Bm {S S':Nat→Bool} {m:Nat} (h:∀p,p<m→(O p).wanted (sF p)=true→eP (O p).o= .j8→S p=S' p):gB O sF sH S m=gB O sF sH S' m:=by
 induction m with
 |zero=>rfl
 |succ m ih=>
  have ih:=ih fun p b=>h p (by omega)
  simp only [gB];by_cases a:(O m).wanted (sF m)=true∧eP (O m).o= .j8
  ·rw [h m (by omega) a.1 a.2,ih]
  ·rw [if_neg (fun e=>a e.2),if_neg (fun e=>a e.2),ih]
theorem vq {S:Nat→Bool} {t m:Nat} (d:t≤m) (h:∀p,t≤p→p<m→S p=true→(O p).wanted (sF p)=true→eP (O p).o≠ .j8):gB O sF sH S m=gB O sF sH S t:=by
 induction m with
 |zero=>obtain rfl:t=0:=by omega
        rfl
 |succ m ih=>
  rcases Nat.lt_or_ge m t with a|a
  · obtain rfl:t=m+1:=by omega
    rfl
  · have ih:=ih a fun p c b=>h p c (by omega)
    simp only [gB];rw [if_neg (fun e=>h m a (by omega) e.1 e.2.1 e.2.2),ih]
variable(R:pL call O n sF sH sn)
include R
theorem pL.Pu {t:Nat} (g:t<n) (h:¬ ((O t).wanted (sF t)=true∧eP (O t).o= .j8)):(sH (t+1)).bs=(sH t).bs:=by
 obtain ⟨x,i,_⟩:=R.one g
 cases i with
 |off a e d=>rw [d]
 |call a f as j e d=>exact absurd ⟨a,iS e⟩ h
 |val a e=>
  cases b:eP (O t).o with
  |pure=>rw [(mB b e).1]
  |load=>rw [(mC b e).1]
  |read=>rw [(mD b e).1]
  |j8=>exact absurd ⟨a,b⟩ h
  |alloc=>
   obtain ⟨aR,d,_⟩:=ja b e;rw [d];rfl
  |st=>
   obtain ⟨c,aR,h2,_,d,_⟩:=rp b e;rw [d];rfl
theorem pL.Fw {m:Nat} (a:m≤n):gB O sF sH (fun _=>true) m=(sH m).bs:=by
 induction m with
 |zero=>rfl
 |succ m ih=>
  simp only [gB];by_cases h:(O m).wanted (sF m)=true∧eP (O m).o= .j8
  ·rw [if_pos (by first|exact ⟨rfl,h⟩|exact ⟨trivial,h⟩)]
  ·rw [if_neg (fun e=>h e.2),ih (by omega),R.Pu (by omega) h]
theorem pL.still {t:Nat} (j:t<n) {b:Nat} (h:¬ Di O sF sH t b):(sH (t+1)).raw b=(sH t).raw b:=by
 obtain ⟨x,k,_⟩:=R.one j
 cases k with
 |off a e g=>rw [g]
 |call a f as l e g=>exact absurd (.j8 a (iS e)) h
 |val a e=>
  cases d:eP (O t).o with
  |pure=>rw [(mB d e).1]
  |load=>rw [(mC d e).1]
  |read=>rw [(mD d e).1]
  |j8=>exact absurd (.j8 a d) h
  |alloc=>
   obtain ⟨aR,g,_⟩:=ja d e;rw [g,AH.cA,if_neg];exact fun i=>h (.alloc a d i)
  |st=>
   obtain ⟨c,aR,h2,_,g,_⟩:=rp d e;rw [g,AH.cD,if_neg];intro i;subst i;exact h (.st a d h2)
theorem pL.Fx {m:Nat} (a:m≤n) (b:Nat):gS O sF sH (fun _=>true) m b=(sH m).raw b:=by
 induction m with
 |zero=>rfl
 |succ m ih=>
  simp only [gS];by_cases h:Di O sF sH m b
  ·rw [if_pos ⟨rfl,h⟩]
  ·rw [if_neg (fun e=>h e.2),ih (by omega),R.still (by omega) h]
theorem pL.dR {t:Nat} (c:t<n) (w:(O t).wanted (sF t)=true) (k:eP (O t).o= .alloc):(sH (t+1)).nx=(sH t).nx+1:=by
 obtain ⟨x,d,_⟩:=R.one c
 cases d with
 |off a e b=>rw [w]at a;cases a
 |call a f as g e b=>rw [iS e]at k;cases k
 |val a e=>
  obtain ⟨aR,b,_⟩:=ja k e;rw [b];rfl
structure Dom (O:Nat→AO) (n:Nat) (sF:Nat→Fr) (sH:Nat→AH) (S:Nat→Bool) (Dm:Nat→Prop):Prop where
 Fy:∀b,Dm b→b<(sH 0).nx∨∃t,t<n∧S t=true∧(sH t).nx≤b∧b<(sH (t+1)).nx
 sts:∀p,p<n→S p=true→(O p).wanted (sF p)=true→eP (O p).o= .st→∀b,cK (O p) (sF p)=some b→Dm b
variable{S:Nat→Bool} {Dm:Nat→Prop} (D:Dom O n sF sH S Dm)
include D
theorem pL.vr {p:Nat} (c:p<n) (d:S p=false) (w:(O p).wanted (sF p)=true) (k:eP (O p).o= .alloc):¬ Dm (sH p).nx:=by
 intro h;rcases D.Fy _ h with h|⟨t,e,b,f,h2⟩
 ·have:=R.iJ (aq8 p) (by omega);omega
 ·rcases Nat.lt_trichotomy t p with a|a|a
  ·have:=R.iJ (show t+1≤p by omega) (by omega);omega
  ·subst a;rw [d]at b;cases b
  ·have:=R.iJ (show p+1≤t by omega) (by omega)
   rw [R.dR c w k]at this;omega
variable{t:Nat} (C:Uw n sn S t)
include C
theorem pL.ahead {b:Nat} (j:Dm b) (h:∀p,p<t→S p=false→(O p).wanted (sF p)=true→eP (O p).o= .st→eP (O t).o= .st→cK (O p) (sF p)≠some b):gS O sF sH S t b=(sH t).raw b:=by
 rw [←R.Fx (Nat.le_of_lt C.lt)];refine Bl fun p d g=>?_
 cases f:S p with
 |true=>rfl
 |false=>
  exfalso;obtain ⟨_,_,_,a⟩:=R.before C d f;have i:p<n:=Nat.lt_trans d C.lt
  cases g with
  |alloc w k e=>subst e;exact R.vr D i f w k j
  |st w k e=>
   rw [k]at a
   cases c:eP (O t).o<;>rw [c]at a<;>first
    |(simp [ei,y5.jO]at a;done)
    |exact h p d f w k c e
  |j8 w k=>
   rw [k]at a;cases c:eP (O t).o<;>rw [c]at a<;>simp [ei,y5.jO]at a
theorem pL.load {a:Addr} {vs:List Value} (w:(O t).wanted (sF t)=true) (k:eP (O t).o= .load) (A:eC (O t) (sF t) (sH t)=some (a,vs)) (E:cK (O t) (sF t)=some a.block) (f:(sH t).ldn a vs.length=some vs) (B:Dm a.block):
 (wP O sF sH S n (sH n).nx).ldn a vs.length=some vs:=by
 have l:a.block<(sH t).nx:=by
  obtain ⟨x,s⟩:=arj.1 (db f).1;exact AH.aS s
 have key:∀m,t≤m→m≤n→(wP O sF sH S m (sH n).nx).ldn a vs.length=some vs:=by
  intro m z
  induction m with
  |zero=>
   intro v;obtain rfl:t=0:=by omega
   rw [←f];refine eR ?_ rfl;rw [mE _ _ _ _ (by have:=R.iJ (aq8 n) (aqK _);omega),AH.eO l];rfl
  |succ m ih=>
   intro v;rcases Nat.lt_or_eq_of_le z with q|q
   ·have ih:=ih (by omega) (by omega)
    have h:a.block<(sH n).nx:=by have:=R.iJ (Nat.le_of_lt C.lt) (aqK _);omega
    by_cases b:S m=true∧Di O sF sH m a.block
    ·obtain ⟨b,u⟩:=b
     have g:t<m:=by
      rcases Nat.lt_or_eq_of_le (show t≤m by omega)with h2|h2
      ·exact h2
      ·subst h2;rw [C.out]at b;cases b
     obtain ⟨j,_,_,y⟩:=R.behind C g (by omega) b
     cases u with
     |alloc c d e=>
      have:=R.iJ (show t≤m by omega) (by omega);omega
     |st c d e=>exact absurd rfl (R.c2 t m g (by omega) j w c (.inl k) d a.block a.block E e)
     |j8 c d=>
      obtain ⟨x,r,G⟩:=R.c0 t m g (by omega) j w c k d;rw [A]at r;cases r;have F:=Dh G;rw [←F];refine eR ?_ (R.SZ (m+1) (by omega)).symm;rw [mE _ _ _ _ h];have:a.block<(sH (m+1)).nx:=by have:=R.iJ (show t≤m+1 by omega) (by omega);omega
      rw [AH.eO this];simp only [gS];rw [if_pos ⟨b,.j8 c d⟩]
    ·rw [←ih]
     refine eR ?_ rfl;rw [mE _ _ _ _ h,mE _ _ _ _ h];simp only [gS];rw [if_neg b]
   ·subst q
    rw [←f];refine eR ?_ (R.SZ _ (by omega)).symm;rw [mE _ _ _ _ (by have:=R.iJ (show m+1≤n by omega) (aqK _);omega),AH.eO l];exact R.ahead D C B fun p H b c d i=>by rw [k]at i;cases i
 exact key n (Nat.le_of_lt C.lt) (aqK _)
theorem pL.look {b:Nat} (w:(O t).wanted (sF t)=true) (k:eP (O t).o= .read∨eP (O t).o= .st) (l:cK (O t) (sF t)=some b) (hs:((sH t).get b).isSome=true) (u:Dm b):
 (wP O sF sH S n (sH n).nx).get b=(sH t).get b:=by
 have s:b<(sH t).nx:=by
  obtain ⟨x,q⟩:=arj.1 hs;exact AH.aS q
 rw [mE _ _ _ _ (by have:=R.iJ (Nat.le_of_lt C.lt) (aqK _);omega),AH.eO s,rq (t:=t) (Nat.le_of_lt C.lt)]
 ·refine R.ahead D C u fun p g f c a m e=>?_
  obtain ⟨h,_⟩:=R.before C g f;exact absurd rfl (R.c2 p t g C.lt h c w (.inr (.inr a)) m b b e l)
 ·intro p g j f r
  have d:t<p:=by
   rcases Nat.lt_or_eq_of_le g with h2|h2
   ·exact h2
   ·subst h2;rw [C.out]at f;cases f
  obtain ⟨h,_,_,i⟩:=R.behind C d j f
  cases r with
  |alloc c a e=>
   have:=R.iJ (show t≤p by omega) (by omega);omega
  |st c a e=>
   exact absurd rfl (R.c2 t p d j h w c (.inr k) a b b l e)
  |j8 c a=>
   rw [a]at i;rcases k with k|k<;>rw [k]at i<;>simp [ei,y5.jO]at i
omit R D C in
theorem pW {b:Nat} (h:¬ Di O sF sH t b):gS O sF sH (ins S t) n b=gS O sF sH S n b:=
 Bl fun p c a=>iv (fun e=>h (e▸a))
theorem pL.sq {b:Nat} (h:Di O sF sH t b):gS O sF sH (ins S t) n b=(sH (t+1)).raw b:=by
 have stop:(∀p,t<p→p<n→S p=true→¬ Di O sF sH p b)→gS O sF sH (ins S t) n b=(sH (t+1)).raw b:=by
  intro u;rw [rq (t:=t+1) C.lt]
  ·simp only [gS]
   rw [if_pos ⟨fM,h⟩]
  ·intro p i g a
   rw [iv (by omega)]at a;exact u p (by omega) g a
 cases h with
 |j8 w k=>
  refine stop fun p i g a l=>?_
  obtain ⟨q,_,_,d⟩:=R.behind C i g a;rw [k]at d;cases s:eP (O p).o<;>rw [s]at d<;>simp [ei,y5.jO]at d
 |st w k e=>
  refine stop fun p i g a l=>?_
  obtain ⟨q,_,_,d⟩:=R.behind C i g a
  cases l with
  |alloc f c j=>rw [k,c]at d;simp [ei,y5.jO]at d
  |j8 f c=>rw [k,c]at d;simp [ei,y5.jO]at d
  |st f c j=>exact absurd rfl (R.c2 t p i g q w f (.inr (.inr k)) c b b e j)
 |alloc w k e=>
  have key:∀m,t+1≤m→m≤n→gS O sF sH (ins S t) m b=(sH (t+1)).raw b:=by
   intro m d
   induction m with
   |zero=>omega
   |succ m ih=>
    intro x;rcases Nat.lt_or_eq_of_le d with v|v
    ·have ih:=ih (by omega) (by omega)
     simp only [gS];by_cases a:ins S t m=true∧Di O sF sH m b
     ·rw [if_pos a]
      obtain ⟨a,l⟩:=a;rw [iv (by omega)]at a;obtain ⟨q,_,_,_⟩:=R.behind C (show t<m by omega) (by omega) a
      cases l with
      |alloc f c j=>
       have h2:=R.iJ (show t+1≤m by omega) (by omega);rw [R.dR C.lt w k]at h2;omega
      |st f c j=>
       have:=D.sts m (by omega) a f c b j;subst e;exact absurd this (R.vr D C.lt C.out w k)
      |j8 f c=>
       have r:=R.c1 t m (by omega) (by omega) q w f k c;have h2:=R.dR C.lt w k;have y:=R.iJ (show t+1≤m+1 by omega) (by omega);rw [AH.eO (by omega),AH.eO (by omega)]at r;rw [e];exact r
     ·rw [if_neg a,ih]
    ·have:m=t:=by omega
     subst this;simp only [gS];rw [if_pos ⟨fM,.alloc w k e⟩]
  exact key n C.lt (aqK _)
end
end
section
open Go
section
variable{call:Cl} {O:Nat→AO} {n:Nat} {sF:Nat→Fr} {sH:Nat→AH} {sn:Nat→Nat→Prop}
structure Step (call:Cl) (O:Nat→AO) (n:Nat) (sF:Nat→Fr) (sH:Nat→AH) (S:Nat→Bool) (Dm:Nat→Prop) (t:Nat) (Hx Hy:AH):Prop where
 run:jM call (O t) (vk O sF S n) Hx=some ((vk O sF S n).aO (O t).d (vj O sF t),Hy)
 pre:∀b,Dm b→Hx.raw b=gS O sF sH S n b
 n0x:Hx.n0=(sH 0).n0
 post:∀b,gS O sF sH (ins S t) n b=Hy.raw b
 n0y:Hy.n0=(sH 0).n0
 bsx:Hx.bs=gB O sF sH S n
 bsy:gB O sF sH (ins S t) n=Hy.bs
 lo:(sH 0).nx≤Hx.nx
 hi:Hy.nx≤(sH n).nx
 out:¬ Dm Hx.nx
 fresh:eP (O t).o= .j8→∀b,Hx.nx≤b→¬ Dm b
 new:∀b,Hx.nx≤b→b<Hy.nx→(sH t).nx≤b∧b<(sH (t+1)).nx
variable(R:pL call O n sF sH sn) {S:Nat→Bool} {Dm:Nat→Prop} (D:Dom O n sF sH S Dm) {t:Nat} (C:Uw n sn S t)
include R D
theorem pL.ru {b:Nat} (h:(sH n).nx≤b):¬ Dm b:=by
 intro a;rcases D.Fy b a with c|⟨p,d,_,c,h2⟩
 ·have:=R.iJ (aq8 n) (aqK _);omega
 ·have:=R.iJ (show p+1≤n by omega) (aqK _);omega
include C
omit R D C in
theorem zG (h:¬ ((O t).wanted (sF t)=true∧eP (O t).o= .j8)):gB O sF sH (ins S t) n=gB O sF sH S n:=
 Bm fun p _ w k=>iv (fun e=>h (e▸⟨w,k⟩))
theorem pL.same {x:Value} (c:∀f:Fr,f.aO (O t).d x=f.aO (O t).d (vj O sF t)) (a:∀b,¬ Di O sF sH t b)
 (h:One call (O t) (sF t) (wP O sF sH S n (sH n).nx) x (wP O sF sH S n (sH n).nx)):Step call O n sF sH S Dm t (wP O sF sH S n (sH n).nx) (wP O sF sH S n (sH n).nx)where
 run:=dT.2 ⟨x,(c _).symm,(R.agree C).one h⟩
 pre:=fun b _=>rfl
 n0x:=rfl
 post:=fun b=>pW (a b)
 n0y:=rfl
 bsx:=rfl
 bsy:=zG fun e=>a 0 (.j8 e.1 e.2)
 lo:=R.iJ (aq8 n) (aqK _)
 hi:=aqK _
 out:=R.ru D (aqK _)
 fresh:=fun _ b g=>R.ru D g
 new:=fun b i h2=>by omega
theorem pL.Pv (I:(O t).wanted (sF t)=true→∀b,cK (O t) (sF t)=some b→Dm b):∃L Hy,Step call O n sF sH S Dm t L Hy:=by
 obtain ⟨x,z,r⟩:=R.one C.lt;have X:=R.iJ (show t+1≤n from C.lt) (aqK _);have Px:=R.iJ (show t≤n by have:=C.lt;omega) (aqK _);have Q:=R.iJ (aq8 t) (Nat.le_of_lt C.lt);have N:(wP O sF sH S n (sH n).nx).n0=(sH t).n0:=(R.SZ t (Nat.le_of_lt C.lt)).symm
 have T:(O t).wanted (sF t)=true→eP (O t).o= .j8→∃L Hy,Step call O n sF sH S Dm t L Hy:=by
  intro w k
  have B:∀p,t<p→p<n→S p=true→False:=by
   intro p l u g;obtain ⟨_,_,_,y⟩:=R.behind C l u g;rw [k]at y;cases d:eP (O p).o<;>rw [d]at y<;>simp [ei,y5.jO]at y
  have fresh:∀b,(sH t).nx≤b→¬ Dm b:=by
   intro b j W;rcases D.Fy b W with h2|⟨p,l,g,h2,q⟩
   ·omega
   ·rcases Nat.lt_trichotomy p t with i|i|i
    ·have:=R.iJ (show p+1≤t by omega) (Nat.le_of_lt C.lt);omega
    ·subst i;rw [C.out]at g;cases g
    ·exact B p i l g
  have K:(sH t).bs=gB O sF sH S n:=by
   rw [vq (t:=t) (Nat.le_of_lt C.lt),←R.Fw (Nat.le_of_lt C.lt)]
   ·refine Bm fun p l F E=>?_
    cases g:S p with
    |true=>rfl
    |false=>
     obtain ⟨_,_,_,y⟩:=R.before C l g;rw [k,E]at y;simp [ei,y5.jO]at y
   ·intro p l u g F E
    rcases Nat.lt_or_eq_of_le l with i|i
    ·exact B p i u g
    ·subst i;rw [C.out]at g;cases g
  have J:gB O sF sH (ins S t) n=(sH (t+1)).bs:=by
   rw [vq (t:=t+1) C.lt]
   ·simp only [gB]
    rw [if_pos ⟨fM,w,k⟩]
   ·intro p l u g F E
    rw [iv (by omega)]at g;exact B p (by omega) u g
  refine ⟨sH t,sH (t+1),?_,?_,R.SZ t (Nat.le_of_lt C.lt),?_,R.SZ (t+1) C.lt,K,J,Q,X,fresh _ (aqK _),fun _=>fresh,fun b h2 q=>⟨h2,q⟩⟩
  ·exact dT.2 ⟨x,(r _).symm,(R.agree C).one z⟩
  ·intro b j
   rw [rq (t:=t) (Nat.le_of_lt C.lt)]
   ·exact (R.ahead D C j fun p l g F E M=>by rw [k]at M;cases M).symm
   ·intro p l u g
    rcases Nat.lt_or_eq_of_le l with i|i
    ·exact (B p i u g).elim
    ·subst i;rw [C.out]at g;cases g
  ·intro b
   exact R.sq D C (.j8 w k)
 cases z with
 |off w e A=>
  exact ⟨_,_,R.same D C r (fun b s=>by
   have:(O t).wanted (sF t)=true:=by cases s<;>assumption
   rw [w]at this
   cases this) (.off w e rfl)⟩
 |call w f as H1 e A=>exact T w (iS e)
 |val w e=>
  have quiet:(eP (O t).o≠ .alloc)→(eP (O t).o≠ .st)→(eP (O t).o≠ .j8)→∀b,¬ Di O sF sH t b:=by
   intro h2 q i b s
   cases s with
   |alloc _ k _=>exact h2 k
   |st _ k _=>exact q k
   |j8 _ k=>exact i k
  cases d:eP (O t).o with
  |j8=>exact T w d
  |pure=>
   exact ⟨_,_,R.same D C r (quiet (by simp [d]) (by simp [d]) (by simp [d])) (.val w ((mB d e).2 _))⟩
  |load=>
   obtain ⟨_,a,Y,V,m,U,v⟩:=mC d e;exact ⟨_,_,R.same D C r (quiet (by simp [d]) (by simp [d]) (by simp [d])) (.val w (v _ (R.load D C w d V m U (I w _ m))))⟩
  |read=>
   obtain ⟨_,v⟩:=mD d e;exact ⟨_,_,R.same D C r (quiet (by simp [d]) (by simp [d]) (by simp [d])) (.val w (v _ (fun b m G=>R.look D C w (.inl d) m G (I w _ m)) N))⟩
  |st=>
   obtain ⟨c,aR,m,G,A,v⟩:=rp d e;have q:=v (wP O sF sH S n (sH n).nx) (R.look D C w (.inr d) m G (I w _ m)) N;have H:One call (O t) (sF t) (wP O sF sH S n (sH n).nx) x ((wP O sF sH S n (sH n).nx).put c aR):=.val w q;refine ⟨_,_,dT.2 ⟨x,(r _).symm,(R.agree C).one H⟩,fun b _=>rfl,rfl,fun b=>?_,rfl,rfl,zG (fun e=>by rw [d]at e;cases e.2),R.iJ (aq8 n) (aqK _),aqK _,R.ru D (aqK _),fun _ b j=>R.ru D j,fun b z h2=>?_⟩
   ·rw [AH.cD]
    by_cases j:b=c
    ·subst j
     rw [if_pos rfl,R.sq D C (.st w d m),A,AH.cD,if_pos rfl]
    ·rw [if_neg j,pW]
     ·rfl
     ·intro s
      cases s with
      |alloc _ k _=>rw [d]at k;cases k
      |j8 _ k=>rw [d]at k;cases k
      |st _ _ e=>rw [m]at e;cases e;exact j rfl
   ·have:b<(sH n).nx:=h2
    have:(sH n).nx≤b:=z;omega
  |alloc=>
   obtain ⟨aR,A,v⟩:=ja d e;have q:=v (wP O sF sH S n (sH t).nx) rfl;have H:One call (O t) (sF t) (wP O sF sH S n (sH t).nx) x ((wP O sF sH S n (sH t).nx).alloc aR):=.val w q;have Z:=R.dR C.lt w d;refine ⟨_,_,dT.2 ⟨x,(r _).symm,(R.agree C).one H⟩,fun b _=>rfl,rfl,fun b=>?_,rfl,rfl,zG (fun e=>by rw [d]at e;cases e.2),Q,?_,R.vr D C.lt C.out w d,fun h=>?_,fun b z h2=>?_⟩
   ·rw [AH.cA]
    by_cases j:b=(wP O sF sH S n (sH t).nx).nx
    ·have P:b=(sH t).nx:=j
     rw [if_pos j,R.sq D C (.alloc w d P),A,AH.cA,if_pos P]
    ·rw [if_neg j,pW]
     ·rfl
     ·intro s
      cases s with
      |alloc _ k e=>exact j e
      |j8 _ k=>rw [d]at k;cases k
      |st _ k e=>rw [d]at k;cases k
   ·show(sH t).nx+1≤_
    omega
   ·rw [d]at h;cases h
   ·have rY:(sH t).nx≤b:=z
    have xf:b<(sH t).nx+1:=h2;omega
end
end
section
open Go
theorem vu {α:Type}:∀(l:List α) (n:Nat),nth l n=l[n]?
 |[],n=>by simp [nth]
 |x::l,0=>by simp [nth]
 |x::l,n+1=>by simp [nth,vu l n]
theorem pX {call:Cl}:∀(l:List AO) (a:Fr) (H:AH) (b:List (Fr×AH)),jN call l a H=some b→
 b.length=l.length∧fJ (a,H) b=(((a,H)::b)[l.length]?).getD (a,H)∧
 ∀t o,l[t]?=some o→∃s d,((a,H)::b)[t]?=some s∧((a,H)::b)[t+1]?=some d∧jM call o s.1 s.2=some d
 |[],a,H,b,h=>by
  simp only [jN,aqH]at h;subst h;exact ⟨rfl,rfl,fun t o h=>(by simp at h)⟩
 |o::l,a,H,b,h=>by
  simp only [jN]at h
  cases f:jM call o a H with
  |none=>simp [f]at h
  |some r=>
   obtain ⟨g,i⟩:=r;simp only [f]at h
   cases h2:jN call l g i with
   |none=>simp [h2]at h
   |some c=>
    simp only [h2,aqH]at h;subst h;obtain ⟨j,p,n⟩:=pX l g i c h2;refine ⟨by simp [j],?_,fun t k e=>?_⟩
    ·simp only [fJ,p,List.length_cons,List.getElem?_cons_succ]
     cases m:((g,i)::c)[l.length]? with
     |some q=>rfl
     |none=>
      have:=List.getElem?_eq_none_iff.1 m;simp only [List.length_cons,j]at this;omega
    ·cases t with
     |zero=>
      simp only [aqF,aqH]at e;subst e;exact ⟨_,_,rfl,rfl,f⟩
     |succ t=>
      obtain ⟨s,d,w,v,u⟩:=n t k (by simpa using e);exact ⟨s,d,by simpa using w,by simpa using v,u⟩
theorem nI:∀(l:List (Fr×AH)),chain l=true→∀t s c,l[t]?=some s→l[t+1]?=some c→c.2.n0=s.2.n0∧s.2.nx≤c.2.nx
 |[],_,t,s,c,h,_=>by simp at h
 |[a],_,t,s,c,_,h=>by simp at h
 |a::b::l,d,t,s,c,e,h2=>by
  simp only [chain,aqJ,nb,aqS,Nat.ble_eq]at d
  cases t with
  |zero=>
   simp at e h2;subst e;subst h2;exact ⟨d.1.1.symm,d.1.2⟩
  |succ t=>exact nI (b::l) d.2 t s c (by simpa using e) (by simpa using h2)
theorem kF {l:List AO} {f:List (List Nat)}:∀(ord:List Nat) (am:List (Nat×Nat)) (t:Nat) (r:Row),(lO l f ord am)[t]?=some r→
 l[r.j]?=some r.o∧r.k=eP r.o.o∧f[r.j]?=some r.dep∧
  ∀i,r.m.testBit i=true→∃e∈r.dep,e=i∨(∃q<t,∃r':Row,(lO l f ord am)[q]?=some r'∧r'.j=e∧r'.m.testBit i=true)∨(uf e am).testBit i=true
 |[],am,t,r,h=>by simp [lO]at h
 |j::ord,am,t,r,h=>by
  simp only [lO]at h⊢
  cases c:nth l j with
  |none=>simp [c]at h
  |some o=>
   cases n:nth f j with
   |none=>simp [c,n]at h
   |some d=>
    simp only [c,n]at h⊢
    cases t with
    |zero=>
     simp only [aqF,aqH]at h;subst h;refine ⟨by rw [←vu];exact c,rfl,by rw [←vu];exact n,fun i hi=>?_⟩
     have key:∀(d:List Nat),(nD am d).testBit i=true→∃e∈d,e=i∨(uf e am).testBit i=true:=by
      intro d
      induction d with
      |nil=>intro h;simp [nD]at h
      |cons e d ih=>
       intro h;simp only [nD,Nat.testBit_or,Bool.or_eq_true]at h;rcases h with h|h|h
       ·obtain ⟨y,b,h2⟩:=ih h
        exact ⟨y,List.mem_cons_of_mem _ b,h2⟩
       ·refine ⟨e,List.mem_cons_self,.inl ?_⟩
        rw [Nat.one_shiftLeft,Nat.testBit_two_pow]at h
        simpa using h
       ·exact ⟨e,List.mem_cons_self,.inr h⟩
     obtain ⟨e,b,h2⟩:=key d hi;exact ⟨e,b,h2.imp id .inr⟩
    |succ t=>
     simp only [List.getElem?_cons_succ]at h;obtain ⟨b,h2,x,w⟩:=kF ord _ t r h;refine ⟨b,h2,x,fun i hi=>?_⟩;obtain ⟨e,p,a⟩:=w i hi;refine ⟨e,p,?_⟩;rcases a with a|⟨q,z,r',v,u,s⟩|a
     ·exact .inl a
     ·exact .inr (.inl ⟨q+1,by omega,r',by simpa using v,u,s⟩)
     ·simp only [uf,nb,Bool.cond_decide]at a
      split at a
      ·rename_i g
       exact .inr (.inl ⟨0,by omega,_,rfl,g,a⟩)
      ·exact .inr (.inr a)
theorem sr:∀(rs:List Row) (done:List Nat),A0 rs done=true→∀(t:Nat) (r:Row),rs[t]?=some r→
 (r.j∉done∧∀(q:Nat) (r':Row),q<t→rs[q]?=some r'→r'.j≠r.j)∧∀e∈r.dep,e∈done∨∃q<t,∃r':Row,rs[q]?=some r'∧r'.j=e
 |[],_,_,t,r,h=>by simp at h
 |y::rs,done,h,t,r,a=>by
  simp only [A0,aqJ,Bool.not_eq_true',aqW]at h;obtain ⟨⟨k,h2⟩,p⟩:=h
  cases t with
  |zero=>
   simp only [aqF,aqH]at a;subst a;refine ⟨⟨fun c=>?_,fun q _ g=>by omega⟩,fun e d=>.inl (lP.1 (h2 e d))⟩;rw [lP.2 c]at k;cases k
  |succ t=>
   simp only [List.getElem?_cons_succ]at a;obtain ⟨⟨i,o⟩,n⟩:=sr rs _ p t r a;refine ⟨⟨fun c=>i (List.mem_cons_of_mem _ c),fun q r' g b=>?_⟩,fun e d=>?_⟩
   ·cases q with
    |zero=>
     simp only [aqF,aqH]at b;subst b;exact fun e=>i (by rw [←e];exact List.mem_cons_self)
    |succ q=>exact o q r' (by omega) (by simpa using b)
   ·rcases n e d with f|⟨q,g,r',m,l⟩
    ·rcases aqY.1 f with rfl|f
     ·exact .inr ⟨0,by omega,y,rfl,rfl⟩
     ·exact .inl f
    ·exact .inr ⟨q+1,by omega,r',by simpa using m,l⟩
theorem Bo:∀(rs:List Row),pw rs=true→∀(p q:Nat) (x y:Row),p<q→rs[p]?=some x→rs[q]?=some y→EO x y=true
 |[],_,p,q,x,y,_,h,_=>by simp at h
 |z::rs,h,p,q,x,y,c,b,a=>by
  simp only [pw,aqJ,aqW]at h
  cases q with
  |zero=>omega
  |succ q=>
   simp only [List.getElem?_cons_succ]at a
   cases p with
   |zero=>
    simp only [aqF,aqH]at b;subst b;exact h.1 y (aqL a)
   |succ p=>exact Bo rs h.2 p q x y (by omega) (by simpa using b) a
theorem qG {p:Nat} {x:Row}:∀(rs:List Row) (a q:Nat) (y:Row),rs[q]?=some y→∀c∈zq p (a+q) x y,c∈uZ p x a rs
 |[],a,q,y,h,c,_=>by simp at h
 |z::rs,a,q,y,h,c,b=>by
  simp only [uZ]
  cases q with
  |zero=>
   simp only [aqF,aqH]at h;subst h;exact List.mem_append_left _ (by simpa using b)
  |succ q=>
   exact List.mem_append_right _ (qG rs (a+1) q y (by simpa using h) c (by rwa [show a+1+q=a+(q+1) by omega]))
theorem su:∀(rs:List Row) (a p q:Nat) (x y:Row),p<q→rs[p]?=some x→rs[q]?=some y→∀c∈zq (a+p) (a+q) x y,c∈ug a rs
 |[],_,p,q,x,y,_,h,_,_,_=>by simp at h
 |z::rs,a,p,q,x,y,e,d,b,c,f=>by
  simp only [ug]
  cases q with
  |zero=>omega
  |succ q=>
   simp only [List.getElem?_cons_succ]at b
   cases p with
   |zero=>
    simp only [aqF,aqH]at d;subst d;exact List.mem_append_left _ (qG rs (a+1) q y b c (by rwa [show a+1+q=a+(q+1) by omega]))
   |succ p=>
    refine List.mem_append_right _ (su rs (a+1) p q x y (by omega) (by simpa using d) b c ?_);rwa [show a+1+p=a+(p+1) by omega,show a+1+q=a+(q+1) by omega]
theorem FB {n i:Nat} (h:i<n):i∈JL n:=by
 induction n with
 |zero=>omega
 |succ n ih=>
  simp only [JL,aqY];by_cases e:i=n
  ·exact .inl e
  ·exact .inr (ih (by omega))
def Uz:Row:=⟨⟨none,none,.mkmap⟩,.pure,0,[],0⟩
def rowAt (rs:List Row) (t:Nat):Row:=(rs[t]?).getD Uz
def UA (rs:List Row) (p q:Nat):Prop:=(rowAt rs q).m.testBit (rowAt rs p).j=true
theorem bY {rs:List Row} {t:Nat} (h:t<rs.length):rs[t]?=some (rowAt rs t):=by
 unfold rowAt;rw [aqG h];rfl
def Eu (s0:Fr×AH) (ss:List (Fr×AH)) (t:Nat):Fr:=(((s0::ss)[t]?).getD s0).1
def zI (s0:Fr×AH) (ss:List (Fr×AH)) (t:Nat):AH:=(((s0::ss)[t]?).getD s0).2
theorem Py {call:Cl} {rs:List Row} (u:∀(t:Nat) (r:Row),rs[t]?=some r→r.k=eP r.o.o) (K:pw rs=true) {d:Fr} {H:AH} {a:List (Fr×AH)} (P:jN call (rs.map (·.o)) d H=some a) (D:chain ((d,H)::a)=true)
 (L:(ug 0 rs).all (j7 (rs.map (·.o)) ((d,H)::a))=true):
 pL call (fun t=>(rowAt rs t).o) rs.length (Eu (d,H) a) (zI (d,H) a) (UA rs):=by
 obtain ⟨C,_,J⟩:=pX _ _ _ _ P
 have st:∀t,t<rs.length→∃s s',((d,H)::a)[t]?=some s∧((d,H)::a)[t+1]?=some s'∧jM call (rowAt rs t).o s.1 s.2=some s':=
  fun t v=>J t (rowAt rs t).o (by rw [ara,bY v];rfl)
 have w:∀p q,p<q→q<rs.length→∀c∈zq p q (rowAt rs p) (rowAt rs q),j7 (rs.map (·.o)) ((d,H)::a) c=true:=by
  intro p q f e c M;exact aqW.1 L c (su rs 0 p q _ _ f (bY (by omega)) (bY e) c (by simpa using M))
 have un:∀p q k,p<q→q<rs.length→(rowAt rs p).o.wanted (Eu (d,H) a p)=true→(rowAt rs q).o.wanted (Eu (d,H) a q)=true→j7 (rs.map (·.o)) ((d,H)::a) (k,p,q)=true→
  (match k with
   |0=>match eC (rowAt rs p).o (Eu (d,H) a p) (zI (d,H) a p)with|some x=>sameAt (zI (d,H) a (q+1)) x|none=>false
   |1=>nm ((zI (d,H) a (p+1)).get (zI (d,H) a p).nx) ((zI (d,H) a (q+1)).get (zI (d,H) a p).nx)
   |_=>match cK (rowAt rs p).o (Eu (d,H) a p),cK (rowAt rs q).o (Eu (d,H) a q)with|some b,some E=>!Nat.beq b E|_,_=>true)=true:=by
  intro p q k f e wp l h;obtain ⟨V,U,B,G,_⟩:=st p (by omega);obtain ⟨T,S,A,F,_⟩:=st q e;have R:(rs.map (·.o))[p]?=some (rowAt rs p).o:=by rw [ara,bY (by omega)];rfl
  have Q:(rs.map (·.o))[q]?=some (rowAt rs q).o:=by rw [ara,bY e];rfl
  unfold Eu zI at*;rw [B,Option.getD_some]at wp;rw [A,Option.getD_some]at l;unfold j7 at h;simp only [vu,R,Q,B,G,A,F,wp,l,Bool.not_true,Bool.false_or]at h;rw [B,G,A,F];simp only [Option.getD_some];exact h
 refine ⟨fun t v=>?_,fun t v=>?_,fun t v=>?_,fun p q f e=>?_,?_,?_,?_⟩
 ·obtain ⟨s,s',i,h2,z⟩:=st t v
  unfold Eu zI;rw [i,h2];exact z
 ·obtain ⟨s,s',i,h2,z⟩:=st t v
  unfold zI;rw [i,h2];exact (nI _ D t s s' i h2).1
 ·obtain ⟨s,s',i,h2,z⟩:=st t v
  unfold zI;rw [i,h2];exact (nI _ D t s s' i h2).2
 ·have:=Bo rs K p q _ _ f (bY (by omega)) (bY e)
  simp only [EO,Bool.or_eq_true,aqJ]at this;rw [←u p _ (bY (by omega)),←u q _ (bY e)];rcases this with h|⟨⟨i,h2⟩,z⟩
  ·exact .inl h
  ·exact .inr ⟨i,h2,z⟩
 ·intro p q f e y wp l g n
  rw [←u p _ (bY (by omega))]at g;rw [←u q _ (bY e)]at n
  have:=un p q 0 f e wp l (w p q f e _ (by
   unfold zq;rw [show(rowAt rs q).m.testBit (rowAt rs p).j=false from ark.2 y,g,n]
   simp))
  simp only at this;split at this
  ·rename_i x I
   exact ⟨x,I,this⟩
  ·cases this
 ·intro p q f e y wp l g n
  rw [←u p _ (bY (by omega))]at g;rw [←u q _ (bY e)]at n
  have:=un p q 1 f e wp l (w p q f e _ (by
   unfold zq;rw [show(rowAt rs q).m.testBit (rowAt rs p).j=false from ark.2 y,g,n]
   simp))
  exact (Fu this).symm
 ·intro p q f e y wp l g n b E O N
  rw [←u p _ (bY (by omega))]at g;rw [←u q _ (bY e)]at n
  have:=un p q 2 f e wp l (w p q f e _ (by
   unfold zq;rw [show(rowAt rs q).m.testBit (rowAt rs p).j=false from ark.2 y,n]
   rcases g with g|g|g<;>rw [g]<;>simp))
  simp only [O,N,nb]at this
  simpa using this
open Go Go.RowKit
section
variable{P:Program}
theorem Rel.sv {w0 w:World} {φ:bM} {H H1:AH} (R:Rel w0 φ H w) (h:∀b,φ.m b≠none→H1.raw b=H.raw b) (B:H1.n0=H.n0) (r:φ.n0≤H1.nx) (u:H1.bs=H.bs):Rel w0 φ H1 w where
 n0:=B.trans R.n0
 pR:=R.pR
 qA:=r
 c0:=R.c0
 below:=R.below
 u7:=R.u7
 iG:=R.iG
 j9:=fun b z cs a d=>R.j9 b z cs a (by rw [←h b (by rw [R.iG b a];simp)];exact d)
 cells:=fun b l z cs a c d=>R.cells b l z cs a c (by rw [←h b (by rw [c];simp)];exact d)
 maps:=fun b l es a c d=>R.maps b l es a c (by rw [←h b (by rw [c];simp)];exact d)
 inj:=fun j i q p x v f h2 o n t=>R.inj j i q p x v f h2 (by rw [←h j (by rw [f];simp)];exact o) (by rw [←h i (by rw [h2];simp)];exact n) t
 oA:=fun b s e=>by
  obtain ⟨f,h2,l,g,A,y⟩:=R.oA b s (by rw [←u];exact e);exact ⟨f,by rw [h b (by rw [g];simp)];exact h2,l,g,A,y.nc rfl (fun _ _ _=>rfl) fun C F E k D=>.inl ⟨E,k,by rw [←h C (by rw [k];simp)];exact D⟩⟩
theorem Grow.comp {φ a f:bM} {H d o n:AH} {w i g:World} (h:Grow φ H w a d i) (k:Grow a o i f n g) (q:H.nx≤o.nx) (h2:n.nx≤d.nx):Grow φ H w f d g where
 le:=bM.le_trans h.le k.le
 n0:=k.n0.trans h.n0
 c0:=k.c0.trans h.c0
 nx:=h.nx
 new:=fun b l e j=>by
  cases c:a.m b with
  |none=>exact ⟨aq2 q (k.new b l c j).1,aq3 (k.new b l c j).2 h2⟩
  |some p=>exact h.new b p e c
 size:=aq2 h.size k.size
theorem vw {φ:bM} {b:Fr} {a:Act} (F:lM φ b a) {x:X} (h:O5 x=true) {d:Addr} (e:x.ev b= .pointer (some d)):φ.m d.block≠none:=by
 cases x with
 |t n=>
  have:=F n;rw [show b.get n= .pointer (some d) from e]at this;obtain ⟨l,_,c,_⟩:=this.xd;rw [c];simp
 |k v=>rw [show v= .pointer (some d) from e]at h;cases h
 |f n=>cases e
theorem J0 {φ:bM} {b:Fr} {a:Act} (F:lM φ b a) {x:X} (h:O5 x=true) {d:Nat} (e:x.ev b= .map (some d)):φ.m d≠none:=by
 cases x with
 |t n=>
  have:=F n;rw [show b.get n= .map (some d) from e]at this;obtain ⟨l,c,_⟩:=this.mp1;rw [c];simp
 |k v=>rw [show v= .map (some d) from e]at h;cases h
 |f n=>cases e
theorem Pz {φ:bM} {b:Fr} {a:Act} (F:lM φ b a) {x:X} (h:O5 x=true) {d:Addr} {n c:Nat} (e:x.ev b= .slice (some d) n c) (hs:d.spot=none):φ.m d.block≠none:=by
 cases x with
 |t m=>
  have:=F m;rw [show b.get m= .slice (some d) n c from e]at this;rcases this.ES with⟨l,j,_,i,_⟩|⟨g,_⟩
  ·rw [i];simp
  ·rw [hs]at g;cases g
 |k v=>rw [show v= .slice (some d) n c from e]at h;cases h
 |f n=>cases e
theorem FC {φ:bM} {d:Fr} {a:Act} (F:lM φ d a) {o:AO} (h:o.o.xs.all O5=true) {b:Nat} (e:cK o d=some b):φ.m b≠none:=by
 unfold cK at e;cases g:o.o<;>simp only [g,cv.xs,List.all_cons,aqJ]at h e<;>(try(cases e;done))
 case st n x v=>
  split at e<;>cases e;rename_i c;exact vw F h.1 c
 case ld x=>
  split at e<;>cases e;rename_i c;exact vw F h.1 c
 case ldn n x=>
  split at e<;>cases e;rename_i c;exact vw F h.1 c
 case look kk z x k ok=>
  split at e<;>cases e;rename_i c;exact J0 F h.1 c
 case sl sz x lo hi mx=>
  split at e
  ·rename_i c
   obtain ⟨f,e⟩:=aw e;cases e;exact Pz F h.1 c (by simpa using f)
  ·cases e
def y8 (S:Nat→Bool):Nat→Nat
 |0=>0
 |m+1=>y8 S m+(bif S m then 0 else 1)
theorem xi {S:Nat→Bool}:∀{m:Nat},y8 S m=0→∀t,t<m→S t=true
 |0,_,t,h=>by omega
 |m+1,h,t,b=>by
  simp only [y8]at h;by_cases e:t=m
  ·subst e
   cases a:S t with
   |true=>rfl
   |false=>rw [a]at h;simp at h
  ·exact xi (m:=m) (by omega) t (by omega)
theorem vx {S S':Nat→Bool}:∀{m:Nat},(∀t,t<m→S t=true→S' t=true)→y8 S' m≤y8 S m
 |0,_=>aqK _
 |m+1,h=>by
  have:=vx (S:=S) (S':=S') (m:=m) fun t b=>h t (by omega)
  simp only [y8]
  cases a:S m with
  |true=>rw [h m (by omega) a];simpa using this
  |false=>cases S' m<;>simp<;>omega
theorem Bp {S:Nat→Bool} {t:Nat} (a:S t=false):∀{m:Nat},t<m→y8 (ins S t) m+1≤y8 S m
 |0,h=>by omega
 |m+1,h=>by
  simp only [y8];by_cases e:t=m
  ·subst e
   rw [fM,a]
   have:=vx (S:=S) (S':=ins S t) (m:=t) fun p _ b=>by
    by_cases e:p=t
    ·subst e;exact fM
    ·rw [iv e];exact b
   simp;omega
  ·rw [iv (fun h=>e h.symm)]
   have:=Bp a (m:=m) (by omega);omega
theorem J3 {m:Nat}:y8 (fun _=>false) m=m:=by
 induction m with
 |zero=>rfl
 |succ m ih=>simp [y8,ih]
def tR (rs:List Row) (listed:Array Bool) (t:Nat):Bool:=listed.getD (rowAt rs t).j false
structure J4 (w0 w:World) (φ:bM) (O:Nat→AO) (n:Nat) (sF:Nat→Fr) (sH:Nat→AH) (nt:Nat) (S:Nat→Bool) (lD:bM) (a1:Act) (w1:World):Prop where
 rel:Rel w0 lD (wP O sF sH S n (sH n).nx) w1
 UB:lM lD (vk O sF S n) a1
 size:a1.tmps.size=nt
 defs:a1.defers=[]
 Fy:Dom O n sF sH S (fun b=>lD.m b≠none)
 grow:Grow φ (sH 0) w lD (sH n) w1
theorem UC {call:Cl} (W:pV P call) {O:Nat→AO} {n:Nat} {y:Nat→Fr} {g:Nat→AH} {G:Nat→Nat→Prop} (R:pL call O n y g G) {w0 w:World} {φ:bM} (c:φ.n0≤(g 0).nx) {A:Nat} {S:Nat→Bool} {t:Nat} (C:Uw n G S t)
 {f:bM} {J:Act} {w1:World} (I:J4 w0 w φ O n y g A S f J w1) {z:Array Oper} {j:Nat} {o:Oper} (U:z[j]?=some o) (X:Ns P A z o=some (O t)) (D:(O t).o.xs.all O5=true)
 {Q:Exit→Act→World→Prop} {K:Act→World→Prop} (Y:∀d H q,J4 w0 w φ O n y g A (ins S t) d H q→K H q):wpOp P z Q j K J w1:=by
 obtain ⟨Hx,Hy,a⟩:=R.Pv I.Fy C (fun _ b c=>FC I.UB D (by rw [Fv (R.agree C)];exact c));have M:f.n0≤Hx.nx:=by rw [I.grow.n0];exact aq2 c a.lo
 refine Fl W U X I.UB (I.rel.sv (fun b c=>a.pre b c) a.n0x M a.bsx) (Classical.not_not.1 a.out) (fun T b c=>Classical.not_not.1 (a.fresh T b c)) I.size I.defs a.run ?_;intro d v v' q Z u hv fL F2 L V;refine Y d _ q ⟨?_,?_,L,V,?_,I.grow.comp u a.lo a.hi⟩
 ·refine Z.sv (fun b _=>a.post b) a.n0y.symm ?_ a.bsy
  show d.n0≤(g n).nx;rw [u.n0,I.grow.n0];exact aq2 c (R.iJ (aq8 n) (aqK _))
 ·intro x
  rw [R.JZ C x];exact F2 x
 ·refine ⟨fun b c=>?_,fun p B r w k b E=>?_⟩
  ·by_cases i:f.m b=none
   ·obtain ⟨l,N⟩:∃l,d.m b=some l:=by
     cases h2:d.m b with
     |none=>exact absurd h2 c
     |some l=>exact ⟨l,rfl⟩
    have s:=u.new b l i N;have F:=a.new b s.1 s.2;exact .inr ⟨t,C.lt,fM,F.1,F.2⟩
   ·rcases I.Fy.Fy b i with h|⟨p,B,r,h2,s⟩
    ·exact .inl h
    ·refine .inr ⟨p,B,?_,h2,s⟩
     by_cases e:p=t
     ·subst e;exact fM
     ·rw [iv e];exact r
  ·have up:∀b,f.m b≠none→d.m b≠none:=by
    intro b h
    cases i:f.m b with
    |none=>exact absurd i h
    |some l=>rw [u.le _ _ i];simp
   by_cases e:p=t
   ·subst e
    exact up b (FC I.UB D (by rw [Fv (R.agree C)];exact E))
   ·rw [iv e]at r
    exact up b (I.Fy.sts p B r w k b E)
theorem xj {d:Nat} {c:Array Oper}:∀{l:List Oper} {a:List AO},oE P d c l=some a→a.length=l.length∧∀(j:Nat) (o:Oper) (b:AO),l[j]?=some o→a[j]?=some b→Ns P d c o=some b
 |[],a,h=>by
  simp [oE]at h;subst h;exact ⟨rfl,fun j o b h=>(by simp at h)⟩
 |x::l,a,h=>by
  simp only [oE]at h
  cases e:Ns P d c x with
  |none=>simp [e]at h
  |some y=>
   cases h2:oE P d c l with
   |none=>simp [e,h2]at h
   |some m=>
    simp only [e,h2,aqH]at h;subst h;obtain ⟨k,i⟩:=xj h2;refine ⟨by simp [k],fun j o b f g=>?_⟩
    cases j with
    |zero=>
     simp at f g;subst f;subst g;exact e
    |succ j=>exact i j o b (by simpa using f) (by simpa using g)
theorem vz {o:Oper} {i:Nat}:i∈JK o↔∃e∈o.after,Region.binds .any e=true∧e.on=i:=by
 unfold JK;rw [List.mem_filterMap];constructor
 ·rintro ⟨e,b,h⟩
  cases a:Region.binds .any e with
  |false=>rw [a]at h;cases h
  |true=>rw [a]at h;cases h;exact ⟨e,by simpa using b,a,rfl⟩
 ·rintro ⟨e,b,a,rfl⟩
  exact ⟨e,by simpa using b,by rw [a];rfl⟩
theorem PA (hm:P.follows .mixedOrders=true) {call:Cl} (lj:pV P call):Fq P call:=by
 intro nt id g ac hc l ck hac X w A H H' fr bK a h F R R0 hs hd;obtain ⟨Er,ord,hl,pU,UD⟩:=sj hc;generalize zJ:lO Er (g.toList.map JK) ord []=rs at pU UD;rw [UD]at hac;cases hac;simp only [zr,aqJ,nb,aqS,aqW]at pU;obtain ⟨⟨⟨⟨ab0,hlen⟩,ab1⟩,ab2⟩,nv⟩:=pU;obtain ⟨NB,UE⟩:=xj hl;have hn:rs.length=g.size:=by rw [hlen,NB];simp
 have row:∀t,t<rs.length→∃o,g[(rowAt rs t).j]?=some o∧Ns P nt g o=some (rowAt rs t).o∧(rowAt rs t).dep=JK o∧(rowAt rs t).o.o.xs.all O5=true:=by
  intro t f;have hg:=bY f;obtain ⟨d,h2,W,_⟩:=kF ord [] t (rowAt rs t) (by rw [zJ];exact hg);rw [ara]at W
  cases n:g.toList[(rowAt rs t).j]? with
  |none=>simp [n]at W
  |some o=>
   simp [n]at W;exact ⟨o,by simpa using n,UE _ o _ n d,W.symm,aqW.2 (ab0 _ (aqL hg))⟩
 have UF:∀t,t<rs.length→∀i,(rowAt rs t).m.testBit i=true→∃e∈(rowAt rs t).dep,e=i∨∃q<t,(rowAt rs q).j=e∧(rowAt rs q).m.testBit i=true:=by
  intro t f i hi;obtain ⟨_,_,_,h4⟩:=kF ord [] t (rowAt rs t) (by rw [zJ];exact bY f);obtain ⟨e,k,B⟩:=h4 i hi;refine ⟨e,k,?_⟩;rcases B with B|⟨q,s,r',h6,h7,h8⟩|B
  ·exact .inl B
  ·rw [zJ]at h6
   have:rowAt rs q=r':=by unfold rowAt;rw [h6];rfl
   exact .inr ⟨q,s,by rw [this];exact h7,by rw [this];exact h8⟩
  ·simp [uf]at B
 have J:∀t,t<rs.length→(∀q,q<t→(rowAt rs q).j≠(rowAt rs t).j)∧∀e∈(rowAt rs t).dep,∃q<t,(rowAt rs q).j=e:=by
  intro t f;obtain ⟨⟨_,d⟩,h2⟩:=sr rs [] ab2 t _ (bY f);refine ⟨fun q s=>d q _ s (bY (by omega)),fun e k=>?_⟩;rcases h2 e k with W|⟨q,s,r',h4,B⟩
  ·cases W
  ·exact ⟨q,s,by unfold rowAt;rw [h4];exact B⟩
 have Y:∀i,i<g.size→∃t,t<rs.length∧(rowAt rs t).j=i:=by
  intro i hi;have:=lP.1 (ab1 i (FB (by rw [NB];simpa using hi)));obtain ⟨r,hr,e⟩:=ard.1 this;obtain ⟨t,f,e2⟩:=List.mem_iff_getElem.1 hr;refine ⟨t,f,?_⟩;unfold rowAt;rw [aqG f,Option.getD_some,e2];exact e
 have K:∀t,t<rs.length→(rowAt rs t).j<g.size:=by
  intro t f;obtain ⟨o,n,_⟩:=row t f;exact (aqU.1 n).1
 unfold wZ at h
 cases hT:jN call (rs.map (·.o)) fr H with
 |none=>simp [hT]at h
 |some N=>
  simp only [hT]at h;obtain ⟨Eo,h⟩:=aw h;simp only [aqJ]at Eo;have D:=Py (fun t r hr=>(kF ord [] t r (by rw [zJ];exact hr)).2.1) nv hT Eo.1 Eo.2;have xl:=(pX _ _ _ _ hT).2.1;rw [List.length_map]at xl;simp only [aqH]at h;rw [xl]at h;have hFn:Eu (fr,H) N rs.length=bK:=by unfold Eu;rw [h]
  have hHn:zI (fr,H) N rs.length=H':=by unfold zI;rw [h]
  have nJ:Eu (fr,H) N 0=fr:=rfl;have v:zI (fr,H) N 0=H:=rfl;generalize Eu (fr,H) N=sF at*;generalize zI (fr,H) N=Z at*
  have main:∀(fuel:Nat) (listed:Array Bool) (z:bM) (y:Act) (w1:World),listed.size=g.size→y8 (tR rs listed) rs.length≤fuel→
   (∀(j:Nat) (o:Oper),g[j]?=some o→listed.getD j false=true→∀e∈JK o,listed.getD e false=true)→
   J4 X w A (fun t=>(rowAt rs t).o) rs.length sF Z nt (tR rs listed) z y w1→
   wpAny P .any g (Fm X A w H nt .normal bK H') fuel listed y w1:=by
   have fin:∀(listed:Array Bool) (z:bM) (y:Act) (w1:World),(∀t,t<rs.length→tR rs listed t=true)→
    J4 X w A (fun t=>(rowAt rs t).o) rs.length sF Z nt (tR rs listed) z y w1→Fm X A w H nt .normal bK H' .normal y w1:=by
    intro listed z y w1 T I;refine ⟨rfl,z,?_,?_,?_,I.size,I.defs⟩
    ·rw [←hHn]
     refine I.rel.sv (fun b _=>?_) (by rw [D.SZ _ (aqK _)];rfl) ?_ (by rw [←D.Fw (aqK _)];exact Bm fun p c _ _=>(T p c).symm)
     ·rw [Bk,←D.Fx (aqK _)]
      exact Bl fun p c _=>(T p c).symm
     ·rw [I.grow.n0]
      exact aq2 R.qA (by rw [←v];exact D.iJ (aq8 _) (aqK _))
    ·rw [←hHn,←v];exact I.grow
    ·intro x
     rw [←hFn,←D.Bj (aqK _)];rw [vn (S:=fun _=>true) (S':=tR rs listed) fun p c _=>(T p c).symm];exact I.UB x
   intro fuel
   induction fuel with
   |zero=>
    intro listed z y w1 iu hun YQ I;have T:=xi (Nat.le_zero.1 hun);refine ⟨?_,fin listed z y w1 T I⟩;rw [List.eq_nil_iff_forall_not_mem];intro i hi;obtain ⟨h0,o,n,_⟩:=mem_ready.1 hi;obtain ⟨t,f,rfl⟩:=Y i (aqU.1 n).1;have d:=T t f;unfold tR at d;have Q:(rowAt rs t).j<listed.size:=by rw [iu];exact K t f
    simp [Q]at h0 d;rw [h0]at d;cases d
   |succ fuel ih=>
    intro listed z y w1 iu hun YQ I;refine ⟨fun hr=>?_,fun i hi=>?_⟩
    ·refine fin listed z y w1 ?_ I
     intro t
     induction t using Nat.strongRecOn with
     |_ t iht=>
      intro f
      cases u:tR rs listed t with
      |true=>rfl
      |false=>
       exfalso;obtain ⟨o,n,_,PD,_⟩:=row t f
       have:(rowAt rs t).j∈Region.ready .any g listed:=by
        refine mem_ready.2 ⟨?_,o,n,fun e k hb=>?_⟩
        ·have Q:(rowAt rs t).j<listed.size:=by rw [iu];exact K t f
         unfold tR at u;simp [Q]at u⊢;exact u
        ·obtain ⟨q,s,e2⟩:=(J t f).2 e.on (by rw [PD];exact vz.2 ⟨e,k,hb,rfl⟩)
         have:=iht q s (by omega);unfold tR at this;rw [e2]at this;exact this
       rw [hr]at this;cases this
    ·obtain ⟨h0,o',M,NC⟩:=mem_ready.1 hi
     obtain ⟨t,f,rfl⟩:=Y i (aqU.1 M).1;obtain ⟨o,n,ab6,PD,hx⟩:=row t f;rw [n]at M;cases M;have Q:(rowAt rs t).j<listed.size:=by rw [iu];exact K t f
     have Ux:tR rs listed t=false:=by
      unfold tR;simp [Q]at h0⊢;exact h0
     have closed:∀q,q<rs.length→(∀e∈(rowAt rs q).dep,listed.getD e false=true)→∀i,(rowAt rs q).m.testBit i=true→listed.getD i false=true:=by
      intro q
      induction q using Nat.strongRecOn with
      |_ q ihq=>
       intro s YR i hi;obtain ⟨e,k,B⟩:=UF q s i hi;rcases B with rfl|⟨p,c,h6,h7⟩
       ·exact YR _ k
       ·refine ihq p c (by omega) (fun e' he'=>?_) i h7
        obtain ⟨op,rl,_,YP,_⟩:=row p (by omega);exact YQ _ op rl (by rw [h6];exact YR e k) e' (by rw [←YP];exact he')
     have C:Uw rs.length (UA rs) (tR rs listed) t:=by
      refine ⟨f,Ux,fun p c ha=>?_,fun p q xh s hSq ha=>?_⟩
      ·refine closed t f (fun e k=>?_) _ ha
       rw [PD]at k;obtain ⟨ed,d,h2,rfl⟩:=vz.1 k;exact NC ed d h2
      ·refine closed q s (fun e k=>?_) _ ha
       obtain ⟨oq,hoq,_,YR,_⟩:=row q s;exact YQ _ oq hoq hSq e (by rw [←YR];exact k)
     have U:∀p,p<rs.length→tR rs (listed.setIfInBounds (rowAt rs t).j true) p=ins (tR rs listed) t p:=by
      intro p c;unfold tR;by_cases e:p=t
      ·subst e
       rw [fM];simp [Q]
      ·rw [iv e]
       refine getD_set_ne false ?_;rcases Nat.lt_or_gt_of_ne e with d|d
       ·exact fun h2=>(J t f).1 p d h2.symm
       ·exact (J p c).1 t d
     refine UC (O:=fun t=>(rowAt rs t).o) lj D (by rw [v];exact R.qA) C I n ab6 hx ?_;intro mA a2 w2 E;refine ih _ mA a2 w2 (by simp [iu]) ?_ ?_ ?_
     ·have d:=Bp Ux f
      have h2:y8 (tR rs (listed.setIfInBounds (rowAt rs t).j true)) rs.length≤y8 (ins (tR rs listed) t) rs.length:=
       vx fun p c h=>by rw [U p c];exact h
      omega
     ·intro j oj L hj e k
      by_cases ej:(rowAt rs t).j=j
      ·subst ej
       rw [n]at L;cases L;obtain ⟨ed,d,h2,rfl⟩:=vz.1 k;exact getD_set_true (NC ed d h2)
      ·rw [getD_set_ne false ej]at hj
       exact getD_set_true (YQ j oj L hj e k)
     ·have eF:∀x,(vk (fun t=>(rowAt rs t).o) sF (tR rs (listed.setIfInBounds (rowAt rs t).j true)) rs.length).get x=(vk (fun t=>(rowAt rs t).o) sF (ins (tR rs listed) t) rs.length).get x:=
       fun x=>vn fun p c _=>U p c
      refine ⟨E.rel.sv (fun b _=>Bl fun p c _=>U p c) rfl E.rel.qA (Bm fun p c _ _=>U p c),fun x=>by rw [eF];exact E.UB x,E.size,E.defs,⟨fun b hb=>?_,fun p c u=>?_⟩,E.grow⟩
      ·rcases E.Fy.Fy b hb with d|⟨p,c,u,h2⟩
       ·exact .inl d
       ·exact .inr ⟨p,c,by rw [U p c];exact u,h2⟩
      ·rw [U p c]at u
       exact E.Fy.sts p c u
  refine wp_region_any hm ?_
  have YS:∀t,tR rs (Array.replicate g.size false) t=false:=by
   intro t;unfold tR;by_cases h:(rowAt rs t).j<g.size<;>simp [h]
  refine main g.size _ A a _ (by simp) ?_ ?_ ?_
  ·rw [←hn]
   have:y8 (tR rs (Array.replicate g.size false)) rs.length≤y8 (fun _=>false) rs.length:=vx fun p _ h=>by cases h
   rw [J3]at this;rwa [hn]at this⊢
  ·intro j o _ h
   exfalso;by_cases h2:j<g.size<;>simp [h2]at h
  ·have R':Rel X A H {w with drawn:=w.drawn+1}:=R.drew rfl rfl rfl rfl
   refine ⟨R'.sv (fun b _=>?_) (by show(Z 0).n0=_;rw [v]) ?_ ?_,fun x=>?_,hs,hd,⟨fun b hb=>.inl ?_,fun p c u=>?_⟩,?_⟩
   ·rw [Bk,rq (t:=0) (aq8 _)]
    ·show(Z 0).raw b=_;rw [v]
    ·intro p _ _ h;rw [YS]at h;cases h
   ·refine aq2 R.qA ?_
    rw [←v];exact D.iJ (aq8 _) (aqK _)
   ·show gB _ _ _ _ _=_
    rw [vq (t:=0) (aq8 _)]
    ·show(Z 0).bs=_;rw [v]
    ·intro p _ _ h;rw [YS]at h;cases h
   ·rw [so (t:=0) (aq8 _)]
    ·show V A ((sF 0).get x) _;rw [nJ];exact F x
    ·intro p _ _ h;rw [YS]at h;cases h
   ·rw [v]
    rcases Nat.lt_or_ge b H.nx with d|d
    ·exact d
    ·exact absurd (R0 b d) hb
   ·rw [YS]at u;cases u
   ·have G:Grow A H w A H {w with drawn:=w.drawn+1}:=Grow.of_heap rfl
    rw [v];refine ⟨G.le,G.n0,G.c0,?_,fun b l d h2=>(by rw [d]at h2;cases h2),G.size⟩;rw [←v];exact D.iJ (aq8 _) (aqK _)
end
end
section
open Go Go.RowKit
section
variable{P:Program}
def pY (tmps:Array Value):ResultVar→Sem Value
 | .tmp t=>pure (tmps.getD t undef)
 | .cell a t=>do loadVar t (←asAddr (tmps.getD a undef))
theorem vA (fn:Func) (tmps:Array Value):results fn tmps=(do
 let vs←fn.results.toList.mapM (pY tmps)
 pure (if h:vs.toArray.size=1 then vs.toArray[0]else .tuple vs.toArray)):=by
 have e:results fn tmps=(do
  let vs←fn.results.mapM (pY tmps)
  pure (if h:vs.size=1 then vs[0]else .tuple vs)):=rfl
 rw [e,Array.mapM_eq_mapM_toList];simp
theorem rv {w0 w:World} {φ:bM} {H:AH} {g:Fr} {a:Act} (F:lM φ g a) (R:Rel w0 φ H w):∀(l:List ResultVar) (m:List RS) (vs:List Value),w8 P l=some m→RS.all g H m=some vs→
 ∃e,(l.mapM (pY a.tmps)).run P w= .ok e w∧VL φ vs e
 |[],m,vs,c,h=>by
  simp [w8]at c;subst c;simp [RS.all]at h;subst h;exact ⟨[],by simp,.nil⟩
 | .tmp t::l,m,vs,c,h=>by
  simp only [w8,aqQ]at c;obtain ⟨f,o,rfl⟩:=c;simp only [RS.all,RS.get]at h
  cases b:RS.all g H f with
  |none=>simp [b]at h
  |some us=>
   simp only [b,aqH]at h;subst h;obtain ⟨e,q,h2⟩:=rv F R l f us o b;refine ⟨a.tmps.getD t undef::e,?_,.cons (F t) h2⟩;simp [List.mapM_cons,pY,q]
 | .cell t ty::l,m,vs,c,h=>by
  simp only [w8]at c;split at c
  ·rename_i n f s B o
   cases c;simp only [RS.all,RS.get]at h;cases k:g.get t<;>simp [k]at h;rename_i p;cases p<;>simp at h;rename_i A
   cases d:H.ldn A n with
   |none=>simp [d]at h
   |some ws=>
    cases b:RS.all g H f with
    |none=>simp [d,b]at h
    |some us=>
     simp [d,b]at h;subst h;obtain ⟨e,q,h2⟩:=rv F R l f us o b;have j:=F t;rw [k]at j;obtain ⟨r,i,z,x,u,G,E⟩:=EV R j d;have C:=run_loadCells_list (P:=P) w r i E;rw [x]at C;refine ⟨.agg i.toArray::e,?_,.cons (.agg (by simpa using u) (by simpa using G)) h2⟩;have y:a.tmps.getD t undef= .pointer (some r):=z;simp only [List.mapM_cons,pY,y];simp [asAddr,loadVar,kc s,cB B,C,q]
  ·rename_i n f s B o
   cases c;simp only [RS.all,RS.get]at h;cases k:g.get t<;>simp [k]at h;rename_i p;cases p<;>simp at h;rename_i A
   cases d:H.ld A with
   |none=>simp [d]at h
   |some v=>
    cases b:RS.all g H f with
    |none=>simp [d,b]at h
    |some us=>
     simp [d,b]at h;subst h;obtain ⟨e,q,h2⟩:=rv F R l f us o b;have j:=F t;rw [k]at j;obtain ⟨r,D,z,x,u⟩:=Nu R j d;refine ⟨D::e,?_,.cons u h2⟩;have y:a.tmps.getD t undef= .pointer (some r):=z;simp only [List.mapM_cons,pY,y];simp [asAddr,loadVar,kc s,x,q]
  ·cases c
theorem qH {w0 w:World} {φ:bM} {H:AH} {b:Fr} {a:Act} (F:lM φ b a) (R:Rel w0 φ H w) {fn:Func} {m:List RS} {vs:List Value} (c:w8 P fn.results.toList=some m) (h:RS.all b H m=some vs):
 ∃v',(results fn a.tmps).run P w= .ok v' w∧V φ (qy vs) v':=by
 obtain ⟨e,d,h2⟩:=rv F R _ _ _ c h;rw [vA];simp only [Sem.run_bind,d,Result.andThen_ok,Sem.run_pure]
 cases h2 with
 |nil=>exact ⟨_,rfl,.tuple .nil⟩
 |cons x y=>
  cases y with
  |nil=>exact ⟨_,rfl,x⟩
  |cons y z=>
   refine ⟨_,rfl,?_⟩;simp only [List.size_toArray,List.length_cons];rw [dif_neg (by omega)];exact .tuple (.cons x (.cons y z))
theorem Fr.sw:∀(l:List Value) (i:Nat) (f:Fr) (t:Nat),(Fr.rT i l f).get t=if i≤t∧t<i+l.length then l.getD (t- i) undef else f.get t
 |[],i,f,t=>by
  simp only [Fr.rT,List.length_nil];rw [if_neg (by omega)]
 |v::l,i,f,t=>by
  simp only [Fr.rT,List.length_cons];rw [Fr.sw l,Fr.bG];by_cases a:t=i
  ·subst a
   rw [if_neg (by omega),if_pos rfl,if_pos (by omega)];simp
  ·by_cases h2:i+1≤t∧t<i+1+l.length
   ·rw [if_pos h2,if_pos (by omega)]
    obtain ⟨k,b⟩:∃k,t- i=k+1:=⟨t- i- 1,by omega⟩
    rw [b,show t- (i+1)=k by omega];simp
   ·rw [if_neg h2,if_neg a,if_neg (by omega)]
theorem Fr.get_nil (t:Nat):(⟨.nil⟩:Fr).get t=undef:=by
 unfold Fr.get;cases t<;>rfl
theorem Fr.eO (l:List Value) (t:Nat):(Fr.of l).get t=l.getD t undef:=by
 unfold Fr.of;rw [Fr.sw,Fr.get_nil];split
 ·rfl
 ·rename_i h
  simp only [List.getD_eq_getElem?_getD];rw [arn (by omega)];rfl
theorem xm {φ:bM} {as:List Value} {as':Array Value} (k:Nat) (h:VL φ as as'.toList) (t:Nat):V φ ((Fr.of as).get t) ((as'++Array.replicate k undef).getD t undef):=by
 rw [Fr.eO];have f:=h.length;simp only [List.getD_eq_getElem?_getD]
 cases b:as[t]? with
 |some v=>
  obtain ⟨v',e,c⟩:=h.get t v b
  have d:t<as'.size:=by
   have:=(aqM.1 e).1
   simpa using this
  have a:(as'++Array.replicate k undef).getD t undef=v':=by
   rw [Array.getD_eq_getD_getElem?,Array.getElem?_append_left d];simp only [Array.getElem?_toList]at e;rw [e];rfl
  rw [a];exact c
 |none=>
  have g:=List.getElem?_eq_none_iff.1 b
  have a:(as'++Array.replicate k undef).getD t undef=undef:=by
   rw [Array.getD_eq_getD_getElem?,Array.getElem?_append_right (by rw [←Array.length_toList,←f];exact g)];rw [Array.getElem?_replicate];split<;>rfl
  rw [a];exact rX _
def FF (P:Program) (E:Env):Prop:=∀f F,E f=some F→∃fn,P.funcs[f]?=some fn∧ak P fn=some F
abbrev jD:=Nat→Option (List Value→AH→Option (Value×AH))
def Br (P:Program) (O:jD):Prop:=∀f g,O f=some g→∀as H v H',g as H=some (v,H')→Dc P f∧Fk P f as H v H'
theorem Bs (D:P.follows .mixedOrders=true) {E:Env} {O:jD} (K:FF P E) (J:Br P O):∀n,pV P (fk E O n)
 |0=>fun f as H v N h=>by simp [fk]at h
 |n+1=>fun f as H v N h=>by
  have ih:=Bs D K J n;simp only [fk]at h
  cases s:O f with
  |some g=>
   simp only [s]at h;exact J f g s as H v N h
  |none=>
   simp only [s]at h
   cases u:E f with
   |none=>simp [u]at h
   |some F=>
    simp only [u]at h;obtain ⟨b,h⟩:=aw h;obtain ⟨fn,G,d⟩:=K f F u;unfold ak at d
    cases o:fn.body with
    |none=>simp [o]at d
    |some c=>
     simp only [o]at d;split at d
     case h_2=>cases d
     rename_i x r U B;split at d
     case isTrue=>cases d
     rename_i C;cases d;simp only [Bool.or_eq_true,not_or,Bool.not_eq_true,decide_eq_false_iff_not,Nat.not_lt]at C;refine ⟨⟨fn,G,by rw [o];rfl,C.1⟩, ?_⟩;intro w0 φ w k R W A;refine calls_of_wp G o ?_
     have Y:k.size=fn.params.size+fn.nfree:=by
      have:=A.length;rw [nb]at b;simp at b this;omega
     cases m:aD (fk E O n) n x (Fr.of as) H with
     |none=>simp [m]at h
     |some q=>
      obtain ⟨ex,L,M⟩:=q;have V:=JX ih (PA D ih) n c x (w0:=w0) (w:=w) (φ:=φ) (a:={tmps:=k++Array.replicate (fn.ntmps- k.size) undef,defers:=[]}) U m (fun t=>xm _ A t) R W (by simp;omega) rfl;refine wp_mono V ?_;rintro e a2 X ⟨rfl,z,p,Q,S,Z,I⟩
      cases ex with
      |exit i=>simp [m]at h
      |normal=>
       simp only [m]at h
       cases j:RS.all L M r with
       |none=>simp [j]at h
       |some T=>
        simp only [j,aqH,aqO]at h;obtain ⟨rfl,rfl⟩:=h;obtain ⟨l,y,h2⟩:=qH S p B j;exact ⟨I,l,y,z,l,rfl,h2,p,Q⟩
      |ret=>
       simp only [m]at h
       cases j:RS.all L M r with
       |none=>simp [j]at h
       |some T=>
        simp only [j,aqH,aqO]at h;obtain ⟨rfl,rfl⟩:=h;obtain ⟨l,y,h2⟩:=qH S p B j;exact ⟨I,l,y,z,l,rfl,h2,p,Q⟩
end
end
section
open Go
def Dk (c d:Cl):Prop:=∀f as H r,c f as H=some r→d f as H=some r
theorem rz {c d:Cl} (h:Dk c d) {o:AO} {g:Fr} {H:AH} {r:Fr×AH} (k:jM c o g H=some r):jM d o g H=some r:=by
 obtain ⟨j,l⟩:=r;obtain ⟨x,e,k⟩:=dT.1 k;refine dT.2 ⟨x,e,?_⟩
 cases k with
 |off a b c=>exact .off a b c
 |val a b=>exact .val a b
 |call a f as i b c=>exact .call a f as i b (h _ _ _ _ c)
theorem vB {c d:Cl} (h:Dk c d):∀{l:List AO} {a:Fr} {H:AH} {r:Fr×AH},ops c l a H=some r→ops d l a H=some r
 |[],a,H,r,k=>k
 |o::l,a,H,r,k=>by
  simp only [ops]at k⊢
  cases b:jM c o a H with
  |none=>simp [b]at k
  |some q=>
   rw [rz h b];simp only [b]at k;exact vB h k
theorem rA {c d:Cl} (h:Dk c d):∀{l:List AO} {a:Fr} {H:AH} {r:List (Fr×AH)},jN c l a H=some r→jN d l a H=some r
 |[],a,H,r,k=>k
 |o::l,a,H,r,k=>by
  simp only [jN]at k⊢
  cases b:jM c o a H with
  |none=>simp [b]at k
  |some q=>
   rw [rz h b];simp only [b]at k⊢
   cases h2:jN c l q.1 q.2 with
   |none=>simp [h2]at k
   |some e=>rw [rA h h2];simpa [h2]using k
theorem ek {c d:Cl} (h:Dk c d):∀{n:Nat} {a:AC} {f:Fr} {H:AH} {r:Ex×Fr×AH},aD c n a f H=some r→aD d n a f H=some r:=by
 intro n
 induction n with
 |zero=>intro a f H r k;simp [aD]at k
 |succ n ih=>
  intro a f H r k
  cases a with
  |bI l=>
   simp only [aD]at k⊢
   cases e:ops c l f H with
   |none=>simp [e]at k
   |some q=>rw [vB h e];simpa [e]using k
  |bJ l o=>
   simp only [aD,wZ]at k⊢
   cases e:jN c l f H with
   |none=>simp [e]at k
   |some q=>rw [rA h e];simpa [e]using k
  |seq a b=>
   simp only [aD]at k⊢
   cases e:aD c n a f H with
   |none=>simp [e]at k
   |some q=>
    rw [ih e];obtain ⟨ex,g,j⟩:=q
    cases ex<;>simp only [e]at k⊢<;>first
     |exact ih k
     |exact k
  |cond x a b=>
   simp only [aD]at k⊢
   cases m:x.ev f<;>simp only [m]at k⊢<;>first
    |(cases k;done)
    |skip
   rename_i t;cases t<;>exact ih k
  |block i a=>
   simp only [aD]at k⊢
   cases e:aD c n a f H with
   |none=>simp [e]at k
   |some q=>
    rw [ih e];obtain ⟨ex,g,j⟩:=q;cases ex<;>simp only [e]at k⊢<;>exact k
  |loop a=>
   simp only [aD]at k⊢
   cases e:aD c n a f H with
   |none=>simp [e]at k
   |some q=>
    rw [ih e];obtain ⟨ex,g,j⟩:=q
    cases ex<;>simp only [e]at k⊢<;>first
     |exact ih k
     |exact k
  |_=>simpa only [aD]using k
theorem uj {E:Env} {O:jD}:∀n,Dk (fk E O n) (fk E O (n+1))
 |0=>fun f as H r k=>by simp [fk]at k
 |n+1=>fun f as H r k=>by
  have ih:=uj (E:=E) (O:=O) n;rw [fk]at k⊢
  cases b:O f with
  |some g=>simpa [b]using k
  |none=>
   simp only [b]at k⊢
   cases c:E f with
   |none=>simp [c]at k
   |some F=>
    simp only [c]at k⊢;obtain ⟨d,k⟩:=aw k;rw [d,cond_true]
    cases a:aD (fk E O n) n F.body (Fr.of as) H with
    |none=>simp [a]at k
    |some q=>
     rw [fm (aq7 n) (ek ih a)]
     simpa [a]using k
theorem dI {E:Env} {O:jD} {n m:Nat} (h:n≤m):Dk (fk E O n) (fk E O m):=by
 induction m with
 |zero=>obtain rfl:n=0:=by omega
        exact fun _ _ _ _ k=>k
 |succ m ih=>
  rcases Nat.lt_or_eq_of_le h with a|a
  · exact fun f as H r k=>uj m f as H r (ih (by omega) f as H r k)
  · subst a;exact fun _ _ _ _ k=>k
section
variable(E:Env) (O:jD)
def Ca (f:Nat) (as:List Value) (H:AH) (Q:Value→AH→Prop):Prop:=∃n x H',fk E O n f as H=some (x,H')∧Q x H'
def Wp (c:AC) (fr:Fr) (H:AH) (Q:Ex→Fr→AH→Prop):Prop:=∃n ex bK H',aD (fk E O n) n c fr H=some (ex,bK,H')∧Q ex bK H'
def q8 (o:AO) (fr:Fr) (H:AH) (Q:Fr→AH→Prop):Prop:=∃n bK H',jM (fk E O n) o fr H=some (bK,H')∧Q bK H'
def Wo (l:List AO) (fr:Fr) (H:AH) (Q:Fr→AH→Prop):Prop:=∃n bK H',ops (fk E O n) l fr H=some (bK,H')∧Q bK H'
def Wt (l:List AO) (fr:Fr) (H:AH) (Q:List (Fr×AH)→Prop):Prop:=∃n ss,jN (fk E O n) l fr H=some ss∧Q ss
variable{E O}
theorem Ca.mono {f:Nat} {as:List Value} {H:AH} {Q Q':Value→AH→Prop} (h:Ca E O f as H Q) (k:∀x H',Q x H'→Q' x H'):Ca E O f as H Q':=
 let⟨n,x,H',e,q⟩:=h;⟨n,x,H',e,k _ _ q⟩
theorem Wp.mono {c:AC} {b:Fr} {H:AH} {Q Q':Ex→Fr→AH→Prop} (h:Wp E O c b H Q) (k:∀ex a H',Q ex a H'→Q' ex a H'):Wp E O c b H Q':=
 let⟨n,x,a,H',e,q⟩:=h;⟨n,x,a,H',e,k _ _ _ q⟩
theorem oK {n m:Nat} (h:n≤m) {c:AC} {a:Fr} {H:AH} {r:Ex×Fr×AH} (k:aD (fk E O n) n c a H=some r):aD (fk E O m) m c a H=some r:=
 fm h (ek (dI h) k)
theorem Wp.skip {a:Fr} {H:AH} {Q:Ex→Fr→AH→Prop} (h:Q .normal a H):Wp E O .skip a H Q:=⟨1,_,_,_,rfl,h⟩
theorem Wp.ret {a:Fr} {H:AH} {Q:Ex→Fr→AH→Prop} (h:Q .ret a H):Wp E O .ret a H Q:=⟨1,_,_,_,rfl,h⟩
theorem Wp.exit {i:Nat} {a:Fr} {H:AH} {Q:Ex→Fr→AH→Prop} (h:Q (.exit i) a H):Wp E O (.exit i) a H Q:=⟨1,_,_,_,rfl,h⟩
def FH (k:Fr→AH→Prop) (Q:Ex→Fr→AH→Prop):Ex→Fr→AH→Prop
 | .normal,fr,H=>k fr H
 |ex,fr,H=>Q ex fr H
theorem Wp.seq {a b:AC} {d:Fr} {H:AH} {Q:Ex→Fr→AH→Prop} (h:Wp E O a d H (FH (fun k H'=>Wp E O b k H' Q) Q)):Wp E O (.seq a b) d H Q:=by
 obtain ⟨n,ex,c,f,e,q⟩:=h
 cases ex with
 |normal=>
  obtain ⟨m,l,j,p,o,g⟩:=q;refine ⟨max n m+1,l,j,p,?_,g⟩;simp only [aD];rw [ek (dI (aq7 _)) (oK (Nat.le_max_left n m) e)];exact ek (dI (aq7 _)) (oK (Nat.le_max_right n m) o)
 |exit i=>
  refine ⟨n+1,_,c,f,?_,q⟩;simp only [aD];rw [ek (dI (aq7 _)) e]
 |ret=>
  refine ⟨n+1,_,c,f,?_,q⟩;simp only [aD];rw [ek (dI (aq7 _)) e]
theorem Wp.cond {x:X} {a b:AC} {c:Fr} {H:AH} {Q:Ex→Fr→AH→Prop} {t:Bool} (d:x.ev c= .bool t) (h:Wp E O (bif t then a else b) c H Q):Wp E O (.cond x a b) c H Q:=by
 obtain ⟨n,ex,f,g,e,q⟩:=h;refine ⟨n+1,ex,f,g,?_,q⟩;simp only [aD,d];cases t<;>exact ek (dI (aq7 _)) e
def sx (i:Nat) (Q:Ex→Fr→AH→Prop):Ex→Fr→AH→Prop
 | .exit j,fr,H=>if j=i then Q .normal fr H else Q (.exit j) fr H
 |ex,fr,H=>Q ex fr H
theorem Wp.block {i:Nat} {a:AC} {g:Fr} {H:AH} {Q:Ex→Fr→AH→Prop} (h:Wp E O a g H (sx i Q)):Wp E O (.block i a) g H Q:=by
 obtain ⟨n,ex,c,f,e,q⟩:=h;have d:=ek (dI (aq7 n)) e
 cases ex with
 |normal=>exact ⟨n+1,_,c,f,by simp only [aD];rw [d],q⟩
 |ret=>exact ⟨n+1,_,c,f,by simp only [aD];rw [d],q⟩
 |exit j=>
  simp only [sx]at q;by_cases b:j=i
  ·rw [if_pos b]at q
   refine ⟨n+1,_,c,f,?_,q⟩;simp only [aD];rw [d];simp [nb,b]
  ·rw [if_neg b]at q
   refine ⟨n+1,_,c,f,?_,q⟩;simp only [aD];rw [d];simp [nb,b]
theorem Wp.UG {a:AC} {c:Fr} {H:AH} {Q:Ex→Fr→AH→Prop} (h:Wp E O a c H (FH (fun j H'=>Wp E O (.loop a) j H' Q) Q)):Wp E O (.loop a) c H Q:=by
 obtain ⟨n,ex,b,d,e,q⟩:=h
 cases ex with
 |normal=>
  obtain ⟨m,k,g,o,l,f⟩:=q;refine ⟨max n m+1,k,g,o,?_,f⟩;simp only [aD];rw [ek (dI (aq7 _)) (oK (Nat.le_max_left n m) e)];exact ek (dI (aq7 _)) (oK (Nat.le_max_right n m) l)
 |exit i=>
  refine ⟨n+1,_,b,d,?_,q⟩;simp only [aD];rw [ek (dI (aq7 _)) e]
 |ret=>
  refine ⟨n+1,_,b,d,?_,q⟩;simp only [aD];rw [ek (dI (aq7 _)) e]
theorem Wp.loop {a:AC} {Q:Ex→Fr→AH→Prop} (I:Nat→Fr→AH→Prop) (step:∀k b H,I k b H→Wp E O a b H (FH (fun c H'=>∃j,j<k∧I j c H') Q)) (k:Nat) {b:Fr} {H:AH} (h:I k b H):Wp E O (.loop a) b H Q:=by
 induction k using Nat.strongRecOn generalizing b H with
 |_ k ih=>
  refine Wp.UG ((step k b H h).mono ?_);intro ex c H' q
  cases ex with
  |normal=>obtain ⟨j,d,e⟩:=q;exact ih j d e
  |exit i=>exact q
  |ret=>exact q
theorem Wp.bI {l:List AO} {a:Fr} {H:AH} {Q:Ex→Fr→AH→Prop} (h:Wo E O l a H (Q .normal)):Wp E O (.bI l) a H Q:=by
 obtain ⟨n,b,c,e,q⟩:=h;refine ⟨n+1,_,b,c,?_,q⟩;simp only [aD];rw [vB (dI (aq7 _)) e]
theorem Wo.nil {a:Fr} {H:AH} {Q:Fr→AH→Prop} (h:Q a H):Wo E O [] a H Q:=⟨0,a,H,rfl,h⟩
theorem Wo.cons {o:AO} {l:List AO} {a:Fr} {H:AH} {Q:Fr→AH→Prop} (h:q8 E O o a H (fun c H'=>Wo E O l c H' Q)):Wo E O (o::l) a H Q:=by
 obtain ⟨n,g,i,e,m,b,f,d,q⟩:=h;refine ⟨max n m,b,f,?_,q⟩;simp only [ops];rw [rz (dI (Nat.le_max_left n m)) e];exact vB (dI (Nat.le_max_right n m)) d
theorem q8.val {o:AO} {a:Fr} {H H':AH} {x:Value} {Q:Fr→AH→Prop} (b:o.wanted a=true) (h:aq o.o (X.ev a) H=some (.v x,H')) (q:Q (a.aO o.d x) H'):q8 E O o a H Q:=
 ⟨0,_,_,dT.2 ⟨x,rfl,.val b h⟩,q⟩
theorem q8.off {o:AO} {a:Fr} {H:AH} {Q:Fr→AH→Prop} (b:o.wanted a=false) (q:Q (a.aO o.d undef) H):q8 E O o a H Q:=
 ⟨0,_,_,dT.2 ⟨undef,rfl,.off b rfl rfl⟩,q⟩
theorem q8.call {o:AO} {a:Fr} {H H1:AH} {f:Nat} {as:List Value} {Q:Fr→AH→Prop} (b:o.wanted a=true) (h:aq o.o (X.ev a) H=some (.enter f as,H1)) (q:Ca E O f as H1 (fun x H'=>Q (a.aO o.d x) H')):q8 E O o a H Q:=by
 obtain ⟨n,x,H',e,q⟩:=q;exact ⟨n,_,_,dT.2 ⟨x,rfl,.call b f as H1 h e⟩,q⟩
theorem Wp.bJ {l:List AO} {ck:List (Nat×Nat×Nat)} {a:Fr} {H:AH} {Q:Ex→Fr→AH→Prop}
 (h:Wt E O l a H (fun b=>(chain ((a,H)::b)=true∧ck.all (j7 l ((a,H)::b))=true)∧Q .normal (fJ (a,H) b).1 (fJ (a,H) b).2)):Wp E O (.bJ l ck) a H Q:=by
 obtain ⟨n,b,e,⟨c,h2⟩,q⟩:=h;refine ⟨n+1,_,_,_,?_,q⟩;simp only [aD,wZ];rw [rA (dI (aq7 _)) e];simp [c,h2]
theorem Wt.nil {a:Fr} {H:AH} {Q:List (Fr×AH)→Prop} (h:Q []):Wt E O [] a H Q:=⟨0,[],rfl,h⟩
theorem Wt.cons {o:AO} {l:List AO} {c:Fr} {H:AH} {Q:List (Fr×AH)→Prop} (h:q8 E O o c H (fun b H'=>Wt E O l b H' (fun a=>Q ((b,H')::a)))):Wt E O (o::l) c H Q:=by
 obtain ⟨n,f,g,e,m,a,d,q⟩:=h;refine ⟨max n m,_,?_,q⟩;simp only [jN];rw [rz (dI (Nat.le_max_left n m)) e];simp only;rw [rA (dI (Nat.le_max_right n m)) d]
def xp (r:List RS) (Q:Value→AH→Prop):Ex→Fr→AH→Prop
 | .exit _,_,_=>False
 |_,fr,H=>∃vs,RS.all fr H r=some vs∧Q (qy vs) H
theorem Ca.body {f:Nat} {F:AF} {as:List Value} {H:AH} {Q:Value→AH→Prop} (b:O f=none) (d:E f=some F) (c:as.length=F.np) (h:Wp E O F.body (Fr.of as) H (xp F.res Q)):Ca E O f as H Q:=by
 obtain ⟨n,ex,j,k,e,q⟩:=h
 cases ex with
 |exit i=>exact q.elim
 |normal=>
  obtain ⟨g,a,q⟩:=q;refine ⟨n+1,_,_,?_,q⟩;simp only [fk,b,d];rw [nb,decide_eq_true c,cond_true,e];simp [a]
 |ret=>
  obtain ⟨g,a,q⟩:=q;refine ⟨n+1,_,_,?_,q⟩;simp only [fk,b,d];rw [nb,decide_eq_true c,cond_true,e];simp [a]
theorem Ca.xq {f:Nat} {g:List Value→AH→Option (Value×AH)} {as:List Value} {H H':AH} {x:Value} {Q:Value→AH→Prop} (a:O f=some g) (h:g as H=some (x,H')) (q:Q x H'):Ca E O f as H Q:=
 ⟨1,x,H',by simp [fk,a,h],q⟩
end
end
section
open Go Go.RowKit
def uk (W:World) (b:Nat):Option pP:=match W.heap[b]? with
 |some (.cells cs _ _)=>some (.cells 1048576 cs.toList)
 |_=>none
def H0 (W:World):AH:=⟨uk W,W.heap.size,W.heap.size,.nil,none⟩
def q9 (W:World):bM:=⟨W.heap.size,W.heap.size,fun b=>if b<W.heap.size then some ⟨b,0,0,1⟩else none⟩
theorem zK (W:World) (b:Nat):(H0 W).raw b=uk W b:=rfl
theorem UH (W:World):∀b,b<(q9 W).n0→(q9 W).m b=some ⟨b,0,0,1⟩:=fun b a=>if_pos a
theorem ab8 {W:World} (i:w9 W):Rel W (q9 W) (H0 W) W where
 n0:=rfl
 pR:=aqK _
 qA:=aqK _
 c0:=rfl
 below:=Below.refl _ _
 iG:=fun b c=>if_pos c
 j9:=fun b z cs c a=>by
  rw [zK]at a;unfold uk at a;split at a
  ·rename_i p e j g
   cases a;exact ⟨e,j,by rw [g]⟩
  ·cases a
 cells:=fun b l z cs c d a=>by
  have:¬ b<W.heap.size:=Nat.not_lt.2 c;simp only [q9,if_neg this]at d;cases d
 maps:=fun b l es c d a=>by
  have:¬ b<W.heap.size:=Nat.not_lt.2 c;simp only [q9,if_neg this]at d;cases d
 inj:=fun k q n m h o f h2 _ _ _=>by
  have:¬ k<W.heap.size:=Nat.not_lt.2 h;simp only [q9,if_neg this]at f;cases f
 oA:=fun b s e=>by cases e
 u7:=i
theorem PE (W:World):qB (q9 W) (H0 W):=fun b a=>if_neg (Nat.not_lt.2 a)
theorem xu {P:Program} {E:Env} {O:jD} {W:World} (d:w9 W) (b:P.follows .mixedOrders=true) (i:FF P E) (g:Br P O) {f:Nat} {as:List Value} {as':Array Value} (a:VL (q9 W) as as'.toList)
 (h:Ca E O f as (H0 W) (fun x _=>x= .bool true)):Calls P f as' W fun e w'=>e= .returned (.bool true)∧Below W.heap.size W w':=by
 obtain ⟨n,x,l,e,rfl⟩:=h;refine ((Bs b i g n f as _ _ _ e).2 W (q9 W) W as' (ab8 d) (PE W) a).mono ?_;rintro e w' ⟨j,k,rfl,c,R,G⟩;rw [c.bool];exact ⟨rfl,R.below⟩
def Good (P:Program) (f:Nat) (F:AF):Prop:=∃fn,P.funcs[f]?=some fn∧ak P fn=some F
def zL (P:Program) (g:Nat→Nat) (t:T (Option AF)):Prop:=∀k F,t.get none k=some F→Good P (g k) F
theorem zL.nil {P:Program} {g:Nat→Nat}:zL P g .nil:=fun k F h=>by cases k<;>cases h
theorem zL.node {P:Program} {g:Nat→Nat} {v:Option AF} {l r:T (Option AF)} (h:∀F,v=some F→Good P (g 0) F) (c:zL P (fun k=>g (2*k+1)) l) (b:zL P (fun k=>g (2*k+2)) r):zL P g (.node v l r):=by
 intro k F a;simp only [T.get,nb,Bool.cond_decide]at a;split at a
 ·rename_i e
  subst e;exact h F a
 ·split at a
  ·have:=c _ F a
   simp only at this;rwa [show 2*(k/2)+1=k by omega]at this
  ·have:=b _ F a
   simp only at this;rwa [show 2*(k/2- 1)+2=k by omega]at this
open Go Go.RowKit
theorem Rel.later {w0 w w':World} {φ:bM} {H:AH} (R:Rel w0 φ H w) (B:Below w.heap.size w w'):Rel w0 φ H w' where
 n0:=R.n0
 pR:=R.pR
 qA:=R.qA
 c0:=R.c0
 below:=⟨B.os.trans R.below.os,B.tape.trans R.below.tape,B.output.trans R.below.output,aq2 R.below.size B.size,fun k i=>(B.block k (aq3 i R.below.size)).trans (R.below.block k i)⟩
 iG:=R.iG
 j9:=fun b z cs f d=>by
  obtain ⟨e,r,o⟩:=R.j9 b z cs f d;exact ⟨e,r,(B.block b (aqU.1 o).1).trans o⟩
 cells:=fun b l z cs f j d=>by
  obtain ⟨h,h2,m,arr,e,a,g,q,p⟩:=R.cells b l z cs f j d;exact ⟨h,h2,m,arr,e,(B.block l.c (aqU.1 a).1).trans a,g,q,p⟩
 maps:=fun b l es f j d=>by
  obtain ⟨h,n,t,a,g⟩:=R.maps b l es f j d;exact ⟨h,n,t,(B.block l.c (aqU.1 a).1).trans a,g⟩
 inj:=R.inj
 u7:=R.u7
 oA:=fun b s e=>by
  obtain ⟨h,h2,l,m,a,g⟩:=R.oA b s e;exact ⟨h,h2,l,m,a,g.nc rfl (fun k i _=>B.block k i) fun A y x v u=>.inl ⟨x,v,u⟩⟩
def He:AH:=⟨fun _=>none,0,0,.nil,none⟩
def isTrue:Option (Value×AH)→Bool
 |some (.bool true,_)=>true
 |_=>false
end
section
open Go Go.RowKit
section
variable{E:Env} {O:jD}
def J5 (E:Env) (O:jD) (r:Option (iY×AH)) (Q:Value→AH→Prop):Prop:=match r with
 |some (.v x,H)=>Q x H
 |some (.enter f as,H)=>Ca E O f as H Q
 |none=>False
theorem J6 (a:Fr) (H:AH) (Q:Ex→Fr→AH→Prop):Wp E O .skip a H Q↔Q .normal a H:=by
 refine ⟨fun⟨n,ex,b,c,e,q⟩=>?_,Wp.skip⟩
 cases n with
 |zero=>simp [aD]at e
 |succ n=>simp only [aD,aqH,aqO]at e;obtain ⟨rfl,rfl,rfl⟩:=e;exact q
theorem PI (a:Fr) (H:AH) (Q:Ex→Fr→AH→Prop):Wp E O .ret a H Q↔Q .ret a H:=by
 refine ⟨fun⟨n,ex,b,c,e,q⟩=>?_,Wp.ret⟩
 cases n with
 |zero=>simp [aD]at e
 |succ n=>simp only [aD,aqH,aqO]at e;obtain ⟨rfl,rfl,rfl⟩:=e;exact q
theorem J7 (i:Nat) (a:Fr) (H:AH) (Q:Ex→Fr→AH→Prop):Wp E O (.exit i) a H Q↔Q (.exit i) a H:=by
 refine ⟨fun⟨n,ex,b,c,e,q⟩=>?_,Wp.exit⟩
 cases n with
 |zero=>simp [aD]at e
 |succ n=>simp only [aD,aqH,aqO]at e;obtain ⟨rfl,rfl,rfl⟩:=e;exact q
theorem PJ (l:List AO) (a:Fr) (H:AH) (Q:Ex→Fr→AH→Prop):Wp E O (.bI l) a H Q↔Wo E O l a H (Q .normal):=by
 refine ⟨fun⟨n,ex,b,c,e,q⟩=>?_,Wp.bI⟩
 cases n with
 |zero=>simp [aD]at e
 |succ n=>
  simp only [aD]at e
  cases h:ops (fk E O (n+1)) l a H with
  |none=>simp [h]at e
  |some r=>
   simp only [h,aqH,aqO]at e;obtain ⟨rfl,rfl,rfl⟩:=e;exact ⟨n+1,_,_,h,q⟩
theorem PL (a b:AC) (d:Fr) (H:AH) (Q:Ex→Fr→AH→Prop):Wp E O (.seq a b) d H Q↔Wp E O a d H (FH (fun f H'=>Wp E O b f H' Q) Q):=by
 refine ⟨fun⟨n,ex,f,H',e,q⟩=>?_,Wp.seq⟩
 cases n with
 |zero=>simp [aD]at e
 |succ n=>
  simp only [aD]at e
  cases h:aD (fk E O (n+1)) n a d H with
  |none=>simp [h]at e
  |some r=>
   obtain ⟨g,j,k⟩:=r;have c:=fm (aq7 n) h
   cases g with
   |normal=>
    simp only [h]at e;exact ⟨n+1,_,_,_,c,n+1,_,_,_,fm (aq7 n) e,q⟩
   |exit i=>
    simp only [h,aqH,aqO]at e;obtain ⟨rfl,rfl,rfl⟩:=e;exact ⟨n+1,_,_,_,c,q⟩
   |ret=>
    simp only [h,aqH,aqO]at e;obtain ⟨rfl,rfl,rfl⟩:=e;exact ⟨n+1,_,_,_,c,q⟩
theorem FI (i:Nat) (a:AC) (b:Fr) (H:AH) (Q:Ex→Fr→AH→Prop):Wp E O (.block i a) b H Q↔Wp E O a b H (sx i Q):=by
 refine ⟨fun⟨n,ex,l,m,e,q⟩=>?_,Wp.block⟩
 cases n with
 |zero=>simp [aD]at e
 |succ n=>
  simp only [aD]at e
  cases h:aD (fk E O (n+1)) n a b H with
  |none=>simp [h]at e
  |some r=>
   obtain ⟨d,g,k⟩:=r;have f:=fm (aq7 n) h;refine ⟨n+1,d,g,k,f,?_⟩
   cases d with
   |normal=>simp only [h,aqH,aqO]at e;obtain ⟨rfl,rfl,rfl⟩:=e;exact q
   |ret=>simp only [h,aqH,aqO]at e;obtain ⟨rfl,rfl,rfl⟩:=e;exact q
   |exit j=>
    simp only [h,nb,Bool.cond_decide]at e;simp only [sx];by_cases c:j=i
    ·rw [if_pos c]at e⊢
     simp only [aqH,aqO]at e;obtain ⟨rfl,rfl,rfl⟩:=e;exact q
    ·rw [if_neg c]at e⊢
     simp only [aqH,aqO]at e;obtain ⟨rfl,rfl,rfl⟩:=e;exact q
theorem gV (o:AO) (l:List AO) (a:Fr) (H:AH) (Q:Fr→AH→Prop):Wo E O (o::l) a H Q↔q8 E O o a H (fun b H'=>Wo E O l b H' Q):=by
 refine ⟨fun⟨n,b,H',e,q⟩=>?_,Wo.cons⟩;simp only [ops]at e
 cases h:jM (fk E O n) o a H with
 |none=>simp [h]at e
 |some r=>
  simp only [h]at e;exact ⟨n,_,_,h,n,_,_,e,q⟩
theorem fN (o:AO) (g:Fr) (H:AH) (Q:Fr→AH→Prop) (j:o.wanted g=true):q8 E O o g H Q↔J5 E O (aq o.o (X.ev g) H) (fun x H'=>Q (g.aO o.d x) H'):=by
 constructor
 ·rintro ⟨n,l,H',e,q⟩
  obtain ⟨x,rfl,h⟩:=dT.1 e
  cases h with
  |off a _ _=>rw [j]at a;cases a
  |val a b=>rw [b];exact q
  |call a f as k b c=>rw [b];exact ⟨n,x,H',c,q⟩
 ·intro h
  cases i:aq o.o (X.ev g) H with
  |none=>rw [i]at h;exact h.elim
  |some r=>
   obtain ⟨res,k⟩:=r;rw [i]at h
   cases res with
   |v x=>exact q8.val j i h
   |enter f as=>exact q8.call j i h
theorem Bt (o:AO) (i:Fr) (H:AH) (Q:Fr→AH→Prop) (g:o.wanted i=false):q8 E O o i H Q↔Q (i.aO o.d undef) H:=by
 constructor
 ·rintro ⟨n,j,l,e,q⟩
  obtain ⟨x,rfl,h⟩:=dT.1 e
  cases h with
  |off _ a b=>subst a;subst b;exact q
  |val a b=>rw [g]at a;cases a
  |call a f as k b c=>rw [g]at a;cases a
 ·exact fun h=>q8.off g h
inductive Ko where
 |seq (b:AC)
 |aR (i:Nat)
def Un (E:Env) (O:jD):Ex→List Ko→Fr→AH→(Ex→Fr→AH→Prop)→Prop
 |ex,[],fr,H,Q=>Q ex fr H
 | .normal,.seq b::ks,fr,H,Q=>Wp E O b fr H (fun ex bK H'=>Un E O ex ks bK H' Q)
 | .normal,.aR _::ks,fr,H,Q=>Un E O .normal ks fr H Q
 | .exit j,.seq _::ks,fr,H,Q=>Un E O (.exit j) ks fr H Q
 | .exit j,.aR i::ks,fr,H,Q=>if j=i then Un E O .normal ks fr H Q else Un E O (.exit j) ks fr H Q
 | .ret,_::ks,fr,H,Q=>Un E O .ret ks fr H Q
def Wk (E:Env) (O:jD) (c:AC) (ks:List Ko) (fr:Fr) (H:AH) (Q:Ex→Fr→AH→Prop):Prop:=Wp E O c fr H (fun ex bK H'=>Un E O ex ks bK H' Q)
def Wr (E:Env) (O:jD) (l:List AO) (ks:List Ko) (fr:Fr) (H:AH) (Q:Ex→Fr→AH→Prop):Prop:=Wo E O l fr H (fun bK H'=>Un E O .normal ks bK H' Q)
def tS (l:List AO) (ck:List (Nat×Nat×Nat)) (acc:List (Fr×AH)):Bool:=chain acc.reverse&&ck.all (j7 l acc.reverse)
def Wd (E:Env) (O:jD) (l0:List AO) (ck:List (Nat×Nat×Nat)) (acc:List (Fr×AH)) (l:List AO) (ks:List Ko) (fr:Fr) (H:AH) (Q:Ex→Fr→AH→Prop):Prop:=
 Wt E O l fr H (fun ss=>tS l0 ck (ss.reverse++acc)=true∧Un E O .normal ks (fJ (fr,H) ss).1 (fJ (fr,H) ss).2 Q)
variable{ks:List Ko} {fr:Fr} {H:AH} {Q:Ex→Fr→AH→Prop}
@[simp]theorem FJ (ex:Ex):Un E O ex [] fr H Q=Q ex fr H:=by cases ex<;>rfl
@[simp]theorem ahY (b:AC):Un E O .normal (.seq b::ks) fr H Q=Wk E O b ks fr H Q:=rfl
@[simp]theorem ahZ (i:Nat):Un E O .normal (.aR i::ks) fr H Q=Un E O .normal ks fr H Q:=rfl
@[simp]theorem ah0 (j:Nat) (b:AC):Un E O (.exit j) (.seq b::ks) fr H Q=Un E O (.exit j) ks fr H Q:=rfl
theorem UI (i j:Nat):Un E O (.exit j) (.aR i::ks) fr H Q=if j=i then Un E O .normal ks fr H Q else Un E O (.exit j) ks fr H Q:=rfl
@[simp]theorem PM (i:Nat):Un E O (.exit i) (.aR i::ks) fr H Q=Un E O .normal ks fr H Q:=by rw [UI,if_pos rfl]
@[simp]theorem ab9 (k:Ko):Un E O .ret (k::ks) fr H Q=Un E O .ret ks fr H Q:=by cases k<;>rfl
@[simp]theorem J8:Wk E O .skip ks fr H Q↔Un E O .normal ks fr H Q:=J6 _ _ _
@[simp]theorem PN:Wk E O .ret ks fr H Q↔Un E O .ret ks fr H Q:=PI _ _ _
@[simp]theorem J9 (i:Nat):Wk E O (.exit i) ks fr H Q↔Un E O (.exit i) ks fr H Q:=J7 _ _ _ _
@[simp]theorem PQ (l:List AO):Wk E O (.bI l) ks fr H Q↔Wr E O l ks fr H Q:=PJ _ _ _ _
@[simp]theorem PR (a b:AC):Wk E O (.seq a b) ks fr H Q↔Wk E O a (.seq b::ks) fr H Q:=by
 unfold Wk;rw [PL]
 have e:FH (fun c d=>Wp E O b c d fun ex c d=>Un E O ex ks c d Q) (fun ex c d=>Un E O ex ks c d Q)=fun ex c d=>Un E O ex (.seq b::ks) c d Q:=by
  funext ex c d;cases ex<;>rfl
 rw [e]
@[simp]theorem FK (i:Nat) (a:AC):Wk E O (.block i a) ks fr H Q↔Wk E O a (.aR i::ks) fr H Q:=by
 unfold Wk;rw [FI]
 have e:sx i (fun ex b c=>Un E O ex ks b c Q)=fun ex b c=>Un E O ex (.aR i::ks) b c Q:=by
  funext ex b c;cases ex<;>rfl
 rw [e]
theorem qI {x:X} {a b:AC} {c:Bool} {Q:Ex→Fr→AH→Prop} (d:x.ev fr= .bool c):Wp E O (.cond x a b) fr H Q↔Wp E O (bif c then a else b) fr H Q:=by
 refine ⟨?_,Wp.cond d⟩;rintro ⟨n,ex,f,g,e,q⟩
 cases n with
 |zero=>simp [aD]at e
 |succ n=>
  simp only [aD,d]at e;cases c<;>exact ⟨n+1,_,_,_,fm (aq7 n) e,q⟩
@[simp]theorem FL {x:X} {a b:AC} (c:x.ev fr= .bool true):Wk E O (.cond x a b) ks fr H Q↔Wk E O a ks fr H Q:=qI c
@[simp]theorem FM {x:X} {a b:AC} (c:x.ev fr= .bool false):Wk E O (.cond x a b) ks fr H Q↔Wk E O b ks fr H Q:=qI c
@[simp]theorem PT:Wr E O [] ks fr H Q↔Un E O .normal ks fr H Q:=by
 refine ⟨fun⟨n,a,b,e,q⟩=>?_,fun q=>Wo.nil q⟩;simp only [ops,aqH,aqO]at e;obtain ⟨rfl,rfl⟩:=e;exact q
def cv.aV:cv→Bool
 | .call _ _| .callv _ _=>true
 |_=>false
def Bu:Option (iY×AH)→Bool
 |some (.v _,_)=>true
 |_=>false
def valOf:Option (iY×AH)→Value
 |some (.v x,_)=>x
 |_=>undef
def fO (H:AH):Option (iY×AH)→AH
 |some (_,H')=>H'
 |none=>H
@[simp]theorem ah1 (x:Value) (H:AH):Bu (some (.v x,H))=true:=rfl
@[simp]theorem YT (x:Value) (H:AH):valOf (some (.v x,H))=x:=rfl
@[simp]theorem UJ (x:Value) (H H':AH):fO H (some (.v x,H'))=H':=rfl
theorem rB (r:Option (iY×AH)) (a:∀f as H',r≠some (.enter f as,H')) (Q:Value→AH→Prop):J5 E O r Q↔Bu r=true∧Q (valOf r) (fO H r):=by
 cases r with
 |none=>simp [J5,Bu]
 |some q=>
  obtain ⟨res,H'⟩:=q
  cases res with
  |v x=>simp [J5]
  |enter f as=>exact absurd rfl (a f as H')
theorem rC {p:cv} {a:X→Value} (h:p.aV=false):∀f as H',aq p a H≠some (.enter f as,H'):=by
 intro f as H' e
 cases p<;>first
  |(simp [cv.aV]at h;done)
  |(simp only [aq,Bool.cond_eq_ite]at e
    (repeat' split at e)<;>simp at e)
@[simp]theorem aca (d:Nat) (p:cv) (l:List AO) (h:p.aV=false):Wr E O (⟨none,some d,p⟩::l) ks fr H Q↔
  Bu (aq p (X.ev fr) H)=true∧Wr E O l ks (fr.put d (valOf (aq p (X.ev fr) H))) (fO H (aq p (X.ev fr) H)) Q:=by
 unfold Wr;rw [gV,fN _ _ _ _ rfl,rB _ (rC h)];rfl
@[simp]theorem acb (p:cv) (l:List AO) (h:p.aV=false):Wr E O (⟨none,none,p⟩::l) ks fr H Q↔
  Bu (aq p (X.ev fr) H)=true∧Wr E O l ks fr (fO H (aq p (X.ev fr) H)) Q:=by
 unfold Wr;rw [gV,fN _ _ _ _ rfl,rB _ (rC h)];rfl
@[simp]theorem UK {t:Nat} {b:Bool} (d:Option Nat) (p:cv) (l:List AO) (h:fr.get t= .bool b):Wr E O (⟨some (t,b),d,p⟩::l) ks fr H Q↔Wr E O (⟨none,d,p⟩::l) ks fr H Q:=by
 unfold Wr;rw [gV,gV,fN _ _ _ _ (by simp [AO.wanted,h]),fN _ _ _ _ rfl]
theorem zM {t:Nat} {b:Bool} (d:Option Nat) (p:cv) (l:List AO) (h:fr.get t≠ .bool b):Wr E O (⟨some (t,b),d,p⟩::l) ks fr H Q↔Wr E O l ks (fr.aO d undef) H Q:=by
 unfold Wr;rw [gV,Bt];unfold AO.wanted;dsimp only
 cases a:fr.get t<;>first
  |rfl
  |(rw [a]at h;simpa using h)
@[simp]theorem YU {t:Nat} (d:Nat) (p:cv) (l:List AO) (h:fr.get t= .bool false):Wr E O (⟨some (t,true),some d,p⟩::l) ks fr H Q↔Wr E O l ks (fr.put d undef) H Q:=
 zM _ _ _ (by rw [h];simp)
@[simp]theorem YV {t:Nat} (d:Nat) (p:cv) (l:List AO) (h:fr.get t= .bool true):Wr E O (⟨some (t,false),some d,p⟩::l) ks fr H Q↔Wr E O l ks (fr.put d undef) H Q:=
 zM _ _ _ (by rw [h];simp)
theorem ba {d:Nat} {f:Nat} {as:List X} {l:List AO} (h:Ca E O f (as.map (X.ev fr)) H (fun x H'=>Wr E O l ks (fr.put d x) H' Q)):Wr E O (⟨none,some d,.call f as⟩::l) ks fr H Q:=by
 unfold Wr;rw [gV,fN _ _ _ _ rfl];exact h
theorem oL (l:List AO) (ck:List (Nat×Nat×Nat)) (h:Wd E O l ck [(fr,H)] l ks fr H Q):Wk E O (.bJ l ck) ks fr H Q:=by
 refine Wp.bJ ?_;obtain ⟨n,b,e,a,h2⟩:=h;unfold tS at a;simp only [List.reverse_append,List.reverse_cons,List.reverse_nil,List.nil_append,List.reverse_reverse,List.cons_append,aqJ]at a;exact ⟨n,b,e,a,h2⟩
variable{l0:List AO} {ck:List (Nat×Nat×Nat)} {acc:List (Fr×AH)}
@[simp]theorem PU:Wd E O l0 ck acc [] ks fr H Q↔tS l0 ck acc=true∧Un E O .normal ks fr H Q:=by
 refine ⟨fun⟨n,a,e,q⟩=>?_,fun q=>Wt.nil (by simpa [fJ]using q)⟩;simp only [jN,aqH]at e;subst e
 simpa [fJ]using q
theorem jd (o:AO) (l:List AO) (fr:Fr) (H:AH) (Q:List (Fr×AH)→Prop):Wt E O (o::l) fr H Q↔q8 E O o fr H (fun b H'=>Wt E O l b H' (fun a=>Q ((b,H')::a))):=by
 refine ⟨fun⟨n,a,e,q⟩=>?_,Wt.cons⟩;simp only [jN]at e
 cases h:jM (fk E O n) o fr H with
 |none=>simp [h]at e
 |some r=>
  simp only [h]at e
  cases h2:jN (fk E O n) l r.1 r.2 with
  |none=>simp [h2]at e
  |some c=>
   simp only [h2,aqH]at e;subst e;exact ⟨n,_,_,h,n,_,h2,q⟩
theorem je (o:AO) (l:List AO):Wd E O l0 ck acc (o::l) ks fr H Q↔q8 E O o fr H (fun a H'=>Wd E O l0 ck ((a,H')::acc) l ks a H' Q):=by
 unfold Wd;rw [jd];simp only [fJ,List.reverse_cons,aq5,List.singleton_append]
@[simp]theorem acd (d:Nat) (p:cv) (l:List AO) (h:p.aV=false):Wd E O l0 ck acc (⟨none,some d,p⟩::l) ks fr H Q↔
  Bu (aq p (X.ev fr) H)=true∧Wd E O l0 ck ((fr.put d (valOf (aq p (X.ev fr) H)),fO H (aq p (X.ev fr) H))::acc) l ks (fr.put d (valOf (aq p (X.ev fr) H))) (fO H (aq p (X.ev fr) H)) Q:=by
 rw [je,fN _ _ _ _ rfl,rB _ (rC h)];rfl
@[simp]theorem ace (p:cv) (l:List AO) (h:p.aV=false):Wd E O l0 ck acc (⟨none,none,p⟩::l) ks fr H Q↔
  Bu (aq p (X.ev fr) H)=true∧Wd E O l0 ck ((fr,fO H (aq p (X.ev fr) H))::acc) l ks fr (fO H (aq p (X.ev fr) H)) Q:=by
 rw [je,fN _ _ _ _ rfl,rB _ (rC h)];rfl
@[simp]theorem UL {t:Nat} {b:Bool} (d:Option Nat) (p:cv) (l:List AO) (h:fr.get t= .bool b):Wd E O l0 ck acc (⟨some (t,b),d,p⟩::l) ks fr H Q↔Wd E O l0 ck acc (⟨none,d,p⟩::l) ks fr H Q:=by
 rw [je,je,fN _ _ _ _ (by simp [AO.wanted,h]),fN _ _ _ _ rfl]
theorem zN {t:Nat} {b:Bool} (d:Option Nat) (p:cv) (l:List AO) (h:fr.get t≠ .bool b):Wd E O l0 ck acc (⟨some (t,b),d,p⟩::l) ks fr H Q↔Wd E O l0 ck ((fr.aO d undef,H)::acc) l ks (fr.aO d undef) H Q:=by
 rw [je,Bt];unfold AO.wanted;dsimp only
 cases a:fr.get t<;>first
  |rfl
  |(rw [a]at h;simpa using h)
@[simp]theorem YW {t:Nat} (d:Nat) (p:cv) (l:List AO) (h:fr.get t= .bool false):Wd E O l0 ck acc (⟨some (t,true),some d,p⟩::l) ks fr H Q↔Wd E O l0 ck ((fr.put d undef,H)::acc) l ks (fr.put d undef) H Q:=
 zN _ _ _ (by rw [h];simp)
@[simp]theorem YX {t:Nat} (d:Nat) (p:cv) (l:List AO) (h:fr.get t= .bool true):Wd E O l0 ck acc (⟨some (t,false),some d,p⟩::l) ks fr H Q↔Wd E O l0 ck ((fr.put d undef,H)::acc) l ks (fr.put d undef) H Q:=
 zN _ _ _ (by rw [h];simp)
theorem mF {d:Nat} {f:Nat} {as:List X} {l:List AO} (h:Ca E O f (as.map (X.ev fr)) H (fun x H'=>Wd E O l0 ck ((fr.put d x,H')::acc) l ks (fr.put d x) H' Q)):Wd E O l0 ck acc (⟨none,some d,.call f as⟩::l) ks fr H Q:=by
 rw [je,fN _ _ _ _ rfl];exact h
theorem Ca.dx {f:Nat} {F:AF} {as:List Value} {H:AH} {Q:Value→AH→Prop} (a:O f=none) (c:E f=some F) (b:as.length=F.np) (h:Wk E O F.body [] (Fr.of as) H (xp F.res Q)):Ca E O f as H Q:=
 Ca.body a c b (Wp.mono h fun ex fr H q=>by simpa using q)
def xv (E:Env) (O:jD) (I:Nat→Fr→AH→Prop) (k:Nat) (ks:List Ko) (Q:Ex→Fr→AH→Prop):Ex→Fr→AH→Prop
 | .normal,fr,H=>∃j,j<k∧I j fr H
 | .exit i,fr,H=>Un E O (.exit i) ks fr H Q
 | .ret,fr,H=>Un E O .ret ks fr H Q
@[simp]theorem YY (I:Nat→Fr→AH→Prop) (k:Nat):xv E O I k ks Q .normal fr H=∃j,j<k∧I j fr H:=rfl
@[simp]theorem YZ (I:Nat→Fr→AH→Prop) (k i:Nat):xv E O I k ks Q (.exit i) fr H=Un E O (.exit i) ks fr H Q:=rfl
@[simp]theorem Y0 (I:Nat→Fr→AH→Prop) (k:Nat):xv E O I k ks Q .ret fr H=Un E O .ret ks fr H Q:=rfl
theorem dY {a:AC} (I:Nat→Fr→AH→Prop) (step:∀k fr H,I k fr H→Wk E O a [] fr H (xv E O I k ks Q)) (k:Nat) (h:I k fr H):Wk E O (.loop a) ks fr H Q:=by
 refine Wp.loop I (fun k fr H b=>?_) k h;refine (step k fr H b).mono ?_;intro ex c d q;rw [FJ]at q;cases ex<;>exact q
attribute [simp] Fr.bG Fr.eO X.ev qy RS.all RS.get
@[simp]theorem acf (r:List RS) (Q:Value→AH→Prop):xp r Q .normal fr H=∃vs,RS.all fr H r=some vs∧Q (qy vs) H:=rfl
@[simp]theorem acg (r:List RS) (Q:Value→AH→Prop):xp r Q .ret fr H=∃vs,RS.all fr H r=some vs∧Q (qy vs) H:=rfl
@[simp]theorem S4 (x:X):(cv.mv x).aV=false:=rfl
@[simp]theorem ND (c a b:X):(cv.pick c a b).aV=false:=rfl
@[simp]theorem Ka (z:List Value):(cv.alloc z).aV=false:=rfl
@[simp]theorem PW (x:X):(cv.box x).aV=false:=rfl
@[simp]theorem Kb (z:List Value) (ps:List (Nat×Nat×X)):(cv.build z ps).aV=false:=rfl
@[simp]theorem PX (len sz:Nat) (z:List Value) (ps:List (Nat×Nat×X)):(cv.bsl len sz z ps).aV=false:=rfl
@[simp]theorem S5 (x:X):(cv.ld x).aV=false:=rfl
@[simp]theorem PY (n:Nat) (x:X):(cv.ldn n x).aV=false:=rfl
@[simp]theorem S6 (n:Nat) (x v:X):(cv.st n x v).aV=false:=rfl
@[simp]theorem NF (x:X):(cv.aZ x).aV=false:=rfl
@[simp]theorem PZ (op:BinOp) (x y:X):(cv.bin op x y).aV=false:=rfl
@[simp]theorem P2 (k:Nat) (neg:Bool) (x y:X):(cv.eqk k neg x y).aV=false:=rfl
@[simp]theorem S7 (op:UnOp) (x:X):(cv.un op x).aV=false:=rfl
@[simp]theorem P3 (k:IntKind) (x:X):(cv.nk k x).aV=false:=rfl
@[simp]theorem P4 (x:X):(cv.SM x).aV=false:=rfl
@[simp]theorem P5 (f:Nat) (first cap:List X):(cv.mkf f first cap).aV=false:=rfl
@[simp]theorem Kc:cv.mkmap.aV=false:=rfl
@[simp]theorem NG (sz bytes:Nat) (z:List Value) (x:X):(cv.mksl sz bytes z x).aV=false:=rfl
@[simp]theorem S8 (sz:Nat) (x:X) (lo hi mx:Option X):(cv.sl sz x lo hi mx).aV=false:=rfl
@[simp]theorem S9 (off:Nat) (x:X):(cv.fa off x).aV=false:=rfl
@[simp]theorem Ta (sz:Nat) (x i:X):(cv.ia sz x i).aV=false:=rfl
@[simp]theorem P6 (len sz:Nat) (x i:X):(cv.qx len sz x i).aV=false:=rfl
@[simp]theorem Tb (x i:X):(cv.ix x i).aV=false:=rfl
@[simp]theorem NJ (kk:Nat) (z:Value) (x k:X) (ok:Bool):(cv.look kk z x k ok).aV=false:=rfl
@[simp]theorem P7 (kk:Nat) (x k v:X):(cv.pJ kk x k v).aV=false:=rfl
@[simp]theorem P8 (x:X) (i:Nat):(cv.ext x i).aV=false:=rfl
@[simp]theorem P9 (sz bytes:Nat) (s x:X):(cv.app sz bytes s x).aV=false:=rfl
@[simp]theorem NK (sz:Nat) (d s:X):(cv.copy sz d s).aV=false:=rfl
@[simp]theorem NM (x:X):(cv.lens x).aV=false:=rfl
@[simp]theorem NN (x:X):(cv.eN x).aV=false:=rfl
@[simp]theorem Qa (t:Nat) (x:X):(cv.O2 t x).aV=false:=rfl
@[simp]theorem Qb (x:X) (l:List X):(cv.mxl x l).aV=false:=rfl
@[simp]theorem Qc (x:X) (l:List X):(cv.mnl x l).aV=false:=rfl
@[simp]theorem Qd (neg:Bool) (offs:List (Nat×Nat)) (x y:X):(cv.eqs neg offs x y).aV=false:=rfl
@[simp]theorem Y1 (b:Bool):EL .not (.bool b)=some (.bool !b):=rfl
@[simp]theorem Y2 (k:IntKind) (n:Int):EL .neg (.int k n)=some (.int k (k.wrap (0- n))):=rfl
@[simp]theorem UM (k:IntKind) (a b:Int):cj .add (.int k a) (.int k b)=some (.int k (k.wrap (a+b))):=by simp [cj,df,jx]
@[simp]theorem UN (k:IntKind) (a b:Int):cj .sub (.int k a) (.int k b)=some (.int k (k.wrap (a- b))):=by simp [cj,df,jx]
@[simp]theorem UO (k:IntKind) (a b:Int):cj .mul (.int k a) (.int k b)=some (.int k (k.wrap (a*b))):=by simp [cj,df,jx]
@[simp]theorem UQ (k:IntKind) (a b:Int):cj .eql (.int k a) (.int k b)=some (.bool (decide (a=b))):=by simp [cj,df,jx];rfl
@[simp]theorem UR (k:IntKind) (a b:Int):cj .neq (.int k a) (.int k b)=some (.bool (!decide (a=b))):=by simp [cj,df,jx];rfl
@[simp]theorem US (k:IntKind) (a b:Int):cj .lss (.int k a) (.int k b)=some (.bool (decide (a<b))):=by simp [cj,df,jx]
@[simp]theorem UT (k:IntKind) (a b:Int):cj .leq (.int k a) (.int k b)=some (.bool (decide (a≤b))):=by simp [cj,df,jx]
@[simp]theorem UU (k:IntKind) (a b:Int):cj .gtr (.int k a) (.int k b)=some (.bool (decide (a>b))):=by simp [cj,df,jx]
@[simp]theorem UW (k:IntKind) (a b:Int):cj .geq (.int k a) (.int k b)=some (.bool (decide (a≥b))):=by simp [cj,df,jx]
def bN (a b:ByteArray):Bool:=a.data.toList==b.data.toList
@[simp]theorem UX (a b:ByteArray):cj .eql (.string a) (.string b)=some (.bool (bN a b)):=rfl
@[simp]theorem UY (a b:ByteArray):cj .neq (.string a) (.string b)=some (.bool (!bN a b)):=rfl
theorem iT {a b:ByteArray}:bN a b=true↔a=b:=by
 unfold bN;constructor
 ·intro h
  have:a.data.toList=b.data.toList:=by simpa using h
  exact ByteArray.ext (Array.toList_inj.1 this)
 ·rintro rfl;simp
def cH (s:ByteArray) (i:Nat):Int:=((s[i]?).getD 0).toNat
theorem FN {x i:X} {a:X→Value} {H:AH} {s:ByteArray} {n:Nat} (b:a x= .string s) (hi:a i= .int .i64 n) (h:n<s.size):aq (.ix x i) a H=some (.v (.int .u8 (cH s n)),H):=by
 simp only [aq,b,hi];rw [if_pos (by omega)];simp only [Int.toNat_natCast];unfold cH;have:s[n]?=some s[n]:=getElem?_pos s n h;rw [this];rfl
end
end
end Go.Proofs.YtppcmpmnglaleaaGreatDoor.A
