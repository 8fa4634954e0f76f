/- Texts that stand one behind the other: AbsB, AbsC, AbsD, AbsE, AbsF, AbsG, AbsH, AbsI, AbsJ, AbsK, AbsL, AbsM. -/
import Derived.Test.YtediokhgklkhnaaG8
import Derived.Deep.LoopGhost
import Derived.Orders
set_option linter.unusedVariables false
set_option linter.unusedSimpArgs false
namespace Go.Proofs.Ytediokhgklkhnaa.A
section
open Go Go.RowKit
section
variable{P:Program}
def sq (P:Program) (f:Nat) (as:List Value) (H:AH) (v:Value) (H':AH):Prop:=
 ∀(w0:World) (φ:aq) (w:World) (as':Array Value),Rel w0 φ H w→fw φ H→VL φ as as'.toList→
  Calls P f as' w fun e w'=>∃aV v',e= .returned v'∧V aV v v'∧Rel w0 aV H' w'∧a6 φ H w aV H' w'
def eZ (P:Program) (call:Cl):Prop:=∀f as H v H',call f as H=some (v,H')→ku P f∧sq P f as H v H'
theorem V.mm {φ:aq} {v:Value} {b:Bool} (h:V φ v (.bool b)):v= .bool b:=by
 cases h;rfl
theorem mn {φ:aq} {fr:Fr} {a:Act} (F:dn φ fr a) {f:Array Oper} {o:Oper} {g:Option (Nat×Bool)} {d:Option Nat} {p:aM} (e:iB f o.guard=some g):
 Region.wanted o (yielded f a.tmps)=AO.wanted ⟨g,d,p⟩ fr:=by
 unfold Region.wanted AO.wanted
 cases m:o.guard with
 |none=>rw [m]at e;simp [iB]at e;subst e;rfl
 |some n=>
  obtain ⟨j,b⟩:=n;rw [m]at e;simp only [iB]at e
  cases k:(f[j]?).bind (·.dst)with
  |none=>simp [k]at e
  |some t=>
   simp [k]at e;subst e;dsimp only;have h:=F t
   have q:yielded f a.tmps j=match a.tmps[t]? with|some (.bool b)=>some b|_=>none:=by
    unfold yielded;rw [k];rfl
   rw [q]
   cases l:fr.get t with
   |bool c=>
    rw [l]at h;have:=h.bool
    have h2:a.tmps[t]?=some (.bool c):=by
     cases i:a.tmps[t]? with
     |none=>simp [i,undef]at this
     |some u=>simp [i]at this;rw [this]
    rw [h2];simp
   |_=>
    have:∀c,a.tmps[t]?≠some (.bool c):=by
     intro c r;have h2:a.tmps.getD t undef= .bool c:=by simp [r]
     rw [h2]at h;have:=h.mm;rw [this]at l;cases l
    dsimp only
    cases i:a.tmps[t]? with
    |none=>rfl
    |some u=>cases u<;>first|rfl|exact absurd i (this _)
theorem cQ {p:aM} {a:X→Value} {H b:AH} {f:Nat} {as:List Value} (h:au p a H=some (.enter f as,b)):bu p= .cT:=by
 cases p<;>first
  |rfl
  |(exfalso
    simp only [au,Bool.cond_eq_ite]at h
    (repeat' split at h)<;>simp at h)
theorem ny {call:Cl} (dQ:eZ P call) {nt:Nat} {A:Array Oper} {i:Nat} {o:Oper} {I:AO} (hi:A[i]?=some o) (c:qP P nt A o=some I)
 {w0 w:World} {φ:aq} {H J:AH} {q D:Fr} {a:Act} (F:dn φ q a) (R:Rel w0 φ H w) (S:φ.m H.nx=none) (N:bu I.o= .cT→fw φ H) (M:a.tmps.size=nt) (hd:a.defers=[]) (h:cU call I q H=some (D,J))
 {Q:Exit→Act→World→Prop} {K:Act→World→Prop}
 (y:∀b v v' w',Rel w0 b J w'→a6 φ H w b J w'→V b v v'→D=q.al o.dst v→dn b D (a.put o.dst v')→(a.put o.dst v').tmps.size=nt→(a.put o.dst v').defers=[]→K (a.put o.dst v') w'):
 wpOp P A Q i K a w:=by
 unfold wpOp;simp only [hi];unfold qP at c;split at c
 case h_2=>cases c
 rename_i g hg;obtain ⟨O,c⟩:=aa c;cases c
 obtain ⟨p,B⟩:∃p,o7 P o=p:=⟨_,rfl⟩
 rw [B]at h N
 have u:∀n,o.dst=some n→n<a.tmps.size:=by
  intro n l;rw [l]at O;rw [M]
  simpa [qO]using O
 have t:∀v,(a.put o.dst v).tmps.size=nt:=by
  intro v;cases hq:o.dst<;>simp [Act.put,M]
 have s:∀v,(a.put o.dst v).defers=[]:=by
  intro v;cases hq:o.dst<;>simp [Act.put,hd]
 have hw:=mn F (o:=o) (d:=o.dst) (p:=p) hg;rw [hw];unfold cU at h
 cases L:AO.wanted ⟨g,o.dst,p⟩ q with
 |false=>
  simp only [L,cond_false,Gy,GG]at h;obtain ⟨rfl,rfl⟩:=h;simp only [Bool.false_eq_true,if_false];exact y φ undef undef w R (a6.refl _ _ _) (gf _) rfl (F.al u (gf _)) (t _) (s _)
 |true=>
  simp only [L,cond_true]at h;simp only [if_true];left;unfold Oper.wp
  cases k:au p (X.ev q) H with
  |none=>simp [k]at h
  |some rr=>
   obtain ⟨res,T⟩:=rr;simp only [k]at h
   cases res with
   |v x=>
    simp only [Gy,GG]at h;obtain ⟨rfl,rfl⟩:=h;obtain ⟨b,w',nx,E,z,G,l⟩:=nw F R S B k (fun f as h=>by cases h);rw [E];rcases l with⟨Y,rfl,j⟩|⟨rfl,rfl⟩
    ·rw [Oper.upon_value]
     exact y b x Y w' z G j rfl ((F.mono G.le).al u j) (t _) (s _)
    ·rw [Oper.upon_skip]
     exact y b undef undef w' z G (gf _) rfl ((F.mono G.le).al u (gf _)) (t _) (s _)
   |enter f as=>
    simp only at h
    cases C:call f as T with
    |none=>simp [C]at h
    |some vv=>
     obtain ⟨x,H2⟩:=vv;simp only [C,Gy,GG]at h;obtain ⟨rfl,rfl⟩:=h;obtain ⟨hf,zf⟩:=dQ f as T x H2 C;obtain ⟨b,w',nx,E,z,G,r,rfl,l⟩:=nw F R S B k (fun f' r h=>by cases h;exact hf);rw [E,Oper.upon_enter];refine (zf w0 b w' r z (G.fresh (N (cQ k))) l).mono ?_;rintro e Z ⟨W,v',rfl,j,R2,U⟩;exact y W x v' Z R2 (G.trans U) j rfl ((F.mono (G.trans U).le).al u j) (t _) (s _)
def zg:Ex→Exit
 | .normal=>.normal
 | .exit i=>.exit i
 | .ret=>.ret
def nz (w0:World) (φ:aq) (w:World) (H:AH) (nt:Nat) (ex:Ex) (aQ:Fr) (H':AH) (e:Exit) (a':Act) (w':World):Prop:=
 e=zg ex∧∃aV,Rel w0 aV H' w'∧a6 φ H w aV H' w'∧dn aV aQ a'∧a'.tmps.size=nt∧a'.defers=[]
theorem nA {call:Cl} (z:eZ P call) {d:Nat} {c:Array Oper} {w0:World} {Q:Exit→Act→World→Prop}:∀(l:List Oper) (n:List AO) (k:Nat) {w:World} {φ:aq} {H f:AH} {e i:Fr} {a:Act},
 eC P d c l=some n→(∀j o,l[j]?=some o→c[k+j]?=some o)→ops call n e H=some (i,f)→dn φ e a→Rel w0 φ H w→fw φ H→a.tmps.size=d→a.defers=[]→
 (∀q a' w',Rel w0 q f w'→a6 φ H w q f w'→dn q i a'→a'.tmps.size=d→a'.defers=[]→Q .normal a' w')→wpOps P c Q (List.range' k l.length) a w
 |[],n,k,w,φ,H,f,e,i,a,b,_,h,F,R,p,s,u,x=>by
  simp [eC]at b;subst b;simp only [ops,Gy,GG]at h;obtain ⟨rfl,rfl⟩:=h;exact x φ a w R (a6.refl _ _ _) F s u
 |o::l,n,k,w,φ,H,f,e,i,a,b,hi,h,F,R,p,s,u,x=>by
  simp only [eC]at b
  cases g:qP P d c o with
  |none=>simp [g]at b
  |some L=>
   cases t:eC P d c l with
   |none=>simp [g,t]at b
   |some m=>
    simp [g,t]at b;subst b;simp only [ops]at h
    cases y:cU call L e H with
    |none=>simp [y]at h
    |some r=>
     obtain ⟨Y,Z⟩:=r;simp only [y]at h;simp only [List.length_cons,List.range'_succ,wpOps_cons];refine ny z (by simpa using hi 0 o (by simp)) g F R (p _ (GB _)) (fun _=>p) s u y ?_;intro V v X W O A _ _ U G K;refine nA z l m (k+1) t (fun j D I=>by have:=hi (j+1) D (by simpa using I);rwa [show k+(j+1)=k+1+j by omega]at this) h U O (A.fresh p) G K ?_;intro B M C N S T E J;exact x B M C N (A.trans S) T E J
def dt (l:List AO) (dp:List (List Nat)):List Nat→List (Nat×Nat)→List Row
 |[],_=>[]
 |j::r,am=>match nth l j,nth dp j with
  |some o,some d=>⟨o,bu o.o,j,d,dY am d⟩::dt l dp r ((j,dY am d)::am)
  |_,_=>[]
theorem jE {α:Type} (l:List AO) (a:List (List Nat)):∀(ord:List Nat) (am:List (Nat×Nat)) (k:List Row→α),kX l a ord am k=k (dt l a ord am)
 |[],am,k=>rfl
 |j::r,am,k=>by
  simp only [kX,dt]
  cases b:nth l j with
  |none=>rfl
  |some o=>
   cases c:nth a j with
   |none=>rfl
   |some d=>
    simp only [force_eq];rw [jE l a r]
theorem gp {b id:Nat} {a:Array Oper} {ac:AC} (h:a8 P b (.region id a true)=some ac):
 ∃l ord,eC P b a a.toList=some l∧kg l.length (dt l (a.toList.map o8) ord [])=true∧
  ac= .ai ((dt l (a.toList.map o8) ord []).map (·.o)) (ic 0 (dt l (a.toList.map o8) ord [])):=by
 simp only [a8]at h
 cases c:eC P b a a.toList with
 |none=>simp [c]at h
 |some l=>
  simp only [c,qQ,jE]at h;obtain ⟨d,h2⟩:=aa h;cases h2;exact ⟨l,_,rfl,d,rfl⟩
theorem kC {b id:Nat} {a:Array Oper} {ac:AC} (h:a8 P b (.region id a true)=some ac):∃l ck,ac= .ai l ck:=by
 obtain ⟨_,_,_,_,e⟩:=gp h;exact ⟨_,_,e⟩
def nB (P:Program) (call:Cl):Prop:=∀(nt:Nat) (id:Nat) (aG:Array Oper) (ac:AC),a8 P nt (.region id aG true)=some ac→∀(l:List AO) (ck:List (Nat×Nat×Nat)),ac= .ai l ck→
 ∀(w0 w:World) (φ:aq) (H H':AH) (fr aQ:Fr) (a:Act),mZ call l ck fr H=some (aQ,H')→dn φ fr a→Rel w0 φ H w→fw φ H→a.tmps.size=nt→a.defers=[]→
  (Code.region id aG true).wp P (nz w0 φ w H nt .normal aQ H') a w
theorem eg {call:Cl}:∀{n m:Nat} {c:AC} {e:Fr} {H:AH} {r:Ex×Fr×AH},n≤m→ah call n c e H=some r→ah call m c e H=some r:=by
 intro n
 induction n with
 |zero=>intro m c e H r _ h;simp [ah]at h
 |succ n ih=>
  intro m c e H r o h
  obtain ⟨m,rfl⟩:∃k,m=k+1:=⟨m- 1,by omega⟩
  have f:n≤m:=by omega
  cases c with
  |seq a b=>
   simp only [ah]at h⊢
   cases d:ah call n a e H with
   |none=>simp [d]at h
   |some q=>
    rw [ih f d];obtain ⟨ex,g,j⟩:=q
    cases ex<;>simp only [d]at h⊢<;>first
     |exact ih f h
     |exact h
  |cond x a b=>
   simp only [ah]at h⊢
   cases l:x.ev e<;>simp only [l]at h⊢<;>first
    |(cases h;done)
    |skip
   rename_i t;cases t<;>exact ih f h
  |block i a=>
   simp only [ah]at h⊢
   cases d:ah call n a e H with
   |none=>simp [d]at h
   |some q=>
    rw [ih f d];obtain ⟨ex,g,j⟩:=q;cases ex<;>simp only [d]at h⊢<;>exact h
  |loop a=>
   simp only [ah]at h⊢
   cases d:ah call n a e H with
   |none=>simp [d]at h
   |some q=>
    rw [ih f d];obtain ⟨ex,g,j⟩:=q
    cases ex<;>simp only [d]at h⊢<;>first
     |exact ih f h
     |exact h
  |_=>simpa only [ah]using h
theorem pr {call:Cl} (dQ:eZ P call) (u7:nB P call) {s:Nat} {w0:World}:∀(m:Nat) (c:Code) (ac:AC) {w:World} {φ:aq} {H S:AH} {A N:Fr} {a:Act} {ex:Ex},
 a8 P s c=some ac→ah call m ac A H=some (ex,N,S)→dn φ A a→Rel w0 φ H w→fw φ H→a.tmps.size=s→a.defers=[]→c.wp P (nz w0 φ w H s ex N S) a w:=by
 intro m
 induction m with
 |zero=>intro c ac w φ H S A N a ex _ h;simp [ah]at h
 |succ m ih=>
  intro c ac w φ H S A N a ex d h F R D u v
  cases c with
  |skip=>
   simp [a8]at d;subst d;simp only [ah,Gy,GG]at h;obtain ⟨rfl,rfl,rfl⟩:=h;exact wp_skip ⟨rfl,φ,R,a6.refl _ _ _,F,u,v⟩
  |region id V draw=>
   cases draw with
   |false=>
    simp only [a8]at d
    cases hl:eC P s V V.toList with
    |none=>simp [hl]at d
    |some l=>
     simp [hl]at d;subst d;simp only [ah]at h
     cases f:ops call l A H with
     |none=>simp [f]at h
     |some r=>
      obtain ⟨t,p⟩:=r;simp only [f,Gy,GG]at h;obtain ⟨rfl,rfl,rfl⟩:=h;refine wp_region ?_;have:=nA (Q:=nz w0 φ w H s .normal t p) dQ V.toList l 0 hl (fun j o W=>by simpa using W) f F R D u v (fun aV a' w' R' G F' r9 u9=>⟨rfl,aV,R',G,F',r9,u9⟩);rwa [Array.length_toList,←List.range_eq_range']at this
   |true=>
    have j6:=d;obtain ⟨l,ck,va⟩:=kC d;rw [va]at h;simp only [ah]at h;split at h
    case h_2=>cases h
    rename_i t p f;simp only [Gy,GG]at h;obtain ⟨rfl,rfl,rfl⟩:=h;exact u7 s id V _ j6 _ _ va w0 w φ H p A t a f F R D u v
  |refuse r=>
   simp only [a8,Gy]at d;subst d;simp only [ah,X.ev]at h;cases h
  |seq x y=>
   simp only [a8]at d
   cases g:a8 P s x with
   |none=>simp [g]at d
   |some B=>
    cases K:a8 P s y with
    |none=>simp [g,K]at d
    |some ay=>
     simp [g,K]at d;subst d;simp only [ah]at h;refine wp_seq ?_
     cases f:ah call m B A H with
     |none=>simp [f]at h
     |some r=>
      obtain ⟨zh,t,p⟩:=r;have k:=ih x B g f F R D u v
      cases zh with
      |normal=>
       simp only [f]at h;refine wp_mono k ?_;rintro e C k ⟨rfl,J,R1,E,F1,Z,u6⟩;refine wp_mono (ih y ay K h F1 R1 (E.fresh D) Z u6) ?_;rintro e a2 Y ⟨he,I,O,T,U,L,M⟩;exact ⟨he,I,O,E.trans T,U,L,M⟩
      |exit i=>
       simp only [f,Gy,GG]at h;obtain ⟨rfl,rfl,rfl⟩:=h;refine wp_mono k ?_;rintro e C k ⟨rfl,q⟩;exact ⟨rfl,q⟩
      |ret=>
       simp only [f,Gy,GG]at h;obtain ⟨rfl,rfl,rfl⟩:=h;refine wp_mono k ?_;rintro e C k ⟨rfl,q⟩;exact ⟨rfl,q⟩
  |cond x y z=>
   simp only [a8]at d;split at d
   case h_2=>cases d
   rename_i xx ay az g K hz;cases d;simp only [ah]at h;have hv:=aN F g;cases hq:xx.ev A<;>simp [hq]at h;rename_i b;rw [hq]at hv;refine wp_cond hv.bool ?_;cases b
   ·simp only [Bool.false_eq_true,if_false]
    exact ih z az hz h F R D u v
   ·simp only [if_true]
    exact ih y ay K h F R D u v
  |block i x=>
   simp only [a8]at d
   cases g:a8 P s x with
   |none=>simp [g]at d
   |some B=>
    simp [g]at d;subst d;simp only [ah]at h;refine wp_block ?_
    cases f:ah call m B A H with
    |none=>simp [f]at h
    |some r=>
     obtain ⟨zh,t,p⟩:=r;have k:=ih x B g f F R D u v;refine wp_mono k ?_;rintro e C w3 ⟨rfl,q⟩
     cases zh with
     |normal=>
      simp only [f,Gy,GG]at h;obtain ⟨rfl,rfl,rfl⟩:=h;exact ⟨rfl,q⟩
     |ret=>
      simp only [f,Gy,GG]at h;obtain ⟨rfl,rfl,rfl⟩:=h;exact ⟨rfl,q⟩
     |exit j=>
      simp only [f,nb,Bool.cond_decide]at h;show Exit.inBlock i _ (.exit j) C w3;simp only [Exit.inBlock];by_cases W:j=i
      ·rw [if_pos W]at h⊢
       simp only [Gy,GG]at h;obtain ⟨rfl,rfl,rfl⟩:=h;exact ⟨rfl,q⟩
      ·rw [if_neg W]at h⊢
       simp only [Gy,GG]at h;obtain ⟨rfl,rfl,rfl⟩:=h;exact ⟨rfl,q⟩
  |loop x=>
   simp only [a8]at d
   cases g:a8 P s x with
   |none=>simp [g]at d
   |some B=>
    simp [g]at d;subst d;refine wp_loop_ghost (fun n C k=>n≤m+1∧∃t p J,ah call n (.loop B) t p=some (ex,N,S)∧dn J t C∧Rel w0 J p k∧a6 φ H w J p k∧C.tmps.size=s∧C.defers=[]) (m+1) ⟨GB _,A,H,φ,h,F,R,a6.refl _ _ _,u,v⟩ ?_;rintro n C k ⟨hn,t,p,J,f,F1,R1,E,Z,u6⟩
    cases n with
    |zero=>simp [ah]at f
    |succ n=>
     simp only [ah]at f
     cases h2:ah call n B t p with
     |none=>simp [h2]at f
     |some r=>
      obtain ⟨uk,b9,H2⟩:=r;have mono:ah call m B t p=some (uk,b9,H2):=eg (by omega) h2;have Y:=ih x B g mono F1 R1 (E.fresh D) Z u6;refine wp_mono Y ?_;rintro e a2 Y ⟨rfl,I,O,T,U,L,M⟩
      cases uk with
      |normal=>
       simp only [h2]at f;exact ⟨n,by omega,by omega,b9,H2,I,f,U,O,E.trans T,L,M⟩
      |exit j=>
       simp only [h2,Gy,GG]at f;obtain ⟨rfl,rfl,rfl⟩:=f;exact ⟨rfl,I,O,E.trans T,U,L,M⟩
      |ret=>
       simp only [h2,Gy,GG]at f;obtain ⟨rfl,rfl,rfl⟩:=f;exact ⟨rfl,I,O,E.trans T,U,L,M⟩
  |exit i=>
   simp [a8]at d;subst d;simp only [ah,Gy,GG]at h;obtain ⟨rfl,rfl,rfl⟩:=h;exact wp_exit ⟨rfl,φ,R,a6.refl _ _ _,F,u,v⟩
  |ret=>
   simp [a8]at d;subst d;simp only [ah,Gy,GG]at h;obtain ⟨rfl,rfl,rfl⟩:=h;exact wp_ret ⟨rfl,φ,R,a6.refl _ _ _,F,u,v⟩
  |_=>simp [a8]at d
end
end
section
open Go
theorem mq {p:aM} {e q7:X→Value} (h:∀x∈p.xs,e x=q7 x) (H:AH):au p e H=au p q7 H:=by
 have g:∀(l:List X),(∀x∈l,e x=q7 x)→l.map e=l.map q7:=fun l i=>List.map_congr_left i
 have mp:∀(l:List (Nat×Nat×X)),(∀x∈l.map (fun p=>p.2.2),e x=q7 x)→(l.map fun p=>(p.1,p.2.1,e p.2.2))=l.map fun p=>(p.1,p.2.1,q7 p.2.2):=
  fun l i=>List.map_congr_left fun p m=>by rw [i _ (G8.2 ⟨p,m,rfl⟩)]
 have j:∀(l:Option X),(∀x∈l.toList,e x=q7 x)→l.map e=l.map q7:=fun l i=>by cases l<;>simp_all
 cases p
 case build z ps=>simp only [au];rw [mp ps h]
 case bsl a b c ps=>simp only [au];rw [mp ps h]
 case mkf f a b=>
  simp only [au];rw [g a fun x d=>h x (by simp [aM.xs,d]),g b fun x d=>h x (by simp [aM.xs,d])]
 case call f as=>simp only [au];rw [g as h]
 case xt k l=>simp only [au];rw [g l h]
 case callv x as=>
  simp only [au];rw [g as fun x d=>h x (by simp [aM.xs,d]),h x (by simp [aM.xs])]
 case mxl x as=>
  simp only [au];rw [g as fun x d=>h x (by simp [aM.xs,d]),h x (by simp [aM.xs])]
 case mnl x as=>
  simp only [au];rw [g as fun x d=>h x (by simp [aM.xs,d]),h x (by simp [aM.xs])]
 case sl sz x lo hi mx=>
  simp only [au];rw [h x (by simp [aM.xs]),j lo fun x d=>h x (by simp [aM.xs]at d⊢;simp [d]),j hi fun x d=>h x (by simp [aM.xs]at d⊢;simp [d]),j mx fun x d=>h x (by simp [aM.xs]at d⊢;simp [d])]
 all_goals
  simp only [aM.xs,GQ,Hb,or_false,forall_eq_or_imp,forall_eq,implies_true,false_imp_iff]at h;simp only [au,h]
theorem kD {sz:Nat} {H H1:AH} {x:Value} {hi mx:Option Value}:aK sz H1 x none hi mx=aK sz H x none hi mx:=by
 cases x<;>try rfl
 rename_i a len cap;simp only [aK]
 cases b:av len cap none hi mx with
 |none=>rfl
 |some r=>
  obtain ⟨l,h,m⟩:=r
  have c:l=0:=by
   unfold av at b;simp only [GJ]at b;obtain ⟨_,_,_,_,_,e,d⟩:=b;simp at e d;omega
  subst c;simp
theorem e7 {p:aM} {g:X→Value} {H i:AH} {r:cD} (d:bu p= .pure) (h:au p g H=some (r,i)):
 i=H∧∀H1:AH,au p g H1=some (r,H1):=by
 cases p
 case sl sz x lo hi mx=>
  cases lo with
  |some l=>simp [bu]at d
  |none=>
   simp only [au,Option.map_none,GI]at h⊢;obtain ⟨v,j,e⟩:=h;cases e;exact ⟨rfl,fun H1=>⟨v,kD.trans j,rfl⟩⟩
 case eqk k neg x y=>
  simp only [au,GI]at h⊢;obtain ⟨b,f,e⟩:=h;cases e;exact ⟨rfl,fun H1=>⟨b,f,rfl⟩⟩
 case xt k l=>
  cases k<;>first
   |(simp [bu]at d;done)
   |skip
  all_goals
   simp only [au,iz]at h⊢
   split at h<;>simp_all<;>first
    |(obtain ⟨a,⟨m,b,c,rfl,rfl⟩,h2⟩:=h;exact ⟨rfl,fun _=>⟨_,⟨m,c⟩,h2⟩⟩)
    |(obtain ⟨_,c,_,_⟩:=h;simp_all;done)
    |(obtain ⟨_,_,c,_,_⟩:=h;simp_all;done)
    |skip
 case eqs neg offs x y=>
  simp only [au]at h⊢;split at h
  · simp only [GI]at h⊢
    obtain ⟨b,f,e⟩:=h;cases e;exact ⟨rfl,fun H1=>⟨b,f,rfl⟩⟩
  · cases h
 all_goals first
  |(simp [bu]at d;done)
  |(simp only [au,Bool.cond_eq_ite,GI]at h⊢
    (repeat' split at h)<;>simp_all<;>try(obtain ⟨_,_,c,h2⟩:=h;simp_all))
theorem cZ {p:aM} {d:X→Value} {H f:AH} {r:cD} (a:bu p= .alloc) (h:au p d H=some (r,f)):
 ∃bC,f=H.alloc bC∧∀H1:AH,H1.nx=H.nx→au p d H1=some (r,H1.alloc bC):=by
 cases p
 case sl sz x lo hi mx=>cases lo<;>simp [bu]at a
 case xt k l=>cases k<;>simp [bu]at a
 all_goals first
  |(simp [bu]at a;done)
  |skip
 case alloc z=>
  simp only [au,Gy,GG]at h⊢;obtain ⟨rfl,rfl⟩:=h;exact ⟨_,rfl,fun H1 e=>⟨by rw [e],rfl⟩⟩
 case box x=>
  simp only [au,Bool.cond_eq_ite]at h⊢;split at h
  ·cases h
  ·rename_i g
   simp only [Gy,GG]at h;obtain ⟨rfl,rfl⟩:=h;exact ⟨_,rfl,fun H1 e=>by rw [if_neg g,e]⟩
 case bsl len sz z ps=>
  simp only [au,GI]at h⊢;obtain ⟨c,b,e⟩:=h;cases e;exact ⟨_,rfl,fun H1 e=>⟨c,b,by rw [e]⟩⟩
 case mkmap=>
  simp only [au,Gy,GG]at h⊢;obtain ⟨rfl,rfl⟩:=h;exact ⟨_,rfl,fun H1 e=>⟨by rw [e],rfl⟩⟩
 case mksl sz bytes z x=>
  simp only [au,Bool.cond_eq_ite]at h⊢;split at h
  ·split at h
   ·rename_i b
    simp only [Gy,GG]at h;obtain ⟨rfl,rfl⟩:=h;exact ⟨_,rfl,fun H1 e=>by rw [if_pos b,e]⟩
   ·cases h
  ·cases h
theorem dR {a:Nat}:∀{l m:List Value},ae a l=some m→m.length=l.length
 |[],m,h=>by simp [ae]at h;subst h;rfl
 |v::l,m,h=>by
  simp only [ae]at h;split at h
  ·rename_i x c d b
   cases h;simp [dR b]
  ·cases h
theorem bx {H:AH} {a:Addr} {n:Nat} {vs:List Value} (h:H.ldn a n=some vs):(H.get a.block).isSome=true∧vs.length=n:=by
 unfold AH.ldn at h;split at h
 case h_2=>cases h
 rename_i z c e b;obtain ⟨d,h⟩:=aa h;simp at d;refine ⟨by simp [b],?_⟩;simp only [Bool.cond_eq_ite]at h;split at h
 ·rw [dR h];simp;omega
 ·cases h;simp;omega
theorem bU {H H1:AH} {a:Addr} {n:Nat} (b:H1.get a.block=H.get a.block) (c:H1.n0=H.n0):H1.ldn a n=H.ldn a n:=by
 unfold AH.ldn;rw [b,c]
theorem nC {H:AH} {a:Addr} {v:Value}:H.ld a=some v↔H.ldn a 1=some [v]:=by
 unfold AH.ld AH.ldn
 cases g:a.spot with
 |some x=>simp
 |none=>
  cases h:H.get a.block with
  |none=>simp
  |some b=>
   cases b with
   |map es=>simp
   |cells z c=>
    simp only
    cases d:c[a.off]? with
    |none=>
     have:=List.getElem?_eq_none_iff.1 d;have:decide (a.off+1≤c.length)=false:=by simp;omega
     simp [this]
    |some u=>
     have e:=(GD.1 d).1;have f:decide (a.off+1≤c.length)=true:=by simp;omega
     have h2:List.take 1 (List.drop a.off c)=[u]:=by
      have:=(GD.1 d).2;rw [List.drop_eq_getElem_cons e,this];rfl
     simp only [f,cond_true,h2]
     cases i:decide (a.block<H.n0)with
     |false=>simp
     |true=>
      simp only [cond_true,ae];cases aj H.n0 u<;>simp
theorem e8 {o:AO} {i:Fr} {H m:AH} {r:cD} (f:bu o.o= .load) (h:au o.o (X.ev i) H=some (r,m)):
 m=H∧∃a vs,cV o i H=some (a,vs)∧aS o i=some a.block∧H.ldn a vs.length=some vs∧∀H1:AH,H1.ldn a vs.length=some vs→au o.o (X.ev i) H1=some (r,H1):=by
 obtain ⟨g,d,p⟩:=o;dsimp only at f h;unfold cV aS;dsimp only;cases p
 case sl sz x lo hi mx=>cases lo<;>simp [bu]at f
 case xt k l=>cases k<;>simp [bu]at f
 all_goals first
  |(simp [bu]at f;done)
  |skip
 case ld x=>
  simp only [au]at h⊢;split at h
  case h_2=>cases h
  rename_i a q;simp only [GI]at h;obtain ⟨v,b,e⟩:=h;cases e;have c:=nC.1 b;refine ⟨rfl,a,[v],?_,rfl,c,fun H1 j=>?_⟩
  ·rw [c];rfl
  ·rw [nC.2 j];rfl
 case ldn n x=>
  simp only [au]at h⊢;split at h
  case h_2=>cases h
  rename_i a q;simp only [GI]at h;obtain ⟨vs,b,e⟩:=h;cases e;have c:=(bx b).2;subst c;refine ⟨rfl,a,vs,?_,rfl,b,fun H1 j=>?_⟩
  ·rw [b];rfl
  ·rw [j];rfl
theorem pt {H d:AH} {a:Addr} {vs:List Value} (h:H.st a vs=some d):(H.get a.block).isSome=true∧∃z c',d=H.put a.block (some (.cells z c'))∧
 ∀H1:AH,H1.get a.block=H.get a.block→H1.n0=H.n0→H1.st a vs=some (H1.put a.block (some (.cells z c'))):=by
 unfold AH.st at h;split at h
 case h_2=>cases h
 rename_i z c e b;obtain ⟨f,h⟩:=aa h;cases h;refine ⟨by simp [b],z,_,rfl,fun H1 g h2=>?_⟩;unfold AH.st;rw [g,h2,b,e];simp only [f,cond_true]
theorem iJ {o:AO} {f:Fr} {H i:AH} {r:cD} (c:bu o.o= .st) (h:au o.o (X.ev f) H=some (r,i)):
 ∃b bC,aS o f=some b∧(H.get b).isSome=true∧i=H.put b bC∧∀H1:AH,H1.get b=H.get b→H1.n0=H.n0→au o.o (X.ev f) H1=some (r,H1.put b bC):=by
 obtain ⟨g,d,p⟩:=o;dsimp only at c h;unfold aS;dsimp only;cases p
 case sl sz x lo hi mx=>cases lo<;>simp [bu]at c
 case xt k l=>cases k<;>simp [bu]at c
 all_goals first
  |(simp [bu]at c;done)
  |skip
 case st n x v=>
  simp only [au]at h⊢;split at h
  case h_2=>cases h
  rename_i a w;obtain ⟨m,h⟩:=aa h;simp only [GI]at h;obtain ⟨y,h2,e⟩:=h;cases e;obtain ⟨j,z,u,rfl,q⟩:=pt h2;refine ⟨a.block,some (.cells z u),rfl,j,rfl,fun H1 t s=>?_⟩;rw [m,cond_true,q H1 t s];rfl
theorem nD {H:AH} {b sz:Nat} (h:H.get b=none):H.eS b sz=false:=by
 unfold AH.eS;rw [h]
theorem fb {o:AO} {s:Fr} {H y:AH} {r:cD} (w:bu o.o= .read) (h:au o.o (X.ev s) H=some (r,y)):
 y=H∧∀H1:AH,(∀b,aS o s=some b→(H.get b).isSome=true→H1.get b=H.get b)→H1.n0=H.n0→au o.o (X.ev s) H1=some (r,H1):=by
 obtain ⟨g,d,p⟩:=o;dsimp only at w h;unfold aS;dsimp only;cases p
 case sl sz x lo hi mx=>
  simp only [au,GI]at h⊢;obtain ⟨v,f,e⟩:=h;cases e;refine ⟨rfl,fun H1 j h2=>⟨v,?_,rfl⟩⟩;rw [←f];cases u:x.ev s<;>try rfl
  rename_i a len cap;rw [u]at f j;simp only [aK]at f⊢;split
  ·rfl
  ·cases a with
   |none=>rfl
   |some a=>
    rename_i l I m D;rw [D]at f;simp only at f⊢
    have n:(a.spot.isNone&&(Nat.beq l 0||H1.eS a.block sz))=(a.spot.isNone&&(Nat.beq l 0||H.eS a.block sz))∨H.get a.block=none:=by
     cases B:a.spot.isNone with
     |false=>left;simp
     |true=>
      cases i:H.get a.block with
      |none=>exact .inr rfl
      |some b=>
       left;have:=j a.block (by simp [B]) (by simp [i]);unfold AH.eS;rw [this]
    rcases n with n|n
    ·rw [n]
    ·obtain ⟨E,f⟩:=aa f
     rw [E];simp only [cond_true];split
     ·rfl
     ·rename_i C
      rw [if_neg C]at f;obtain ⟨t,f⟩:=aa f;rw [nD n,Bool.or_false]at t;simp only [GA]at t;simp [t.1,t.2]
 case look kk z x k ok=>
  simp only [au]at h⊢;cases u:x.ev s<;>simp only [u]at h⊢<;>try(cases h;done)
  rename_i A
  cases A with
  |none=>
   simp only at h⊢;obtain ⟨j,h⟩:=aa h;cases h;exact ⟨rfl,fun H1 _ _=>by rw [j];rfl⟩
  |some q=>
   simp only at h⊢
   cases i:H.get q with
   |none=>simp [i]at h
   |some b=>
    cases b with
    |cells z c=>simp [i]at h
    |map es=>
     simp only [i]at h;obtain ⟨j,h⟩:=aa h;refine ⟨?_,fun H1 G F=>?_⟩
     ·split at h<;>first|(cases h;rfl)|cases h
     ·have:=G q rfl (by simp [i])
      rw [this,i,F];simp only [j,cond_true];split at h
      ·cases h;rfl
      ·cases h;rfl
      ·cases h
 case xt k l=>cases k<;>simp [bu]at w
 all_goals first
  |(simp [bu]at w;done)
  |skip
theorem nE:∀{a b:Value},ga a b=true→a=b:=by
 intro a b h;cases a<;>cases b<;>simp [ga]at h<;>simp_all;exact ByteArray.ext h
theorem gq:∀{a b:List Value},cd a b=true→a=b
 |[],[],_=>rfl
 |a::l,b::m,h=>by
  simp only [cd,GA]at h;rw [nE h.1,gq h.2]
 |[],_::_,h=>by simp [cd]at h
 |_::_,[],h=>by simp [cd]at h
theorem mr {H:AH} {a:Addr} {vs:List Value} (h:sameAt H (a,vs)=true):H.ldn a vs.length=some vs:=by
 unfold sameAt at h;dsimp only at h;split at h
 ·rename_i m b
  rw [b,gq h]
 ·cases h
theorem nG {x y:Option hC} (h:eB x y=true):x=y:=by
 unfold eB at h;split at h
 ·simp only [GA,Nat.beq_eq]at h
  rw [h.1,gq h.2]
 ·rfl
 ·cases h
open Go
theorem du {n:Nat}:∀{l:List Nat},jx n l=true↔n∈l
 |[]=>by simp [jx]
 |x::l=>by
  simp only [jx,Bool.or_eq_true,nb,GK,GQ];rw [du (l:=l)];constructor
  ·rintro (h|h)
   ·exact .inl h.symm
   ·exact .inr h
  ·rintro (h|h)
   ·exact .inl h.symm
   ·exact .inr h
theorem dv {x y:AO} (h:cF x y=true):(∀d,x.d=some d→d∉tmpsOf y)∧(∀d,x.d=some d→y.d≠some d):=by
 unfold cF at h
 cases f:x.d with
 |none=>exact ⟨fun _ h=>(by cases h),fun _ h=>(by cases h)⟩
 |some d=>
  simp only [f,GA,Bool.not_eq_true']at h;refine ⟨fun e a=>?_,fun e a=>?_⟩
  ·cases a
   intro c;rw [du.2 c]at h;cases h.1
  ·cases a
   intro b;rw [b]at h;simp at h
theorem Fr.ch {f:Fr} {d:Option Nat} {v:Value} {x:Nat}:(f.al d v).get x=if d=some x then v else f.get x:=by
 cases d with
 |none=>simp [Fr.al]
 |some k=>
  simp only [Fr.al,Fr.aD,Gy];by_cases h:x=k
  ·simp [h]
  ·rw [if_neg h,if_neg (fun e=>h e.symm)]
inductive One (call:Cl) (o:AO) (fr:Fr) (H:AH) (x:Value) (H':AH):Prop where
 |off (h:o.wanted fr=false) (e:x=undef) (e2:H'=H)
 |val (h:o.wanted fr=true) (e:au o.o (X.ev fr) H=some (.v x,H'))
 |call (h:o.wanted fr=true) (f:Nat) (as:List Value) (H1:AH) (e:au o.o (X.ev fr) H=some (.enter f as,H1)) (e2:call f as H1=some (x,H'))
theorem bh {call:Cl} {o:AO} {b k:Fr} {H H':AH}:cU call o b H=some (k,H')↔∃x,k=b.al o.d x∧One call o b H x H':=by
 unfold cU;constructor
 ·intro h
  cases a:o.wanted b with
  |false=>
   simp only [a,cond_false,Gy,GG]at h;exact ⟨undef,h.1.symm,.off a rfl h.2.symm⟩
  |true=>
   simp only [a,cond_true]at h
   cases c:au o.o (X.ev b) H with
   |none=>simp [c]at h
   |some l=>
    obtain ⟨res,j⟩:=l;simp only [c]at h
    cases res with
    |v x=>
     simp only [Gy,GG]at h;obtain ⟨rfl,rfl⟩:=h;exact ⟨x,rfl,.val a c⟩
    |enter f as=>
     simp only at h
     cases g:call f as j with
     |none=>simp [g]at h
     |some r=>
      obtain ⟨x,m⟩:=r;simp only [g,Gy,GG]at h;obtain ⟨rfl,rfl⟩:=h;exact ⟨x,rfl,.call a f as j c g⟩
 ·rintro ⟨x,rfl,h⟩
  cases h with
  |off h e i=>subst e;subst i;simp [h]
  |val h e=>simp [h,e]
  |call h f as j e i=>simp [h,e,i]
def fy (o:AO) (fr b9:Fr):Prop:=∀t∈tmpsOf o,b9.get t=fr.get t
theorem fy.ev {o:AO} {b a:Fr} (h:fy o b a):∀x∈o.o.xs,X.ev a x=X.ev b x:=by
 intro x c
 cases x with
 |t n=>
  exact h n (by
   unfold tmpsOf
   exact List.mem_append_right _ (List.mem_filterMap.2 ⟨.t n,c,rfl⟩))
 |k v=>rfl
 |f n=>rfl
theorem fy.wanted {o:AO} {fr a:Fr} (h:fy o fr a):o.wanted a=o.wanted fr:=by
 unfold AO.wanted
 cases d:o.g with
 |none=>rfl
 |some c=>
  obtain ⟨t,b⟩:=c;simp only;rw [h t (by unfold tmpsOf;rw [d];simp)]
theorem fy.one {call:Cl} {o:AO} {e d:Fr} {H H':AH} {x:Value} (h:fy o e d) (k:One call o e H x H'):One call o d H x H':=by
 have g:∀H,au o.o (X.ev d) H=au o.o (X.ev e) H:=fun H=>mq h.ev H
 cases k with
 |off a b c=>exact .off (h.wanted.trans a) b c
 |val a b=>exact .val (h.wanted.trans a) ((g _).trans b)
 |call a f as i b c=>exact .call (h.wanted.trans a) f as i ((g _).trans b) c
theorem nH {o:AO} {fr b:Fr} (h:fy o fr b):aS o b=aS o fr:=by
 have a:=h.ev;unfold aS;cases c:o.o<;>simp only [c,aM.xs,GQ,Hb,or_false,forall_eq_or_imp,forall_eq]at a⊢;all_goals (simp only [a])
structure eU (call:Cl) (O:Nat→AO) (n:Nat) (sF:Nat→Fr) (sH:Nat→AH) (gu:Nat→Nat→Prop):Prop where
 step:∀t,t<n→cU call (O t) (sF t) (sH t)=some (sF (t+1),sH (t+1))
 n0:∀t,t<n→(sH (t+1)).n0=(sH t).n0
 nx:∀t,t<n→(sH t).nx≤(sH (t+1)).nx
 pair:∀p q,p<q→q<n→gu p q∨(cF (O p) (O q)=true∧cF (O q) (O p)=true∧bg (bu (O p).o) (bu (O q).o)=true)
 c0:∀p q,p<q→q<n→¬ gu p q→(O p).wanted (sF p)=true→(O q).wanted (sF q)=true→bu (O p).o= .load→bu (O q).o= .cT→
  ∃x,cV (O p) (sF p) (sH p)=some x∧sameAt (sH (q+1)) x=true
 c1:∀p q,p<q→q<n→¬ gu p q→(O p).wanted (sF p)=true→(O q).wanted (sF q)=true→bu (O p).o= .alloc→bu (O q).o= .cT→
  (sH (q+1)).get (sH p).nx=(sH (p+1)).get (sH p).nx
 c2:∀p q,p<q→q<n→¬ gu p q→(O p).wanted (sF p)=true→(O q).wanted (sF q)=true→(bu (O p).o= .load∨bu (O p).o= .read∨bu (O p).o= .st)→bu (O q).o= .st→
  ∀b b',aS (O p) (sF p)=some b→aS (O q) (sF q)=some b'→b≠b'
section
variable{call:Cl} {O:Nat→AO} {n:Nat} {sF:Nat→Fr} {sH:Nat→AH} {gu:Nat→Nat→Prop} (R:eU call O n sF sH gu)
include R
theorem eU.um (t:Nat) (h:t≤n):(sH t).n0=(sH 0).n0:=by
 induction t with
 |zero=>rfl
 |succ t ih=>exact (R.n0 t (by omega)).trans (ih (by omega))
theorem eU.D2 {t:Nat} (k:Nat) (h:t+k≤n):(sH t).nx≤(sH (t+k)).nx:=by
 induction k with
 |zero=>exact GB _
 |succ k ih=>exact GV (ih (by omega)) (R.nx (t+k) (by omega))
theorem eU.b6 {t u:Nat} (h:t≤u) (a:u≤n):(sH t).nx≤(sH u).nx:=by
 have:=R.D2 (t:=t) (u- t) (by omega);rwa [show t+(u- t)=u by omega]at this
omit R in
def iK (O:Nat→AO) (sF:Nat→Fr) (t:Nat):Value:=(sF (t+1)).get ((O t).d.getD 0)
omit R in
def iL (O:Nat→AO) (sF:Nat→Fr) (S:Nat→Bool):Nat→Fr
 |0=>sF 0
 |t+1=>bif S t then(iL O sF S t).al (O t).d (iK O sF t)else iL O sF S t
theorem eU.frame {t:Nat} (a:t<n) (x:Nat):(sF (t+1)).get x=if(O t).d=some x then iK O sF t else(sF t).get x:=by
 obtain ⟨v,b,_⟩:=bh.1 (R.step t a);by_cases h:(O t).d=some x
 ·rw [if_pos h]
  unfold iK;rw [h];rfl
 ·rw [if_neg h,b,Fr.ch,if_neg h]
theorem eU.one {t:Nat} (a:t<n):∃x,One call (O t) (sF t) (sH t) x (sH (t+1))∧∀f:Fr,f.al (O t).d x=f.al (O t).d (iK O sF t):=by
 obtain ⟨v,b,e⟩:=bh.1 (R.step t a);refine ⟨v,e,fun f=>?_⟩
 cases c:(O t).d with
 |none=>rfl
 |some k=>
  have:iK O sF t=v:=by
   unfold iK;rw [b,c];simp [Fr.al,Fr.aD]
  rw [this]
omit R in
theorem iM {S S':Nat→Bool} {x m:Nat} (h:∀p,p<m→(O p).d=some x→S p=S' p):(iL O sF S m).get x=(iL O sF S' m).get x:=by
 induction m with
 |zero=>rfl
 |succ m ih=>
  have ih:=ih fun p b=>h p (by omega)
  simp only [iL];by_cases a:(O m).d=some x
  ·have:=h m (by omega) a
   rw [this];cases S' m
   ·exact ih
   ·simp only [cond_true,Fr.ch,if_pos a]
  ·cases S m<;>cases S' m<;>simp only [cond_true,cond_false,Fr.ch,if_neg a]<;>exact ih
omit R in
theorem gv {S:Nat→Bool} {x t m:Nat} (e:t≤m) (h:∀p,t≤p→p<m→S p=true→(O p).d≠some x):(iL O sF S m).get x=(iL O sF S t).get x:=by
 induction m with
 |zero=>obtain rfl:t=0:=by omega
        rfl
 |succ m ih=>
  rcases Nat.lt_or_ge m t with a|a
  · obtain rfl:t=m+1:=by omega
    rfl
  · have ih:=ih a fun p b f=>h p b (by omega)
    simp only [iL]
    cases c:S m with
    |false=>exact ih
    |true=>simp only [cond_true,Fr.ch,if_neg (h m a (by omega) c)];exact ih
theorem eU.lk {m:Nat} (a:m≤n) (x:Nat):(iL O sF (fun _=>true) m).get x=(sF m).get x:=by
 induction m with
 |zero=>rfl
 |succ m ih=>
  rw [R.frame (by omega),iL,cond_true,Fr.ch,ih (by omega)]
omit R in
structure vb (n:Nat) (gu:Nat→Nat→Prop) (S:Nat→Bool) (t:Nat):Prop where
 lt:t<n
 out:S t=false
 D3:∀p,p<t→gu p t→S p=true
 cls:∀p q,p<q→q<n→S q=true→gu p q→S p=true
variable{S:Nat→Bool} {t:Nat} (C:vb n gu S t)
include C
theorem eU.before {p:Nat} (a:p<t) (c:S p=false):¬ gu p t∧cF (O p) (O t)=true∧cF (O t) (O p)=true∧bg (bu (O p).o) (bu (O t).o)=true:=by
 have b:¬ gu p t:=fun h=>by rw [C.D3 p a h]at c;cases c
 exact ⟨b,(R.pair p t a C.lt).resolve_left b⟩
theorem eU.behind {p:Nat} (b:t<p) (a:p<n) (d:S p=true):¬ gu t p∧cF (O t) (O p)=true∧cF (O p) (O t)=true∧bg (bu (O t).o) (bu (O p).o)=true:=by
 have c:¬ gu t p:=fun h=>by have:=C.cls t p b a d h;rw [C.out]at this;cases this
 exact ⟨c,(R.pair t p b a).resolve_left c⟩
theorem eU.ij:fy (O t) (sF t) (iL O sF S n):=by
 intro x d;rw [gv (t:=t) (Nat.le_of_lt C.lt),←R.lk (Nat.le_of_lt C.lt)]
 ·refine iM fun p b c=>?_
  cases a:S p with
  |true=>rfl
  |false=>exact absurd d ((dv (R.before C b a).2.1).1 x c)
 ·intro p b e a c
  rcases Nat.lt_or_eq_of_le b with h|h
  ·exact (dv (R.behind C h e a).2.2.1).1 x c d
  ·subst h;rw [C.out]at a;cases a
omit R C in
def ins (S:Nat→Bool) (t:Nat):Nat→Bool:=fun p=>bif Nat.beq p t then true else S p
omit R C in
theorem bH:ins S t t=true:=by simp [ins]
omit R C in
theorem bZ {p:Nat} (h:p≠t):ins S t p=S p:=by
 unfold ins;rw [nb,decide_eq_false h];rfl
theorem eU.pv (x:Nat):(iL O sF (ins S t) n).get x=((iL O sF S n).al (O t).d (iK O sF t)).get x:=by
 rw [Fr.ch];by_cases a:(O t).d=some x
 ·rw [if_pos a,gv (t:=t+1) C.lt]
  ·rw [iL,bH,cond_true,Fr.ch,if_pos a]
  ·intro p f c b
   rw [bZ (by omega)]at b;have:=(dv (R.behind C (by omega) c b).2.1).2 x a;exact this
 ·rw [if_neg a]
  refine iM fun p f g=>?_
  exact bZ (fun e=>a (e▸g))
end
end
section
open Go
inductive mu (O:Nat→AO) (sF:Nat→Fr) (sH:Nat→AH) (t b:Nat):Prop where
 |alloc (w:(O t).wanted (sF t)=true) (k:bu (O t).o= .alloc) (e:b=(sH t).nx)
 |st (w:(O t).wanted (sF t)=true) (k:bu (O t).o= .st) (e:aS (O t) (sF t)=some b)
 |cT (w:(O t).wanted (sF t)=true) (k:bu (O t).o= .cT)
open Classical in
noncomputable def gS (O:Nat→AO) (sF:Nat→Fr) (sH:Nat→AH) (S:Nat→Bool):Nat→Nat→Option hC
 |0=>(sH 0).raw
 |t+1=>fun b=>if S t=true∧mu O sF sH t b then(sH (t+1)).raw b else gS O sF sH S t b
noncomputable def gB (O:Nat→AO) (sF:Nat→Fr) (sH:Nat→AH) (S:Nat→Bool):Nat→Option (Nat×ByteArray)
 |0=>(sH 0).bs
 |t+1=>if S t=true∧(O t).wanted (sF t)=true∧bu (O t).o= .cT then(sH (t+1)).bs else gB O sF sH S t
noncomputable def jo (O:Nat→AO) (sF:Nat→Fr) (sH:Nat→AH) (S:Nat→Bool) (m nx:Nat):AH:=⟨gS O sF sH S m,(sH 0).n0,nx,.nil,gB O sF sH S m⟩
section
variable{call:Cl} {O:Nat→AO} {n:Nat} {sF:Nat→Fr} {sH:Nat→AH} {gu:Nat→Nat→Prop}
theorem ll (S:Nat→Bool) (m a b:Nat):(jo O sF sH S m a).raw b=gS O sF sH S m b:=rfl
theorem dF (S:Nat→Bool) (m a b:Nat) (h:b<a):(jo O sF sH S m a).get b=gS O sF sH S m b:=by
 rw [AH.bA (by exact h)];rfl
theorem ln {S S':Nat→Bool} {b m:Nat} (h:∀p,p<m→mu O sF sH p b→S p=S' p):gS O sF sH S m b=gS O sF sH S' m b:=by
 induction m with
 |zero=>rfl
 |succ m ih=>
  have ih:=ih fun p c=>h p (by omega)
  simp only [gS];by_cases a:mu O sF sH m b
  ·rw [h m (by omega) a,ih]
  ·rw [if_neg (fun e=>a e.2),if_neg (fun e=>a e.2),ih]
theorem fO {S:Nat→Bool} {b t m:Nat} (d:t≤m) (h:∀p,t≤p→p<m→S p=true→¬ mu O sF sH p b):gS O sF sH S m b=gS O sF sH S t b:=by
 induction m with
 |zero=>obtain rfl:t=0:=by omega
        rfl
 |succ m ih=>
  rcases Nat.lt_or_ge m t with a|a
  · obtain rfl:t=m+1:=by omega
    rfl
  · have ih:=ih a fun p c f=>h p c (by omega)
    simp only [gS];rw [if_neg (fun e=>h m a (by omega) e.1 e.2),ih]
theorem lq {S S':Nat→Bool} {m:Nat} (h:∀p,p<m→(O p).wanted (sF p)=true→bu (O p).o= .cT→S p=S' p):gB O sF sH S m=gB O sF sH S' m:=by
 induction m with
 |zero=>rfl
 |succ m ih=>
  have ih:=ih fun p b=>h p (by omega)
  simp only [gB];by_cases a:(O m).wanted (sF m)=true∧bu (O m).o= .cT
  ·rw [h m (by omega) a.1 a.2,ih]
  ·rw [if_neg (fun e=>a e.2),if_neg (fun e=>a e.2),ih]
theorem iN {S:Nat→Bool} {t m:Nat} (c:t≤m) (h:∀p,t≤p→p<m→S p=true→(O p).wanted (sF p)=true→bu (O p).o≠ .cT):gB O sF sH S m=gB O sF sH S t:=by
 induction m with
 |zero=>obtain rfl:t=0:=by omega
        rfl
 |succ m ih=>
  rcases Nat.lt_or_ge m t with a|a
  · obtain rfl:t=m+1:=by omega
    rfl
  · have ih:=ih a fun p b d=>h p b (by omega)
    simp only [gB];rw [if_neg (fun e=>h m a (by omega) e.1 e.2.1 e.2.2),ih]
variable(R:eU call O n sF sH gu)
include R
theorem eU.su {t:Nat} (g:t<n) (h:¬ ((O t).wanted (sF t)=true∧bu (O t).o= .cT)):(sH (t+1)).bs=(sH t).bs:=by
 obtain ⟨x,i,_⟩:=R.one g
 cases i with
 |off a e d=>rw [d]
 |call a f as j e d=>exact absurd ⟨a,cQ e⟩ h
 |val a e=>
  cases b:bu (O t).o with
  |pure=>rw [(e7 b e).1]
  |load=>rw [(e8 b e).1]
  |read=>rw [(fb b e).1]
  |cT=>exact absurd ⟨a,b⟩ h
  |alloc=>
   obtain ⟨bC,d,_⟩:=cZ b e;rw [d];rfl
  |st=>
   obtain ⟨c,bC,h2,_,d,_⟩:=iJ b e;rw [d];rfl
theorem eU.nI {m:Nat} (a:m≤n):gB O sF sH (fun _=>true) m=(sH m).bs:=by
 induction m with
 |zero=>rfl
 |succ m ih=>
  simp only [gB];by_cases h:(O m).wanted (sF m)=true∧bu (O m).o= .cT
  ·rw [if_pos (by first|exact ⟨rfl,h⟩|exact ⟨trivial,h⟩)]
  ·rw [if_neg (fun e=>h e.2),ih (by omega),R.su (by omega) h]
theorem eU.still {t:Nat} (j:t<n) {b:Nat} (h:¬ mu O sF sH t b):(sH (t+1)).raw b=(sH t).raw b:=by
 obtain ⟨x,k,_⟩:=R.one j
 cases k with
 |off a e g=>rw [g]
 |call a f as l e g=>exact absurd (.cT a (cQ e)) h
 |val a e=>
  cases d:bu (O t).o with
  |pure=>rw [(e7 d e).1]
  |load=>rw [(e8 d e).1]
  |read=>rw [(fb d e).1]
  |cT=>exact absurd (.cT a d) h
  |alloc=>
   obtain ⟨bC,g,_⟩:=cZ d e;rw [g,AH.aH,if_neg];exact fun i=>h (.alloc a d i)
  |st=>
   obtain ⟨c,bC,h2,_,g,_⟩:=iJ d e;rw [g,AH.aJ,if_neg];intro i;subst i;exact h (.st a d h2)
theorem eU.nJ {m:Nat} (a:m≤n) (b:Nat):gS O sF sH (fun _=>true) m b=(sH m).raw b:=by
 induction m with
 |zero=>rfl
 |succ m ih=>
  simp only [gS];by_cases h:mu O sF sH m b
  ·rw [if_pos ⟨rfl,h⟩]
  ·rw [if_neg (fun e=>h e.2),ih (by omega),R.still (by omega) h]
theorem eU.bp {t:Nat} (c:t<n) (w:(O t).wanted (sF t)=true) (k:bu (O t).o= .alloc):(sH (t+1)).nx=(sH t).nx+1:=by
 obtain ⟨x,d,_⟩:=R.one c
 cases d with
 |off a e b=>rw [w]at a;cases a
 |call a f as g e b=>rw [cQ e]at k;cases k
 |val a e=>
  obtain ⟨bC,b,_⟩:=cZ k e;rw [b];rfl
structure zj (O:Nat→AO) (n:Nat) (sF:Nat→Fr) (sH:Nat→AH) (S:Nat→Bool) (Dm:Nat→Prop):Prop where
 nK:∀b,Dm b→b<(sH 0).nx∨∃t,t<n∧S t=true∧(sH t).nx≤b∧b<(sH (t+1)).nx
 zk:∀p,p<n→S p=true→(O p).wanted (sF p)=true→bu (O p).o= .st→∀b,aS (O p) (sF p)=some b→Dm b
variable{S:Nat→Bool} {Dm:Nat→Prop} (D:zj O n sF sH S Dm)
include D
theorem eU.iO {p:Nat} (c:p<n) (d:S p=false) (w:(O p).wanted (sF p)=true) (k:bu (O p).o= .alloc):¬ Dm (sH p).nx:=by
 intro h;rcases D.nK _ h with h|⟨t,e,b,f,h2⟩
 ·have:=R.b6 (G3 p) (by omega);omega
 ·rcases Nat.lt_trichotomy t p with a|a|a
  ·have:=R.b6 (show t+1≤p by omega) (by omega);omega
  ·subst a;rw [d]at b;cases b
  ·have:=R.b6 (show p+1≤t by omega) (by omega)
   rw [R.bp c w k]at this;omega
variable{t:Nat} (C:vb n gu S t)
include C
theorem eU.ahead {b:Nat} (j:Dm b) (h:∀p,p<t→S p=false→(O p).wanted (sF p)=true→bu (O p).o= .st→bu (O t).o= .st→aS (O p) (sF p)≠some b):gS O sF sH S t b=(sH t).raw b:=by
 rw [←R.nJ (Nat.le_of_lt C.lt)];refine ln fun p d g=>?_
 cases f:S p with
 |true=>rfl
 |false=>
  exfalso;obtain ⟨_,_,_,a⟩:=R.before C d f;have i:p<n:=Nat.lt_trans d C.lt
  cases g with
  |alloc w k e=>subst e;exact R.iO D i f w k j
  |st w k e=>
   rw [k]at a
   cases c:bu (O t).o<;>rw [c]at a<;>first
    |(simp [bg,j5.cE]at a;done)
    |exact h p d f w k c e
  |cT w k=>
   rw [k]at a;cases c:bu (O t).o<;>rw [c]at a<;>simp [bg,j5.cE]at a
theorem eU.load {a:Addr} {vs:List Value} (w:(O t).wanted (sF t)=true) (k:bu (O t).o= .load) (z:cV (O t) (sF t) (sH t)=some (a,vs)) (B:aS (O t) (sF t)=some a.block) (f:(sH t).ldn a vs.length=some vs) (A:Dm a.block):
 (jo O sF sH S n (sH n).nx).ldn a vs.length=some vs:=by
 have l:a.block<(sH t).nx:=by
  obtain ⟨x,s⟩:=Hd.1 (bx f).1;exact AH.dW s
 have key:∀m,t≤m→m≤n→(jo O sF sH S m (sH n).nx).ldn a vs.length=some vs:=by
  intro m y
  induction m with
  |zero=>
   intro v;obtain rfl:t=0:=by omega
   rw [←f];refine bU ?_ rfl;rw [dF _ _ _ _ (by have:=R.b6 (G3 n) (GB _);omega),AH.bA l];rfl
  |succ m ih=>
   intro v;rcases Nat.lt_or_eq_of_le y with q|q
   ·have ih:=ih (by omega) (by omega)
    have h:a.block<(sH n).nx:=by have:=R.b6 (Nat.le_of_lt C.lt) (GB _);omega
    by_cases b:S m=true∧mu O sF sH m a.block
    ·obtain ⟨b,u⟩:=b
     have g:t<m:=by
      rcases Nat.lt_or_eq_of_le (show t≤m by omega)with h2|h2
      ·exact h2
      ·subst h2;rw [C.out]at b;cases b
     obtain ⟨j,_,_,H⟩:=R.behind C g (by omega) b
     cases u with
     |alloc c d e=>
      have:=R.b6 (show t≤m by omega) (by omega);omega
     |st c d e=>exact absurd rfl (R.c2 t m g (by omega) j w c (.inl k) d a.block a.block B e)
     |cT c d=>
      obtain ⟨x,r,F⟩:=R.c0 t m g (by omega) j w c k d;rw [z]at r;cases r;have E:=mr F;rw [←E];refine bU ?_ (R.um (m+1) (by omega)).symm;rw [dF _ _ _ _ h];have:a.block<(sH (m+1)).nx:=by have:=R.b6 (show t≤m+1 by omega) (by omega);omega
      rw [AH.bA this];simp only [gS];rw [if_pos ⟨b,.cT c d⟩]
    ·rw [←ih]
     refine bU ?_ rfl;rw [dF _ _ _ _ h,dF _ _ _ _ h];simp only [gS];rw [if_neg b]
   ·subst q
    rw [←f];refine bU ?_ (R.um _ (by omega)).symm;rw [dF _ _ _ _ (by have:=R.b6 (show m+1≤n by omega) (GB _);omega),AH.bA l];exact R.ahead D C A fun p G b c d i=>by rw [k]at i;cases i
 exact key n (Nat.le_of_lt C.lt) (GB _)
theorem eU.look {b:Nat} (w:(O t).wanted (sF t)=true) (k:bu (O t).o= .read∨bu (O t).o= .st) (l:aS (O t) (sF t)=some b) (s:((sH t).get b).isSome=true) (v:Dm b):
 (jo O sF sH S n (sH n).nx).get b=(sH t).get b:=by
 have u:b<(sH t).nx:=by
  obtain ⟨x,q⟩:=Hd.1 s;exact AH.dW q
 rw [dF _ _ _ _ (by have:=R.b6 (Nat.le_of_lt C.lt) (GB _);omega),AH.bA u,fO (t:=t) (Nat.le_of_lt C.lt)]
 ·refine R.ahead D C v fun p f d c a m e=>?_
  obtain ⟨g,_⟩:=R.before C f d;exact absurd rfl (R.c2 p t f C.lt g c w (.inr (.inr a)) m b b e l)
 ·intro p f j d r
  have i:t<p:=by
   rcases Nat.lt_or_eq_of_le f with h2|h2
   ·exact h2
   ·subst h2;rw [C.out]at d;cases d
  obtain ⟨g,_,_,h⟩:=R.behind C i j d
  cases r with
  |alloc c a e=>
   have:=R.b6 (show t≤p by omega) (by omega);omega
  |st c a e=>
   exact absurd rfl (R.c2 t p i j g w c (.inr k) a b b l e)
  |cT c a=>
   rw [a]at h;rcases k with k|k<;>rw [k]at h<;>simp [bg,j5.cE]at h
omit R D C in
theorem fc {b:Nat} (h:¬ mu O sF sH t b):gS O sF sH (ins S t) n b=gS O sF sH S n b:=
 ln fun p c a=>bZ (fun e=>h (e▸a))
theorem eU.gw {b:Nat} (h:mu O sF sH t b):gS O sF sH (ins S t) n b=(sH (t+1)).raw b:=by
 have stop:(∀p,t<p→p<n→S p=true→¬ mu O sF sH p b)→gS O sF sH (ins S t) n b=(sH (t+1)).raw b:=by
  intro u;rw [fO (t:=t+1) C.lt]
  ·simp only [gS]
   rw [if_pos ⟨bH,h⟩]
  ·intro p i g a
   rw [bZ (by omega)]at a;exact u p (by omega) g a
 cases h with
 |cT w k=>
  refine stop fun p i g a l=>?_
  obtain ⟨q,_,_,d⟩:=R.behind C i g a;rw [k]at d;cases s:bu (O p).o<;>rw [s]at d<;>simp [bg,j5.cE]at d
 |st w k e=>
  refine stop fun p i g a l=>?_
  obtain ⟨q,_,_,d⟩:=R.behind C i g a
  cases l with
  |alloc f c j=>rw [k,c]at d;simp [bg,j5.cE]at d
  |cT f c=>rw [k,c]at d;simp [bg,j5.cE]at d
  |st f c j=>exact absurd rfl (R.c2 t p i g q w f (.inr (.inr k)) c b b e j)
 |alloc w k e=>
  have key:∀m,t+1≤m→m≤n→gS O sF sH (ins S t) m b=(sH (t+1)).raw b:=by
   intro m d
   induction m with
   |zero=>omega
   |succ m ih=>
    intro x;rcases Nat.lt_or_eq_of_le d with v|v
    ·have ih:=ih (by omega) (by omega)
     simp only [gS];by_cases a:ins S t m=true∧mu O sF sH m b
     ·rw [if_pos a]
      obtain ⟨a,l⟩:=a;rw [bZ (by omega)]at a;obtain ⟨q,_,_,_⟩:=R.behind C (show t<m by omega) (by omega) a
      cases l with
      |alloc f c j=>
       have h2:=R.b6 (show t+1≤m by omega) (by omega);rw [R.bp C.lt w k]at h2;omega
      |st f c j=>
       have:=D.zk m (by omega) a f c b j;subst e;exact absurd this (R.iO D C.lt C.out w k)
      |cT f c=>
       have r:=R.c1 t m (by omega) (by omega) q w f k c;have h2:=R.bp C.lt w k;have y:=R.b6 (show t+1≤m+1 by omega) (by omega);rw [AH.bA (by omega),AH.bA (by omega)]at r;rw [e];exact r
     ·rw [if_neg a,ih]
    ·have:m=t:=by omega
     subst this;simp only [gS];rw [if_pos ⟨bH,.alloc w k e⟩]
  exact key n C.lt (GB _)
end
end
section
open Go
section
variable{call:Cl} {O:Nat→AO} {n:Nat} {sF:Nat→Fr} {sH:Nat→AH} {gu:Nat→Nat→Prop}
structure Step (call:Cl) (O:Nat→AO) (n:Nat) (sF:Nat→Fr) (sH:Nat→AH) (S:Nat→Bool) (Dm:Nat→Prop) (t:Nat) (Hx Hy:AH):Prop where
 run:cU call (O t) (iL O sF S n) Hx=some ((iL O sF S n).al (O t).d (iK O sF t),Hy)
 pre:∀b,Dm b→Hx.raw b=gS O sF sH S n b
 Bv:Hx.n0=(sH 0).n0
 post:∀b,gS O sF sH (ins S t) n b=Hy.raw b
 Bw:Hy.n0=(sH 0).n0
 Bx:Hx.bs=gB O sF sH S n
 By:gB O sF sH (ins S t) n=Hy.bs
 lo:(sH 0).nx≤Hx.nx
 hi:Hy.nx≤(sH n).nx
 out:¬ Dm Hx.nx
 fresh:bu (O t).o= .cT→∀b,Hx.nx≤b→¬ Dm b
 new:∀b,Hx.nx≤b→b<Hy.nx→(sH t).nx≤b∧b<(sH (t+1)).nx
variable(R:eU call O n sF sH gu) {S:Nat→Bool} {Dm:Nat→Prop} (D:zj O n sF sH S Dm) {t:Nat} (C:vb n gu S t)
include R D
theorem eU.fP {b:Nat} (h:(sH n).nx≤b):¬ Dm b:=by
 intro a;rcases D.nK b a with c|⟨p,d,_,c,h2⟩
 ·have:=R.b6 (G3 n) (GB _);omega
 ·have:=R.b6 (show p+1≤n by omega) (GB _);omega
include C
omit R D C in
theorem kE (h:¬ ((O t).wanted (sF t)=true∧bu (O t).o= .cT)):gB O sF sH (ins S t) n=gB O sF sH S n:=
 lq fun p _ w k=>bZ (fun e=>h (e▸⟨w,k⟩))
theorem eU.same {x:Value} (c:∀f:Fr,f.al (O t).d x=f.al (O t).d (iK O sF t)) (a:∀b,¬ mu O sF sH t b)
 (h:One call (O t) (sF t) (jo O sF sH S n (sH n).nx) x (jo O sF sH S n (sH n).nx)):Step call O n sF sH S Dm t (jo O sF sH S n (sH n).nx) (jo O sF sH S n (sH n).nx)where
 run:=bh.2 ⟨x,(c _).symm,(R.ij C).one h⟩
 pre:=fun b _=>rfl
 Bv:=rfl
 post:=fun b=>fc (a b)
 Bw:=rfl
 Bx:=rfl
 By:=kE fun e=>a 0 (.cT e.1 e.2)
 lo:=R.b6 (G3 n) (GB _)
 hi:=GB _
 out:=R.fP D (GB _)
 fresh:=fun _ b g=>R.fP D g
 new:=fun b i h2=>by omega
theorem eU.sv (I:(O t).wanted (sF t)=true→∀b,aS (O t) (sF t)=some b→Dm b):∃J Hy,Step call O n sF sH S Dm t J Hy:=by
 obtain ⟨x,z,r⟩:=R.one C.lt;have V:=R.b6 (show t+1≤n from C.lt) (GB _);have F8:=R.b6 (show t≤n by have:=C.lt;omega) (GB _);have N:=R.b6 (G3 t) (Nat.le_of_lt C.lt);have L:(jo O sF sH S n (sH n).nx).n0=(sH t).n0:=(R.um t (Nat.le_of_lt C.lt)).symm
 have P:(O t).wanted (sF t)=true→bu (O t).o= .cT→∃J Hy,Step call O n sF sH S Dm t J Hy:=by
  intro w k
  have B:∀p,t<p→p<n→S p=true→False:=by
   intro p l u g;obtain ⟨_,_,_,y⟩:=R.behind C l u g;rw [k]at y;cases d:bu (O p).o<;>rw [d]at y<;>simp [bg,j5.cE]at y
  have fresh:∀b,(sH t).nx≤b→¬ Dm b:=by
   intro b j U;rcases D.nK b U with h2|⟨p,l,g,h2,q⟩
   ·omega
   ·rcases Nat.lt_trichotomy p t with i|i|i
    ·have:=R.b6 (show p+1≤t by omega) (Nat.le_of_lt C.lt);omega
    ·subst i;rw [C.out]at g;cases g
    ·exact B p i l g
  have X:(sH t).bs=gB O sF sH S n:=by
   rw [iN (t:=t) (Nat.le_of_lt C.lt),←R.nI (Nat.le_of_lt C.lt)]
   ·refine lq fun p l F E=>?_
    cases g:S p with
    |true=>rfl
    |false=>
     obtain ⟨_,_,_,y⟩:=R.before C l g;rw [k,E]at y;simp [bg,j5.cE]at y
   ·intro p l u g F E
    rcases Nat.lt_or_eq_of_le l with i|i
    ·exact B p i u g
    ·subst i;rw [C.out]at g;cases g
  have W:gB O sF sH (ins S t) n=(sH (t+1)).bs:=by
   rw [iN (t:=t+1) C.lt]
   ·simp only [gB]
    rw [if_pos ⟨bH,w,k⟩]
   ·intro p l u g F E
    rw [bZ (by omega)]at g;exact B p (by omega) u g
  refine ⟨sH t,sH (t+1),?_,?_,R.um t (Nat.le_of_lt C.lt),?_,R.um (t+1) C.lt,X,W,N,V,fresh _ (GB _),fun _=>fresh,fun b h2 q=>⟨h2,q⟩⟩
  ·exact bh.2 ⟨x,(r _).symm,(R.ij C).one z⟩
  ·intro b j
   rw [fO (t:=t) (Nat.le_of_lt C.lt)]
   ·exact (R.ahead D C j fun p l g F E K=>by rw [k]at K;cases K).symm
   ·intro p l u g
    rcases Nat.lt_or_eq_of_le l with i|i
    ·exact (B p i u g).elim
    ·subst i;rw [C.out]at g;cases g
  ·intro b
   exact R.gw D C (.cT w k)
 cases z with
 |off w e A=>
  exact ⟨_,_,R.same D C r (fun b s=>by
   have:(O t).wanted (sF t)=true:=by cases s<;>assumption
   rw [w]at this
   cases this) (.off w e rfl)⟩
 |call w f as H1 e A=>exact P w (cQ e)
 |val w e=>
  have quiet:(bu (O t).o≠ .alloc)→(bu (O t).o≠ .st)→(bu (O t).o≠ .cT)→∀b,¬ mu O sF sH t b:=by
   intro h2 q i b s
   cases s with
   |alloc _ k _=>exact h2 k
   |st _ k _=>exact q k
   |cT _ k=>exact i k
  cases d:bu (O t).o with
  |cT=>exact P w d
  |pure=>
   exact ⟨_,_,R.same D C r (quiet (by simp [d]) (by simp [d]) (by simp [d])) (.val w ((e7 d e).2 _))⟩
  |load=>
   obtain ⟨_,a,Y,T,m,Q,v⟩:=e8 d e;exact ⟨_,_,R.same D C r (quiet (by simp [d]) (by simp [d]) (by simp [d])) (.val w (v _ (R.load D C w d T m Q (I w _ m))))⟩
  |read=>
   obtain ⟨_,v⟩:=fb d e;exact ⟨_,_,R.same D C r (quiet (by simp [d]) (by simp [d]) (by simp [d])) (.val w (v _ (fun b m G=>R.look D C w (.inl d) m G (I w _ m)) L))⟩
  |st=>
   obtain ⟨c,bC,m,G,A,v⟩:=iJ d e;have q:=v (jo O sF sH S n (sH n).nx) (R.look D C w (.inr d) m G (I w _ m)) L;have H:One call (O t) (sF t) (jo O sF sH S n (sH n).nx) x ((jo O sF sH S n (sH n).nx).put c bC):=.val w q;refine ⟨_,_,bh.2 ⟨x,(r _).symm,(R.ij C).one H⟩,fun b _=>rfl,rfl,fun b=>?_,rfl,rfl,kE (fun e=>by rw [d]at e;cases e.2),R.b6 (G3 n) (GB _),GB _,R.fP D (GB _),fun _ b j=>R.fP D j,fun b z h2=>?_⟩
   ·rw [AH.aJ]
    by_cases j:b=c
    ·subst j
     rw [if_pos rfl,R.gw D C (.st w d m),A,AH.aJ,if_pos rfl]
    ·rw [if_neg j,fc]
     ·rfl
     ·intro s
      cases s with
      |alloc _ k _=>rw [d]at k;cases k
      |cT _ k=>rw [d]at k;cases k
      |st _ _ e=>rw [m]at e;cases e;exact j rfl
   ·have:b<(sH n).nx:=h2
    have:(sH n).nx≤b:=z;omega
  |alloc=>
   obtain ⟨bC,A,v⟩:=cZ d e;have q:=v (jo O sF sH S n (sH t).nx) rfl;have H:One call (O t) (sF t) (jo O sF sH S n (sH t).nx) x ((jo O sF sH S n (sH t).nx).alloc bC):=.val w q;have Z:=R.bp C.lt w d;refine ⟨_,_,bh.2 ⟨x,(r _).symm,(R.ij C).one H⟩,fun b _=>rfl,rfl,fun b=>?_,rfl,rfl,kE (fun e=>by rw [d]at e;cases e.2),N,?_,R.iO D C.lt C.out w d,fun h=>?_,fun b z h2=>?_⟩
   ·rw [AH.aH]
    by_cases j:b=(jo O sF sH S n (sH t).nx).nx
    ·have M:b=(sH t).nx:=j
     rw [if_pos j,R.gw D C (.alloc w d M),A,AH.aH,if_pos M]
    ·rw [if_neg j,fc]
     ·rfl
     ·intro s
      cases s with
      |alloc _ k e=>exact j e
      |cT _ k=>rw [d]at k;cases k
      |st _ k e=>rw [d]at k;cases k
   ·show(sH t).nx+1≤_
    omega
   ·rw [d]at h;cases h
   ·have qS:(sH t).nx≤b:=z
    have pj:b<(sH t).nx+1:=h2;omega
end
end
section
open Go
theorem iP {α:Type}:∀(l:List α) (n:Nat),nth l n=l[n]?
 |[],n=>by simp [nth]
 |x::l,0=>by simp [nth]
 |x::l,n+1=>by simp [nth,iP l n]
theorem fe {call:Cl}:∀(l:List AO) (a:Fr) (H:AH) (b:List (Fr×AH)),dj call l a H=some b→
 b.length=l.length∧da (a,H) b=(((a,H)::b)[l.length]?).getD (a,H)∧
 ∀t o,l[t]?=some o→∃s c,((a,H)::b)[t]?=some s∧((a,H)::b)[t+1]?=some c∧cU call o s.1 s.2=some c
 |[],a,H,b,h=>by
  simp only [dj,Gy]at h;subst h;exact ⟨rfl,rfl,fun t o h=>(by simp at h)⟩
 |o::l,a,H,b,h=>by
  simp only [dj]at h
  cases e:cU call o a H with
  |none=>simp [e]at h
  |some r=>
   obtain ⟨f,g⟩:=r;simp only [e]at h
   cases h2:dj call l f g with
   |none=>simp [h2]at h
   |some i=>
    simp only [h2,Gy]at h;subst h;obtain ⟨j,p,n⟩:=fe l f g i h2;refine ⟨by simp [j],?_,fun t k d=>?_⟩
    ·simp only [da,p,List.length_cons,List.getElem?_cons_succ]
     cases m:((f,g)::i)[l.length]? with
     |some q=>rfl
     |none=>
      have:=List.getElem?_eq_none_iff.1 m;simp only [List.length_cons,j]at this;omega
    ·cases t with
     |zero=>
      simp only [Gw,Gy]at d;subst d;exact ⟨_,_,rfl,rfl,e⟩
     |succ t=>
      obtain ⟨s,c,v,u,a3⟩:=n t k (by simpa using d);exact ⟨s,c,by simpa using v,by simpa using u,a3⟩
theorem eh:∀(l:List (Fr×AH)),chain l=true→∀t s c,l[t]?=some s→l[t+1]?=some c→c.2.n0=s.2.n0∧s.2.nx≤c.2.nx
 |[],_,t,s,c,h,_=>by simp at h
 |[a],_,t,s,c,_,h=>by simp at h
 |a::b::l,d,t,s,c,e,h2=>by
  simp only [chain,GA,nb,GK,Nat.ble_eq]at d
  cases t with
  |zero=>
   simp at e h2;subst e;subst h2;exact ⟨d.1.1.symm,d.1.2⟩
  |succ t=>exact eh (b::l) d.2 t s c (by simpa using e) (by simpa using h2)
theorem c6 {l:List AO} {f:List (List Nat)}:∀(ord:List Nat) (am:List (Nat×Nat)) (t:Nat) (r:Row),(dt l f ord am)[t]?=some r→
 l[r.j]?=some r.o∧r.k=bu r.o.o∧f[r.j]?=some r.dep∧
  ∀i,r.m.testBit i=true→∃e∈r.dep,e=i∨(∃q<t,∃r':Row,(dt l f ord am)[q]?=some r'∧r'.j=e∧r'.m.testBit i=true)∨(ib e am).testBit i=true
 |[],am,t,r,h=>by simp [dt]at h
 |j::ord,am,t,r,h=>by
  simp only [dt]at h⊢
  cases c:nth l j with
  |none=>simp [c]at h
  |some o=>
   cases g:nth f j with
   |none=>simp [c,g]at h
   |some d=>
    simp only [c,g]at h⊢
    cases t with
    |zero=>
     simp only [Gw,Gy]at h;subst h;refine ⟨by rw [←iP];exact c,rfl,by rw [←iP];exact g,fun i hi=>?_⟩
     have key:∀(d:List Nat),(dY am d).testBit i=true→∃e∈d,e=i∨(ib e am).testBit i=true:=by
      intro d
      induction d with
      |nil=>intro h;simp [dY]at h
      |cons e d ih=>
       intro h;simp only [dY,Nat.testBit_or,Bool.or_eq_true]at h;rcases h with h|h|h
       ·obtain ⟨y,b,h2⟩:=ih h
        exact ⟨y,List.mem_cons_of_mem _ b,h2⟩
       ·refine ⟨e,List.mem_cons_self,.inl ?_⟩
        rw [Nat.one_shiftLeft,Nat.testBit_two_pow]at h
        simpa using h
       ·exact ⟨e,List.mem_cons_self,.inr h⟩
     obtain ⟨e,b,h2⟩:=key d hi;exact ⟨e,b,h2.imp id .inr⟩
    |succ t=>
     simp only [List.getElem?_cons_succ]at h;obtain ⟨b,h2,x,w⟩:=c6 ord _ t r h;refine ⟨b,h2,x,fun i hi=>?_⟩;obtain ⟨e,p,a⟩:=w i hi;refine ⟨e,p,?_⟩;rcases a with a|⟨q,z,r',v,u,s⟩|a
     ·exact .inl a
     ·exact .inr (.inl ⟨q+1,by omega,r',by simpa using v,u,s⟩)
     ·simp only [ib,nb,Bool.cond_decide]at a
      split at a
      ·rename_i n
       exact .inr (.inl ⟨0,by omega,_,rfl,n,a⟩)
      ·exact .inr (.inr a)
theorem gA:∀(rs:List Row) (done:List Nat),kY rs done=true→∀(t:Nat) (r:Row),rs[t]?=some r→
 (r.j∉done∧∀(q:Nat) (r':Row),q<t→rs[q]?=some r'→r'.j≠r.j)∧∀e∈r.dep,e∈done∨∃q<t,∃r':Row,rs[q]?=some r'∧r'.j=e
 |[],_,_,t,r,h=>by simp at h
 |y::rs,done,h,t,r,a=>by
  simp only [kY,GA,Bool.not_eq_true',GO]at h;obtain ⟨⟨k,h2⟩,p⟩:=h
  cases t with
  |zero=>
   simp only [Gw,Gy]at a;subst a;refine ⟨⟨fun c=>?_,fun q _ g=>by omega⟩,fun e d=>.inl (du.1 (h2 e d))⟩;rw [du.2 c]at k;cases k
  |succ t=>
   simp only [List.getElem?_cons_succ]at a;obtain ⟨⟨i,o⟩,n⟩:=gA rs _ p t r a;refine ⟨⟨fun c=>i (List.mem_cons_of_mem _ c),fun q r' g b=>?_⟩,fun e d=>?_⟩
   ·cases q with
    |zero=>
     simp only [Gw,Gy]at b;subst b;exact fun e=>i (by rw [←e];exact List.mem_cons_self)
    |succ q=>exact o q r' (by omega) (by simpa using b)
   ·rcases n e d with f|⟨q,g,r',m,l⟩
    ·rcases GQ.1 f with rfl|f
     ·exact .inr ⟨0,by omega,y,rfl,rfl⟩
     ·exact .inl f
    ·exact .inr ⟨q+1,by omega,r',by simpa using m,l⟩
theorem lu:∀(rs:List Row),pw rs=true→∀(p q:Nat) (x y:Row),p<q→rs[p]?=some x→rs[q]?=some y→m4 x y=true
 |[],_,p,q,x,y,_,h,_=>by simp at h
 |z::rs,h,p,q,x,y,c,b,a=>by
  simp only [pw,GA,GO]at h
  cases q with
  |zero=>omega
  |succ q=>
   simp only [List.getElem?_cons_succ]at a
   cases p with
   |zero=>
    simp only [Gw,Gy]at b;subst b;exact h.1 y (GC a)
   |succ p=>exact lu rs h.2 p q x y (by omega) (by simpa using b) a
theorem fB {p:Nat} {x:Row}:∀(rs:List Row) (a q:Nat) (y:Row),rs[q]?=some y→∀c∈kf p (a+q) x y,c∈iC p x a rs
 |[],a,q,y,h,c,_=>by simp at h
 |z::rs,a,q,y,h,c,b=>by
  simp only [iC]
  cases q with
  |zero=>
   simp only [Gw,Gy]at h;subst h;exact List.mem_append_left _ (by simpa using b)
  |succ q=>
   exact List.mem_append_right _ (fB rs (a+1) q y (by simpa using h) c (by rwa [show a+1+q=a+(q+1) by omega]))
theorem gC:∀(rs:List Row) (a p q:Nat) (x y:Row),p<q→rs[p]?=some x→rs[q]?=some y→∀c∈kf (a+p) (a+q) x y,c∈ic a rs
 |[],_,p,q,x,y,_,h,_,_,_=>by simp at h
 |z::rs,a,p,q,x,y,e,d,b,c,f=>by
  simp only [ic]
  cases q with
  |zero=>omega
  |succ q=>
   simp only [List.getElem?_cons_succ]at b
   cases p with
   |zero=>
    simp only [Gw,Gy]at d;subst d;exact List.mem_append_left _ (fB rs (a+1) q y b c (by rwa [show a+1+q=a+(q+1) by omega]))
   |succ p=>
    refine List.mem_append_right _ (gC rs (a+1) p q x y (by omega) (by simpa using d) b c ?_);rwa [show a+1+p=a+(p+1) by omega,show a+1+q=a+(q+1) by omega]
theorem nL {n i:Nat} (h:i<n):i∈o9 n:=by
 induction n with
 |zero=>omega
 |succ n ih=>
  simp only [o9,GQ];by_cases e:i=n
  ·exact .inl e
  ·exact .inr (ih (by omega))
def vf:Row:=⟨⟨none,none,.mkmap⟩,.pure,0,[],0⟩
def rowAt (rs:List Row) (t:Nat):Row:=(rs[t]?).getD vf
def vg (rs:List Row) (p q:Nat):Prop:=(rowAt rs q).m.testBit (rowAt rs p).j=true
theorem aA {rs:List Row} {t:Nat} (h:t<rs.length):rs[t]?=some (rowAt rs t):=by
 unfold rowAt;rw [Gx h];rfl
def mT (s0:Fr×AH) (ss:List (Fr×AH)) (t:Nat):Fr:=(((s0::ss)[t]?).getD s0).1
def kF (s0:Fr×AH) (ss:List (Fr×AH)) (t:Nat):AH:=(((s0::ss)[t]?).getD s0).2
theorem sy {call:Cl} {rs:List Row} (u:∀(t:Nat) (r:Row),rs[t]?=some r→r.k=bu r.o.o) (J:pw rs=true) {d:Fr} {H:AH} {a:List (Fr×AH)} (O:dj call (rs.map (·.o)) d H=some a) (C:chain ((d,H)::a)=true)
 (K:(ic 0 rs).all (iA (rs.map (·.o)) ((d,H)::a))=true):
 eU call (fun t=>(rowAt rs t).o) rs.length (mT (d,H) a) (kF (d,H) a) (vg rs):=by
 obtain ⟨B,_,I⟩:=fe _ _ _ _ O
 have st:∀t,t<rs.length→∃s s',((d,H)::a)[t]?=some s∧((d,H)::a)[t+1]?=some s'∧cU call (rowAt rs t).o s.1 s.2=some s':=
  fun t v=>I t (rowAt rs t).o (by rw [G5,aA v];rfl)
 have z:∀p q,p<q→q<rs.length→∀c∈kf p q (rowAt rs p) (rowAt rs q),iA (rs.map (·.o)) ((d,H)::a) c=true:=by
  intro p q f e c L;exact GO.1 K c (gC rs 0 p q _ _ f (aA (by omega)) (aA e) c (by simpa using L))
 have un:∀p q k,p<q→q<rs.length→(rowAt rs p).o.wanted (mT (d,H) a p)=true→(rowAt rs q).o.wanted (mT (d,H) a q)=true→iA (rs.map (·.o)) ((d,H)::a) (k,p,q)=true→
  (match k with
   |0=>match cV (rowAt rs p).o (mT (d,H) a p) (kF (d,H) a p)with|some x=>sameAt (kF (d,H) a (q+1)) x|none=>false
   |1=>eB ((kF (d,H) a (p+1)).get (kF (d,H) a p).nx) ((kF (d,H) a (q+1)).get (kF (d,H) a p).nx)
   |_=>match aS (rowAt rs p).o (mT (d,H) a p),aS (rowAt rs q).o (mT (d,H) a q)with|some b,some D=>!Nat.beq b D|_,_=>true)=true:=by
  intro p q k f e wp l h;obtain ⟨U,T,A,F,_⟩:=st p (by omega);obtain ⟨S,R,a3,E,_⟩:=st q e;have Q:(rs.map (·.o))[p]?=some (rowAt rs p).o:=by rw [G5,aA (by omega)];rfl
  have P:(rs.map (·.o))[q]?=some (rowAt rs q).o:=by rw [G5,aA e];rfl
  unfold mT kF at*;rw [A,Option.getD_some]at wp;rw [a3,Option.getD_some]at l;unfold iA at h;simp only [iP,Q,P,A,F,a3,E,wp,l,Bool.not_true,Bool.false_or]at h;rw [A,F,a3,E];simp only [Option.getD_some];exact h
 refine ⟨fun t v=>?_,fun t v=>?_,fun t v=>?_,fun p q f e=>?_,?_,?_,?_⟩
 ·obtain ⟨s,s',i,h2,y⟩:=st t v
  unfold mT kF;rw [i,h2];exact y
 ·obtain ⟨s,s',i,h2,y⟩:=st t v
  unfold kF;rw [i,h2];exact (eh _ C t s s' i h2).1
 ·obtain ⟨s,s',i,h2,y⟩:=st t v
  unfold kF;rw [i,h2];exact (eh _ C t s s' i h2).2
 ·have:=lu rs J p q _ _ f (aA (by omega)) (aA e)
  simp only [m4,Bool.or_eq_true,GA]at this;rw [←u p _ (aA (by omega)),←u q _ (aA e)];rcases this with h|⟨⟨i,h2⟩,y⟩
  ·exact .inl h
  ·exact .inr ⟨i,h2,y⟩
 ·intro p q f e w wp l g n
  rw [←u p _ (aA (by omega))]at g;rw [←u q _ (aA e)]at n
  have:=un p q 0 f e wp l (z p q f e _ (by
   unfold kf;rw [show(rowAt rs q).m.testBit (rowAt rs p).j=false from Hf.2 w,g,n]
   simp))
  simp only at this;split at this
  ·rename_i x G
   exact ⟨x,G,this⟩
  ·cases this
 ·intro p q f e w wp l g n
  rw [←u p _ (aA (by omega))]at g;rw [←u q _ (aA e)]at n
  have:=un p q 1 f e wp l (z p q f e _ (by
   unfold kf;rw [show(rowAt rs q).m.testBit (rowAt rs p).j=false from Hf.2 w,g,n]
   simp))
  exact (nG this).symm
 ·intro p q f e w wp l g n b D N M
  rw [←u p _ (aA (by omega))]at g;rw [←u q _ (aA e)]at n
  have:=un p q 2 f e wp l (z p q f e _ (by
   unfold kf;rw [show(rowAt rs q).m.testBit (rowAt rs p).j=false from Hf.2 w,n]
   rcases g with g|g|g<;>rw [g]<;>simp))
  simp only [N,M,nb]at this
  simpa using this
open Go Go.RowKit
section
variable{P:Program}
theorem Rel.gD {w0 w:World} {φ:aq} {H H1:AH} (R:Rel w0 φ H w) (h:∀b,φ.m b≠none→H1.raw b=H.raw b) (B:H1.n0=H.n0) (r:φ.n0≤H1.nx) (u:H1.bs=H.bs):Rel w0 φ H1 w where
 n0:=B.trans R.n0
 gT:=R.gT
 fM:=r
 c0:=R.c0
 below:=R.below
 jB:=R.jB
 cv:=R.cv
 de:=fun b z cs a d=>R.de b z cs a (by rw [←h b (by rw [R.cv b a];simp)];exact d)
 cells:=fun b l z cs a c d=>R.cells b l z cs a c (by rw [←h b (by rw [c];simp)];exact d)
 maps:=fun b l es a c d=>R.maps b l es a c (by rw [←h b (by rw [c];simp)];exact d)
 inj:=fun j i q p x v f h2 o n t=>R.inj j i q p x v f h2 (by rw [←h j (by rw [f];simp)];exact o) (by rw [←h i (by rw [h2];simp)];exact n) t
 hG:=fun b s e=>by
  obtain ⟨f,h2,l,g,A,y⟩:=R.hG b s (by rw [←u];exact e);exact ⟨f,by rw [h b (by rw [g];simp)];exact h2,l,g,A,y.iE rfl (fun _ _ _=>rfl) fun C E D k a3=>.inl ⟨D,k,by rw [←h C (by rw [k];simp)];exact a3⟩⟩
theorem a6.comp {φ a f:aq} {H d o n:AH} {w i g:World} (h:a6 φ H w a d i) (k:a6 a o i f n g) (q:H.nx≤o.nx) (h2:n.nx≤d.nx):a6 φ H w f d g where
 le:=aq.le_trans h.le k.le
 n0:=k.n0.trans h.n0
 c0:=k.c0.trans h.c0
 nx:=h.nx
 new:=fun b l e j=>by
  cases c:a.m b with
  |none=>exact ⟨GV q (k.new b l c j).1,GW (k.new b l c j).2 h2⟩
  |some p=>exact h.new b p e c
 size:=GV h.size k.size
theorem iQ {φ:aq} {b:Fr} {a:Act} (F:dn φ b a) {x:X} (h:rR x=true) {d:Addr} (e:x.ev b= .pointer (some d)):φ.m d.block≠none:=by
 cases x with
 |t n=>
  have:=F n;rw [show b.get n= .pointer (some d) from e]at this;obtain ⟨l,_,c,_⟩:=this.jA;rw [c];simp
 |k v=>rw [show v= .pointer (some d) from e]at h;cases h
 |f n=>cases e
theorem px {φ:aq} {b:Fr} {a:Act} (F:dn φ b a) {x:X} (h:rR x=true) {d:Nat} (e:x.ev b= .map (some d)):φ.m d≠none:=by
 cases x with
 |t n=>
  have:=F n;rw [show b.get n= .map (some d) from e]at this;obtain ⟨l,c,_⟩:=this.yL;rw [c];simp
 |k v=>rw [show v= .map (some d) from e]at h;cases h
 |f n=>cases e
theorem sA {φ:aq} {b:Fr} {a:Act} (F:dn φ b a) {x:X} (h:rR x=true) {d:Addr} {n c:Nat} (e:x.ev b= .slice (some d) n c) (i:d.spot=none):φ.m d.block≠none:=by
 cases x with
 |t m=>
  have:=F m;rw [show b.get m= .slice (some d) n c from e]at this;rcases this.mM with⟨l,o,_,j,_⟩|⟨g,_⟩
  ·rw [j];simp
  ·rw [i]at g;cases g
 |k v=>rw [show v= .slice (some d) n c from e]at h;cases h
 |f n=>cases e
theorem nM {φ:aq} {d:Fr} {a:Act} (F:dn φ d a) {o:AO} (h:o.o.xs.all rR=true) {b:Nat} (e:aS o d=some b):φ.m b≠none:=by
 unfold aS at e;cases g:o.o<;>simp only [g,aM.xs,List.all_cons,GA]at h e<;>(try(cases e;done))
 case st n x v=>
  split at e<;>cases e;rename_i c;exact iQ F h.1 c
 case ld x=>
  split at e<;>cases e;rename_i c;exact iQ F h.1 c
 case ldn n x=>
  split at e<;>cases e;rename_i c;exact iQ F h.1 c
 case look kk z x k ok=>
  split at e<;>cases e;rename_i c;exact px F h.1 c
 case sl sz x lo hi mx=>
  split at e
  ·rename_i c
   obtain ⟨f,e⟩:=aa e;cases e;exact sA F h.1 c (by simpa using f)
  ·cases e
def j8 (S:Nat→Bool):Nat→Nat
 |0=>0
 |m+1=>j8 S m+(bif S m then 0 else 1)
theorem jG {S:Nat→Bool}:∀{m:Nat},j8 S m=0→∀t,t<m→S t=true
 |0,_,t,h=>by omega
 |m+1,h,t,b=>by
  simp only [j8]at h;by_cases e:t=m
  ·subst e
   cases a:S t with
   |true=>rfl
   |false=>rw [a]at h;simp at h
  ·exact jG (m:=m) (by omega) t (by omega)
theorem iR {S S':Nat→Bool}:∀{m:Nat},(∀t,t<m→S t=true→S' t=true)→j8 S' m≤j8 S m
 |0,_=>GB _
 |m+1,h=>by
  have:=iR (S:=S) (S':=S') (m:=m) fun t b=>h t (by omega)
  simp only [j8]
  cases a:S m with
  |true=>rw [h m (by omega) a];simpa using this
  |false=>cases S' m<;>simp<;>omega
theorem lv {S:Nat→Bool} {t:Nat} (a:S t=false):∀{m:Nat},t<m→j8 (ins S t) m+1≤j8 S m
 |0,h=>by omega
 |m+1,h=>by
  simp only [j8];by_cases e:t=m
  ·subst e
   rw [bH,a]
   have:=iR (S:=S) (S':=ins S t) (m:=t) fun p _ b=>by
    by_cases e:p=t
    ·subst e;exact bH
    ·rw [bZ e];exact b
   simp;omega
  ·rw [bZ (fun h=>e h.symm)]
   have:=lv a (m:=m) (by omega);omega
theorem py {m:Nat}:j8 (fun _=>false) m=m:=by
 induction m with
 |zero=>rfl
 |succ m ih=>simp [j8,ih]
def gY (rs:List Row) (aE:Array Bool) (t:Nat):Bool:=aE.getD (rowAt rs t).j false
structure pz (w0 w:World) (φ:aq) (O:Nat→AO) (n:Nat) (sF:Nat→Fr) (sH:Nat→AH) (nt:Nat) (S:Nat→Bool) (df:aq) (a1:Act) (w1:World):Prop where
 rel:Rel w0 df (jo O sF sH S n (sH n).nx) w1
 vh:dn df (iL O sF S n) a1
 size:a1.tmps.size=nt
 defs:a1.defers=[]
 nK:zj O n sF sH S (fun b=>df.m b≠none)
 grow:a6 φ (sH 0) w df (sH n) w1
theorem vi {call:Cl} (W:eZ P call) {O:Nat→AO} {n:Nat} {y:Nat→Fr} {g:Nat→AH} {G:Nat→Nat→Prop} (R:eU call O n y g G) {w0 w:World} {φ:aq} (c:φ.n0≤(g 0).nx) {A:Nat} {S:Nat→Bool} {t:Nat} (C:vb n G S t)
 {f:aq} {J:Act} {w1:World} (I:pz w0 w φ O n y g A S f J w1) {z:Array Oper} {j:Nat} {o:Oper} (U:z[j]?=some o) (X:qP P A z o=some (O t)) (D:(O t).o.xs.all rR=true)
 {Q:Exit→Act→World→Prop} {K:Act→World→Prop} (Y:∀d H q,pz w0 w φ O n y g A (ins S t) d H q→K H q):wpOp P z Q j K J w1:=by
 obtain ⟨Hx,Hy,a⟩:=R.sv I.nK C (fun _ b c=>nM I.vh D (by rw [nH (R.ij C)];exact c));have M:f.n0≤Hx.nx:=by rw [I.grow.n0];exact GV c a.lo
 refine ny W U X I.vh (I.rel.gD (fun b c=>a.pre b c) a.Bv M a.Bx) (Classical.not_not.1 a.out) (fun T b c=>Classical.not_not.1 (a.fresh T b c)) I.size I.defs a.run ?_;intro d v v' q Z u hv sr F2 L V;refine Y d _ q ⟨?_,?_,L,V,?_,I.grow.comp u a.lo a.hi⟩
 ·refine Z.gD (fun b _=>a.post b) a.Bw.symm ?_ a.By
  show d.n0≤(g n).nx;rw [u.n0,I.grow.n0];exact GV c (R.b6 (G3 n) (GB _))
 ·intro x
  rw [R.pv C x];exact F2 x
 ·refine ⟨fun b c=>?_,fun p B r w k b E=>?_⟩
  ·by_cases i:f.m b=none
   ·obtain ⟨l,N⟩:∃l,d.m b=some l:=by
     cases h2:d.m b with
     |none=>exact absurd h2 c
     |some l=>exact ⟨l,rfl⟩
    have s:=u.new b l i N;have F:=a.new b s.1 s.2;exact .inr ⟨t,C.lt,bH,F.1,F.2⟩
   ·rcases I.nK.nK b i with h|⟨p,B,r,h2,s⟩
    ·exact .inl h
    ·refine .inr ⟨p,B,?_,h2,s⟩
     by_cases e:p=t
     ·subst e;exact bH
     ·rw [bZ e];exact r
  ·have up:∀b,f.m b≠none→d.m b≠none:=by
    intro b h
    cases i:f.m b with
    |none=>exact absurd i h
    |some l=>rw [u.le _ _ i];simp
   by_cases e:p=t
   ·subst e
    exact up b (nM I.vh D (by rw [nH (R.ij C)];exact E))
   ·rw [bZ e]at r
    exact up b (I.nK.zk p B r w k b E)
theorem jH {d:Nat} {c:Array Oper}:∀{l:List Oper} {a:List AO},eC P d c l=some a→a.length=l.length∧∀(j:Nat) (o:Oper) (b:AO),l[j]?=some o→a[j]?=some b→qP P d c o=some b
 |[],a,h=>by
  simp [eC]at h;subst h;exact ⟨rfl,fun j o b h=>(by simp at h)⟩
 |x::l,a,h=>by
  simp only [eC]at h
  cases e:qP P d c x with
  |none=>simp [e]at h
  |some y=>
   cases h2:eC P d c l with
   |none=>simp [e,h2]at h
   |some m=>
    simp only [e,h2,Gy]at h;subst h;obtain ⟨k,i⟩:=jH h2;refine ⟨by simp [k],fun j o b f g=>?_⟩
    cases j with
    |zero=>
     simp at f g;subst f;subst g;exact e
    |succ j=>exact i j o b (by simpa using f) (by simpa using g)
theorem iS {o:Oper} {i:Nat}:i∈o8 o↔∃e∈o.after,Region.binds .any e=true∧e.on=i:=by
 unfold o8;rw [List.mem_filterMap];constructor
 ·rintro ⟨e,b,h⟩
  cases a:Region.binds .any e with
  |false=>rw [a]at h;cases h
  |true=>rw [a]at h;cases h;exact ⟨e,by simpa using b,a,rfl⟩
 ·rintro ⟨e,b,a,rfl⟩
  exact ⟨e,by simpa using b,by rw [a];rfl⟩
theorem sB (hm:P.follows .mixedOrders=true) {call:Cl} (dQ:eZ P call):nB P call:=by
 intro W id g ac hc l ck BA Q w A H H' fr aQ a h F R R0 hs hd;obtain ⟨mS,ord,hl,u0,vj⟩:=gp hc;generalize xe:dt mS (g.toList.map o8) ord []=rs at u0 vj;rw [vj]at BA;cases BA;simp only [kg,GA,nb,GK,GO]at u0;obtain ⟨⟨⟨⟨zo,Z⟩,zp⟩,zq⟩,zm⟩:=u0;obtain ⟨q8,vk⟩:=jH hl;have hn:rs.length=g.size:=by rw [Z,q8];simp
 have row:∀t,t<rs.length→∃o,g[(rowAt rs t).j]?=some o∧qP P W g o=some (rowAt rs t).o∧(rowAt rs t).dep=o8 o∧(rowAt rs t).o.o.xs.all rR=true:=by
  intro t f;have hg:=aA f;obtain ⟨d,h2,N,_⟩:=c6 ord [] t (rowAt rs t) (by rw [xe];exact hg);rw [G5]at N
  cases n:g.toList[(rowAt rs t).j]? with
  |none=>simp [n]at N
  |some o=>
   simp [n]at N;exact ⟨o,by simpa using n,vk _ o _ n d,N.symm,GO.2 (zo _ (GC hg))⟩
 have vl:∀t,t<rs.length→∀i,(rowAt rs t).m.testBit i=true→∃e∈(rowAt rs t).dep,e=i∨∃q<t,(rowAt rs q).j=e∧(rowAt rs q).m.testBit i=true:=by
  intro t f i hi;obtain ⟨_,_,_,h4⟩:=c6 ord [] t (rowAt rs t) (by rw [xe];exact aA f);obtain ⟨e,k,B⟩:=h4 i hi;refine ⟨e,k,?_⟩;rcases B with B|⟨q,s,r',h6,h7,h8⟩|B
  ·exact .inl B
  ·rw [xe]at h6
   have:rowAt rs q=r':=by unfold rowAt;rw [h6];rfl
   exact .inr ⟨q,s,by rw [this];exact h7,by rw [this];exact h8⟩
  ·simp [ib]at B
 have zr:∀t,t<rs.length→(∀q,q<t→(rowAt rs q).j≠(rowAt rs t).j)∧∀e∈(rowAt rs t).dep,∃q<t,(rowAt rs q).j=e:=by
  intro t f;obtain ⟨⟨_,d⟩,h2⟩:=gA rs [] zq t _ (aA f);refine ⟨fun q s=>d q _ s (aA (by omega)),fun e k=>?_⟩;rcases h2 e k with N|⟨q,s,r',h4,B⟩
  ·cases N
  ·exact ⟨q,s,by unfold rowAt;rw [h4];exact B⟩
 have BB:∀i,i<g.size→∃t,t<rs.length∧(rowAt rs t).j=i:=by
  intro i hi;have:=du.1 (zp i (nL (by rw [q8];simpa using hi)));obtain ⟨r,Y,e⟩:=G8.1 this;obtain ⟨t,f,e2⟩:=List.mem_iff_getElem.1 Y;refine ⟨t,f,?_⟩;unfold rowAt;rw [Gx f,Option.getD_some,e2];exact e
 have zt:∀t,t<rs.length→(rowAt rs t).j<g.size:=by
  intro t f;obtain ⟨o,n,_⟩:=row t f;exact (GM.1 n).1
 unfold mZ at h
 cases hT:dj call (rs.map (·.o)) fr H with
 |none=>simp [hT]at h
 |some J=>
  simp only [hT]at h;obtain ⟨mQ,h⟩:=aa h;simp only [GA]at mQ;have D:=sy (fun t r Y=>(c6 ord [] t r (by rw [xe];exact Y)).2.1) zm hT mQ.1 mQ.2;have jI:=(fe _ _ _ _ hT).2.1;rw [List.length_map]at jI;simp only [Gy]at h;rw [jI]at h;have D8:mT (fr,H) J rs.length=aQ:=by unfold mT;rw [h]
  have BC:kF (fr,H) J rs.length=H':=by unfold kF;rw [h]
  have D9:mT (fr,H) J 0=fr:=rfl;have v:kF (fr,H) J 0=H:=rfl;generalize mT (fr,H) J=U at*;generalize kF (fr,H) J=T at*
  have main:∀(fuel:Nat) (aE:Array Bool) (z:aq) (y:Act) (w1:World),aE.size=g.size→j8 (gY rs aE) rs.length≤fuel→
   (∀(j:Nat) (o:Oper),g[j]?=some o→aE.getD j false=true→∀e∈o8 o,aE.getD e false=true)→
   pz Q w A (fun t=>(rowAt rs t).o) rs.length U T W (gY rs aE) z y w1→
   wpAny P .any g (nz Q A w H W .normal aQ H') fuel aE y w1:=by
   have fin:∀(aE:Array Bool) (z:aq) (y:Act) (w1:World),(∀t,t<rs.length→gY rs aE t=true)→
    pz Q w A (fun t=>(rowAt rs t).o) rs.length U T W (gY rs aE) z y w1→nz Q A w H W .normal aQ H' .normal y w1:=by
    intro aE z y w1 L I;refine ⟨rfl,z,?_,?_,?_,I.size,I.defs⟩
    ·rw [←BC]
     refine I.rel.gD (fun b _=>?_) (by rw [D.um _ (GB _)];rfl) ?_ (by rw [←D.nI (GB _)];exact lq fun p c _ _=>(L p c).symm)
     ·rw [ll,←D.nJ (GB _)]
      exact ln fun p c _=>(L p c).symm
     ·rw [I.grow.n0]
      exact GV R.fM (by rw [←v];exact D.b6 (G3 _) (GB _))
    ·rw [←BC,←v];exact I.grow
    ·intro x
     rw [←D8,←D.lk (GB _)];rw [iM (S:=fun _=>true) (S':=gY rs aE) fun p c _=>(L p c).symm];exact I.vh x
   intro fuel
   induction fuel with
   |zero=>
    intro aE z y w1 X BD xf I;have L:=jG (Nat.le_zero.1 BD);refine ⟨?_,fin aE z y w1 L I⟩;rw [List.eq_nil_iff_forall_not_mem];intro i hi;obtain ⟨h0,o,n,_⟩:=mem_ready.1 hi;obtain ⟨t,f,rfl⟩:=BB i (GM.1 n).1;have d:=L t f;unfold gY at d;have K:(rowAt rs t).j<aE.size:=by rw [X];exact zt t f
    simp [K]at h0 d;rw [h0]at d;cases d
   |succ fuel ih=>
    intro aE z y w1 X BD xf I;refine ⟨fun Y=>?_,fun i hi=>?_⟩
    ·refine fin aE z y w1 ?_ I
     intro t
     induction t using Nat.strongRecOn with
     |_ t Ea=>
      intro f
      cases u:gY rs aE t with
      |true=>rfl
      |false=>
       exfalso;obtain ⟨o,n,_,sC,_⟩:=row t f
       have:(rowAt rs t).j∈Region.ready .any g aE:=by
        refine mem_ready.2 ⟨?_,o,n,fun e k hb=>?_⟩
        ·have K:(rowAt rs t).j<aE.size:=by rw [X];exact zt t f
         unfold gY at u;simp [K]at u⊢;exact u
        ·obtain ⟨q,s,e2⟩:=(zr t f).2 e.on (by rw [sC];exact iS.2 ⟨e,k,hb,rfl⟩)
         have:=Ea q s (by omega);unfold gY at this;rw [e2]at this;exact this
       rw [Y]at this;cases this
    ·obtain ⟨h0,o',zu,q9⟩:=mem_ready.1 hi
     obtain ⟨t,f,rfl⟩:=BB i (GM.1 zu).1;obtain ⟨o,n,zw,sC,hx⟩:=row t f;rw [n]at zu;cases zu;have K:(rowAt rs t).j<aE.size:=by rw [X];exact zt t f
     have vc:gY rs aE t=false:=by
      unfold gY;simp [K]at h0⊢;exact h0
     have closed:∀q,q<rs.length→(∀e∈(rowAt rs q).dep,aE.getD e false=true)→∀i,(rowAt rs q).m.testBit i=true→aE.getD i false=true:=by
      intro q
      induction q using Nat.strongRecOn with
      |_ q Eb=>
       intro s xg i hi;obtain ⟨e,k,B⟩:=vl q s i hi;rcases B with rfl|⟨p,c,h6,h7⟩
       ·exact xg _ k
       ·refine Eb p c (by omega) (fun e' Ec=>?_) i h7
        obtain ⟨op,gV,_,zi,_⟩:=row p (by omega);exact xf _ op gV (by rw [h6];exact xg e k) e' (by rw [←zi];exact Ec)
     have C:vb rs.length (vg rs) (gY rs aE) t:=by
      refine ⟨f,vc,fun p c ha=>?_,fun p q jF s Ed ha=>?_⟩
      ·refine closed t f (fun e k=>?_) _ ha
       rw [sC]at k;obtain ⟨ed,d,h2,rfl⟩:=iS.1 k;exact q9 ed d h2
      ·refine closed q s (fun e k=>?_) _ ha
       obtain ⟨oq,Ee,_,xg,_⟩:=row q s;exact xf _ oq Ee Ed e (by rw [←xg];exact k)
     have M:∀p,p<rs.length→gY rs (aE.setIfInBounds (rowAt rs t).j true) p=ins (gY rs aE) t p:=by
      intro p c;unfold gY;by_cases e:p=t
      ·subst e
       rw [bH];simp [K]
      ·rw [bZ e]
       refine getD_set_ne false ?_;rcases Nat.lt_or_gt_of_ne e with d|d
       ·exact fun h2=>(zr t f).1 p d h2.symm
       ·exact (zr p c).1 t d
     refine vi (O:=fun t=>(rowAt rs t).o) dQ D (by rw [v];exact R.fM) C I n zw hx ?_;intro dD a2 w2 E;refine ih _ dD a2 w2 (by simp [X]) ?_ ?_ ?_
     ·have d:=lv vc f
      have h2:j8 (gY rs (aE.setIfInBounds (rowAt rs t).j true)) rs.length≤j8 (ins (gY rs aE) t) rs.length:=
       iR fun p c h=>by rw [M p c];exact h
      omega
     ·intro j oj zx hj e k
      by_cases ej:(rowAt rs t).j=j
      ·subst ej
       rw [n]at zx;cases zx;obtain ⟨ed,d,h2,rfl⟩:=iS.1 k;exact getD_set_true (q9 ed d h2)
      ·rw [getD_set_ne false ej]at hj
       exact getD_set_true (xf j oj zx hj e k)
     ·have eF:∀x,(iL (fun t=>(rowAt rs t).o) U (gY rs (aE.setIfInBounds (rowAt rs t).j true)) rs.length).get x=(iL (fun t=>(rowAt rs t).o) U (ins (gY rs aE) t) rs.length).get x:=
       fun x=>iM fun p c _=>M p c
      refine ⟨E.rel.gD (fun b _=>ln fun p c _=>M p c) rfl E.rel.fM (lq fun p c _ _=>M p c),fun x=>by rw [eF];exact E.vh x,E.size,E.defs,⟨fun b hb=>?_,fun p c u=>?_⟩,E.grow⟩
      ·rcases E.nK.nK b hb with d|⟨p,c,u,h2⟩
       ·exact .inl d
       ·exact .inr ⟨p,c,by rw [M p c];exact u,h2⟩
      ·rw [M p c]at u
       exact E.nK.zk p c u
  refine wp_region_any hm ?_
  have xh:∀t,gY rs (Array.replicate g.size false) t=false:=by
   intro t;unfold gY;by_cases h:(rowAt rs t).j<g.size<;>simp [h]
  refine main g.size _ A a _ (by simp) ?_ ?_ ?_
  ·rw [←hn]
   have:j8 (gY rs (Array.replicate g.size false)) rs.length≤j8 (fun _=>false) rs.length:=iR fun p _ h=>by cases h
   rw [py]at this;rwa [hn]at this⊢
  ·intro j o _ h
   exfalso;by_cases h2:j<g.size<;>simp [h2]at h
  ·have R':Rel Q A H {w with drawn:=w.drawn+1}:=R.drew rfl rfl rfl rfl
   refine ⟨R'.gD (fun b _=>?_) (by show(T 0).n0=_;rw [v]) ?_ ?_,fun x=>?_,hs,hd,⟨fun b hb=>.inl ?_,fun p c u=>?_⟩,?_⟩
   ·rw [ll,fO (t:=0) (G3 _)]
    ·show(T 0).raw b=_;rw [v]
    ·intro p _ _ h;rw [xh]at h;cases h
   ·refine GV R.fM ?_
    rw [←v];exact D.b6 (G3 _) (GB _)
   ·show gB _ _ _ _ _=_
    rw [iN (t:=0) (G3 _)]
    ·show(T 0).bs=_;rw [v]
    ·intro p _ _ h;rw [xh]at h;cases h
   ·rw [gv (t:=0) (G3 _)]
    ·show V A ((U 0).get x) _;rw [D9];exact F x
    ·intro p _ _ h;rw [xh]at h;cases h
   ·rw [v]
    rcases Nat.lt_or_ge b H.nx with d|d
    ·exact d
    ·exact absurd (R0 b d) hb
   ·rw [xh]at u;cases u
   ·have G:a6 A H w A H {w with drawn:=w.drawn+1}:=a6.of_heap rfl
    rw [v];refine ⟨G.le,G.n0,G.c0,?_,fun b l d h2=>(by rw [d]at h2;cases h2),G.size⟩;rw [←v];exact D.b6 (G3 _) (GB _)
end
end
section
open Go Go.RowKit
section
variable{P:Program}
def ff (tmps:Array Value):ResultVar→Sem Value
 | .tmp t=>pure (tmps.getD t undef)
 | .cell a t=>do loadVar t (←asAddr (tmps.getD a undef))
theorem iT (fn:Func) (tmps:Array Value):results fn tmps=(do
 let vs←fn.results.toList.mapM (ff tmps)
 pure (if h:vs.toArray.size=1 then vs.toArray[0]else .tuple vs.toArray)):=by
 have e:results fn tmps=(do
  let vs←fn.results.mapM (ff tmps)
  pure (if h:vs.size=1 then vs[0]else .tuple vs)):=rfl
 rw [e,Array.mapM_eq_mapM_toList];simp
theorem fQ {w0 w:World} {φ:aq} {H:AH} {g:Fr} {a:Act} (F:dn φ g a) (R:Rel w0 φ H w):∀(l:List ResultVar) (m:List RS) (vs:List Value),jy P l=some m→RS.all g H m=some vs→
 ∃e,(l.mapM (ff a.tmps)).run P w= .ok e w∧VL φ vs e
 |[],m,vs,c,h=>by
  simp [jy]at c;subst c;simp [RS.all]at h;subst h;exact ⟨[],by simp,.nil⟩
 | .tmp t::l,m,vs,c,h=>by
  simp only [jy,GI]at c;obtain ⟨f,k,rfl⟩:=c;simp only [RS.all,RS.get]at h
  cases b:RS.all g H f with
  |none=>simp [b]at h
  |some us=>
   simp only [b,Gy]at h;subst h;obtain ⟨e,o,h2⟩:=fQ F R l f us k b;refine ⟨a.tmps.getD t undef::e,?_,.cons (F t) h2⟩;simp [List.mapM_cons,ff,o]
 | .cell t ty::l,m,vs,c,h=>by
  simp only [jy]at c;split at c
  ·rename_i n f r B k
   cases c;simp only [RS.all,RS.get]at h;cases j:g.get t<;>simp [j]at h;rename_i p;cases p<;>simp at h;rename_i z
   cases d:H.ldn z n with
   |none=>simp [d]at h
   |some ws=>
    cases b:RS.all g H f with
    |none=>simp [d,b]at h
    |some us=>
     simp [d,b]at h;subst h;obtain ⟨e,o,h2⟩:=fQ F R l f us k b;have i:=F t;rw [j]at i;obtain ⟨q,A,y,u,s,G,E⟩:=m9 R i d;have C:=run_loadCells_list (P:=P) w q A E;rw [u]at C;refine ⟨.agg A.toArray::e,?_,.cons (.agg (by simpa using s) (by simpa using G)) h2⟩;have x:a.tmps.getD t undef= .pointer (some q):=y;simp only [List.mapM_cons,ff,x];simp [asAddr,loadVar,cP r,aF B,C,o]
  ·rename_i n f r B k
   cases c;simp only [RS.all,RS.get]at h;cases j:g.get t<;>simp [j]at h;rename_i p;cases p<;>simp at h;rename_i z
   cases d:H.ld z with
   |none=>simp [d]at h
   |some v=>
    cases b:RS.all g H f with
    |none=>simp [d,b]at h
    |some us=>
     simp [d,b]at h;subst h;obtain ⟨e,o,h2⟩:=fQ F R l f us k b;have i:=F t;rw [j]at i;obtain ⟨q,D,y,u,s⟩:=qR R i d;refine ⟨D::e,?_,.cons s h2⟩;have x:a.tmps.getD t undef= .pointer (some q):=y;simp only [List.mapM_cons,ff,x];simp [asAddr,loadVar,cP r,u,o]
  ·cases c
theorem fC {w0 w:World} {φ:aq} {H:AH} {b:Fr} {a:Act} (F:dn φ b a) (R:Rel w0 φ H w) {fn:Func} {m:List RS} {vs:List Value} (c:jy P fn.results.toList=some m) (h:RS.all b H m=some vs):
 ∃v',(results fn a.tmps).run P w= .ok v' w∧V φ (fu vs) v':=by
 obtain ⟨e,d,h2⟩:=fQ F R _ _ _ c h;rw [iT];simp only [Sem.run_bind,d,Result.andThen_ok,Sem.run_pure]
 cases h2 with
 |nil=>exact ⟨_,rfl,.tuple .nil⟩
 |cons x y=>
  cases y with
  |nil=>exact ⟨_,rfl,x⟩
  |cons y z=>
   refine ⟨_,rfl,?_⟩;simp only [List.size_toArray,List.length_cons];rw [dif_neg (by omega)];exact .tuple (.cons x (.cons y z))
theorem Fr.gE:∀(l:List Value) (i:Nat) (f:Fr) (t:Nat),(Fr.fZ i l f).get t=if i≤t∧t<i+l.length then l.getD (t- i) undef else f.get t
 |[],i,f,t=>by
  simp only [Fr.fZ,List.length_nil];rw [if_neg (by omega)]
 |v::l,i,f,t=>by
  simp only [Fr.fZ,List.length_cons];rw [Fr.gE l,Fr.aD];by_cases a:t=i
  ·subst a
   rw [if_neg (by omega),if_pos rfl,if_pos (by omega)];simp
  ·by_cases h2:i+1≤t∧t<i+1+l.length
   ·rw [if_pos h2,if_pos (by omega)]
    obtain ⟨k,b⟩:∃k,t- i=k+1:=⟨t- i- 1,by omega⟩
    rw [b,show t- (i+1)=k by omega];simp
   ·rw [if_neg h2,if_neg a,if_neg (by omega)]
theorem Fr.get_nil (t:Nat):(⟨.nil⟩:Fr).get t=undef:=by
 unfold Fr.get;cases t<;>rfl
theorem Fr.bA (l:List Value) (t:Nat):(Fr.of l).get t=l.getD t undef:=by
 unfold Fr.of;rw [Fr.gE,Fr.get_nil];split
 ·rfl
 ·rename_i h
  simp only [List.getD_eq_getElem?_getD];rw [Hh (by omega)];rfl
theorem jJ {φ:aq} {as:List Value} {as':Array Value} (k:Nat) (h:VL φ as as'.toList) (t:Nat):V φ ((Fr.of as).get t) ((as'++Array.replicate k undef).getD t undef):=by
 rw [Fr.bA];have f:=h.length;simp only [List.getD_eq_getElem?_getD]
 cases b:as[t]? with
 |some v=>
  obtain ⟨v',e,c⟩:=h.get t v b
  have d:t<as'.size:=by
   have:=(GD.1 e).1
   simpa using this
  have a:(as'++Array.replicate k undef).getD t undef=v':=by
   rw [Array.getD_eq_getD_getElem?,Array.getElem?_append_left d];simp only [Array.getElem?_toList]at e;rw [e];rfl
  rw [a];exact c
 |none=>
  have g:=List.getElem?_eq_none_iff.1 b
  have a:(as'++Array.replicate k undef).getD t undef=undef:=by
   rw [Array.getD_eq_getD_getElem?,Array.getElem?_append_right (by rw [←Array.length_toList,←f];exact g)];rw [Array.getElem?_replicate];split<;>rfl
  rw [a];exact gf _
def jK (P:Program) (E:Env):Prop:=∀f F,E f=some F→∃fn,P.funcs[f]?=some fn∧ab P fn=some F
abbrev dw:=Nat→Option (List Value→AH→Option (Value×AH))
def jL (P:Program) (O:dw):Prop:=∀f g,O f=some g→∀as H v H',g as H=some (v,H')→ku P f∧sq P f as H v H'
theorem iU (D:P.follows .mixedOrders=true) {E:Env} {O:dw} (K:jK P E) (J:jL P O):∀n,eZ P (bK E O n)
 |0=>fun f as H v N h=>by simp [bK]at h
 |n+1=>fun f as H v N h=>by
  have ih:=iU D K J n;simp only [bK]at h
  cases s:O f with
  |some g=>
   simp only [s]at h;exact J f g s as H v N h
  |none=>
   simp only [s]at h
   cases u:E f with
   |none=>simp [u]at h
   |some F=>
    simp only [u]at h;obtain ⟨b,h⟩:=aa h;obtain ⟨fn,G,d⟩:=K f F u;unfold ab at d
    cases o:fn.body with
    |none=>simp [o]at d
    |some c=>
     simp only [o]at d;split at d
     case h_2=>cases d
     rename_i x r U B;split at d
     case isTrue=>cases d
     rename_i C;cases d;simp only [Bool.or_eq_true,not_or,Bool.not_eq_true,decide_eq_false_iff_not,Nat.not_lt]at C;refine ⟨⟨fn,G,by rw [o];rfl,C.1⟩, ?_⟩;intro w0 φ w k R W A;refine calls_of_wp G o ?_
     have Y:k.size=fn.params.size+fn.nfree:=by
      have:=A.length;rw [nb]at b;simp at b this;omega
     cases m:ah (bK E O n) n x (Fr.of as) H with
     |none=>simp [m]at h
     |some q=>
      obtain ⟨ex,L,M⟩:=q;have V:=pr ih (sB D ih) n c x (w0:=w0) (w:=w) (φ:=φ) (a:={tmps:=k++Array.replicate (fn.ntmps- k.size) undef,defers:=[]}) U m (fun t=>jJ _ A t) R W (by simp;omega) rfl;refine wp_mono V ?_;rintro e a2 X ⟨rfl,z,p,Q,S,Z,I⟩
      cases ex with
      |exit i=>simp [m]at h
      |normal=>
       simp only [m]at h
       cases j:RS.all L M r with
       |none=>simp [j]at h
       |some T=>
        simp only [j,Gy,GG]at h;obtain ⟨rfl,rfl⟩:=h;obtain ⟨l,y,h2⟩:=fC S p B j;exact ⟨I,l,y,z,l,rfl,h2,p,Q⟩
      |ret=>
       simp only [m]at h
       cases j:RS.all L M r with
       |none=>simp [j]at h
       |some T=>
        simp only [j,Gy,GG]at h;obtain ⟨rfl,rfl⟩:=h;obtain ⟨l,y,h2⟩:=fC S p B j;exact ⟨I,l,y,z,l,rfl,h2,p,Q⟩
end
end
section
open Go
def my (c d:Cl):Prop:=∀f as H r,c f as H=some r→d f as H=some r
theorem fR {c d:Cl} (h:my c d) {o:AO} {g:Fr} {H:AH} {r:Fr×AH} (k:cU c o g H=some r):cU d o g H=some r:=by
 obtain ⟨j,l⟩:=r;obtain ⟨x,e,k⟩:=bh.1 k;refine bh.2 ⟨x,e,?_⟩
 cases k with
 |off a b c=>exact .off a b c
 |val a b=>exact .val a b
 |call a f as i b c=>exact .call a f as i b (h _ _ _ _ c)
theorem iV {c d:Cl} (h:my c d):∀{l:List AO} {a:Fr} {H:AH} {r:Fr×AH},ops c l a H=some r→ops d l a H=some r
 |[],a,H,r,k=>k
 |o::l,a,H,r,k=>by
  simp only [ops]at k⊢
  cases b:cU c o a H with
  |none=>simp [b]at k
  |some q=>
   rw [fR h b];simp only [b]at k;exact iV h k
theorem fS {c d:Cl} (h:my c d):∀{l:List AO} {a:Fr} {H:AH} {r:List (Fr×AH)},dj c l a H=some r→dj d l a H=some r
 |[],a,H,r,k=>k
 |o::l,a,H,r,k=>by
  simp only [dj]at k⊢
  cases b:cU c o a H with
  |none=>simp [b]at k
  |some q=>
   rw [fR h b];simp only [b]at k⊢
   cases h2:dj c l q.1 q.2 with
   |none=>simp [h2]at k
   |some e=>rw [fS h h2];simpa [h2]using k
theorem bj {c d:Cl} (h:my c d):∀{n:Nat} {a:AC} {f:Fr} {H:AH} {r:Ex×Fr×AH},ah c n a f H=some r→ah d n a f H=some r:=by
 intro n
 induction n with
 |zero=>intro a f H r k;simp [ah]at k
 |succ n ih=>
  intro a f H r k
  cases a with
  |aC l=>
   simp only [ah]at k⊢
   cases e:ops c l f H with
   |none=>simp [e]at k
   |some q=>rw [iV h e];simpa [e]using k
  |ai l o=>
   simp only [ah,mZ]at k⊢
   cases e:dj c l f H with
   |none=>simp [e]at k
   |some q=>rw [fS h e];simpa [e]using k
  |seq a b=>
   simp only [ah]at k⊢
   cases e:ah c n a f H with
   |none=>simp [e]at k
   |some q=>
    rw [ih e];obtain ⟨ex,g,j⟩:=q
    cases ex<;>simp only [e]at k⊢<;>first
     |exact ih k
     |exact k
  |cond x a b=>
   simp only [ah]at k⊢
   cases m:x.ev f<;>simp only [m]at k⊢<;>first
    |(cases k;done)
    |skip
   rename_i t;cases t<;>exact ih k
  |block i a=>
   simp only [ah]at k⊢
   cases e:ah c n a f H with
   |none=>simp [e]at k
   |some q=>
    rw [ih e];obtain ⟨ex,g,j⟩:=q;cases ex<;>simp only [e]at k⊢<;>exact k
  |loop a=>
   simp only [ah]at k⊢
   cases e:ah c n a f H with
   |none=>simp [e]at k
   |some q=>
    rw [ih e];obtain ⟨ex,g,j⟩:=q
    cases ex<;>simp only [e]at k⊢<;>first
     |exact ih k
     |exact k
  |_=>simpa only [ah]using k
theorem ik {E:Env} {O:dw}:∀n,my (bK E O n) (bK E O (n+1))
 |0=>fun f as H r k=>by simp [bK]at k
 |n+1=>fun f as H r k=>by
  have ih:=ik (E:=E) (O:=O) n;rw [bK]at k⊢
  cases b:O f with
  |some g=>simpa [b]using k
  |none=>
   simp only [b]at k⊢
   cases c:E f with
   |none=>simp [c]at k
   |some F=>
    simp only [c]at k⊢;obtain ⟨d,k⟩:=aa k;rw [d,cond_true]
    cases a:ah (bK E O n) n F.body (Fr.of as) H with
    |none=>simp [a]at k
    |some q=>
     rw [eg (G0 n) (bj ih a)]
     simpa [a]using k
theorem aW {E:Env} {O:dw} {n m:Nat} (h:n≤m):my (bK E O n) (bK E O m):=by
 induction m with
 |zero=>obtain rfl:n=0:=by omega
        exact fun _ _ _ _ k=>k
 |succ m ih=>
  rcases Nat.lt_or_eq_of_le h with a|a
  · exact fun f as H r k=>ik m f as H r (ih (by omega) f as H r k)
  · subst a;exact fun _ _ _ _ k=>k
section
variable(E:Env) (O:dw)
def Ca (f:Nat) (as:List Value) (H:AH) (Q:Value→AH→Prop):Prop:=∃n x H',bK E O n f as H=some (x,H')∧Q x H'
def Wp (c:AC) (fr:Fr) (H:AH) (Q:Ex→Fr→AH→Prop):Prop:=∃n ex aQ H',ah (bK E O n) n c fr H=some (ex,aQ,H')∧Q ex aQ H'
def gZ (o:AO) (fr:Fr) (H:AH) (Q:Fr→AH→Prop):Prop:=∃n aQ H',cU (bK E O n) o fr H=some (aQ,H')∧Q aQ H'
def Wo (l:List AO) (fr:Fr) (H:AH) (Q:Fr→AH→Prop):Prop:=∃n aQ H',ops (bK E O n) l fr H=some (aQ,H')∧Q aQ H'
def Wt (l:List AO) (fr:Fr) (H:AH) (Q:List (Fr×AH)→Prop):Prop:=∃n ss,dj (bK E O n) l fr H=some ss∧Q ss
variable{E O}
theorem Ca.mono {f:Nat} {as:List Value} {H:AH} {Q Q':Value→AH→Prop} (h:Ca E O f as H Q) (k:∀x a,Q x a→Q' x a):Ca E O f as H Q':=
 let⟨n,x,a,e,q⟩:=h;⟨n,x,a,e,k _ _ q⟩
theorem Wp.mono {c:AC} {d:Fr} {H:AH} {Q Q':Ex→Fr→AH→Prop} (h:Wp E O c d H Q) (k:∀ex a b,Q ex a b→Q' ex a b):Wp E O c d H Q':=
 let⟨n,x,a,b,e,q⟩:=h;⟨n,x,a,b,e,k _ _ _ q⟩
theorem eJ {n m:Nat} (h:n≤m) {c:AC} {a:Fr} {H:AH} {r:Ex×Fr×AH} (k:ah (bK E O n) n c a H=some r):ah (bK E O m) m c a H=some r:=
 eg h (bj (aW h) k)
theorem Wp.skip {a:Fr} {H:AH} {Q:Ex→Fr→AH→Prop} (h:Q .normal a H):Wp E O .skip a H Q:=⟨1,_,_,_,rfl,h⟩
theorem Wp.ret {a:Fr} {H:AH} {Q:Ex→Fr→AH→Prop} (h:Q .ret a H):Wp E O .ret a H Q:=⟨1,_,_,_,rfl,h⟩
theorem Wp.exit {i:Nat} {a:Fr} {H:AH} {Q:Ex→Fr→AH→Prop} (h:Q (.exit i) a H):Wp E O (.exit i) a H Q:=⟨1,_,_,_,rfl,h⟩
def sG (k:Fr→AH→Prop) (Q:Ex→Fr→AH→Prop):Ex→Fr→AH→Prop
 | .normal,fr,H=>k fr H
 |ex,fr,H=>Q ex fr H
theorem Wp.seq {a b:AC} {d:Fr} {H:AH} {Q:Ex→Fr→AH→Prop} (h:Wp E O a d H (sG (fun k r=>Wp E O b k r Q) Q)):Wp E O (.seq a b) d H Q:=by
 obtain ⟨n,ex,c,f,e,q⟩:=h
 cases ex with
 |normal=>
  obtain ⟨m,l,j,p,o,g⟩:=q;refine ⟨max n m+1,l,j,p,?_,g⟩;simp only [ah];rw [bj (aW (G0 _)) (eJ (Nat.le_max_left n m) e)];exact bj (aW (G0 _)) (eJ (Nat.le_max_right n m) o)
 |exit i=>
  refine ⟨n+1,_,c,f,?_,q⟩;simp only [ah];rw [bj (aW (G0 _)) e]
 |ret=>
  refine ⟨n+1,_,c,f,?_,q⟩;simp only [ah];rw [bj (aW (G0 _)) e]
theorem Wp.cond {x:X} {a b:AC} {c:Fr} {H:AH} {Q:Ex→Fr→AH→Prop} {t:Bool} (d:x.ev c= .bool t) (h:Wp E O (bif t then a else b) c H Q):Wp E O (.cond x a b) c H Q:=by
 obtain ⟨n,ex,f,g,e,q⟩:=h;refine ⟨n+1,ex,f,g,?_,q⟩;simp only [ah,d];cases t<;>exact bj (aW (G0 _)) e
def nN (i:Nat) (Q:Ex→Fr→AH→Prop):Ex→Fr→AH→Prop
 | .exit j,fr,H=>if j=i then Q .normal fr H else Q (.exit j) fr H
 |ex,fr,H=>Q ex fr H
theorem Wp.block {i:Nat} {a:AC} {g:Fr} {H:AH} {Q:Ex→Fr→AH→Prop} (h:Wp E O a g H (nN i Q)):Wp E O (.block i a) g H Q:=by
 obtain ⟨n,ex,c,f,e,q⟩:=h;have d:=bj (aW (G0 n)) e
 cases ex with
 |normal=>exact ⟨n+1,_,c,f,by simp only [ah];rw [d],q⟩
 |ret=>exact ⟨n+1,_,c,f,by simp only [ah];rw [d],q⟩
 |exit j=>
  simp only [nN]at q;by_cases b:j=i
  ·rw [if_pos b]at q
   refine ⟨n+1,_,c,f,?_,q⟩;simp only [ah];rw [d];simp [nb,b]
  ·rw [if_neg b]at q
   refine ⟨n+1,_,c,f,?_,q⟩;simp only [ah];rw [d];simp [nb,b]
theorem Wp.vm {a:AC} {c:Fr} {H:AH} {Q:Ex→Fr→AH→Prop} (h:Wp E O a c H (sG (fun j p=>Wp E O (.loop a) j p Q) Q)):Wp E O (.loop a) c H Q:=by
 obtain ⟨n,ex,b,d,e,q⟩:=h
 cases ex with
 |normal=>
  obtain ⟨m,k,g,o,l,f⟩:=q;refine ⟨max n m+1,k,g,o,?_,f⟩;simp only [ah];rw [bj (aW (G0 _)) (eJ (Nat.le_max_left n m) e)];exact bj (aW (G0 _)) (eJ (Nat.le_max_right n m) l)
 |exit i=>
  refine ⟨n+1,_,b,d,?_,q⟩;simp only [ah];rw [bj (aW (G0 _)) e]
 |ret=>
  refine ⟨n+1,_,b,d,?_,q⟩;simp only [ah];rw [bj (aW (G0 _)) e]
theorem Wp.loop {a:AC} {Q:Ex→Fr→AH→Prop} (I:Nat→Fr→AH→Prop) (step:∀k b H,I k b H→Wp E O a b H (sG (fun c d=>∃j,j<k∧I j c d) Q)) (k:Nat) {b:Fr} {H:AH} (h:I k b H):Wp E O (.loop a) b H Q:=by
 induction k using Nat.strongRecOn generalizing b H with
 |_ k ih=>
  refine Wp.vm ((step k b H h).mono ?_);intro ex c d q
  cases ex with
  |normal=>obtain ⟨j,e,f⟩:=q;exact ih j e f
  |exit i=>exact q
  |ret=>exact q
theorem Wp.aC {l:List AO} {a:Fr} {H:AH} {Q:Ex→Fr→AH→Prop} (h:Wo E O l a H (Q .normal)):Wp E O (.aC l) a H Q:=by
 obtain ⟨n,b,c,e,q⟩:=h;refine ⟨n+1,_,b,c,?_,q⟩;simp only [ah];rw [iV (aW (G0 _)) e]
theorem Wo.nil {a:Fr} {H:AH} {Q:Fr→AH→Prop} (h:Q a H):Wo E O [] a H Q:=⟨0,a,H,rfl,h⟩
theorem Wo.cons {o:AO} {l:List AO} {a:Fr} {H:AH} {Q:Fr→AH→Prop} (h:gZ E O o a H (fun c g=>Wo E O l c g Q)):Wo E O (o::l) a H Q:=by
 obtain ⟨n,i,j,e,m,b,f,d,q⟩:=h;refine ⟨max n m,b,f,?_,q⟩;simp only [ops];rw [fR (aW (Nat.le_max_left n m)) e];exact iV (aW (Nat.le_max_right n m)) d
theorem gZ.val {o:AO} {a:Fr} {H b:AH} {x:Value} {Q:Fr→AH→Prop} (c:o.wanted a=true) (h:au o.o (X.ev a) H=some (.v x,b)) (q:Q (a.al o.d x) b):gZ E O o a H Q:=
 ⟨0,_,_,bh.2 ⟨x,rfl,.val c h⟩,q⟩
theorem gZ.off {o:AO} {a:Fr} {H:AH} {Q:Fr→AH→Prop} (b:o.wanted a=false) (q:Q (a.al o.d undef) H):gZ E O o a H Q:=
 ⟨0,_,_,bh.2 ⟨undef,rfl,.off b rfl rfl⟩,q⟩
theorem gZ.call {o:AO} {a:Fr} {H H1:AH} {f:Nat} {as:List Value} {Q:Fr→AH→Prop} (c:o.wanted a=true) (h:au o.o (X.ev a) H=some (.enter f as,H1)) (q:Ca E O f as H1 (fun x b=>Q (a.al o.d x) b)):gZ E O o a H Q:=by
 obtain ⟨n,x,b,e,q⟩:=q;exact ⟨n,_,_,bh.2 ⟨x,rfl,.call c f as H1 h e⟩,q⟩
theorem Wp.ai {l:List AO} {ck:List (Nat×Nat×Nat)} {a:Fr} {H:AH} {Q:Ex→Fr→AH→Prop}
 (h:Wt E O l a H (fun b=>(chain ((a,H)::b)=true∧ck.all (iA l ((a,H)::b))=true)∧Q .normal (da (a,H) b).1 (da (a,H) b).2)):Wp E O (.ai l ck) a H Q:=by
 obtain ⟨n,b,e,⟨c,h2⟩,q⟩:=h;refine ⟨n+1,_,_,_,?_,q⟩;simp only [ah,mZ];rw [fS (aW (G0 _)) e];simp [c,h2]
theorem Wt.nil {a:Fr} {H:AH} {Q:List (Fr×AH)→Prop} (h:Q []):Wt E O [] a H Q:=⟨0,[],rfl,h⟩
theorem Wt.cons {o:AO} {l:List AO} {c:Fr} {H:AH} {Q:List (Fr×AH)→Prop} (h:gZ E O o c H (fun b d=>Wt E O l b d (fun a=>Q ((b,d)::a)))):Wt E O (o::l) c H Q:=by
 obtain ⟨n,g,i,e,m,a,f,q⟩:=h;refine ⟨max n m,_,?_,q⟩;simp only [dj];rw [fR (aW (Nat.le_max_left n m)) e];simp only;rw [fS (aW (Nat.le_max_right n m)) f]
def sI (r:List RS) (Q:Value→AH→Prop):Ex→Fr→AH→Prop
 | .exit _,_,_=>False
 |_,fr,H=>∃vs,RS.all fr H r=some vs∧Q (fu vs) H
theorem Ca.body {f:Nat} {F:AF} {as:List Value} {H:AH} {Q:Value→AH→Prop} (b:O f=none) (d:E f=some F) (c:as.length=F.np) (h:Wp E O F.body (Fr.of as) H (sI F.res Q)):Ca E O f as H Q:=by
 obtain ⟨n,ex,j,k,e,q⟩:=h
 cases ex with
 |exit i=>exact q.elim
 |normal=>
  obtain ⟨g,a,q⟩:=q;refine ⟨n+1,_,_,?_,q⟩;simp only [bK,b,d];rw [nb,decide_eq_true c,cond_true,e];simp [a]
 |ret=>
  obtain ⟨g,a,q⟩:=q;refine ⟨n+1,_,_,?_,q⟩;simp only [bK,b,d];rw [nb,decide_eq_true c,cond_true,e];simp [a]
theorem Ca.Ef {f:Nat} {g:List Value→AH→Option (Value×AH)} {as:List Value} {H a:AH} {x:Value} {Q:Value→AH→Prop} (b:O f=some g) (h:g as H=some (x,a)) (q:Q x a):Ca E O f as H Q:=
 ⟨1,x,a,by simp [bK,b,h],q⟩
end
end
section
open Go Go.RowKit
def il (W:World) (b:Nat):Option hC:=match W.heap[b]? with
 |some (.cells cs _ _)=>some (.cells 1048576 cs.toList)
 |_=>none
def H0 (W:World):AH:=⟨il W,W.heap.size,W.heap.size,.nil,none⟩
def gF (W:World):aq:=⟨W.heap.size,W.heap.size,fun b=>if b<W.heap.size then some ⟨b,0,0,1⟩else none⟩
theorem kG (W:World) (b:Nat):(H0 W).raw b=il W b:=rfl
theorem zA (W:World):∀b,b<(gF W).n0→(gF W).m b=some ⟨b,0,0,1⟩:=fun b a=>if_pos a
theorem zB {W:World} (i:me W):Rel W (gF W) (H0 W) W where
 n0:=rfl
 gT:=GB _
 fM:=GB _
 c0:=rfl
 below:=Below.refl _ _
 cv:=fun b c=>if_pos c
 de:=fun b z cs c a=>by
  rw [kG]at a;unfold il at a;split at a
  ·rename_i p e j g
   cases a;exact ⟨e,j,by rw [g]⟩
  ·cases a
 cells:=fun b l z cs c d a=>by
  have:¬ b<W.heap.size:=Nat.not_lt.2 c;simp only [gF,if_neg this]at d;cases d
 maps:=fun b l es c d a=>by
  have:¬ b<W.heap.size:=Nat.not_lt.2 c;simp only [gF,if_neg this]at d;cases d
 inj:=fun k q n m h o f h2 _ _ _=>by
  have:¬ k<W.heap.size:=Nat.not_lt.2 h;simp only [gF,if_neg this]at f;cases f
 hG:=fun b s e=>by cases e
 jB:=i
theorem sJ (W:World):fw (gF W) (H0 W):=fun b a=>if_neg (Nat.not_lt.2 a)
theorem jN {P:Program} {E:Env} {O:dw} {W:World} (d:me W) (b:P.follows .mixedOrders=true) (i:jK P E) (g:jL P O) {f:Nat} {as:List Value} {as':Array Value} (a:VL (gF W) as as'.toList)
 (h:Ca E O f as (H0 W) (fun x _=>x= .bool true)):Calls P f as' W fun e w'=>e= .returned (.bool true)∧Below W.heap.size W w':=by
 obtain ⟨n,x,l,e,rfl⟩:=h;refine ((iU b i g n f as _ _ _ e).2 W (gF W) W as' (zB d) (sJ W) a).mono ?_;rintro e w' ⟨j,k,rfl,c,R,G⟩;rw [c.bool];exact ⟨rfl,R.below⟩
def Good (P:Program) (f:Nat) (F:AF):Prop:=∃fn,P.funcs[f]?=some fn∧ab P fn=some F
def kH (P:Program) (g:Nat→Nat) (t:T (Option AF)):Prop:=∀k F,t.get none k=some F→Good P (g k) F
theorem kH.nil {P:Program} {g:Nat→Nat}:kH P g .nil:=fun k F h=>by cases k<;>cases h
theorem kH.node {P:Program} {g:Nat→Nat} {v:Option AF} {l r:T (Option AF)} (h:∀F,v=some F→Good P (g 0) F) (c:kH P (fun k=>g (2*k+1)) l) (b:kH P (fun k=>g (2*k+2)) r):kH P g (.node v l r):=by
 intro k F a;simp only [T.get,nb,Bool.cond_decide]at a;split at a
 ·rename_i e
  subst e;exact h F a
 ·split at a
  ·have:=c _ F a
   simp only at this;rwa [show 2*(k/2)+1=k by omega]at this
  ·have:=b _ F a
   simp only at this;rwa [show 2*(k/2- 1)+2=k by omega]at this
open Go Go.RowKit
theorem Rel.vn {w0 w w':World} {φ:aq} {H:AH} (R:Rel w0 φ H w) (B:Below w.heap.size w w'):Rel w0 φ H w' where
 n0:=R.n0
 gT:=R.gT
 fM:=R.fM
 c0:=R.c0
 below:=⟨B.os.trans R.below.os,B.tape.trans R.below.tape,B.output.trans R.below.output,GV R.below.size B.size,fun k i=>(B.block k (GW i R.below.size)).trans (R.below.block k i)⟩
 cv:=R.cv
 de:=fun b z cs f d=>by
  obtain ⟨e,r,o⟩:=R.de b z cs f d;exact ⟨e,r,(B.block b (GM.1 o).1).trans o⟩
 cells:=fun b l z cs f j d=>by
  obtain ⟨h,h2,m,arr,e,a,g,q,p⟩:=R.cells b l z cs f j d;exact ⟨h,h2,m,arr,e,(B.block l.c (GM.1 a).1).trans a,g,q,p⟩
 maps:=fun b l es f j d=>by
  obtain ⟨h,n,t,a,g⟩:=R.maps b l es f j d;exact ⟨h,n,t,(B.block l.c (GM.1 a).1).trans a,g⟩
 inj:=R.inj
 jB:=R.jB
 hG:=fun b s e=>by
  obtain ⟨h,h2,l,m,a,g⟩:=R.hG b s e;exact ⟨h,h2,l,m,a,g.iE rfl (fun k i _=>B.block k i) fun y x v u a3=>.inl ⟨v,u,a3⟩⟩
def He:AH:=⟨fun _=>none,0,0,.nil,none⟩
def isTrue:Option (Value×AH)→Bool
 |some (.bool true,_)=>true
 |_=>false
theorem kI {P:Program} {E:Env} {O:dw} (o:P.follows .mixedOrders=true) (r:jK P E) (q:jL P O) {n f:Nat} (h:isTrue (bK E O n f [] He)=true) (H:AH):ku P f∧sq P f [] H (.bool true) H:=by
 unfold isTrue at h;split at h
 case h_2=>cases h
 rename_i v e;obtain ⟨t,h2⟩:=iU o r q n f [] He (.bool true) v e;refine ⟨t,?_⟩;intro y i w a R J m
 have u:Rel w ⟨0,w.heap.size,fun _=>none⟩ He w:=⟨rfl,G3 _,GB _,rfl,Below.refl _ _,fun b d=>absurd d (GZ _),fun b z cs d=>absurd d (GZ _),
  fun b l z cs _ c=>(by cases c),fun b l es _ c=>(by cases c),fun I F D C _ _ c=>(by cases c),fun b s e=>(by cases e),R.jB.below R.below⟩
 have j:VL ⟨0,w.heap.size,fun _=>none⟩ [] a.toList:=by
  have:=m.length;have e:a.toList=[]:=G9 this.symm;rw [e];exact .nil
 refine (h2 w _ w a u (fun _ _=>rfl) j).mono ?_;rintro e A ⟨x,B,rfl,p,g,G⟩;rw [p.bool];refine ⟨i,_,rfl,.same rfl,R.vn g.below,aq.le_refl _,rfl,rfl,GB _,fun b l h k=>(by rw [h]at k;cases k),g.below.size⟩
def pA (f:Nat):dw:=fun g=>bif Nat.beq g f then some (fun as H=>match as with|[]=>some (.bool true,H)|_=>none)else none
theorem pB {P:Program} {E:Env} (d:P.follows .mixedOrders=true) (i:jK P E) {n f:Nat} (h:isTrue (bK E (fun _=>none) n f [] He)=true):jL P (pA f):=by
 intro g k c as H v j b;by_cases e:g=f
 case neg=>simp [pA,nb,e]at c
 subst e;simp only [pA,nb,decide_true,cond_true,Gy]at c;subst c
 cases as with
 |nil=>
  simp only [Gy,GG]at b;obtain ⟨rfl,rfl⟩:=b;exact kI d i (fun f g h=>by cases h) h H
 |cons a l=>simp at b
end
section
open Go Go.RowKit
section
variable{E:Env} {O:dw}
def zC (E:Env) (O:dw) (r:Option (cD×AH)) (Q:Value→AH→Prop):Prop:=match r with
 |some (.v x,H)=>Q x H
 |some (.enter f as,H)=>Ca E O f as H Q
 |none=>False
theorem nO (o:AO) (l:List AO) (a:Fr) (H:AH) (Q:Fr→AH→Prop):Wo E O (o::l) a H Q↔gZ E O o a H (fun b c=>Wo E O l b c Q):=by
 refine ⟨fun⟨n,b,c,e,q⟩=>?_,Wo.cons⟩;simp only [ops]at e
 cases h:cU (bK E O n) o a H with
 |none=>simp [h]at e
 |some r=>
  simp only [h]at e;exact ⟨n,_,_,h,n,_,_,e,q⟩
theorem nP (o:AO) (g:Fr) (H:AH) (Q:Fr→AH→Prop) (j:o.wanted g=true):gZ E O o g H Q↔zC E O (au o.o (X.ev g) H) (fun x k=>Q (g.al o.d x) k):=by
 constructor
 ·rintro ⟨n,m,k,e,q⟩
  obtain ⟨x,rfl,h⟩:=bh.1 e
  cases h with
  |off a _ _=>rw [j]at a;cases a
  |val a b=>rw [b];exact q
  |call a f as l b c=>rw [b];exact ⟨n,x,k,c,q⟩
 ·intro h
  cases i:au o.o (X.ev g) H with
  |none=>rw [i]at h;exact h.elim
  |some r=>
   obtain ⟨res,l⟩:=r;rw [i]at h
   cases res with
   |v x=>exact gZ.val j i h
   |enter f as=>exact gZ.call j i h
inductive Ko where
 |seq (b:AC)
 |bC (i:Nat)
def Un (E:Env) (O:dw):Ex→List Ko→Fr→AH→(Ex→Fr→AH→Prop)→Prop
 |ex,[],fr,H,Q=>Q ex fr H
 | .normal,.seq b::ks,fr,H,Q=>Wp E O b fr H (fun ex aQ H'=>Un E O ex ks aQ H' Q)
 | .normal,.bC _::ks,fr,H,Q=>Un E O .normal ks fr H Q
 | .exit j,.seq _::ks,fr,H,Q=>Un E O (.exit j) ks fr H Q
 | .exit j,.bC i::ks,fr,H,Q=>if j=i then Un E O .normal ks fr H Q else Un E O (.exit j) ks fr H Q
 | .ret,_::ks,fr,H,Q=>Un E O .ret ks fr H Q
def Wk (E:Env) (O:dw) (c:AC) (ks:List Ko) (fr:Fr) (H:AH) (Q:Ex→Fr→AH→Prop):Prop:=Wp E O c fr H (fun ex aQ H'=>Un E O ex ks aQ H' Q)
def uq (l:List AO) (ck:List (Nat×Nat×Nat)) (acc:List (Fr×AH)):Bool:=chain acc.reverse&&ck.all (iA l acc.reverse)
variable{ks:List Ko} {fr:Fr} {H:AH} {Q:Ex→Fr→AH→Prop}
@[simp]theorem BF (b:AC):Un E O .normal (.seq b::ks) fr H Q=Wk E O b ks fr H Q:=rfl
@[simp]theorem BG (i:Nat):Un E O .normal (.bC i::ks) fr H Q=Un E O .normal ks fr H Q:=rfl
@[simp]theorem BH (j:Nat) (b:AC):Un E O (.exit j) (.seq b::ks) fr H Q=Un E O (.exit j) ks fr H Q:=rfl
def aM.ak:aM→Bool
 | .call _ _| .callv _ _=>true
 |_=>false
def Eg:Option (cD×AH)→Bool
 |some (.v _,_)=>true
 |_=>false
def valOf:Option (cD×AH)→Value
 |some (.v x,_)=>x
 |_=>undef
def sK (H:AH):Option (cD×AH)→AH
 |some (_,H')=>H'
 |none=>H
@[simp]theorem BI (x:Value) (H:AH):Eg (some (.v x,H))=true:=rfl
@[simp]theorem xi (x:Value) (H:AH):valOf (some (.v x,H))=x:=rfl
@[simp]theorem vo (x:Value) (H H':AH):sK H (some (.v x,H'))=H':=rfl
variable{l0:List AO} {ck:List (Nat×Nat×Nat)} {acc:List (Fr×AH)}
theorem cR (o:AO) (l:List AO) (fr:Fr) (H:AH) (Q:List (Fr×AH)→Prop):Wt E O (o::l) fr H Q↔gZ E O o fr H (fun b c=>Wt E O l b c (fun a=>Q ((b,c)::a))):=by
 refine ⟨fun⟨n,a,e,q⟩=>?_,Wt.cons⟩;simp only [dj]at e
 cases h:cU (bK E O n) o fr H with
 |none=>simp [h]at e
 |some r=>
  simp only [h]at e
  cases h2:dj (bK E O n) l r.1 r.2 with
  |none=>simp [h2]at e
  |some d=>
   simp only [h2,Gy]at e;subst e;exact ⟨n,_,_,h,n,_,h2,q⟩
def nQ (E:Env) (O:dw) (I:Nat→Fr→AH→Prop) (k:Nat) (ks:List Ko) (Q:Ex→Fr→AH→Prop):Ex→Fr→AH→Prop
 | .normal,fr,H=>∃j,j<k∧I j fr H
 | .exit i,fr,H=>Un E O (.exit i) ks fr H Q
 | .ret,fr,H=>Un E O .ret ks fr H Q
@[simp]theorem xj (I:Nat→Fr→AH→Prop) (k:Nat):nQ E O I k ks Q .normal fr H=∃j,j<k∧I j fr H:=rfl
@[simp]theorem xl (I:Nat→Fr→AH→Prop) (k i:Nat):nQ E O I k ks Q (.exit i) fr H=Un E O (.exit i) ks fr H Q:=rfl
@[simp]theorem xm (I:Nat→Fr→AH→Prop) (k:Nat):nQ E O I k ks Q .ret fr H=Un E O .ret ks fr H Q:=rfl
attribute [simp] Fr.aD Fr.bA X.ev fu RS.all RS.get
@[simp]theorem zD (r:List RS) (Q:Value→AH→Prop):sI r Q .normal fr H=∃vs,RS.all fr H r=some vs∧Q (fu vs) H:=rfl
@[simp]theorem zE (r:List RS) (Q:Value→AH→Prop):sI r Q .ret fr H=∃vs,RS.all fr H r=some vs∧Q (fu vs) H:=rfl
@[simp]theorem ur (x:X):(aM.mv x).ak=false:=rfl
@[simp]theorem ra (c a b:X):(aM.pick c a b).ak=false:=rfl
@[simp]theorem pC (z:List Value):(aM.alloc z).ak=false:=rfl
@[simp]theorem sL (x:X):(aM.box x).ak=false:=rfl
@[simp]theorem pD (z:List Value) (ps:List (Nat×Nat×X)):(aM.build z ps).ak=false:=rfl
@[simp]theorem sM (len sz:Nat) (z:List Value) (ps:List (Nat×Nat×X)):(aM.bsl len sz z ps).ak=false:=rfl
@[simp]theorem uu (x:X):(aM.ld x).ak=false:=rfl
@[simp]theorem sN (n:Nat) (x:X):(aM.ldn n x).ak=false:=rfl
@[simp]theorem uv (n:Nat) (x v:X):(aM.st n x v).ak=false:=rfl
@[simp]theorem rb (x:X):(aM.bX x).ak=false:=rfl
@[simp]theorem sO (op:BinOp) (x y:X):(aM.bin op x y).ak=false:=rfl
@[simp]theorem sP (k:Nat) (neg:Bool) (x y:X):(aM.eqk k neg x y).ak=false:=rfl
@[simp]theorem uw (op:UnOp) (x:X):(aM.un op x).ak=false:=rfl
@[simp]theorem sQ (k:IntKind) (x:X):(aM.hZ k x).ak=false:=rfl
@[simp]theorem sR (x:X):(aM.ub x).ak=false:=rfl
@[simp]theorem sS (f:Nat) (first cap:List X):(aM.mkf f first cap).ak=false:=rfl
@[simp]theorem pE:aM.mkmap.ak=false:=rfl
@[simp]theorem re (sz bytes:Nat) (z:List Value) (x:X):(aM.mksl sz bytes z x).ak=false:=rfl
@[simp]theorem ux (sz:Nat) (x:X) (lo hi mx:Option X):(aM.sl sz x lo hi mx).ak=false:=rfl
@[simp]theorem uy (off:Nat) (x:X):(aM.fa off x).ak=false:=rfl
@[simp]theorem uz (sz:Nat) (x i:X):(aM.ia sz x i).ak=false:=rfl
@[simp]theorem sT (len sz:Nat) (x i:X):(aM.eT len sz x i).ak=false:=rfl
@[simp]theorem uA (x i:X):(aM.ix x i).ak=false:=rfl
@[simp]theorem rf (kk:Nat) (z:Value) (x k:X) (ok:Bool):(aM.look kk z x k ok).ak=false:=rfl
@[simp]theorem sU (kk:Nat) (x k v:X):(aM.mL kk x k v).ak=false:=rfl
@[simp]theorem sV (x:X) (i:Nat):(aM.ext x i).ak=false:=rfl
@[simp]theorem sW (sz bytes:Nat) (s x:X):(aM.app sz bytes s x).ak=false:=rfl
@[simp]theorem rh (sz:Nat) (d s:X):(aM.copy sz d s).ak=false:=rfl
@[simp]theorem ri (x:X):(aM.lens x).ak=false:=rfl
@[simp]theorem rj (x:X):(aM.dX x).ak=false:=rfl
@[simp]theorem sX (t:Nat) (x:X):(aM.uc t x).ak=false:=rfl
@[simp]theorem sY (x:X) (l:List X):(aM.mxl x l).ak=false:=rfl
@[simp]theorem sZ (x:X) (l:List X):(aM.mnl x l).ak=false:=rfl
@[simp]theorem s5 (neg:Bool) (offs:List (Nat×Nat)) (x y:X):(aM.eqs neg offs x y).ak=false:=rfl
@[simp]theorem xn (b:Bool):qK .not (.bool b)=some (.bool !b):=rfl
@[simp]theorem xp (k:IntKind) (n:Int):qK .neg (.int k n)=some (.int k (k.wrap (0- n))):=rfl
@[simp]theorem vp (k:IntKind) (a b:Int):bB .add (.int k a) (.int k b)=some (.int k (k.wrap (a+b))):=by simp [bB,cc,eW]
@[simp]theorem vq (k:IntKind) (a b:Int):bB .sub (.int k a) (.int k b)=some (.int k (k.wrap (a- b))):=by simp [bB,cc,eW]
@[simp]theorem vr (k:IntKind) (a b:Int):bB .eql (.int k a) (.int k b)=some (.bool (decide (a=b))):=by simp [bB,cc,eW];rfl
@[simp]theorem vt (k:IntKind) (a b:Int):bB .neq (.int k a) (.int k b)=some (.bool (!decide (a=b))):=by simp [bB,cc,eW];rfl
@[simp]theorem vu (k:IntKind) (a b:Int):bB .lss (.int k a) (.int k b)=some (.bool (decide (a<b))):=by simp [bB,cc,eW]
@[simp]theorem vw (k:IntKind) (a b:Int):bB .leq (.int k a) (.int k b)=some (.bool (decide (a≤b))):=by simp [bB,cc,eW]
@[simp]theorem vx (k:IntKind) (a b:Int):bB .gtr (.int k a) (.int k b)=some (.bool (decide (a>b))):=by simp [bB,cc,eW]
@[simp]theorem vy (k:IntKind) (a b:Int):bB .geq (.int k a) (.int k b)=some (.bool (decide (a≥b))):=by simp [bB,cc,eW]
def rk (a b:ByteArray):Bool:=a.data.toList==b.data.toList
@[simp]theorem vz (a b:ByteArray):bB .eql (.string a) (.string b)=some (.bool (rk a b)):=rfl
@[simp]theorem vA (a b:ByteArray):bB .neq (.string a) (.string b)=some (.bool (!rk a b)):=rfl
def nR (s:ByteArray) (i:Nat):Int:=((s[i]?).getD 0).toNat
theorem nS {x i:X} {a:X→Value} {H:AH} {s:ByteArray} {n:Nat} (b:a x= .string s) (hi:a i= .int .i64 n) (h:n<s.size):au (.ix x i) a H=some (.v (.int .u8 (nR s n)),H):=by
 simp only [au,b,hi];rw [if_pos (by omega)];simp only [Int.toNat_natCast];unfold nR;have:s[n]?=some s[n]:=getElem?_pos s n h;rw [this];rfl
end
end
end Go.Proofs.Ytediokhgklkhnaa.A
