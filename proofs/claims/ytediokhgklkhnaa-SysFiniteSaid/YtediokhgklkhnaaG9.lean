/- Texts that stand one behind the other: AbsB, AbsC, AbsD, AbsE, AbsF, AbsG, AbsH, AbsI, AbsJ, AbsK, AbsL, AbsM. -/
import Derived.Test.YtediokhgklkhnaaG8
import Derived.Deep.LoopGhost
import Derived.Orders
set_option linter.unusedVariables false
set_option linter.unusedSimpArgs false
namespace Go.Proofs.Ytediokhgklkhnaa.A
section
open Go Go.RowKit
section
variable{P:Program}
def wv (P:Program) (f:Nat) (as:List Value) (H:AH) (v:Value) (H':AH):Prop:=
 ∀(w0:World) (φ:aw) (w:World) (as':Array Value),Rel w0 φ H w→gL φ H→VL φ as as'.toList→
  Calls P f as' w fun e w'=>∃aZ v',e= .returned v'∧V aZ v v'∧Rel w0 aZ H' w'∧bj φ H w aZ H' w'
def gj (P:Program) (call:Cl):Prop:=∀f as H v H',call f as H=some (v,H')→mD P f∧wv P f as H v H'
theorem V.oY {φ:aw} {v:Value} {b:Bool} (h:V φ v (.bool b)):v= .bool b:=by
 cases h;rfl
theorem oZ {φ:aw} {fr:Fr} {a:Act} (F:ei φ fr a) {f:Array Oper} {o:Oper} {g:Option (Nat×Bool)} {d:Option Nat} {p:aS} (e:j0 f o.guard=some g):
 Region.wanted o (yielded f a.tmps)=AO.wanted ⟨g,d,p⟩ fr:=by
 unfold Region.wanted AO.wanted
 cases m:o.guard with
 |none=>rw [m]at e;simp [j0]at e;subst e;rfl
 |some n=>
  obtain ⟨j,b⟩:=n;rw [m]at e;simp only [j0]at e
  cases k:(f[j]?).bind (·.dst)with
  |none=>simp [k]at e
  |some t=>
   simp [k]at e;subst e;dsimp only;have h:=F t
   have q:yielded f a.tmps j=match a.tmps[t]? with|some (.bool b)=>some b|_=>none:=by
    unfold yielded;rw [k];rfl
   rw [q]
   cases l:fr.get t with
   |bool c=>
    rw [l]at h;have:=h.bool
    have h2:a.tmps[t]?=some (.bool c):=by
     cases i:a.tmps[t]? with
     |none=>simp [i,undef]at this
     |some u=>simp [i]at this;rw [this]
    rw [h2];simp
   |_=>
    have:∀c,a.tmps[t]?≠some (.bool c):=by
     intro c r;have h2:a.tmps.getD t undef= .bool c:=by simp [r]
     rw [h2]at h;have:=h.oY;rw [this]at l;cases l
    dsimp only
    cases i:a.tmps[t]? with
    |none=>rfl
    |some u=>cases u<;>first|rfl|exact absurd i (this _)
theorem dI {p:aS} {a:X→Value} {H b:AH} {f:Nat} {as:List Value} (h:ar p a H=some (.enter f as,b)):bI p= .dM:=by
 cases p<;>first
  |rfl
  |(exfalso
    simp only [ar,Bool.cond_eq_ite]at h
    (repeat' split at h)<;>simp at h)
theorem qf {call:Cl} (eX:gj P call) {nt:Nat} {A:Array Oper} {i:Nat} {o:Oper} {I:AO} (hi:A[i]?=some o) (c:uP P nt A o=some I)
 {w0 w:World} {φ:aw} {H J:AH} {q D:Fr} {a:Act} (F:ei φ q a) (R:Rel w0 φ H w) (S:φ.m H.nx=none) (N:bI I.o= .dM→gL φ H) (M:a.tmps.size=nt) (hd:a.defers=[]) (h:dN call I q H=some (D,J))
 {Q:Exit→Act→World→Prop} {K:Act→World→Prop}
 (y:∀b v v' w',Rel w0 b J w'→bj φ H w b J w'→V b v v'→D=q.aq o.dst v→ei b D (a.put o.dst v')→(a.put o.dst v').tmps.size=nt→(a.put o.dst v').defers=[]→K (a.put o.dst v') w'):
 wpOp P A Q i K a w:=by
 unfold wpOp;simp only [hi];unfold uP at c;split at c
 case h_2=>cases c
 rename_i g hg;obtain ⟨O,c⟩:=ae c;cases c
 obtain ⟨p,B⟩:∃p,sG P o=p:=⟨_,rfl⟩
 rw [B]at h N
 have u:∀n,o.dst=some n→n<a.tmps.size:=by
  intro n l;rw [l]at O;rw [M]
  simpa [uO]using O
 have t:∀v,(a.put o.dst v).tmps.size=nt:=by
  intro v;cases hq:o.dst<;>simp [Act.put,M]
 have s:∀v,(a.put o.dst v).defers=[]:=by
  intro v;cases hq:o.dst<;>simp [Act.put,hd]
 have hw:=oZ F (o:=o) (d:=o.dst) (p:=p) hg;rw [hw];unfold dN at h
 cases L:AO.wanted ⟨g,o.dst,p⟩ q with
 |false=>
  simp only [L,cond_false,MH,MQ]at h;obtain ⟨rfl,rfl⟩:=h;simp only [Bool.false_eq_true,if_false];exact y φ undef undef w R (bj.refl _ _ _) (iC _) rfl (F.aq u (iC _)) (t _) (s _)
 |true=>
  simp only [L,cond_true]at h;simp only [if_true];left;unfold Oper.wp
  cases k:ar p (X.ev q) H with
  |none=>simp [k]at h
  |some rr=>
   obtain ⟨res,T⟩:=rr;simp only [k]at h
   cases res with
   |v x=>
    simp only [MH,MQ]at h;obtain ⟨rfl,rfl⟩:=h;obtain ⟨b,w',nx,E,z,G,l⟩:=qe F R S B k (fun f as h=>by cases h);rw [E];rcases l with⟨Y,rfl,j⟩|⟨rfl,rfl⟩
    ·rw [Oper.upon_value]
     exact y b x Y w' z G j rfl ((F.mono G.le).aq u j) (t _) (s _)
    ·rw [Oper.upon_skip]
     exact y b undef undef w' z G (iC _) rfl ((F.mono G.le).aq u (iC _)) (t _) (s _)
   |enter f as=>
    simp only at h
    cases C:call f as T with
    |none=>simp [C]at h
    |some vv=>
     obtain ⟨x,H2⟩:=vv;simp only [C,MH,MQ]at h;obtain ⟨rfl,rfl⟩:=h;obtain ⟨hf,D0⟩:=eX f as T x H2 C;obtain ⟨b,w',nx,E,z,G,r,rfl,l⟩:=qe F R S B k (fun f' r h=>by cases h;exact hf);rw [E,Oper.upon_enter];refine (D0 w0 b w' r z (G.fresh (N (dI k))) l).mono ?_;rintro e Z ⟨W,v',rfl,j,R2,U⟩;exact y W x v' Z R2 (G.trans U) j rfl ((F.mono (G.trans U).le).aq u j) (t _) (s _)
def D1:Ex→Exit
 | .normal=>.normal
 | .exit i=>.exit i
 | .ret=>.ret
def qg (w0:World) (φ:aw) (w:World) (H:AH) (nt:Nat) (ex:Ex) (aL:Fr) (H':AH) (e:Exit) (a':Act) (w':World):Prop:=
 e=D1 ex∧∃aZ,Rel w0 aZ H' w'∧bj φ H w aZ H' w'∧ei aZ aL a'∧a'.tmps.size=nt∧a'.defers=[]
theorem qh {call:Cl} (z:gj P call) {d:Nat} {c:Array Oper} {w0:World} {Q:Exit→Act→World→Prop}:∀(l:List Oper) (n:List AO) (k:Nat) {w:World} {φ:aw} {H f:AH} {e i:Fr} {a:Act},
 fI P d c l=some n→(∀j o,l[j]?=some o→c[k+j]?=some o)→ops call n e H=some (i,f)→ei φ e a→Rel w0 φ H w→gL φ H→a.tmps.size=d→a.defers=[]→
 (∀q a' w',Rel w0 q f w'→bj φ H w q f w'→ei q i a'→a'.tmps.size=d→a'.defers=[]→Q .normal a' w')→wpOps P c Q (List.range' k l.length) a w
 |[],n,k,w,φ,H,f,e,i,a,b,_,h,F,R,p,s,u,x=>by
  simp [fI]at b;subst b;simp only [ops,MH,MQ]at h;obtain ⟨rfl,rfl⟩:=h;exact x φ a w R (bj.refl _ _ _) F s u
 |o::l,n,k,w,φ,H,f,e,i,a,b,hi,h,F,R,p,s,u,x=>by
  simp only [fI]at b
  cases g:uP P d c o with
  |none=>simp [g]at b
  |some L=>
   cases t:fI P d c l with
   |none=>simp [g,t]at b
   |some m=>
    simp [g,t]at b;subst b;simp only [ops]at h
    cases y:dN call L e H with
    |none=>simp [y]at h
    |some r=>
     obtain ⟨Y,Z⟩:=r;simp only [y]at h;simp only [List.length_cons,List.range'_succ,wpOps_cons];refine qf z (by simpa using hi 0 o (by simp)) g F R (p _ (MM _)) (fun _=>p) s u y ?_;intro V v X W O A _ _ U G K;refine qh z l m (k+1) t (fun j D I=>by have:=hi (j+1) D (by simpa using I);rwa [show k+(j+1)=k+1+j by omega]at this) h U O (A.fresh p) G K ?_;intro B M C N S T E J;exact x B M C N (A.trans S) T E J
def eo (l:List AO) (dp:List (List Nat)):List Nat→List (Nat×Nat)→List Row
 |[],_=>[]
 |j::r,am=>match nth l j,nth dp j with
  |some o,some d=>⟨o,bI o.o,j,d,fh am d⟩::eo l dp r ((j,fh am d)::am)
  |_,_=>[]
theorem lh {α:Type} (l:List AO) (a:List (List Nat)):∀(ord:List Nat) (am:List (Nat×Nat)) (k:List Row→α),nf l a ord am k=k (eo l a ord am)
 |[],am,k=>rfl
 |j::r,am,k=>by
  simp only [nf,eo]
  cases b:nth l j with
  |none=>rfl
  |some o=>
   cases c:nth a j with
   |none=>rfl
   |some d=>
    simp only [force_eq];rw [lh l a r]
theorem iK {b id:Nat} {a:Array Oper} {ac:AC} (h:bn P b (.region id a true)=some ac):
 ∃l ord,fI P b a a.toList=some l∧mr l.length (eo l (a.toList.map sI) ord [])=true∧
  ac= .ai ((eo l (a.toList.map sI) ord []).map (·.o)) (jG 0 (eo l (a.toList.map sI) ord [])):=by
 simp only [bn]at h
 cases c:fI P b a a.toList with
 |none=>simp [c]at h
 |some l=>
  simp only [c,uQ,lh]at h;obtain ⟨d,h2⟩:=ae h;cases h2;exact ⟨l,_,rfl,d,rfl⟩
theorem mI {b id:Nat} {a:Array Oper} {ac:AC} (h:bn P b (.region id a true)=some ac):∃l ck,ac= .ai l ck:=by
 obtain ⟨_,_,_,_,e⟩:=iK h;exact ⟨_,_,e⟩
def qi (P:Program) (call:Cl):Prop:=∀(nt:Nat) (id:Nat) (aM:Array Oper) (ac:AC),bn P nt (.region id aM true)=some ac→∀(l:List AO) (ck:List (Nat×Nat×Nat)),ac= .ai l ck→
 ∀(w0 w:World) (φ:aw) (H H':AH) (fr aL:Fr) (a:Act),pM call l ck fr H=some (aL,H')→ei φ fr a→Rel w0 φ H w→gL φ H→a.tmps.size=nt→a.defers=[]→
  (Code.region id aM true).wp P (qg w0 φ w H nt .normal aL H') a w
theorem cg {call:Cl}:∀{n m:Nat} {c:AC} {e:Fr} {H:AH} {r:Ex×Fr×AH},n≤m→ab call n c e H=some r→ab call m c e H=some r:=by
 intro n
 induction n with
 |zero=>intro m c e H r _ h;simp [ab]at h
 |succ n ih=>
  intro m c e H r o h
  obtain ⟨m,rfl⟩:∃k,m=k+1:=⟨m- 1,by omega⟩
  have f:n≤m:=by omega
  cases c with
  |seq a b=>
   simp only [ab]at h⊢
   cases d:ab call n a e H with
   |none=>simp [d]at h
   |some q=>
    rw [ih f d];obtain ⟨ex,g,j⟩:=q
    cases ex<;>simp only [d]at h⊢<;>first
     |exact ih f h
     |exact h
  |cond x a b=>
   simp only [ab]at h⊢
   cases l:x.ev e<;>simp only [l]at h⊢<;>first
    |(cases h;done)
    |skip
   rename_i t;cases t<;>exact ih f h
  |block i a=>
   simp only [ab]at h⊢
   cases d:ab call n a e H with
   |none=>simp [d]at h
   |some q=>
    rw [ih f d];obtain ⟨ex,g,j⟩:=q;cases ex<;>simp only [d]at h⊢<;>exact h
  |loop a=>
   simp only [ab]at h⊢
   cases d:ab call n a e H with
   |none=>simp [d]at h
   |some q=>
    rw [ih f d];obtain ⟨ex,g,j⟩:=q
    cases ex<;>simp only [d]at h⊢<;>first
     |exact ih f h
     |exact h
  |_=>simpa only [ab]using h
theorem sW {call:Cl} (eX:gj P call) (zw:qi P call) {s:Nat} {w0:World}:∀(m:Nat) (c:Code) (ac:AC) {w:World} {φ:aw} {H S:AH} {A N:Fr} {a:Act} {ex:Ex},
 bn P s c=some ac→ab call m ac A H=some (ex,N,S)→ei φ A a→Rel w0 φ H w→gL φ H→a.tmps.size=s→a.defers=[]→c.wp P (qg w0 φ w H s ex N S) a w:=by
 intro m
 induction m with
 |zero=>intro c ac w φ H S A N a ex _ h;simp [ab]at h
 |succ m ih=>
  intro c ac w φ H S A N a ex d h F R D u v
  cases c with
  |skip=>
   simp [bn]at d;subst d;simp only [ab,MH,MQ]at h;obtain ⟨rfl,rfl,rfl⟩:=h;exact wp_skip ⟨rfl,φ,R,bj.refl _ _ _,F,u,v⟩
  |region id V draw=>
   cases draw with
   |false=>
    simp only [bn]at d
    cases hl:fI P s V V.toList with
    |none=>simp [hl]at d
    |some l=>
     simp [hl]at d;subst d;simp only [ab]at h
     cases f:ops call l A H with
     |none=>simp [f]at h
     |some r=>
      obtain ⟨t,p⟩:=r;simp only [f,MH,MQ]at h;obtain ⟨rfl,rfl,rfl⟩:=h;refine wp_region ?_;have:=qh (Q:=qg w0 φ w H s .normal t p) eX V.toList l 0 hl (fun j o W=>by simpa using W) f F R D u v (fun aZ a' w' R' G F' v9 zx=>⟨rfl,aZ,R',G,F',v9,zx⟩);rwa [Array.length_toList,←List.range_eq_range']at this
   |true=>
    have j3:=d;obtain ⟨l,ck,zy⟩:=mI d;rw [zy]at h;simp only [ab]at h;split at h
    case h_2=>cases h
    rename_i t p f;simp only [MH,MQ]at h;obtain ⟨rfl,rfl,rfl⟩:=h;exact zw s id V _ j3 _ _ zy w0 w φ H p A t a f F R D u v
  |refuse r=>
   simp only [bn,MH]at d;subst d;simp only [ab,X.ev]at h;cases h
  |seq x y=>
   simp only [bn]at d
   cases g:bn P s x with
   |none=>simp [g]at d
   |some B=>
    cases K:bn P s y with
    |none=>simp [g,K]at d
    |some ay=>
     simp [g,K]at d;subst d;simp only [ab]at h;refine wp_seq ?_
     cases f:ab call m B A H with
     |none=>simp [f]at h
     |some r=>
      obtain ⟨zA,t,p⟩:=r;have k:=ih x B g f F R D u v
      cases zA with
      |normal=>
       simp only [f]at h;refine wp_mono k ?_;rintro e C k ⟨rfl,J,R1,E,F1,Z,zu⟩;refine wp_mono (ih y ay K h F1 R1 (E.fresh D) Z zu) ?_;rintro e a2 Y ⟨he,I,O,T,U,L,M⟩;exact ⟨he,I,O,E.trans T,U,L,M⟩
      |exit i=>
       simp only [f,MH,MQ]at h;obtain ⟨rfl,rfl,rfl⟩:=h;refine wp_mono k ?_;rintro e C k ⟨rfl,q⟩;exact ⟨rfl,q⟩
      |ret=>
       simp only [f,MH,MQ]at h;obtain ⟨rfl,rfl,rfl⟩:=h;refine wp_mono k ?_;rintro e C k ⟨rfl,q⟩;exact ⟨rfl,q⟩
  |cond x y z=>
   simp only [bn]at d;split at d
   case h_2=>cases d
   rename_i xx ay az g K hz;cases d;simp only [ab]at h;have hv:=aX F g;cases hq:xx.ev A<;>simp [hq]at h;rename_i b;rw [hq]at hv;refine wp_cond hv.bool ?_;cases b
   ·simp only [Bool.false_eq_true,if_false]
    exact ih z az hz h F R D u v
   ·simp only [if_true]
    exact ih y ay K h F R D u v
  |block i x=>
   simp only [bn]at d
   cases g:bn P s x with
   |none=>simp [g]at d
   |some B=>
    simp [g]at d;subst d;simp only [ab]at h;refine wp_block ?_
    cases f:ab call m B A H with
    |none=>simp [f]at h
    |some r=>
     obtain ⟨zA,t,p⟩:=r;have k:=ih x B g f F R D u v;refine wp_mono k ?_;rintro e C w3 ⟨rfl,q⟩
     cases zA with
     |normal=>
      simp only [f,MH,MQ]at h;obtain ⟨rfl,rfl,rfl⟩:=h;exact ⟨rfl,q⟩
     |ret=>
      simp only [f,MH,MQ]at h;obtain ⟨rfl,rfl,rfl⟩:=h;exact ⟨rfl,q⟩
     |exit j=>
      simp only [f,nb,Bool.cond_decide]at h;show Exit.inBlock i _ (.exit j) C w3;simp only [Exit.inBlock];by_cases W:j=i
      ·rw [if_pos W]at h⊢
       simp only [MH,MQ]at h;obtain ⟨rfl,rfl,rfl⟩:=h;exact ⟨rfl,q⟩
      ·rw [if_neg W]at h⊢
       simp only [MH,MQ]at h;obtain ⟨rfl,rfl,rfl⟩:=h;exact ⟨rfl,q⟩
  |loop x=>
   simp only [bn]at d
   cases g:bn P s x with
   |none=>simp [g]at d
   |some B=>
    simp [g]at d;subst d;refine wp_loop_ghost (fun n C k=>n≤m+1∧∃t p J,ab call n (.loop B) t p=some (ex,N,S)∧ei J t C∧Rel w0 J p k∧bj φ H w J p k∧C.tmps.size=s∧C.defers=[]) (m+1) ⟨MM _,A,H,φ,h,F,R,bj.refl _ _ _,u,v⟩ ?_;rintro n C k ⟨hn,t,p,J,f,F1,R1,E,Z,zu⟩
    cases n with
    |zero=>simp [ab]at f
    |succ n=>
     simp only [ab]at f
     cases h2:ab call n B t p with
     |none=>simp [h2]at f
     |some r=>
      obtain ⟨yA,cK,H2⟩:=r;have mono:ab call m B t p=some (yA,cK,H2):=cg (by omega) h2;have Y:=ih x B g mono F1 R1 (E.fresh D) Z zu;refine wp_mono Y ?_;rintro e a2 Y ⟨rfl,I,O,T,U,L,M⟩
      cases yA with
      |normal=>
       simp only [h2]at f;exact ⟨n,by omega,by omega,cK,H2,I,f,U,O,E.trans T,L,M⟩
      |exit j=>
       simp only [h2,MH,MQ]at f;obtain ⟨rfl,rfl,rfl⟩:=f;exact ⟨rfl,I,O,E.trans T,U,L,M⟩
      |ret=>
       simp only [h2,MH,MQ]at f;obtain ⟨rfl,rfl,rfl⟩:=f;exact ⟨rfl,I,O,E.trans T,U,L,M⟩
  |exit i=>
   simp [bn]at d;subst d;simp only [ab,MH,MQ]at h;obtain ⟨rfl,rfl,rfl⟩:=h;exact wp_exit ⟨rfl,φ,R,bj.refl _ _ _,F,u,v⟩
  |ret=>
   simp [bn]at d;subst d;simp only [ab,MH,MQ]at h;obtain ⟨rfl,rfl,rfl⟩:=h;exact wp_ret ⟨rfl,φ,R,bj.refl _ _ _,F,u,v⟩
  |_=>simp [bn]at d
end
end
section
open Go
theorem o3 {p:aS} {e u0:X→Value} (h:∀x∈p.xs,e x=u0 x) (H:AH):ar p e H=ar p u0 H:=by
 have g:∀(l:List X),(∀x∈l,e x=u0 x)→l.map e=l.map u0:=fun l i=>List.map_congr_left i
 have mp:∀(l:List (Nat×Nat×X)),(∀x∈l.map (fun p=>p.2.2),e x=u0 x)→(l.map fun p=>(p.1,p.2.1,e p.2.2))=l.map fun p=>(p.1,p.2.1,u0 p.2.2):=
  fun l i=>List.map_congr_left fun p m=>by rw [i _ (Nh.2 ⟨p,m,rfl⟩)]
 have j:∀(l:Option X),(∀x∈l.toList,e x=u0 x)→l.map e=l.map u0:=fun l i=>by cases l<;>simp_all
 cases p
 case build z ps=>simp only [ar];rw [mp ps h]
 case bsl a b c ps=>simp only [ar];rw [mp ps h]
 case mkf f a b=>
  simp only [ar];rw [g a fun x d=>h x (by simp [aS.xs,d]),g b fun x d=>h x (by simp [aS.xs,d])]
 case call f as=>simp only [ar];rw [g as h]
 case xt k l=>simp only [ar];rw [g l h]
 case callv x as=>
  simp only [ar];rw [g as fun x d=>h x (by simp [aS.xs,d]),h x (by simp [aS.xs])]
 case mxl x as=>
  simp only [ar];rw [g as fun x d=>h x (by simp [aS.xs,d]),h x (by simp [aS.xs])]
 case mnl x as=>
  simp only [ar];rw [g as fun x d=>h x (by simp [aS.xs,d]),h x (by simp [aS.xs])]
 case sl sz x lo hi mx=>
  simp only [ar];rw [h x (by simp [aS.xs]),j lo fun x d=>h x (by simp [aS.xs]at d⊢;simp [d]),j hi fun x d=>h x (by simp [aS.xs]at d⊢;simp [d]),j mx fun x d=>h x (by simp [aS.xs]at d⊢;simp [d])]
 all_goals
  simp only [aS.xs,M0,Nk,or_false,forall_eq_or_imp,forall_eq,implies_true,false_imp_iff]at h;simp only [ar,h]
theorem mJ {sz:Nat} {H H1:AH} {x:Value} {hi mx:Option Value}:aU sz H1 x none hi mx=aU sz H x none hi mx:=by
 cases x<;>try rfl
 rename_i a len cap;simp only [aU]
 cases b:aC len cap none hi mx with
 |none=>rfl
 |some r=>
  obtain ⟨l,h,m⟩:=r
  have c:l=0:=by
   unfold aC at b;simp only [MT]at b;obtain ⟨_,_,_,_,_,e,d⟩:=b;simp at e d;omega
  subst c;simp
theorem gk {p:aS} {g:X→Value} {H i:AH} {r:db} (d:bI p= .pure) (h:ar p g H=some (r,i)):
 i=H∧∀H1:AH,ar p g H1=some (r,H1):=by
 cases p
 case sl sz x lo hi mx=>
  cases lo with
  |some l=>simp [bI]at d
  |none=>
   simp only [ar,Option.map_none,MS]at h⊢;obtain ⟨v,j,e⟩:=h;cases e;exact ⟨rfl,fun H1=>⟨v,mJ.trans j,rfl⟩⟩
 case eqk k neg x y=>
  simp only [ar,MS]at h⊢;obtain ⟨b,f,e⟩:=h;cases e;exact ⟨rfl,fun H1=>⟨b,f,rfl⟩⟩
 case xt k l=>
  cases k<;>first
   |(simp [bI]at d;done)
   |skip
  all_goals
   simp only [ar,jY]at h⊢
   split at h<;>simp_all<;>first
    |(obtain ⟨a,⟨m,b,c,rfl,rfl⟩,h2⟩:=h;exact ⟨rfl,fun _=>⟨_,⟨m,c⟩,h2⟩⟩)
    |(obtain ⟨_,c,_,_⟩:=h;simp_all;done)
    |(obtain ⟨_,_,c,_,_⟩:=h;simp_all;done)
    |skip
 case eqs neg offs x y=>
  simp only [ar]at h⊢;split at h
  · simp only [MS]at h⊢
    obtain ⟨b,f,e⟩:=h;cases e;exact ⟨rfl,fun H1=>⟨b,f,rfl⟩⟩
  · cases h
 all_goals first
  |(simp [bI]at d;done)
  |(simp only [ar,Bool.cond_eq_ite,MS]at h⊢
    (repeat' split at h)<;>simp_all<;>try(obtain ⟨_,_,c,h2⟩:=h;simp_all))
theorem dQ {p:aS} {d:X→Value} {H f:AH} {r:db} (a:bI p= .alloc) (h:ar p d H=some (r,f)):
 ∃bw,f=H.alloc bw∧∀H1:AH,H1.nx=H.nx→ar p d H1=some (r,H1.alloc bw):=by
 cases p
 case sl sz x lo hi mx=>cases lo<;>simp [bI]at a
 case xt k l=>cases k<;>simp [bI]at a
 all_goals first
  |(simp [bI]at a;done)
  |skip
 case alloc z=>
  simp only [ar,MH,MQ]at h⊢;obtain ⟨rfl,rfl⟩:=h;exact ⟨_,rfl,fun H1 e=>⟨by rw [e],rfl⟩⟩
 case box x=>
  simp only [ar,Bool.cond_eq_ite]at h⊢;split at h
  ·cases h
  ·rename_i g
   simp only [MH,MQ]at h;obtain ⟨rfl,rfl⟩:=h;exact ⟨_,rfl,fun H1 e=>by rw [if_neg g,e]⟩
 case bsl len sz z ps=>
  simp only [ar,MS]at h⊢;obtain ⟨c,b,e⟩:=h;cases e;exact ⟨_,rfl,fun H1 e=>⟨c,b,by rw [e]⟩⟩
 case mkmap=>
  simp only [ar,MH,MQ]at h⊢;obtain ⟨rfl,rfl⟩:=h;exact ⟨_,rfl,fun H1 e=>⟨by rw [e],rfl⟩⟩
 case mksl sz bytes z x=>
  simp only [ar,Bool.cond_eq_ite]at h⊢;split at h
  ·split at h
   ·rename_i b
    simp only [MH,MQ]at h;obtain ⟨rfl,rfl⟩:=h;exact ⟨_,rfl,fun H1 e=>by rw [if_pos b,e]⟩
   ·cases h
  ·cases h
theorem eY {a:Nat}:∀{l m:List Value},aj a l=some m→m.length=l.length
 |[],m,h=>by simp [aj]at h;subst h;rfl
 |v::l,m,h=>by
  simp only [aj]at h;split at h
  ·rename_i x c d b
   cases h;simp [eY b]
  ·cases h
theorem bE {H:AH} {a:Addr} {n:Nat} {vs:List Value} (h:H.ldn a n=some vs):(H.get a.block).isSome=true∧vs.length=n:=by
 unfold AH.ldn at h;split at h
 case h_2=>cases h
 rename_i z c e b;obtain ⟨d,h⟩:=ae h;simp at d;refine ⟨by simp [b],?_⟩;simp only [Bool.cond_eq_ite]at h;split at h
 ·rw [eY h];simp;omega
 ·cases h;simp;omega
theorem bX {H H1:AH} {a:Addr} {n:Nat} (b:H1.get a.block=H.get a.block) (c:H1.n0=H.n0):H1.ldn a n=H.ldn a n:=by
 unfold AH.ldn;rw [b,c]
theorem qj {H:AH} {a:Addr} {v:Value}:H.ld a=some v↔H.ldn a 1=some [v]:=by
 unfold AH.ld AH.ldn
 cases g:a.spot with
 |some x=>simp
 |none=>
  cases h:H.get a.block with
  |none=>simp
  |some b=>
   cases b with
   |map es=>simp
   |cells z c=>
    simp only
    cases d:c[a.off]? with
    |none=>
     have:=List.getElem?_eq_none_iff.1 d;have:decide (a.off+1≤c.length)=false:=by simp;omega
     simp [this]
    |some u=>
     have e:=(MO.1 d).1;have f:decide (a.off+1≤c.length)=true:=by simp;omega
     have h2:List.take 1 (List.drop a.off c)=[u]:=by
      have:=(MO.1 d).2;rw [List.drop_eq_getElem_cons e,this];rfl
     simp only [f,cond_true,h2]
     cases i:decide (a.block<H.n0)with
     |false=>simp
     |true=>
      simp only [cond_true,aj];cases al H.n0 u<;>simp
theorem gl {o:AO} {i:Fr} {H m:AH} {r:db} (f:bI o.o= .load) (h:ar o.o (X.ev i) H=some (r,m)):
 m=H∧∃a vs,dO o i H=some (a,vs)∧aY o i=some a.block∧H.ldn a vs.length=some vs∧∀H1:AH,H1.ldn a vs.length=some vs→ar o.o (X.ev i) H1=some (r,H1):=by
 obtain ⟨g,d,p⟩:=o;dsimp only at f h;unfold dO aY;dsimp only;cases p
 case sl sz x lo hi mx=>cases lo<;>simp [bI]at f
 case xt k l=>cases k<;>simp [bI]at f
 all_goals first
  |(simp [bI]at f;done)
  |skip
 case ld x=>
  simp only [ar]at h⊢;split at h
  case h_2=>cases h
  rename_i a q;simp only [MS]at h;obtain ⟨v,b,e⟩:=h;cases e;have c:=qj.1 b;refine ⟨rfl,a,[v],?_,rfl,c,fun H1 j=>?_⟩
  ·rw [c];rfl
  ·rw [qj.2 j];rfl
 case ldn n x=>
  simp only [ar]at h⊢;split at h
  case h_2=>cases h
  rename_i a q;simp only [MS]at h;obtain ⟨vs,b,e⟩:=h;cases e;have c:=(bE b).2;subst c;refine ⟨rfl,a,vs,?_,rfl,b,fun H1 j=>?_⟩
  ·rw [b];rfl
  ·rw [j];rfl
theorem sX {H d:AH} {a:Addr} {vs:List Value} (h:H.st a vs=some d):(H.get a.block).isSome=true∧∃z c',d=H.put a.block (some (.cells z c'))∧
 ∀H1:AH,H1.get a.block=H.get a.block→H1.n0=H.n0→H1.st a vs=some (H1.put a.block (some (.cells z c'))):=by
 unfold AH.st at h;split at h
 case h_2=>cases h
 rename_i z c e b;obtain ⟨f,h⟩:=ae h;cases h;refine ⟨by simp [b],z,_,rfl,fun H1 g h2=>?_⟩;unfold AH.st;rw [g,h2,b,e];simp only [f,cond_true]
theorem j7 {o:AO} {f:Fr} {H i:AH} {r:db} (c:bI o.o= .st) (h:ar o.o (X.ev f) H=some (r,i)):
 ∃b bw,aY o f=some b∧(H.get b).isSome=true∧i=H.put b bw∧∀H1:AH,H1.get b=H.get b→H1.n0=H.n0→ar o.o (X.ev f) H1=some (r,H1.put b bw):=by
 obtain ⟨g,d,p⟩:=o;dsimp only at c h;unfold aY;dsimp only;cases p
 case sl sz x lo hi mx=>cases lo<;>simp [bI]at c
 case xt k l=>cases k<;>simp [bI]at c
 all_goals first
  |(simp [bI]at c;done)
  |skip
 case st n x v=>
  simp only [ar]at h⊢;split at h
  case h_2=>cases h
  rename_i a w;obtain ⟨m,h⟩:=ae h;simp only [MS]at h;obtain ⟨y,h2,e⟩:=h;cases e;obtain ⟨j,z,u,rfl,q⟩:=sX h2;refine ⟨a.block,some (.cells z u),rfl,j,rfl,fun H1 t s=>?_⟩;rw [m,cond_true,q H1 t s];rfl
theorem qk {H:AH} {b sz:Nat} (h:H.get b=none):H.fE b sz=false:=by
 unfold AH.fE;rw [h]
theorem gm {o:AO} {s:Fr} {H y:AH} {r:db} (w:bI o.o= .read) (h:ar o.o (X.ev s) H=some (r,y)):
 y=H∧∀H1:AH,(∀b,aY o s=some b→(H.get b).isSome=true→H1.get b=H.get b)→H1.n0=H.n0→ar o.o (X.ev s) H1=some (r,H1):=by
 obtain ⟨g,d,p⟩:=o;dsimp only at w h;unfold aY;dsimp only;cases p
 case sl sz x lo hi mx=>
  simp only [ar,MS]at h⊢;obtain ⟨v,f,e⟩:=h;cases e;refine ⟨rfl,fun H1 j h2=>⟨v,?_,rfl⟩⟩;rw [←f];cases u:x.ev s<;>try rfl
  rename_i a len cap;rw [u]at f j;simp only [aU]at f⊢;split
  ·rfl
  ·cases a with
   |none=>rfl
   |some a=>
    rename_i l I m D;rw [D]at f;simp only at f⊢
    have n:(a.spot.isNone&&(Nat.beq l 0||H1.fE a.block sz))=(a.spot.isNone&&(Nat.beq l 0||H.fE a.block sz))∨H.get a.block=none:=by
     cases B:a.spot.isNone with
     |false=>left;simp
     |true=>
      cases i:H.get a.block with
      |none=>exact .inr rfl
      |some b=>
       left;have:=j a.block (by simp [B]) (by simp [i]);unfold AH.fE;rw [this]
    rcases n with n|n
    ·rw [n]
    ·obtain ⟨E,f⟩:=ae f
     rw [E];simp only [cond_true];split
     ·rfl
     ·rename_i C
      rw [if_neg C]at f;obtain ⟨t,f⟩:=ae f;rw [qk n,Bool.or_false]at t;simp only [MK]at t;simp [t.1,t.2]
 case look kk z x k ok=>
  simp only [ar]at h⊢;cases u:x.ev s<;>simp only [u]at h⊢<;>try(cases h;done)
  rename_i A
  cases A with
  |none=>
   simp only at h⊢;obtain ⟨j,h⟩:=ae h;cases h;exact ⟨rfl,fun H1 _ _=>by rw [j];rfl⟩
  |some q=>
   simp only at h⊢
   cases i:H.get q with
   |none=>simp [i]at h
   |some b=>
    cases b with
    |cells z c=>simp [i]at h
    |map es=>
     simp only [i]at h;obtain ⟨j,h⟩:=ae h;refine ⟨?_,fun H1 G F=>?_⟩
     ·split at h<;>first|(cases h;rfl)|cases h
     ·have:=G q rfl (by simp [i])
      rw [this,i,F];simp only [j,cond_true];split at h
      ·cases h;rfl
      ·cases h;rfl
      ·cases h
 case xt k l=>cases k<;>simp [bI]at w
 all_goals first
  |(simp [bI]at w;done)
  |skip
theorem ql:∀{a b:Value},iy a b=true→a=b:=by
 intro a b h;cases a<;>cases b<;>simp [iy]at h<;>simp_all;exact ByteArray.ext h
theorem iL:∀{a b:List Value},cM a b=true→a=b
 |[],[],_=>rfl
 |a::l,b::m,h=>by
  simp only [cM,MK]at h;rw [ql h.1,iL h.2]
 |[],_::_,h=>by simp [cM]at h
 |_::_,[],h=>by simp [cM]at h
theorem o4 {H:AH} {a:Addr} {vs:List Value} (h:sameAt H (a,vs)=true):H.ldn a vs.length=some vs:=by
 unfold sameAt at h;dsimp only at h;split at h
 ·rename_i m b
  rw [b,iL h]
 ·cases h
theorem qm {x y:Option jo} (h:fH x y=true):x=y:=by
 unfold fH at h;split at h
 ·simp only [MK,Nat.beq_eq]at h
  rw [h.1,iL h.2]
 ·rfl
 ·cases h
open Go
theorem ep {n:Nat}:∀{l:List Nat},k6 n l=true↔n∈l
 |[]=>by simp [k6]
 |x::l=>by
  simp only [k6,Bool.or_eq_true,nb,MU,M0];rw [ep (l:=l)];constructor
  ·rintro (h|h)
   ·exact .inl h.symm
   ·exact .inr h
  ·rintro (h|h)
   ·exact .inl h.symm
   ·exact .inr h
theorem et {x y:AO} (h:du x y=true):(∀d,x.d=some d→d∉tmpsOf y)∧(∀d,x.d=some d→y.d≠some d):=by
 unfold du at h
 cases f:x.d with
 |none=>exact ⟨fun _ h=>(by cases h),fun _ h=>(by cases h)⟩
 |some d=>
  simp only [f,MK,Bool.not_eq_true']at h;refine ⟨fun e a=>?_,fun e a=>?_⟩
  ·cases a
   intro c;rw [ep.2 c]at h;cases h.1
  ·cases a
   intro b;rw [b]at h;simp at h
theorem Fr.cQ {f:Fr} {d:Option Nat} {v:Value} {x:Nat}:(f.aq d v).get x=if d=some x then v else f.get x:=by
 cases d with
 |none=>simp [Fr.aq]
 |some k=>
  simp only [Fr.aq,Fr.aG,MH];by_cases h:x=k
  ·simp [h]
  ·rw [if_neg h,if_neg (fun e=>h e.symm)]
inductive One (call:Cl) (o:AO) (fr:Fr) (H:AH) (x:Value) (H':AH):Prop where
 |off (h:o.wanted fr=false) (e:x=undef) (e2:H'=H)
 |val (h:o.wanted fr=true) (e:ar o.o (X.ev fr) H=some (.v x,H'))
 |call (h:o.wanted fr=true) (f:Nat) (as:List Value) (H1:AH) (e:ar o.o (X.ev fr) H=some (.enter f as,H1)) (e2:call f as H1=some (x,H'))
theorem bx {call:Cl} {o:AO} {b k:Fr} {H H':AH}:dN call o b H=some (k,H')↔∃x,k=b.aq o.d x∧One call o b H x H':=by
 unfold dN;constructor
 ·intro h
  cases a:o.wanted b with
  |false=>
   simp only [a,cond_false,MH,MQ]at h;exact ⟨undef,h.1.symm,.off a rfl h.2.symm⟩
  |true=>
   simp only [a,cond_true]at h
   cases c:ar o.o (X.ev b) H with
   |none=>simp [c]at h
   |some l=>
    obtain ⟨res,j⟩:=l;simp only [c]at h
    cases res with
    |v x=>
     simp only [MH,MQ]at h;obtain ⟨rfl,rfl⟩:=h;exact ⟨x,rfl,.val a c⟩
    |enter f as=>
     simp only at h
     cases g:call f as j with
     |none=>simp [g]at h
     |some r=>
      obtain ⟨x,m⟩:=r;simp only [g,MH,MQ]at h;obtain ⟨rfl,rfl⟩:=h;exact ⟨x,rfl,.call a f as j c g⟩
 ·rintro ⟨x,rfl,h⟩
  cases h with
  |off h e i=>subst e;subst i;simp [h]
  |val h e=>simp [h,e]
  |call h f as j e i=>simp [h,e,i]
def gN (o:AO) (fr cK:Fr):Prop:=∀t∈tmpsOf o,cK.get t=fr.get t
theorem gN.ev {o:AO} {b a:Fr} (h:gN o b a):∀x∈o.o.xs,X.ev a x=X.ev b x:=by
 intro x c
 cases x with
 |t n=>
  exact h n (by
   unfold tmpsOf
   exact List.mem_append_right _ (List.mem_filterMap.2 ⟨.t n,c,rfl⟩))
 |k v=>rfl
 |f n=>rfl
theorem gN.wanted {o:AO} {fr a:Fr} (h:gN o fr a):o.wanted a=o.wanted fr:=by
 unfold AO.wanted
 cases d:o.g with
 |none=>rfl
 |some c=>
  obtain ⟨t,b⟩:=c;simp only;rw [h t (by unfold tmpsOf;rw [d];simp)]
theorem gN.one {call:Cl} {o:AO} {e d:Fr} {H H':AH} {x:Value} (h:gN o e d) (k:One call o e H x H'):One call o d H x H':=by
 have g:∀H,ar o.o (X.ev d) H=ar o.o (X.ev e) H:=fun H=>o3 h.ev H
 cases k with
 |off a b c=>exact .off (h.wanted.trans a) b c
 |val a b=>exact .val (h.wanted.trans a) ((g _).trans b)
 |call a f as i b c=>exact .call (h.wanted.trans a) f as i ((g _).trans b) c
theorem qn {o:AO} {fr b:Fr} (h:gN o fr b):aY o b=aY o fr:=by
 have a:=h.ev;unfold aY;cases c:o.o<;>simp only [c,aS.xs,M0,Nk,or_false,forall_eq_or_imp,forall_eq]at a⊢;all_goals (simp only [a])
structure gg (call:Cl) (O:Nat→AO) (n:Nat) (sF:Nat→Fr) (sH:Nat→AH) (iM:Nat→Nat→Prop):Prop where
 step:∀t,t<n→dN call (O t) (sF t) (sH t)=some (sF (t+1),sH (t+1))
 n0:∀t,t<n→(sH (t+1)).n0=(sH t).n0
 nx:∀t,t<n→(sH t).nx≤(sH (t+1)).nx
 pair:∀p q,p<q→q<n→iM p q∨(du (O p) (O q)=true∧du (O q) (O p)=true∧bu (bI (O p).o) (bI (O q).o)=true)
 c0:∀p q,p<q→q<n→¬ iM p q→(O p).wanted (sF p)=true→(O q).wanted (sF q)=true→bI (O p).o= .load→bI (O q).o= .dM→
  ∃x,dO (O p) (sF p) (sH p)=some x∧sameAt (sH (q+1)) x=true
 c1:∀p q,p<q→q<n→¬ iM p q→(O p).wanted (sF p)=true→(O q).wanted (sF q)=true→bI (O p).o= .alloc→bI (O q).o= .dM→
  (sH (q+1)).get (sH p).nx=(sH (p+1)).get (sH p).nx
 c2:∀p q,p<q→q<n→¬ iM p q→(O p).wanted (sF p)=true→(O q).wanted (sF q)=true→(bI (O p).o= .load∨bI (O p).o= .read∨bI (O p).o= .st)→bI (O q).o= .st→
  ∀b b',aY (O p) (sF p)=some b→aY (O q) (sF q)=some b'→b≠b'
section
variable{call:Cl} {O:Nat→AO} {n:Nat} {sF:Nat→Fr} {sH:Nat→AH} {iM:Nat→Nat→Prop} (R:gg call O n sF sH iM)
include R
theorem gg.yB (t:Nat) (h:t≤n):(sH t).n0=(sH 0).n0:=by
 induction t with
 |zero=>rfl
 |succ t ih=>exact (R.n0 t (by omega)).trans (ih (by omega))
theorem gg.JI {t:Nat} (k:Nat) (h:t+k≤n):(sH t).nx≤(sH (t+k)).nx:=by
 induction k with
 |zero=>exact MM _
 |succ k ih=>exact M5 (ih (by omega)) (R.nx (t+k) (by omega))
theorem gg.cD {t u:Nat} (h:t≤u) (a:u≤n):(sH t).nx≤(sH u).nx:=by
 have:=R.JI (t:=t) (u- t) (by omega);rwa [show t+(u- t)=u by omega]at this
omit R in
def j8 (O:Nat→AO) (sF:Nat→Fr) (t:Nat):Value:=(sF (t+1)).get ((O t).d.getD 0)
omit R in
def j9 (O:Nat→AO) (sF:Nat→Fr) (S:Nat→Bool):Nat→Fr
 |0=>sF 0
 |t+1=>bif S t then(j9 O sF S t).aq (O t).d (j8 O sF t)else j9 O sF S t
theorem gg.frame {t:Nat} (a:t<n) (x:Nat):(sF (t+1)).get x=if(O t).d=some x then j8 O sF t else(sF t).get x:=by
 obtain ⟨v,b,_⟩:=bx.1 (R.step t a);by_cases h:(O t).d=some x
 ·rw [if_pos h]
  unfold j8;rw [h];rfl
 ·rw [if_neg h,b,Fr.cQ,if_neg h]
theorem gg.one {t:Nat} (a:t<n):∃x,One call (O t) (sF t) (sH t) x (sH (t+1))∧∀f:Fr,f.aq (O t).d x=f.aq (O t).d (j8 O sF t):=by
 obtain ⟨v,b,e⟩:=bx.1 (R.step t a);refine ⟨v,e,fun f=>?_⟩
 cases c:(O t).d with
 |none=>rfl
 |some k=>
  have:j8 O sF t=v:=by
   unfold j8;rw [b,c];simp [Fr.aq,Fr.aG]
  rw [this]
omit R in
theorem ka {S S':Nat→Bool} {x m:Nat} (h:∀p,p<m→(O p).d=some x→S p=S' p):(j9 O sF S m).get x=(j9 O sF S' m).get x:=by
 induction m with
 |zero=>rfl
 |succ m ih=>
  have ih:=ih fun p b=>h p (by omega)
  simp only [j9];by_cases a:(O m).d=some x
  ·have:=h m (by omega) a
   rw [this];cases S' m
   ·exact ih
   ·simp only [cond_true,Fr.cQ,if_pos a]
  ·cases S m<;>cases S' m<;>simp only [cond_true,cond_false,Fr.cQ,if_neg a]<;>exact ih
omit R in
theorem iN {S:Nat→Bool} {x t m:Nat} (e:t≤m) (h:∀p,t≤p→p<m→S p=true→(O p).d≠some x):(j9 O sF S m).get x=(j9 O sF S t).get x:=by
 induction m with
 |zero=>obtain rfl:t=0:=by omega
        rfl
 |succ m ih=>
  rcases Nat.lt_or_ge m t with a|a
  · obtain rfl:t=m+1:=by omega
    rfl
  · have ih:=ih a fun p b f=>h p b (by omega)
    simp only [j9]
    cases c:S m with
    |false=>exact ih
    |true=>simp only [cond_true,Fr.cQ,if_neg (h m a (by omega) c)];exact ih
theorem gg.nz {m:Nat} (a:m≤n) (x:Nat):(j9 O sF (fun _=>true) m).get x=(sF m).get x:=by
 induction m with
 |zero=>rfl
 |succ m ih=>
  rw [R.frame (by omega),j9,cond_true,Fr.cQ,ih (by omega)]
omit R in
structure zB (n:Nat) (iM:Nat→Nat→Prop) (S:Nat→Bool) (t:Nat):Prop where
 lt:t<n
 out:S t=false
 JJ:∀p,p<t→iM p t→S p=true
 cls:∀p q,p<q→q<n→S q=true→iM p q→S p=true
variable{S:Nat→Bool} {t:Nat} (C:zB n iM S t)
include C
theorem gg.before {p:Nat} (a:p<t) (c:S p=false):¬ iM p t∧du (O p) (O t)=true∧du (O t) (O p)=true∧bu (bI (O p).o) (bI (O t).o)=true:=by
 have b:¬ iM p t:=fun h=>by rw [C.JJ p a h]at c;cases c
 exact ⟨b,(R.pair p t a C.lt).resolve_left b⟩
theorem gg.behind {p:Nat} (b:t<p) (a:p<n) (d:S p=true):¬ iM t p∧du (O t) (O p)=true∧du (O p) (O t)=true∧bu (bI (O t).o) (bI (O p).o)=true:=by
 have c:¬ iM t p:=fun h=>by have:=C.cls t p b a d h;rw [C.out]at this;cases this
 exact ⟨c,(R.pair t p b a).resolve_left c⟩
theorem gg.jJ:gN (O t) (sF t) (j9 O sF S n):=by
 intro x d;rw [iN (t:=t) (Nat.le_of_lt C.lt),←R.nz (Nat.le_of_lt C.lt)]
 ·refine ka fun p b c=>?_
  cases a:S p with
  |true=>rfl
  |false=>exact absurd d ((et (R.before C b a).2.1).1 x c)
 ·intro p b e a c
  rcases Nat.lt_or_eq_of_le b with h|h
  ·exact (et (R.behind C h e a).2.2.1).1 x c d
  ·subst h;rw [C.out]at a;cases a
omit R C in
def ins (S:Nat→Bool) (t:Nat):Nat→Bool:=fun p=>bif Nat.beq p t then true else S p
omit R C in
theorem bY:ins S t t=true:=by simp [ins]
omit R C in
theorem cz {p:Nat} (h:p≠t):ins S t p=S p:=by
 unfold ins;rw [nb,decide_eq_false h];rfl
theorem gg.sY (x:Nat):(j9 O sF (ins S t) n).get x=((j9 O sF S n).aq (O t).d (j8 O sF t)).get x:=by
 rw [Fr.cQ];by_cases a:(O t).d=some x
 ·rw [if_pos a,iN (t:=t+1) C.lt]
  ·rw [j9,bY,cond_true,Fr.cQ,if_pos a]
  ·intro p f c b
   rw [cz (by omega)]at b;have:=(et (R.behind C (by omega) c b).2.1).2 x a;exact this
 ·rw [if_neg a]
  refine ka fun p f g=>?_
  exact cz (fun e=>a (e▸g))
end
end
section
open Go
inductive o5 (O:Nat→AO) (sF:Nat→Fr) (sH:Nat→AH) (t b:Nat):Prop where
 |alloc (w:(O t).wanted (sF t)=true) (k:bI (O t).o= .alloc) (e:b=(sH t).nx)
 |st (w:(O t).wanted (sF t)=true) (k:bI (O t).o= .st) (e:aY (O t) (sF t)=some b)
 |dM (w:(O t).wanted (sF t)=true) (k:bI (O t).o= .dM)
open Classical in
noncomputable def gS (O:Nat→AO) (sF:Nat→Fr) (sH:Nat→AH) (S:Nat→Bool):Nat→Nat→Option jo
 |0=>(sH 0).raw
 |t+1=>fun b=>if S t=true∧o5 O sF sH t b then(sH (t+1)).raw b else gS O sF sH S t b
noncomputable def gB (O:Nat→AO) (sF:Nat→Fr) (sH:Nat→AH) (S:Nat→Bool):Nat→Option (Nat×ByteArray)
 |0=>(sH 0).bs
 |t+1=>if S t=true∧(O t).wanted (sF t)=true∧bI (O t).o= .dM then(sH (t+1)).bs else gB O sF sH S t
noncomputable def kS (O:Nat→AO) (sF:Nat→Fr) (sH:Nat→AH) (S:Nat→Bool) (m nx:Nat):AH:=⟨gS O sF sH S m,(sH 0).n0,nx,.nil,gB O sF sH S m⟩
section
variable{call:Cl} {O:Nat→AO} {n:Nat} {sF:Nat→Fr} {sH:Nat→AH} {iM:Nat→Nat→Prop}
theorem nA (S:Nat→Bool) (m a b:Nat):(kS O sF sH S m a).raw b=gS O sF sH S m b:=rfl
theorem eH (S:Nat→Bool) (m a b:Nat) (h:b<a):(kS O sF sH S m a).get b=gS O sF sH S m b:=by
 rw [AH.bO (by exact h)];rfl
theorem nB {S S':Nat→Bool} {b m:Nat} (h:∀p,p<m→o5 O sF sH p b→S p=S' p):gS O sF sH S m b=gS O sF sH S' m b:=by
 induction m with
 |zero=>rfl
 |succ m ih=>
  have ih:=ih fun p c=>h p (by omega)
  simp only [gS];by_cases a:o5 O sF sH m b
  ·rw [h m (by omega) a,ih]
  ·rw [if_neg (fun e=>a e.2),if_neg (fun e=>a e.2),ih]
theorem hX {S:Nat→Bool} {b t m:Nat} (d:t≤m) (h:∀p,t≤p→p<m→S p=true→¬ o5 O sF sH p b):gS O sF sH S m b=gS O sF sH S t b:=by
 induction m with
 |zero=>obtain rfl:t=0:=by omega
        rfl
 |succ m ih=>
  rcases Nat.lt_or_ge m t with a|a
  · obtain rfl:t=m+1:=by omega
    rfl
  · have ih:=ih a fun p c f=>h p c (by omega)
    simp only [gS];rw [if_neg (fun e=>h m a (by omega) e.1 e.2),ih]
theorem nC {S S':Nat→Bool} {m:Nat} (h:∀p,p<m→(O p).wanted (sF p)=true→bI (O p).o= .dM→S p=S' p):gB O sF sH S m=gB O sF sH S' m:=by
 induction m with
 |zero=>rfl
 |succ m ih=>
  have ih:=ih fun p b=>h p (by omega)
  simp only [gB];by_cases a:(O m).wanted (sF m)=true∧bI (O m).o= .dM
  ·rw [h m (by omega) a.1 a.2,ih]
  ·rw [if_neg (fun e=>a e.2),if_neg (fun e=>a e.2),ih]
theorem kb {S:Nat→Bool} {t m:Nat} (c:t≤m) (h:∀p,t≤p→p<m→S p=true→(O p).wanted (sF p)=true→bI (O p).o≠ .dM):gB O sF sH S m=gB O sF sH S t:=by
 induction m with
 |zero=>obtain rfl:t=0:=by omega
        rfl
 |succ m ih=>
  rcases Nat.lt_or_ge m t with a|a
  · obtain rfl:t=m+1:=by omega
    rfl
  · have ih:=ih a fun p b d=>h p b (by omega)
    simp only [gB];rw [if_neg (fun e=>h m a (by omega) e.1 e.2.1 e.2.2),ih]
variable(R:gg call O n sF sH iM)
include R
theorem gg.wy {t:Nat} (g:t<n) (h:¬ ((O t).wanted (sF t)=true∧bI (O t).o= .dM)):(sH (t+1)).bs=(sH t).bs:=by
 obtain ⟨x,i,_⟩:=R.one g
 cases i with
 |off a e d=>rw [d]
 |call a f as j e d=>exact absurd ⟨a,dI e⟩ h
 |val a e=>
  cases b:bI (O t).o with
  |pure=>rw [(gk b e).1]
  |load=>rw [(gl b e).1]
  |read=>rw [(gm b e).1]
  |dM=>exact absurd ⟨a,b⟩ h
  |alloc=>
   obtain ⟨bw,d,_⟩:=dQ b e;rw [d];rfl
  |st=>
   obtain ⟨c,bw,h2,_,d,_⟩:=j7 b e;rw [d];rfl
theorem gg.qo {m:Nat} (a:m≤n):gB O sF sH (fun _=>true) m=(sH m).bs:=by
 induction m with
 |zero=>rfl
 |succ m ih=>
  simp only [gB];by_cases h:(O m).wanted (sF m)=true∧bI (O m).o= .dM
  ·rw [if_pos (by first|exact ⟨rfl,h⟩|exact ⟨trivial,h⟩)]
  ·rw [if_neg (fun e=>h e.2),ih (by omega),R.wy (by omega) h]
theorem gg.still {t:Nat} (j:t<n) {b:Nat} (h:¬ o5 O sF sH t b):(sH (t+1)).raw b=(sH t).raw b:=by
 obtain ⟨x,k,_⟩:=R.one j
 cases k with
 |off a e g=>rw [g]
 |call a f as l e g=>exact absurd (.dM a (dI e)) h
 |val a e=>
  cases d:bI (O t).o with
  |pure=>rw [(gk d e).1]
  |load=>rw [(gl d e).1]
  |read=>rw [(gm d e).1]
  |dM=>exact absurd (.dM a d) h
  |alloc=>
   obtain ⟨bw,g,_⟩:=dQ d e;rw [g,AH.aP,if_neg];exact fun i=>h (.alloc a d i)
  |st=>
   obtain ⟨c,bw,h2,_,g,_⟩:=j7 d e;rw [g,AH.aQ,if_neg];intro i;subst i;exact h (.st a d h2)
theorem gg.qp {m:Nat} (a:m≤n) (b:Nat):gS O sF sH (fun _=>true) m b=(sH m).raw b:=by
 induction m with
 |zero=>rfl
 |succ m ih=>
  simp only [gS];by_cases h:o5 O sF sH m b
  ·rw [if_pos ⟨rfl,h⟩]
  ·rw [if_neg (fun e=>h e.2),ih (by omega),R.still (by omega) h]
theorem gg.bD {t:Nat} (c:t<n) (w:(O t).wanted (sF t)=true) (k:bI (O t).o= .alloc):(sH (t+1)).nx=(sH t).nx+1:=by
 obtain ⟨x,d,_⟩:=R.one c
 cases d with
 |off a e b=>rw [w]at a;cases a
 |call a f as g e b=>rw [dI e]at k;cases k
 |val a e=>
  obtain ⟨bw,b,_⟩:=dQ k e;rw [b];rfl
structure D3 (O:Nat→AO) (n:Nat) (sF:Nat→Fr) (sH:Nat→AH) (S:Nat→Bool) (Dm:Nat→Prop):Prop where
 qq:∀b,Dm b→b<(sH 0).nx∨∃t,t<n∧S t=true∧(sH t).nx≤b∧b<(sH (t+1)).nx
 D4:∀p,p<n→S p=true→(O p).wanted (sF p)=true→bI (O p).o= .st→∀b,aY (O p) (sF p)=some b→Dm b
variable{S:Nat→Bool} {Dm:Nat→Prop} (D:D3 O n sF sH S Dm)
include D
theorem gg.kc {p:Nat} (c:p<n) (d:S p=false) (w:(O p).wanted (sF p)=true) (k:bI (O p).o= .alloc):¬ Dm (sH p).nx:=by
 intro h;rcases D.qq _ h with h|⟨t,e,b,f,h2⟩
 ·have:=R.cD (Nb p) (by omega);omega
 ·rcases Nat.lt_trichotomy t p with a|a|a
  ·have:=R.cD (show t+1≤p by omega) (by omega);omega
  ·subst a;rw [d]at b;cases b
  ·have:=R.cD (show p+1≤t by omega) (by omega)
   rw [R.bD c w k]at this;omega
variable{t:Nat} (C:zB n iM S t)
include C
theorem gg.ahead {b:Nat} (j:Dm b) (h:∀p,p<t→S p=false→(O p).wanted (sF p)=true→bI (O p).o= .st→bI (O t).o= .st→aY (O p) (sF p)≠some b):gS O sF sH S t b=(sH t).raw b:=by
 rw [←R.qp (Nat.le_of_lt C.lt)];refine nB fun p d g=>?_
 cases f:S p with
 |true=>rfl
 |false=>
  exfalso;obtain ⟨_,_,_,a⟩:=R.before C d f;have i:p<n:=Nat.lt_trans d C.lt
  cases g with
  |alloc w k e=>subst e;exact R.kc D i f w k j
  |st w k e=>
   rw [k]at a
   cases c:bI (O t).o<;>rw [c]at a<;>first
    |(simp [bu,l7.dt]at a;done)
    |exact h p d f w k c e
  |dM w k=>
   rw [k]at a;cases c:bI (O t).o<;>rw [c]at a<;>simp [bu,l7.dt]at a
theorem gg.load {a:Addr} {vs:List Value} (w:(O t).wanted (sF t)=true) (k:bI (O t).o= .load) (z:dO (O t) (sF t) (sH t)=some (a,vs)) (B:aY (O t) (sF t)=some a.block) (f:(sH t).ldn a vs.length=some vs) (A:Dm a.block):
 (kS O sF sH S n (sH n).nx).ldn a vs.length=some vs:=by
 have l:a.block<(sH t).nx:=by
  obtain ⟨x,s⟩:=Nm.1 (bE f).1;exact AH.ec s
 have key:∀m,t≤m→m≤n→(kS O sF sH S m (sH n).nx).ldn a vs.length=some vs:=by
  intro m y
  induction m with
  |zero=>
   intro v;obtain rfl:t=0:=by omega
   rw [←f];refine bX ?_ rfl;rw [eH _ _ _ _ (by have:=R.cD (Nb n) (MM _);omega),AH.bO l];rfl
  |succ m ih=>
   intro v;rcases Nat.lt_or_eq_of_le y with q|q
   ·have ih:=ih (by omega) (by omega)
    have h:a.block<(sH n).nx:=by have:=R.cD (Nat.le_of_lt C.lt) (MM _);omega
    by_cases b:S m=true∧o5 O sF sH m a.block
    ·obtain ⟨b,u⟩:=b
     have g:t<m:=by
      rcases Nat.lt_or_eq_of_le (show t≤m by omega)with h2|h2
      ·exact h2
      ·subst h2;rw [C.out]at b;cases b
     obtain ⟨j,_,_,H⟩:=R.behind C g (by omega) b
     cases u with
     |alloc c d e=>
      have:=R.cD (show t≤m by omega) (by omega);omega
     |st c d e=>exact absurd rfl (R.c2 t m g (by omega) j w c (.inl k) d a.block a.block B e)
     |dM c d=>
      obtain ⟨x,r,F⟩:=R.c0 t m g (by omega) j w c k d;rw [z]at r;cases r;have E:=o4 F;rw [←E];refine bX ?_ (R.yB (m+1) (by omega)).symm;rw [eH _ _ _ _ h];have:a.block<(sH (m+1)).nx:=by have:=R.cD (show t≤m+1 by omega) (by omega);omega
      rw [AH.bO this];simp only [gS];rw [if_pos ⟨b,.dM c d⟩]
    ·rw [←ih]
     refine bX ?_ rfl;rw [eH _ _ _ _ h,eH _ _ _ _ h];simp only [gS];rw [if_neg b]
   ·subst q
    rw [←f];refine bX ?_ (R.yB _ (by omega)).symm;rw [eH _ _ _ _ (by have:=R.cD (show m+1≤n by omega) (MM _);omega),AH.bO l];exact R.ahead D C A fun p G b c d i=>by rw [k]at i;cases i
 exact key n (Nat.le_of_lt C.lt) (MM _)
theorem gg.look {b:Nat} (w:(O t).wanted (sF t)=true) (k:bI (O t).o= .read∨bI (O t).o= .st) (l:aY (O t) (sF t)=some b) (s:((sH t).get b).isSome=true) (v:Dm b):
 (kS O sF sH S n (sH n).nx).get b=(sH t).get b:=by
 have u:b<(sH t).nx:=by
  obtain ⟨x,q⟩:=Nm.1 s;exact AH.ec q
 rw [eH _ _ _ _ (by have:=R.cD (Nat.le_of_lt C.lt) (MM _);omega),AH.bO u,hX (t:=t) (Nat.le_of_lt C.lt)]
 ·refine R.ahead D C v fun p f d c a m e=>?_
  obtain ⟨g,_⟩:=R.before C f d;exact absurd rfl (R.c2 p t f C.lt g c w (.inr (.inr a)) m b b e l)
 ·intro p f j d r
  have i:t<p:=by
   rcases Nat.lt_or_eq_of_le f with h2|h2
   ·exact h2
   ·subst h2;rw [C.out]at d;cases d
  obtain ⟨g,_,_,h⟩:=R.behind C i j d
  cases r with
  |alloc c a e=>
   have:=R.cD (show t≤p by omega) (by omega);omega
  |st c a e=>
   exact absurd rfl (R.c2 t p i j g w c (.inr k) a b b l e)
  |dM c a=>
   rw [a]at h;rcases k with k|k<;>rw [k]at h<;>simp [bu,l7.dt]at h
omit R D C in
theorem gn {b:Nat} (h:¬ o5 O sF sH t b):gS O sF sH (ins S t) n b=gS O sF sH S n b:=
 nB fun p c a=>cz (fun e=>h (e▸a))
theorem gg.iO {b:Nat} (h:o5 O sF sH t b):gS O sF sH (ins S t) n b=(sH (t+1)).raw b:=by
 have stop:(∀p,t<p→p<n→S p=true→¬ o5 O sF sH p b)→gS O sF sH (ins S t) n b=(sH (t+1)).raw b:=by
  intro u;rw [hX (t:=t+1) C.lt]
  ·simp only [gS]
   rw [if_pos ⟨bY,h⟩]
  ·intro p i g a
   rw [cz (by omega)]at a;exact u p (by omega) g a
 cases h with
 |dM w k=>
  refine stop fun p i g a l=>?_
  obtain ⟨q,_,_,d⟩:=R.behind C i g a;rw [k]at d;cases s:bI (O p).o<;>rw [s]at d<;>simp [bu,l7.dt]at d
 |st w k e=>
  refine stop fun p i g a l=>?_
  obtain ⟨q,_,_,d⟩:=R.behind C i g a
  cases l with
  |alloc f c j=>rw [k,c]at d;simp [bu,l7.dt]at d
  |dM f c=>rw [k,c]at d;simp [bu,l7.dt]at d
  |st f c j=>exact absurd rfl (R.c2 t p i g q w f (.inr (.inr k)) c b b e j)
 |alloc w k e=>
  have key:∀m,t+1≤m→m≤n→gS O sF sH (ins S t) m b=(sH (t+1)).raw b:=by
   intro m d
   induction m with
   |zero=>omega
   |succ m ih=>
    intro x;rcases Nat.lt_or_eq_of_le d with v|v
    ·have ih:=ih (by omega) (by omega)
     simp only [gS];by_cases a:ins S t m=true∧o5 O sF sH m b
     ·rw [if_pos a]
      obtain ⟨a,l⟩:=a;rw [cz (by omega)]at a;obtain ⟨q,_,_,_⟩:=R.behind C (show t<m by omega) (by omega) a
      cases l with
      |alloc f c j=>
       have h2:=R.cD (show t+1≤m by omega) (by omega);rw [R.bD C.lt w k]at h2;omega
      |st f c j=>
       have:=D.D4 m (by omega) a f c b j;subst e;exact absurd this (R.kc D C.lt C.out w k)
      |dM f c=>
       have r:=R.c1 t m (by omega) (by omega) q w f k c;have h2:=R.bD C.lt w k;have y:=R.cD (show t+1≤m+1 by omega) (by omega);rw [AH.bO (by omega),AH.bO (by omega)]at r;rw [e];exact r
     ·rw [if_neg a,ih]
    ·have:m=t:=by omega
     subst this;simp only [gS];rw [if_pos ⟨bY,.alloc w k e⟩]
  exact key n C.lt (MM _)
end
end
section
open Go
section
variable{call:Cl} {O:Nat→AO} {n:Nat} {sF:Nat→Fr} {sH:Nat→AH} {iM:Nat→Nat→Prop}
structure Step (call:Cl) (O:Nat→AO) (n:Nat) (sF:Nat→Fr) (sH:Nat→AH) (S:Nat→Bool) (Dm:Nat→Prop) (t:Nat) (Hx Hy:AH):Prop where
 run:dN call (O t) (j9 O sF S n) Hx=some ((j9 O sF S n).aq (O t).d (j8 O sF t),Hy)
 pre:∀b,Dm b→Hx.raw b=gS O sF sH S n b
 GY:Hx.n0=(sH 0).n0
 post:∀b,gS O sF sH (ins S t) n b=Hy.raw b
 GZ:Hy.n0=(sH 0).n0
 G0:Hx.bs=gB O sF sH S n
 G3:gB O sF sH (ins S t) n=Hy.bs
 lo:(sH 0).nx≤Hx.nx
 hi:Hy.nx≤(sH n).nx
 out:¬ Dm Hx.nx
 fresh:bI (O t).o= .dM→∀b,Hx.nx≤b→¬ Dm b
 new:∀b,Hx.nx≤b→b<Hy.nx→(sH t).nx≤b∧b<(sH (t+1)).nx
variable(R:gg call O n sF sH iM) {S:Nat→Bool} {Dm:Nat→Prop} (D:D3 O n sF sH S Dm) {t:Nat} (C:zB n iM S t)
include R D
theorem gg.hY {b:Nat} (h:(sH n).nx≤b):¬ Dm b:=by
 intro a;rcases D.qq b a with c|⟨p,d,_,c,h2⟩
 ·have:=R.cD (Nb n) (MM _);omega
 ·have:=R.cD (show p+1≤n by omega) (MM _);omega
include C
omit R D C in
theorem mK (h:¬ ((O t).wanted (sF t)=true∧bI (O t).o= .dM)):gB O sF sH (ins S t) n=gB O sF sH S n:=
 nC fun p _ w k=>cz (fun e=>h (e▸⟨w,k⟩))
theorem gg.same {x:Value} (c:∀f:Fr,f.aq (O t).d x=f.aq (O t).d (j8 O sF t)) (a:∀b,¬ o5 O sF sH t b)
 (h:One call (O t) (sF t) (kS O sF sH S n (sH n).nx) x (kS O sF sH S n (sH n).nx)):Step call O n sF sH S Dm t (kS O sF sH S n (sH n).nx) (kS O sF sH S n (sH n).nx)where
 run:=bx.2 ⟨x,(c _).symm,(R.jJ C).one h⟩
 pre:=fun b _=>rfl
 GY:=rfl
 post:=fun b=>gn (a b)
 GZ:=rfl
 G0:=rfl
 G3:=mK fun e=>a 0 (.dM e.1 e.2)
 lo:=R.cD (Nb n) (MM _)
 hi:=MM _
 out:=R.hY D (MM _)
 fresh:=fun _ b g=>R.hY D g
 new:=fun b i h2=>by omega
theorem gg.wz (I:(O t).wanted (sF t)=true→∀b,aY (O t) (sF t)=some b→Dm b):∃J Hy,Step call O n sF sH S Dm t J Hy:=by
 obtain ⟨x,z,r⟩:=R.one C.lt;have V:=R.cD (show t+1≤n from C.lt) (MM _);have Me:=R.cD (show t≤n by have:=C.lt;omega) (MM _);have N:=R.cD (Nb t) (Nat.le_of_lt C.lt);have L:(kS O sF sH S n (sH n).nx).n0=(sH t).n0:=(R.yB t (Nat.le_of_lt C.lt)).symm
 have P:(O t).wanted (sF t)=true→bI (O t).o= .dM→∃J Hy,Step call O n sF sH S Dm t J Hy:=by
  intro w k
  have B:∀p,t<p→p<n→S p=true→False:=by
   intro p l u g;obtain ⟨_,_,_,y⟩:=R.behind C l u g;rw [k]at y;cases d:bI (O p).o<;>rw [d]at y<;>simp [bu,l7.dt]at y
  have fresh:∀b,(sH t).nx≤b→¬ Dm b:=by
   intro b j U;rcases D.qq b U with h2|⟨p,l,g,h2,q⟩
   ·omega
   ·rcases Nat.lt_trichotomy p t with i|i|i
    ·have:=R.cD (show p+1≤t by omega) (Nat.le_of_lt C.lt);omega
    ·subst i;rw [C.out]at g;cases g
    ·exact B p i l g
  have X:(sH t).bs=gB O sF sH S n:=by
   rw [kb (t:=t) (Nat.le_of_lt C.lt),←R.qo (Nat.le_of_lt C.lt)]
   ·refine nC fun p l F E=>?_
    cases g:S p with
    |true=>rfl
    |false=>
     obtain ⟨_,_,_,y⟩:=R.before C l g;rw [k,E]at y;simp [bu,l7.dt]at y
   ·intro p l u g F E
    rcases Nat.lt_or_eq_of_le l with i|i
    ·exact B p i u g
    ·subst i;rw [C.out]at g;cases g
  have W:gB O sF sH (ins S t) n=(sH (t+1)).bs:=by
   rw [kb (t:=t+1) C.lt]
   ·simp only [gB]
    rw [if_pos ⟨bY,w,k⟩]
   ·intro p l u g F E
    rw [cz (by omega)]at g;exact B p (by omega) u g
  refine ⟨sH t,sH (t+1),?_,?_,R.yB t (Nat.le_of_lt C.lt),?_,R.yB (t+1) C.lt,X,W,N,V,fresh _ (MM _),fun _=>fresh,fun b h2 q=>⟨h2,q⟩⟩
  ·exact bx.2 ⟨x,(r _).symm,(R.jJ C).one z⟩
  ·intro b j
   rw [hX (t:=t) (Nat.le_of_lt C.lt)]
   ·exact (R.ahead D C j fun p l g F E K=>by rw [k]at K;cases K).symm
   ·intro p l u g
    rcases Nat.lt_or_eq_of_le l with i|i
    ·exact (B p i u g).elim
    ·subst i;rw [C.out]at g;cases g
  ·intro b
   exact R.iO D C (.dM w k)
 cases z with
 |off w e A=>
  exact ⟨_,_,R.same D C r (fun b s=>by
   have:(O t).wanted (sF t)=true:=by cases s<;>assumption
   rw [w]at this
   cases this) (.off w e rfl)⟩
 |call w f as H1 e A=>exact P w (dI e)
 |val w e=>
  have quiet:(bI (O t).o≠ .alloc)→(bI (O t).o≠ .st)→(bI (O t).o≠ .dM)→∀b,¬ o5 O sF sH t b:=by
   intro h2 q i b s
   cases s with
   |alloc _ k _=>exact h2 k
   |st _ k _=>exact q k
   |dM _ k=>exact i k
  cases d:bI (O t).o with
  |dM=>exact P w d
  |pure=>
   exact ⟨_,_,R.same D C r (quiet (by simp [d]) (by simp [d]) (by simp [d])) (.val w ((gk d e).2 _))⟩
  |load=>
   obtain ⟨_,a,Y,T,m,Q,v⟩:=gl d e;exact ⟨_,_,R.same D C r (quiet (by simp [d]) (by simp [d]) (by simp [d])) (.val w (v _ (R.load D C w d T m Q (I w _ m))))⟩
  |read=>
   obtain ⟨_,v⟩:=gm d e;exact ⟨_,_,R.same D C r (quiet (by simp [d]) (by simp [d]) (by simp [d])) (.val w (v _ (fun b m G=>R.look D C w (.inl d) m G (I w _ m)) L))⟩
  |st=>
   obtain ⟨c,bw,m,G,A,v⟩:=j7 d e;have q:=v (kS O sF sH S n (sH n).nx) (R.look D C w (.inr d) m G (I w _ m)) L;have H:One call (O t) (sF t) (kS O sF sH S n (sH n).nx) x ((kS O sF sH S n (sH n).nx).put c bw):=.val w q;refine ⟨_,_,bx.2 ⟨x,(r _).symm,(R.jJ C).one H⟩,fun b _=>rfl,rfl,fun b=>?_,rfl,rfl,mK (fun e=>by rw [d]at e;cases e.2),R.cD (Nb n) (MM _),MM _,R.hY D (MM _),fun _ b j=>R.hY D j,fun b z h2=>?_⟩
   ·rw [AH.aQ]
    by_cases j:b=c
    ·subst j
     rw [if_pos rfl,R.iO D C (.st w d m),A,AH.aQ,if_pos rfl]
    ·rw [if_neg j,gn]
     ·rfl
     ·intro s
      cases s with
      |alloc _ k _=>rw [d]at k;cases k
      |dM _ k=>rw [d]at k;cases k
      |st _ _ e=>rw [m]at e;cases e;exact j rfl
   ·have:b<(sH n).nx:=h2
    have:(sH n).nx≤b:=z;omega
  |alloc=>
   obtain ⟨bw,A,v⟩:=dQ d e;have q:=v (kS O sF sH S n (sH t).nx) rfl;have H:One call (O t) (sF t) (kS O sF sH S n (sH t).nx) x ((kS O sF sH S n (sH t).nx).alloc bw):=.val w q;have Z:=R.bD C.lt w d;refine ⟨_,_,bx.2 ⟨x,(r _).symm,(R.jJ C).one H⟩,fun b _=>rfl,rfl,fun b=>?_,rfl,rfl,mK (fun e=>by rw [d]at e;cases e.2),N,?_,R.kc D C.lt C.out w d,fun h=>?_,fun b z h2=>?_⟩
   ·rw [AH.aP]
    by_cases j:b=(kS O sF sH S n (sH t).nx).nx
    ·have M:b=(sH t).nx:=j
     rw [if_pos j,R.iO D C (.alloc w d M),A,AH.aP,if_pos M]
    ·rw [if_neg j,gn]
     ·rfl
     ·intro s
      cases s with
      |alloc _ k e=>exact j e
      |dM _ k=>rw [d]at k;cases k
      |st _ k e=>rw [d]at k;cases k
   ·show(sH t).nx+1≤_
    omega
   ·rw [d]at h;cases h
   ·have uS:(sH t).nx≤b:=z
    have sQ:b<(sH t).nx+1:=h2;omega
end
end
section
open Go
theorem kd {α:Type}:∀(l:List α) (n:Nat),nth l n=l[n]?
 |[],n=>by simp [nth]
 |x::l,0=>by simp [nth]
 |x::l,n+1=>by simp [nth,kd l n]
theorem gp {call:Cl}:∀(l:List AO) (a:Fr) (H:AH) (b:List (Fr×AH)),ef call l a H=some b→
 b.length=l.length∧cN (a,H) b=(((a,H)::b)[l.length]?).getD (a,H)∧
 ∀t o,l[t]?=some o→∃s c,((a,H)::b)[t]?=some s∧((a,H)::b)[t+1]?=some c∧dN call o s.1 s.2=some c
 |[],a,H,b,h=>by
  simp only [ef,MH]at h;subst h;exact ⟨rfl,rfl,fun t o h=>(by simp at h)⟩
 |o::l,a,H,b,h=>by
  simp only [ef]at h
  cases e:dN call o a H with
  |none=>simp [e]at h
  |some r=>
   obtain ⟨f,g⟩:=r;simp only [e]at h
   cases h2:ef call l f g with
   |none=>simp [h2]at h
   |some i=>
    simp only [h2,MH]at h;subst h;obtain ⟨j,p,n⟩:=gp l f g i h2;refine ⟨by simp [j],?_,fun t k d=>?_⟩
    ·simp only [cN,p,List.length_cons,List.getElem?_cons_succ]
     cases m:((f,g)::i)[l.length]? with
     |some q=>rfl
     |none=>
      have:=List.getElem?_eq_none_iff.1 m;simp only [List.length_cons,j]at this;omega
    ·cases t with
     |zero=>
      simp only [MF,MH]at d;subst d;exact ⟨_,_,rfl,rfl,e⟩
     |succ t=>
      obtain ⟨s,c,w,v,u⟩:=n t k (by simpa using d);exact ⟨s,c,by simpa using w,by simpa using v,u⟩
theorem fv:∀(l:List (Fr×AH)),chain l=true→∀t s c,l[t]?=some s→l[t+1]?=some c→c.2.n0=s.2.n0∧s.2.nx≤c.2.nx
 |[],_,t,s,c,h,_=>by simp at h
 |[a],_,t,s,c,_,h=>by simp at h
 |a::b::l,d,t,s,c,e,h2=>by
  simp only [chain,MK,nb,MU,Nat.ble_eq]at d
  cases t with
  |zero=>
   simp at e h2;subst e;subst h2;exact ⟨d.1.1.symm,d.1.2⟩
  |succ t=>exact fv (b::l) d.2 t s c (by simpa using e) (by simpa using h2)
theorem dR {l:List AO} {f:List (List Nat)}:∀(ord:List Nat) (am:List (Nat×Nat)) (t:Nat) (r:Row),(eo l f ord am)[t]?=some r→
 l[r.j]?=some r.o∧r.k=bI r.o.o∧f[r.j]?=some r.dep∧
  ∀i,r.m.testBit i=true→∃e∈r.dep,e=i∨(∃q<t,∃r':Row,(eo l f ord am)[q]?=some r'∧r'.j=e∧r'.m.testBit i=true)∨(jF e am).testBit i=true
 |[],am,t,r,h=>by simp [eo]at h
 |j::ord,am,t,r,h=>by
  simp only [eo]at h⊢
  cases c:nth l j with
  |none=>simp [c]at h
  |some o=>
   cases g:nth f j with
   |none=>simp [c,g]at h
   |some d=>
    simp only [c,g]at h⊢
    cases t with
    |zero=>
     simp only [MF,MH]at h;subst h;refine ⟨by rw [←kd];exact c,rfl,by rw [←kd];exact g,fun i hi=>?_⟩
     have key:∀(d:List Nat),(fh am d).testBit i=true→∃e∈d,e=i∨(jF e am).testBit i=true:=by
      intro d
      induction d with
      |nil=>intro h;simp [fh]at h
      |cons e d ih=>
       intro h;simp only [fh,Nat.testBit_or,Bool.or_eq_true]at h;rcases h with h|h|h
       ·obtain ⟨y,b,h2⟩:=ih h
        exact ⟨y,List.mem_cons_of_mem _ b,h2⟩
       ·refine ⟨e,List.mem_cons_self,.inl ?_⟩
        rw [Nat.one_shiftLeft,Nat.testBit_two_pow]at h
        simpa using h
       ·exact ⟨e,List.mem_cons_self,.inr h⟩
     obtain ⟨e,b,h2⟩:=key d hi;exact ⟨e,b,h2.imp id .inr⟩
    |succ t=>
     simp only [List.getElem?_cons_succ]at h;obtain ⟨b,h2,x,w⟩:=dR ord _ t r h;refine ⟨b,h2,x,fun i hi=>?_⟩;obtain ⟨e,p,a⟩:=w i hi;refine ⟨e,p,?_⟩;rcases a with a|⟨q,z,r',v,u,s⟩|a
     ·exact .inl a
     ·exact .inr (.inl ⟨q+1,by omega,r',by simpa using v,u,s⟩)
     ·simp only [jF,nb,Bool.cond_decide]at a
      split at a
      ·rename_i n
       exact .inr (.inl ⟨0,by omega,_,rfl,n,a⟩)
      ·exact .inr (.inr a)
theorem iP:∀(rs:List Row) (done:List Nat),ng rs done=true→∀(t:Nat) (r:Row),rs[t]?=some r→
 (r.j∉done∧∀(q:Nat) (r':Row),q<t→rs[q]?=some r'→r'.j≠r.j)∧∀e∈r.dep,e∈done∨∃q<t,∃r':Row,rs[q]?=some r'∧r'.j=e
 |[],_,_,t,r,h=>by simp at h
 |y::rs,done,h,t,r,a=>by
  simp only [ng,MK,Bool.not_eq_true',MY]at h;obtain ⟨⟨k,h2⟩,p⟩:=h
  cases t with
  |zero=>
   simp only [MF,MH]at a;subst a;refine ⟨⟨fun c=>?_,fun q _ g=>by omega⟩,fun e d=>.inl (ep.1 (h2 e d))⟩;rw [ep.2 c]at k;cases k
  |succ t=>
   simp only [List.getElem?_cons_succ]at a;obtain ⟨⟨i,o⟩,n⟩:=iP rs _ p t r a;refine ⟨⟨fun c=>i (List.mem_cons_of_mem _ c),fun q r' g b=>?_⟩,fun e d=>?_⟩
   ·cases q with
    |zero=>
     simp only [MF,MH]at b;subst b;exact fun e=>i (by rw [←e];exact List.mem_cons_self)
    |succ q=>exact o q r' (by omega) (by simpa using b)
   ·rcases n e d with f|⟨q,g,r',m,l⟩
    ·rcases M0.1 f with rfl|f
     ·exact .inr ⟨0,by omega,y,rfl,rfl⟩
     ·exact .inl f
    ·exact .inr ⟨q+1,by omega,r',by simpa using m,l⟩
theorem nE:∀(rs:List Row),pw rs=true→∀(p q:Nat) (x y:Row),p<q→rs[p]?=some x→rs[q]?=some y→pO x y=true
 |[],_,p,q,x,y,_,h,_=>by simp at h
 |z::rs,h,p,q,x,y,c,b,a=>by
  simp only [pw,MK,MY]at h
  cases q with
  |zero=>omega
  |succ q=>
   simp only [List.getElem?_cons_succ]at a
   cases p with
   |zero=>
    simp only [MF,MH]at b;subst b;exact h.1 y (MN a)
   |succ p=>exact nE rs h.2 p q x y (by omega) (by simpa using b) a
theorem gP {p:Nat} {x:Row}:∀(rs:List Row) (a q:Nat) (y:Row),rs[q]?=some y→∀c∈mq p (a+q) x y,c∈j1 p x a rs
 |[],a,q,y,h,c,_=>by simp at h
 |z::rs,a,q,y,h,c,b=>by
  simp only [j1]
  cases q with
  |zero=>
   simp only [MF,MH]at h;subst h;exact List.mem_append_left _ (by simpa using b)
  |succ q=>
   exact List.mem_append_right _ (gP rs (a+1) q y (by simpa using h) c (by rwa [show a+1+q=a+(q+1) by omega]))
theorem iQ:∀(rs:List Row) (a p q:Nat) (x y:Row),p<q→rs[p]?=some x→rs[q]?=some y→∀c∈mq (a+p) (a+q) x y,c∈jG a rs
 |[],_,p,q,x,y,_,h,_,_,_=>by simp at h
 |z::rs,a,p,q,x,y,e,d,b,c,f=>by
  simp only [jG]
  cases q with
  |zero=>omega
  |succ q=>
   simp only [List.getElem?_cons_succ]at b
   cases p with
   |zero=>
    simp only [MF,MH]at d;subst d;exact List.mem_append_left _ (gP rs (a+1) q y b c (by rwa [show a+1+q=a+(q+1) by omega]))
   |succ p=>
    refine List.mem_append_right _ (iQ rs (a+1) p q x y (by omega) (by simpa using d) b c ?_);rwa [show a+1+p=a+(p+1) by omega,show a+1+q=a+(q+1) by omega]
theorem qt {n i:Nat} (h:i<n):i∈sJ n:=by
 induction n with
 |zero=>omega
 |succ n ih=>
  simp only [sJ,M0];by_cases e:i=n
  ·exact .inl e
  ·exact .inr (ih (by omega))
def zF:Row:=⟨⟨none,none,.mkmap⟩,.pure,0,[],0⟩
def rowAt (rs:List Row) (t:Nat):Row:=(rs[t]?).getD zF
def zG (rs:List Row) (p q:Nat):Prop:=(rowAt rs q).m.testBit (rowAt rs p).j=true
theorem aF {rs:List Row} {t:Nat} (h:t<rs.length):rs[t]?=some (rowAt rs t):=by
 unfold rowAt;rw [MG h];rfl
def pD (s0:Fr×AH) (ss:List (Fr×AH)) (t:Nat):Fr:=(((s0::ss)[t]?).getD s0).1
def mL (s0:Fr×AH) (ss:List (Fr×AH)) (t:Nat):AH:=(((s0::ss)[t]?).getD s0).2
theorem wC {call:Cl} {rs:List Row} (u:∀(t:Nat) (r:Row),rs[t]?=some r→r.k=bI r.o.o) (K:pw rs=true) {d:Fr} {H:AH} {a:List (Fr×AH)} (P:ef call (rs.map (·.o)) d H=some a) (D:chain ((d,H)::a)=true)
 (L:(jG 0 rs).all (jZ (rs.map (·.o)) ((d,H)::a))=true):
 gg call (fun t=>(rowAt rs t).o) rs.length (pD (d,H) a) (mL (d,H) a) (zG rs):=by
 obtain ⟨C,_,J⟩:=gp _ _ _ _ P
 have st:∀t,t<rs.length→∃s s',((d,H)::a)[t]?=some s∧((d,H)::a)[t+1]?=some s'∧dN call (rowAt rs t).o s.1 s.2=some s':=
  fun t v=>J t (rowAt rs t).o (by rw [Nd,aF v];rfl)
 have z:∀p q,p<q→q<rs.length→∀c∈mq p q (rowAt rs p) (rowAt rs q),jZ (rs.map (·.o)) ((d,H)::a) c=true:=by
  intro p q f e c M;exact MY.1 L c (iQ rs 0 p q _ _ f (aF (by omega)) (aF e) c (by simpa using M))
 have un:∀p q k,p<q→q<rs.length→(rowAt rs p).o.wanted (pD (d,H) a p)=true→(rowAt rs q).o.wanted (pD (d,H) a q)=true→jZ (rs.map (·.o)) ((d,H)::a) (k,p,q)=true→
  (match k with
   |0=>match dO (rowAt rs p).o (pD (d,H) a p) (mL (d,H) a p)with|some x=>sameAt (mL (d,H) a (q+1)) x|none=>false
   |1=>fH ((mL (d,H) a (p+1)).get (mL (d,H) a p).nx) ((mL (d,H) a (q+1)).get (mL (d,H) a p).nx)
   |_=>match aY (rowAt rs p).o (pD (d,H) a p),aY (rowAt rs q).o (pD (d,H) a q)with|some b,some E=>!Nat.beq b E|_,_=>true)=true:=by
  intro p q k f e wp l h;obtain ⟨V,U,B,G,_⟩:=st p (by omega);obtain ⟨T,S,A,F,_⟩:=st q e;have R:(rs.map (·.o))[p]?=some (rowAt rs p).o:=by rw [Nd,aF (by omega)];rfl
  have Q:(rs.map (·.o))[q]?=some (rowAt rs q).o:=by rw [Nd,aF e];rfl
  unfold pD mL at*;rw [B,Option.getD_some]at wp;rw [A,Option.getD_some]at l;unfold jZ at h;simp only [kd,R,Q,B,G,A,F,wp,l,Bool.not_true,Bool.false_or]at h;rw [B,G,A,F];simp only [Option.getD_some];exact h
 refine ⟨fun t v=>?_,fun t v=>?_,fun t v=>?_,fun p q f e=>?_,?_,?_,?_⟩
 ·obtain ⟨s,s',i,h2,y⟩:=st t v
  unfold pD mL;rw [i,h2];exact y
 ·obtain ⟨s,s',i,h2,y⟩:=st t v
  unfold mL;rw [i,h2];exact (fv _ D t s s' i h2).1
 ·obtain ⟨s,s',i,h2,y⟩:=st t v
  unfold mL;rw [i,h2];exact (fv _ D t s s' i h2).2
 ·have:=nE rs K p q _ _ f (aF (by omega)) (aF e)
  simp only [pO,Bool.or_eq_true,MK]at this;rw [←u p _ (aF (by omega)),←u q _ (aF e)];rcases this with h|⟨⟨i,h2⟩,y⟩
  ·exact .inl h
  ·exact .inr ⟨i,h2,y⟩
 ·intro p q f e w wp l g n
  rw [←u p _ (aF (by omega))]at g;rw [←u q _ (aF e)]at n
  have:=un p q 0 f e wp l (z p q f e _ (by
   unfold mq;rw [show(rowAt rs q).m.testBit (rowAt rs p).j=false from Nn.2 w,g,n]
   simp))
  simp only at this;split at this
  ·rename_i x I
   exact ⟨x,I,this⟩
  ·cases this
 ·intro p q f e w wp l g n
  rw [←u p _ (aF (by omega))]at g;rw [←u q _ (aF e)]at n
  have:=un p q 1 f e wp l (z p q f e _ (by
   unfold mq;rw [show(rowAt rs q).m.testBit (rowAt rs p).j=false from Nn.2 w,g,n]
   simp))
  exact (qm this).symm
 ·intro p q f e w wp l g n b E O N
  rw [←u p _ (aF (by omega))]at g;rw [←u q _ (aF e)]at n
  have:=un p q 2 f e wp l (z p q f e _ (by
   unfold mq;rw [show(rowAt rs q).m.testBit (rowAt rs p).j=false from Nn.2 w,n]
   rcases g with g|g|g<;>rw [g]<;>simp))
  simp only [O,N,nb]at this
  simpa using this
open Go Go.RowKit
section
variable{P:Program}
theorem Rel.iR {w0 w:World} {φ:aw} {H H1:AH} (R:Rel w0 φ H w) (h:∀b,φ.m b≠none→H1.raw b=H.raw b) (B:H1.n0=H.n0) (r:φ.n0≤H1.nx) (u:H1.bs=H.bs):Rel w0 φ H1 w where
 n0:=B.trans R.n0
 jr:=R.jr
 hJ:=r
 c0:=R.c0
 below:=R.below
 la:=R.la
 dd:=R.dd
 dX:=fun b z cs a d=>R.dX b z cs a (by rw [←h b (by rw [R.dd b a];simp)];exact d)
 cells:=fun b l z cs a c d=>R.cells b l z cs a c (by rw [←h b (by rw [c];simp)];exact d)
 maps:=fun b l es a c d=>R.maps b l es a c (by rw [←h b (by rw [c];simp)];exact d)
 inj:=fun j i q p x v f h2 o n t=>R.inj j i q p x v f h2 (by rw [←h j (by rw [f];simp)];exact o) (by rw [←h i (by rw [h2];simp)];exact n) t
 jz:=fun b s e=>by
  obtain ⟨f,h2,l,g,A,y⟩:=R.jz b s (by rw [←u];exact e);exact ⟨f,by rw [h b (by rw [g];simp)];exact h2,l,g,A,y.iA rfl (fun _ _ _=>rfl) fun C F E k D=>.inl ⟨E,k,by rw [←h C (by rw [k];simp)];exact D⟩⟩
theorem bj.comp {φ a f:aw} {H d o n:AH} {w i g:World} (h:bj φ H w a d i) (k:bj a o i f n g) (q:H.nx≤o.nx) (h2:n.nx≤d.nx):bj φ H w f d g where
 le:=aw.le_trans h.le k.le
 n0:=k.n0.trans h.n0
 c0:=k.c0.trans h.c0
 nx:=h.nx
 new:=fun b l e j=>by
  cases c:a.m b with
  |none=>exact ⟨M5 q (k.new b l c j).1,M6 (k.new b l c j).2 h2⟩
  |some p=>exact h.new b p e c
 size:=M5 h.size k.size
theorem ke {φ:aw} {b:Fr} {a:Act} (F:ei φ b a) {x:X} (h:vP x=true) {d:Addr} (e:x.ev b= .pointer (some d)):φ.m d.block≠none:=by
 cases x with
 |t n=>
  have:=F n;rw [show b.get n= .pointer (some d) from e]at this;obtain ⟨l,_,c,_⟩:=this.k9;rw [c];simp
 |k v=>rw [show v= .pointer (some d) from e]at h;cases h
 |f n=>cases e
theorem sZ {φ:aw} {b:Fr} {a:Act} (F:ei φ b a) {x:X} (h:vP x=true) {d:Nat} (e:x.ev b= .map (some d)):φ.m d≠none:=by
 cases x with
 |t n=>
  have:=F n;rw [show b.get n= .map (some d) from e]at this;obtain ⟨l,c,_⟩:=this.DA;rw [c];simp
 |k v=>rw [show v= .map (some d) from e]at h;cases h
 |f n=>cases e
theorem wD {φ:aw} {b:Fr} {a:Act} (F:ei φ b a) {x:X} (h:vP x=true) {d:Addr} {n c:Nat} (e:x.ev b= .slice (some d) n c) (i:d.spot=none):φ.m d.block≠none:=by
 cases x with
 |t m=>
  have:=F m;rw [show b.get m= .slice (some d) n c from e]at this;rcases this.pv with⟨l,o,_,j,_⟩|⟨g,_⟩
  ·rw [j];simp
  ·rw [i]at g;cases g
 |k v=>rw [show v= .slice (some d) n c from e]at h;cases h
 |f n=>cases e
theorem qu {φ:aw} {d:Fr} {a:Act} (F:ei φ d a) {o:AO} (h:o.o.xs.all vP=true) {b:Nat} (e:aY o d=some b):φ.m b≠none:=by
 unfold aY at e;cases g:o.o<;>simp only [g,aS.xs,List.all_cons,MK]at h e<;>(try(cases e;done))
 case st n x v=>
  split at e<;>cases e;rename_i c;exact ke F h.1 c
 case ld x=>
  split at e<;>cases e;rename_i c;exact ke F h.1 c
 case ldn n x=>
  split at e<;>cases e;rename_i c;exact ke F h.1 c
 case look kk z x k ok=>
  split at e<;>cases e;rename_i c;exact sZ F h.1 c
 case sl sz x lo hi mx=>
  split at e
  ·rename_i c
   obtain ⟨f,e⟩:=ae e;cases e;exact wD F h.1 c (by simpa using f)
  ·cases e
def l9 (S:Nat→Bool):Nat→Nat
 |0=>0
 |m+1=>l9 S m+(bif S m then 0 else 1)
theorem lk {S:Nat→Bool}:∀{m:Nat},l9 S m=0→∀t,t<m→S t=true
 |0,_,t,h=>by omega
 |m+1,h,t,b=>by
  simp only [l9]at h;by_cases e:t=m
  ·subst e
   cases a:S t with
   |true=>rfl
   |false=>rw [a]at h;simp at h
  ·exact lk (m:=m) (by omega) t (by omega)
theorem kf {S S':Nat→Bool}:∀{m:Nat},(∀t,t<m→S t=true→S' t=true)→l9 S' m≤l9 S m
 |0,_=>MM _
 |m+1,h=>by
  have:=kf (S:=S) (S':=S') (m:=m) fun t b=>h t (by omega)
  simp only [l9]
  cases a:S m with
  |true=>rw [h m (by omega) a];simpa using this
  |false=>cases S' m<;>simp<;>omega
theorem nG {S:Nat→Bool} {t:Nat} (a:S t=false):∀{m:Nat},t<m→l9 (ins S t) m+1≤l9 S m
 |0,h=>by omega
 |m+1,h=>by
  simp only [l9];by_cases e:t=m
  ·subst e
   rw [bY,a]
   have:=kf (S:=S) (S':=ins S t) (m:=t) fun p _ b=>by
    by_cases e:p=t
    ·subst e;exact bY
    ·rw [cz e];exact b
   simp;omega
  ·rw [cz (fun h=>e h.symm)]
   have:=nG a (m:=m) (by omega);omega
theorem s5 {m:Nat}:l9 (fun _=>false) m=m:=by
 induction m with
 |zero=>rfl
 |succ m ih=>simp [l9,ih]
def jw (rs:List Row) (aH:Array Bool) (t:Nat):Bool:=aH.getD (rowAt rs t).j false
structure s6 (w0 w:World) (φ:aw) (O:Nat→AO) (n:Nat) (sF:Nat→Fr) (sH:Nat→AH) (nt:Nat) (S:Nat→Bool) (ea:aw) (a1:Act) (w1:World):Prop where
 rel:Rel w0 ea (kS O sF sH S n (sH n).nx) w1
 zH:ei ea (j9 O sF S n) a1
 size:a1.tmps.size=nt
 defs:a1.defers=[]
 qq:D3 O n sF sH S (fun b=>ea.m b≠none)
 grow:bj φ (sH 0) w ea (sH n) w1
theorem zI {call:Cl} (W:gj P call) {O:Nat→AO} {n:Nat} {y:Nat→Fr} {g:Nat→AH} {G:Nat→Nat→Prop} (R:gg call O n y g G) {w0 w:World} {φ:aw} (c:φ.n0≤(g 0).nx) {A:Nat} {S:Nat→Bool} {t:Nat} (C:zB n G S t)
 {f:aw} {J:Act} {w1:World} (I:s6 w0 w φ O n y g A S f J w1) {z:Array Oper} {j:Nat} {o:Oper} (U:z[j]?=some o) (X:uP P A z o=some (O t)) (D:(O t).o.xs.all vP=true)
 {Q:Exit→Act→World→Prop} {K:Act→World→Prop} (Y:∀d H q,s6 w0 w φ O n y g A (ins S t) d H q→K H q):wpOp P z Q j K J w1:=by
 obtain ⟨Hx,Hy,a⟩:=R.wz I.qq C (fun _ b c=>qu I.zH D (by rw [qn (R.jJ C)];exact c));have M:f.n0≤Hx.nx:=by rw [I.grow.n0];exact M5 c a.lo
 refine qf W U X I.zH (I.rel.iR (fun b c=>a.pre b c) a.GY M a.G0) (Classical.not_not.1 a.out) (fun T b c=>Classical.not_not.1 (a.fresh T b c)) I.size I.defs a.run ?_;intro d v v' q Z u hv wx F2 L V;refine Y d _ q ⟨?_,?_,L,V,?_,I.grow.comp u a.lo a.hi⟩
 ·refine Z.iR (fun b _=>a.post b) a.GZ.symm ?_ a.G3
  show d.n0≤(g n).nx;rw [u.n0,I.grow.n0];exact M5 c (R.cD (Nb n) (MM _))
 ·intro x
  rw [R.sY C x];exact F2 x
 ·refine ⟨fun b c=>?_,fun p B r w k b E=>?_⟩
  ·by_cases i:f.m b=none
   ·obtain ⟨l,N⟩:∃l,d.m b=some l:=by
     cases h2:d.m b with
     |none=>exact absurd h2 c
     |some l=>exact ⟨l,rfl⟩
    have s:=u.new b l i N;have F:=a.new b s.1 s.2;exact .inr ⟨t,C.lt,bY,F.1,F.2⟩
   ·rcases I.qq.qq b i with h|⟨p,B,r,h2,s⟩
    ·exact .inl h
    ·refine .inr ⟨p,B,?_,h2,s⟩
     by_cases e:p=t
     ·subst e;exact bY
     ·rw [cz e];exact r
  ·have up:∀b,f.m b≠none→d.m b≠none:=by
    intro b h
    cases i:f.m b with
    |none=>exact absurd i h
    |some l=>rw [u.le _ _ i];simp
   by_cases e:p=t
   ·subst e
    exact up b (qu I.zH D (by rw [qn (R.jJ C)];exact E))
   ·rw [cz e]at r
    exact up b (I.qq.D4 p B r w k b E)
theorem ll {d:Nat} {c:Array Oper}:∀{l:List Oper} {a:List AO},fI P d c l=some a→a.length=l.length∧∀(j:Nat) (o:Oper) (b:AO),l[j]?=some o→a[j]?=some b→uP P d c o=some b
 |[],a,h=>by
  simp [fI]at h;subst h;exact ⟨rfl,fun j o b h=>(by simp at h)⟩
 |x::l,a,h=>by
  simp only [fI]at h
  cases e:uP P d c x with
  |none=>simp [e]at h
  |some y=>
   cases h2:fI P d c l with
   |none=>simp [e,h2]at h
   |some m=>
    simp only [e,h2,MH]at h;subst h;obtain ⟨k,i⟩:=ll h2;refine ⟨by simp [k],fun j o b f g=>?_⟩
    cases j with
    |zero=>
     simp at f g;subst f;subst g;exact e
    |succ j=>exact i j o b (by simpa using f) (by simpa using g)
theorem kg {o:Oper} {i:Nat}:i∈sI o↔∃e∈o.after,Region.binds .any e=true∧e.on=i:=by
 unfold sI;rw [List.mem_filterMap];constructor
 ·rintro ⟨e,b,h⟩
  cases a:Region.binds .any e with
  |false=>rw [a]at h;cases h
  |true=>rw [a]at h;cases h;exact ⟨e,by simpa using b,a,rfl⟩
 ·rintro ⟨e,b,a,rfl⟩
  exact ⟨e,by simpa using b,by rw [a];rfl⟩
theorem wE (hm:P.follows .mixedOrders=true) {call:Cl} (eX:gj P call):qi P call:=by
 intro W id g ac hc l ck G5 Q w A H H' fr aL a h F R R0 hs hd;obtain ⟨pC,ord,hl,zm,zJ⟩:=iK hc;generalize BC:eo pC (g.toList.map sI) ord []=rs at zm zJ;rw [zJ]at G5;cases G5;simp only [mr,MK,nb,MU,MY]at zm;obtain ⟨⟨⟨⟨D8,Z⟩,D9⟩,Ea⟩,D6⟩:=zm;obtain ⟨u1,zK⟩:=ll hl;have hn:rs.length=g.size:=by rw [Z,u1];simp
 have row:∀t,t<rs.length→∃o,g[(rowAt rs t).j]?=some o∧uP P W g o=some (rowAt rs t).o∧(rowAt rs t).dep=sI o∧(rowAt rs t).o.o.xs.all vP=true:=by
  intro t f;have hg:=aF f;obtain ⟨d,h2,N,_⟩:=dR ord [] t (rowAt rs t) (by rw [BC];exact hg);rw [Nd]at N
  cases n:g.toList[(rowAt rs t).j]? with
  |none=>simp [n]at N
  |some o=>
   simp [n]at N;exact ⟨o,by simpa using n,zK _ o _ n d,N.symm,MY.2 (D8 _ (MN hg))⟩
 have zL:∀t,t<rs.length→∀i,(rowAt rs t).m.testBit i=true→∃e∈(rowAt rs t).dep,e=i∨∃q<t,(rowAt rs q).j=e∧(rowAt rs q).m.testBit i=true:=by
  intro t f i hi;obtain ⟨_,_,_,h4⟩:=dR ord [] t (rowAt rs t) (by rw [BC];exact aF f);obtain ⟨e,k,B⟩:=h4 i hi;refine ⟨e,k,?_⟩;rcases B with B|⟨q,s,r',h6,h7,h8⟩|B
  ·exact .inl B
  ·rw [BC]at h6
   have:rowAt rs q=r':=by unfold rowAt;rw [h6];rfl
   exact .inr ⟨q,s,by rw [this];exact h7,by rw [this];exact h8⟩
  ·simp [jF]at B
 have Eb:∀t,t<rs.length→(∀q,q<t→(rowAt rs q).j≠(rowAt rs t).j)∧∀e∈(rowAt rs t).dep,∃q<t,(rowAt rs q).j=e:=by
  intro t f;obtain ⟨⟨_,d⟩,h2⟩:=iP rs [] Ea t _ (aF f);refine ⟨fun q s=>d q _ s (aF (by omega)),fun e k=>?_⟩;rcases h2 e k with N|⟨q,s,r',h4,B⟩
  ·cases N
  ·exact ⟨q,s,by unfold rowAt;rw [h4];exact B⟩
 have G6:∀i,i<g.size→∃t,t<rs.length∧(rowAt rs t).j=i:=by
  intro i hi;have:=ep.1 (D9 i (qt (by rw [u1];simpa using hi)));obtain ⟨r,Y,e⟩:=Nh.1 this;obtain ⟨t,f,e2⟩:=List.mem_iff_getElem.1 Y;refine ⟨t,f,?_⟩;unfold rowAt;rw [MG f,Option.getD_some,e2];exact e
 have Ec:∀t,t<rs.length→(rowAt rs t).j<g.size:=by
  intro t f;obtain ⟨o,n,_⟩:=row t f;exact (MW.1 n).1
 unfold pM at h
 cases hT:ef call (rs.map (·.o)) fr H with
 |none=>simp [hT]at h
 |some J=>
  simp only [hT]at h;obtain ⟨pA,h⟩:=ae h;simp only [MK]at pA;have D:=wC (fun t r Y=>(dR ord [] t r (by rw [BC];exact Y)).2.1) D6 hT pA.1 pA.2;have ln:=(gp _ _ _ _ hT).2.1;rw [List.length_map]at ln;simp only [MH]at h;rw [ln]at h;have JN:pD (fr,H) J rs.length=aL:=by unfold pD;rw [h]
  have G7:mL (fr,H) J rs.length=H':=by unfold mL;rw [h]
  have JO:pD (fr,H) J 0=fr:=rfl;have v:mL (fr,H) J 0=H:=rfl;generalize pD (fr,H) J=U at*;generalize mL (fr,H) J=T at*
  have main:∀(fuel:Nat) (aH:Array Bool) (z:aw) (y:Act) (w1:World),aH.size=g.size→l9 (jw rs aH) rs.length≤fuel→
   (∀(j:Nat) (o:Oper),g[j]?=some o→aH.getD j false=true→∀e∈sI o,aH.getD e false=true)→
   s6 Q w A (fun t=>(rowAt rs t).o) rs.length U T W (jw rs aH) z y w1→
   wpAny P .any g (qg Q A w H W .normal aL H') fuel aH y w1:=by
   have fin:∀(aH:Array Bool) (z:aw) (y:Act) (w1:World),(∀t,t<rs.length→jw rs aH t=true)→
    s6 Q w A (fun t=>(rowAt rs t).o) rs.length U T W (jw rs aH) z y w1→qg Q A w H W .normal aL H' .normal y w1:=by
    intro aH z y w1 L I;refine ⟨rfl,z,?_,?_,?_,I.size,I.defs⟩
    ·rw [←G7]
     refine I.rel.iR (fun b _=>?_) (by rw [D.yB _ (MM _)];rfl) ?_ (by rw [←D.qo (MM _)];exact nC fun p c _ _=>(L p c).symm)
     ·rw [nA,←D.qp (MM _)]
      exact nB fun p c _=>(L p c).symm
     ·rw [I.grow.n0]
      exact M5 R.hJ (by rw [←v];exact D.cD (Nb _) (MM _))
    ·rw [←G7,←v];exact I.grow
    ·intro x
     rw [←JN,←D.nz (MM _)];rw [ka (S:=fun _=>true) (S':=jw rs aH) fun p c _=>(L p c).symm];exact I.zH x
   intro fuel
   induction fuel with
   |zero=>
    intro aH z y w1 X G8 BD I;have L:=lk (Nat.le_zero.1 G8);refine ⟨?_,fin aH z y w1 L I⟩;rw [List.eq_nil_iff_forall_not_mem];intro i hi;obtain ⟨h0,o,n,_⟩:=mem_ready.1 hi;obtain ⟨t,f,rfl⟩:=G6 i (MW.1 n).1;have d:=L t f;unfold jw at d;have K:(rowAt rs t).j<aH.size:=by rw [X];exact Ec t f
    simp [K]at h0 d;rw [h0]at d;cases d
   |succ fuel ih=>
    intro aH z y w1 X G8 BD I;refine ⟨fun Y=>?_,fun i hi=>?_⟩
    ·refine fin aH z y w1 ?_ I
     intro t
     induction t using Nat.strongRecOn with
     |_ t JP=>
      intro f
      cases u:jw rs aH t with
      |true=>rfl
      |false=>
       exfalso;obtain ⟨o,n,_,wF,_⟩:=row t f
       have:(rowAt rs t).j∈Region.ready .any g aH:=by
        refine mem_ready.2 ⟨?_,o,n,fun e k hb=>?_⟩
        ·have K:(rowAt rs t).j<aH.size:=by rw [X];exact Ec t f
         unfold jw at u;simp [K]at u⊢;exact u
        ·obtain ⟨q,s,e2⟩:=(Eb t f).2 e.on (by rw [wF];exact kg.2 ⟨e,k,hb,rfl⟩)
         have:=JP q s (by omega);unfold jw at this;rw [e2]at this;exact this
       rw [Y]at this;cases this
    ·obtain ⟨h0,o',Ee,u2⟩:=mem_ready.1 hi
     obtain ⟨t,f,rfl⟩:=G6 i (MW.1 Ee).1;obtain ⟨o,n,Ef,wF,hx⟩:=row t f;rw [n]at Ee;cases Ee;have K:(rowAt rs t).j<aH.size:=by rw [X];exact Ec t f
     have zC:jw rs aH t=false:=by
      unfold jw;simp [K]at h0⊢;exact h0
     have closed:∀q,q<rs.length→(∀e∈(rowAt rs q).dep,aH.getD e false=true)→∀i,(rowAt rs q).m.testBit i=true→aH.getD i false=true:=by
      intro q
      induction q using Nat.strongRecOn with
      |_ q JQ=>
       intro s BE i hi;obtain ⟨e,k,B⟩:=zL q s i hi;rcases B with rfl|⟨p,c,h6,h7⟩
       ·exact BE _ k
       ·refine JQ p c (by omega) (fun e' JR=>?_) i h7
        obtain ⟨op,jt,_,D2,_⟩:=row p (by omega);exact BD _ op jt (by rw [h6];exact BE e k) e' (by rw [←D2];exact JR)
     have C:zB rs.length (zG rs) (jw rs aH) t:=by
      refine ⟨f,zC,fun p c ha=>?_,fun p q lj s JS ha=>?_⟩
      ·refine closed t f (fun e k=>?_) _ ha
       rw [wF]at k;obtain ⟨ed,d,h2,rfl⟩:=kg.1 k;exact u2 ed d h2
      ·refine closed q s (fun e k=>?_) _ ha
       obtain ⟨oq,JT,_,BE,_⟩:=row q s;exact BD _ oq JT JS e (by rw [←BE];exact k)
     have M:∀p,p<rs.length→jw rs (aH.setIfInBounds (rowAt rs t).j true) p=ins (jw rs aH) t p:=by
      intro p c;unfold jw;by_cases e:p=t
      ·subst e
       rw [bY];simp [K]
      ·rw [cz e]
       refine getD_set_ne false ?_;rcases Nat.lt_or_gt_of_ne e with d|d
       ·exact fun h2=>(Eb t f).1 p d h2.symm
       ·exact (Eb p c).1 t d
     refine zI (O:=fun t=>(rowAt rs t).o) eX D (by rw [v];exact R.hJ) C I n Ef hx ?_;intro eE a2 w2 E;refine ih _ eE a2 w2 (by simp [X]) ?_ ?_ ?_
     ·have d:=nG zC f
      have h2:l9 (jw rs (aH.setIfInBounds (rowAt rs t).j true)) rs.length≤l9 (ins (jw rs aH) t) rs.length:=
       kf fun p c h=>by rw [M p c];exact h
      omega
     ·intro j oj Eg hj e k
      by_cases ej:(rowAt rs t).j=j
      ·subst ej
       rw [n]at Eg;cases Eg;obtain ⟨ed,d,h2,rfl⟩:=kg.1 k;exact getD_set_true (u2 ed d h2)
      ·rw [getD_set_ne false ej]at hj
       exact getD_set_true (BD j oj Eg hj e k)
     ·have eF:∀x,(j9 (fun t=>(rowAt rs t).o) U (jw rs (aH.setIfInBounds (rowAt rs t).j true)) rs.length).get x=(j9 (fun t=>(rowAt rs t).o) U (ins (jw rs aH) t) rs.length).get x:=
       fun x=>ka fun p c _=>M p c
      refine ⟨E.rel.iR (fun b _=>nB fun p c _=>M p c) rfl E.rel.hJ (nC fun p c _ _=>M p c),fun x=>by rw [eF];exact E.zH x,E.size,E.defs,⟨fun b hb=>?_,fun p c u=>?_⟩,E.grow⟩
      ·rcases E.qq.qq b hb with d|⟨p,c,u,h2⟩
       ·exact .inl d
       ·exact .inr ⟨p,c,by rw [M p c];exact u,h2⟩
      ·rw [M p c]at u
       exact E.qq.D4 p c u
  refine wp_region_any hm ?_
  have BF:∀t,jw rs (Array.replicate g.size false) t=false:=by
   intro t;unfold jw;by_cases h:(rowAt rs t).j<g.size<;>simp [h]
  refine main g.size _ A a _ (by simp) ?_ ?_ ?_
  ·rw [←hn]
   have:l9 (jw rs (Array.replicate g.size false)) rs.length≤l9 (fun _=>false) rs.length:=kf fun p _ h=>by cases h
   rw [s5]at this;rwa [hn]at this⊢
  ·intro j o _ h
   exfalso;by_cases h2:j<g.size<;>simp [h2]at h
  ·have R':Rel Q A H {w with drawn:=w.drawn+1}:=R.drew rfl rfl rfl rfl
   refine ⟨R'.iR (fun b _=>?_) (by show(T 0).n0=_;rw [v]) ?_ ?_,fun x=>?_,hs,hd,⟨fun b hb=>.inl ?_,fun p c u=>?_⟩,?_⟩
   ·rw [nA,hX (t:=0) (Nb _)]
    ·show(T 0).raw b=_;rw [v]
    ·intro p _ _ h;rw [BF]at h;cases h
   ·refine M5 R.hJ ?_
    rw [←v];exact D.cD (Nb _) (MM _)
   ·show gB _ _ _ _ _=_
    rw [kb (t:=0) (Nb _)]
    ·show(T 0).bs=_;rw [v]
    ·intro p _ _ h;rw [BF]at h;cases h
   ·rw [iN (t:=0) (Nb _)]
    ·show V A ((U 0).get x) _;rw [JO];exact F x
    ·intro p _ _ h;rw [BF]at h;cases h
   ·rw [v]
    rcases Nat.lt_or_ge b H.nx with d|d
    ·exact d
    ·exact absurd (R0 b d) hb
   ·rw [BF]at u;cases u
   ·have G:bj A H w A H {w with drawn:=w.drawn+1}:=bj.of_heap rfl
    rw [v];refine ⟨G.le,G.n0,G.c0,?_,fun b l d h2=>(by rw [d]at h2;cases h2),G.size⟩;rw [←v];exact D.cD (Nb _) (MM _)
end
end
section
open Go Go.RowKit
section
variable{P:Program}
def gq (tmps:Array Value):ResultVar→Sem Value
 | .tmp t=>pure (tmps.getD t undef)
 | .cell a t=>do loadVar t (←asAddr (tmps.getD a undef))
theorem kh (fn:Func) (tmps:Array Value):results fn tmps=(do
 let vs←fn.results.toList.mapM (gq tmps)
 pure (if h:vs.toArray.size=1 then vs.toArray[0]else .tuple vs.toArray)):=by
 have e:results fn tmps=(do
  let vs←fn.results.mapM (gq tmps)
  pure (if h:vs.size=1 then vs[0]else .tuple vs)):=rfl
 rw [e,Array.mapM_eq_mapM_toList];simp
theorem hZ {w0 w:World} {φ:aw} {H:AH} {g:Fr} {a:Act} (F:ei φ g a) (R:Rel w0 φ H w):∀(l:List ResultVar) (m:List RS) (vs:List Value),k7 P l=some m→RS.all g H m=some vs→
 ∃e,(l.mapM (gq a.tmps)).run P w= .ok e w∧VL φ vs e
 |[],m,vs,c,h=>by
  simp [k7]at c;subst c;simp [RS.all]at h;subst h;exact ⟨[],by simp,.nil⟩
 | .tmp t::l,m,vs,c,h=>by
  simp only [k7,MS]at c;obtain ⟨f,k,rfl⟩:=c;simp only [RS.all,RS.get]at h
  cases b:RS.all g H f with
  |none=>simp [b]at h
  |some us=>
   simp only [b,MH]at h;subst h;obtain ⟨e,o,h2⟩:=hZ F R l f us k b;refine ⟨a.tmps.getD t undef::e,?_,.cons (F t) h2⟩;simp [List.mapM_cons,gq,o]
 | .cell t ty::l,m,vs,c,h=>by
  simp only [k7]at c;split at c
  ·rename_i n f r B k
   cases c;simp only [RS.all,RS.get]at h;cases j:g.get t<;>simp [j]at h;rename_i p;cases p<;>simp at h;rename_i z
   cases d:H.ldn z n with
   |none=>simp [d]at h
   |some ws=>
    cases b:RS.all g H f with
    |none=>simp [d,b]at h
    |some us=>
     simp [d,b]at h;subst h;obtain ⟨e,o,h2⟩:=hZ F R l f us k b;have i:=F t;rw [j]at i;obtain ⟨q,A,y,u,s,G,E⟩:=pT R i d;have C:=run_loadCells_list (P:=P) w q A E;rw [u]at C;refine ⟨.agg A.toArray::e,?_,.cons (.agg (by simpa using s) (by simpa using G)) h2⟩;have x:a.tmps.getD t undef= .pointer (some q):=y;simp only [List.mapM_cons,gq,x];simp [asAddr,loadVar,dH r,aI B,C,o]
  ·rename_i n f r B k
   cases c;simp only [RS.all,RS.get]at h;cases j:g.get t<;>simp [j]at h;rename_i p;cases p<;>simp at h;rename_i z
   cases d:H.ld z with
   |none=>simp [d]at h
   |some v=>
    cases b:RS.all g H f with
    |none=>simp [d,b]at h
    |some us=>
     simp [d,b]at h;subst h;obtain ⟨e,o,h2⟩:=hZ F R l f us k b;have i:=F t;rw [j]at i;obtain ⟨q,D,y,u,s⟩:=uR R i d;refine ⟨D::e,?_,.cons s h2⟩;have x:a.tmps.getD t undef= .pointer (some q):=y;simp only [List.mapM_cons,gq,x];simp [asAddr,loadVar,dH r,u,o]
  ·cases c
theorem gQ {w0 w:World} {φ:aw} {H:AH} {b:Fr} {a:Act} (F:ei φ b a) (R:Rel w0 φ H w) {fn:Func} {m:List RS} {vs:List Value} (c:k7 P fn.results.toList=some m) (h:RS.all b H m=some vs):
 ∃v',(results fn a.tmps).run P w= .ok v' w∧V φ (gJ vs) v':=by
 obtain ⟨e,d,h2⟩:=hZ F R _ _ _ c h;rw [kh];simp only [Sem.run_bind,d,Result.andThen_ok,Sem.run_pure]
 cases h2 with
 |nil=>exact ⟨_,rfl,.tuple .nil⟩
 |cons x y=>
  cases y with
  |nil=>exact ⟨_,rfl,x⟩
  |cons y z=>
   refine ⟨_,rfl,?_⟩;simp only [List.size_toArray,List.length_cons];rw [dif_neg (by omega)];exact .tuple (.cons x (.cons y z))
theorem Fr.iS:∀(l:List Value) (i:Nat) (f:Fr) (t:Nat),(Fr.iv i l f).get t=if i≤t∧t<i+l.length then l.getD (t- i) undef else f.get t
 |[],i,f,t=>by
  simp only [Fr.iv,List.length_nil];rw [if_neg (by omega)]
 |v::l,i,f,t=>by
  simp only [Fr.iv,List.length_cons];rw [Fr.iS l,Fr.aG];by_cases a:t=i
  ·subst a
   rw [if_neg (by omega),if_pos rfl,if_pos (by omega)];simp
  ·by_cases h2:i+1≤t∧t<i+1+l.length
   ·rw [if_pos h2,if_pos (by omega)]
    obtain ⟨k,b⟩:∃k,t- i=k+1:=⟨t- i- 1,by omega⟩
    rw [b,show t- (i+1)=k by omega];simp
   ·rw [if_neg h2,if_neg a,if_neg (by omega)]
theorem Fr.get_nil (t:Nat):(⟨.nil⟩:Fr).get t=undef:=by
 unfold Fr.get;cases t<;>rfl
theorem Fr.bO (l:List Value) (t:Nat):(Fr.of l).get t=l.getD t undef:=by
 unfold Fr.of;rw [Fr.iS,Fr.get_nil];split
 ·rfl
 ·rename_i h
  simp only [List.getD_eq_getElem?_getD];rw [Np (by omega)];rfl
theorem lq {φ:aw} {as:List Value} {as':Array Value} (k:Nat) (h:VL φ as as'.toList) (t:Nat):V φ ((Fr.of as).get t) ((as'++Array.replicate k undef).getD t undef):=by
 rw [Fr.bO];have f:=h.length;simp only [List.getD_eq_getElem?_getD]
 cases b:as[t]? with
 |some v=>
  obtain ⟨v',e,c⟩:=h.get t v b
  have d:t<as'.size:=by
   have:=(MO.1 e).1
   simpa using this
  have a:(as'++Array.replicate k undef).getD t undef=v':=by
   rw [Array.getD_eq_getD_getElem?,Array.getElem?_append_left d];simp only [Array.getElem?_toList]at e;rw [e];rfl
  rw [a];exact c
 |none=>
  have g:=List.getElem?_eq_none_iff.1 b
  have a:(as'++Array.replicate k undef).getD t undef=undef:=by
   rw [Array.getD_eq_getD_getElem?,Array.getElem?_append_right (by rw [←Array.length_toList,←f];exact g)];rw [Array.getElem?_replicate];split<;>rfl
  rw [a];exact iC _
def lr (P:Program) (E:Env):Prop:=∀f F,E f=some F→∃fn,P.funcs[f]?=some fn∧aa P fn=some F
abbrev dD:=Nat→Option (List Value→AH→Option (Value×AH))
def lu (P:Program) (O:dD):Prop:=∀f g,O f=some g→∀as H v H',g as H=some (v,H')→mD P f∧wv P f as H v H'
theorem kj (D:P.follows .mixedOrders=true) {E:Env} {O:dD} (K:lr P E) (J:lu P O):∀n,gj P (bT E O n)
 |0=>fun f as H v N h=>by simp [bT]at h
 |n+1=>fun f as H v N h=>by
  have ih:=kj D K J n;simp only [bT]at h
  cases s:O f with
  |some g=>
   simp only [s]at h;exact J f g s as H v N h
  |none=>
   simp only [s]at h
   cases u:E f with
   |none=>simp [u]at h
   |some F=>
    simp only [u]at h;obtain ⟨b,h⟩:=ae h;obtain ⟨fn,G,d⟩:=K f F u;unfold aa at d
    cases o:fn.body with
    |none=>simp [o]at d
    |some c=>
     simp only [o]at d;split at d
     case h_2=>cases d
     rename_i x r U B;split at d
     case isTrue=>cases d
     rename_i C;cases d;simp only [Bool.or_eq_true,not_or,Bool.not_eq_true,decide_eq_false_iff_not,Nat.not_lt]at C;refine ⟨⟨fn,G,by rw [o];rfl,C.1⟩, ?_⟩;intro w0 φ w k R W A;refine calls_of_wp G o ?_
     have Y:k.size=fn.params.size+fn.nfree:=by
      have:=A.length;rw [nb]at b;simp at b this;omega
     cases m:ab (bT E O n) n x (Fr.of as) H with
     |none=>simp [m]at h
     |some q=>
      obtain ⟨ex,L,M⟩:=q;have V:=sW ih (wE D ih) n c x (w0:=w0) (w:=w) (φ:=φ) (a:={tmps:=k++Array.replicate (fn.ntmps- k.size) undef,defers:=[]}) U m (fun t=>lq _ A t) R W (by simp;omega) rfl;refine wp_mono V ?_;rintro e a2 X ⟨rfl,z,p,Q,S,Z,I⟩
      cases ex with
      |exit i=>simp [m]at h
      |normal=>
       simp only [m]at h
       cases j:RS.all L M r with
       |none=>simp [j]at h
       |some T=>
        simp only [j,MH,MQ]at h;obtain ⟨rfl,rfl⟩:=h;obtain ⟨l,y,h2⟩:=gQ S p B j;exact ⟨I,l,y,z,l,rfl,h2,p,Q⟩
      |ret=>
       simp only [m]at h
       cases j:RS.all L M r with
       |none=>simp [j]at h
       |some T=>
        simp only [j,MH,MQ]at h;obtain ⟨rfl,rfl⟩:=h;obtain ⟨l,y,h2⟩:=gQ S p B j;exact ⟨I,l,y,z,l,rfl,h2,p,Q⟩
end
end
section
open Go
def o7 (c d:Cl):Prop:=∀f as H r,c f as H=some r→d f as H=some r
theorem ib {c d:Cl} (h:o7 c d) {o:AO} {g:Fr} {H:AH} {r:Fr×AH} (k:dN c o g H=some r):dN d o g H=some r:=by
 obtain ⟨j,l⟩:=r;obtain ⟨x,e,k⟩:=bx.1 k;refine bx.2 ⟨x,e,?_⟩
 cases k with
 |off a b c=>exact .off a b c
 |val a b=>exact .val a b
 |call a f as i b c=>exact .call a f as i b (h _ _ _ _ c)
theorem kl {c d:Cl} (h:o7 c d):∀{l:List AO} {a:Fr} {H:AH} {r:Fr×AH},ops c l a H=some r→ops d l a H=some r
 |[],a,H,r,k=>k
 |o::l,a,H,r,k=>by
  simp only [ops]at k⊢
  cases b:dN c o a H with
  |none=>simp [b]at k
  |some q=>
   rw [ib h b];simp only [b]at k;exact kl h k
theorem ic {c d:Cl} (h:o7 c d):∀{l:List AO} {a:Fr} {H:AH} {r:List (Fr×AH)},ef c l a H=some r→ef d l a H=some r
 |[],a,H,r,k=>k
 |o::l,a,H,r,k=>by
  simp only [ef]at k⊢
  cases b:dN c o a H with
  |none=>simp [b]at k
  |some q=>
   rw [ib h b];simp only [b]at k⊢
   cases h2:ef c l q.1 q.2 with
   |none=>simp [h2]at k
   |some e=>rw [ic h h2];simpa [h2]using k
theorem bz {c d:Cl} (h:o7 c d):∀{n:Nat} {a:AC} {f:Fr} {H:AH} {r:Ex×Fr×AH},ab c n a f H=some r→ab d n a f H=some r:=by
 intro n
 induction n with
 |zero=>intro a f H r k;simp [ab]at k
 |succ n ih=>
  intro a f H r k
  cases a with
  |aB l=>
   simp only [ab]at k⊢
   cases e:ops c l f H with
   |none=>simp [e]at k
   |some q=>rw [kl h e];simpa [e]using k
  |ai l o=>
   simp only [ab,pM]at k⊢
   cases e:ef c l f H with
   |none=>simp [e]at k
   |some q=>rw [ic h e];simpa [e]using k
  |seq a b=>
   simp only [ab]at k⊢
   cases e:ab c n a f H with
   |none=>simp [e]at k
   |some q=>
    rw [ih e];obtain ⟨ex,g,j⟩:=q
    cases ex<;>simp only [e]at k⊢<;>first
     |exact ih k
     |exact k
  |cond x a b=>
   simp only [ab]at k⊢
   cases m:x.ev f<;>simp only [m]at k⊢<;>first
    |(cases k;done)
    |skip
   rename_i t;cases t<;>exact ih k
  |block i a=>
   simp only [ab]at k⊢
   cases e:ab c n a f H with
   |none=>simp [e]at k
   |some q=>
    rw [ih e];obtain ⟨ex,g,j⟩:=q;cases ex<;>simp only [e]at k⊢<;>exact k
  |loop a=>
   simp only [ab]at k⊢
   cases e:ab c n a f H with
   |none=>simp [e]at k
   |some q=>
    rw [ih e];obtain ⟨ex,g,j⟩:=q
    cases ex<;>simp only [e]at k⊢<;>first
     |exact ih k
     |exact k
  |_=>simpa only [ab]using k
theorem jK {E:Env} {O:dD}:∀n,o7 (bT E O n) (bT E O (n+1))
 |0=>fun f as H r k=>by simp [bT]at k
 |n+1=>fun f as H r k=>by
  have ih:=jK (E:=E) (O:=O) n;rw [bT]at k⊢
  cases b:O f with
  |some g=>simpa [b]using k
  |none=>
   simp only [b]at k⊢
   cases c:E f with
   |none=>simp [c]at k
   |some F=>
    simp only [c]at k⊢;obtain ⟨d,k⟩:=ae k;rw [d,cond_true]
    cases a:ab (bT E O n) n F.body (Fr.of as) H with
    |none=>simp [a]at k
    |some q=>
     rw [cg (Na n) (bz ih a)]
     simpa [a]using k
theorem a8 {E:Env} {O:dD} {n m:Nat} (h:n≤m):o7 (bT E O n) (bT E O m):=by
 induction m with
 |zero=>obtain rfl:n=0:=by omega
        exact fun _ _ _ _ k=>k
 |succ m ih=>
  rcases Nat.lt_or_eq_of_le h with a|a
  · exact fun f as H r k=>jK m f as H r (ih (by omega) f as H r k)
  · subst a;exact fun _ _ _ _ k=>k
section
variable(E:Env) (O:dD)
def Ca (f:Nat) (as:List Value) (H:AH) (Q:Value→AH→Prop):Prop:=∃n x H',bT E O n f as H=some (x,H')∧Q x H'
def Wp (c:AC) (fr:Fr) (H:AH) (Q:Ex→Fr→AH→Prop):Prop:=∃n ex aL H',ab (bT E O n) n c fr H=some (ex,aL,H')∧Q ex aL H'
def iT (o:AO) (fr:Fr) (H:AH) (Q:Fr→AH→Prop):Prop:=∃n aL H',dN (bT E O n) o fr H=some (aL,H')∧Q aL H'
def Wo (l:List AO) (fr:Fr) (H:AH) (Q:Fr→AH→Prop):Prop:=∃n aL H',ops (bT E O n) l fr H=some (aL,H')∧Q aL H'
def Wt (l:List AO) (fr:Fr) (H:AH) (Q:List (Fr×AH)→Prop):Prop:=∃n ss,ef (bT E O n) l fr H=some ss∧Q ss
variable{E O}
theorem Ca.mono {f:Nat} {as:List Value} {H:AH} {Q Q':Value→AH→Prop} (h:Ca E O f as H Q) (k:∀x a,Q x a→Q' x a):Ca E O f as H Q':=
 let⟨n,x,a,e,q⟩:=h;⟨n,x,a,e,k _ _ q⟩
theorem Wp.mono {c:AC} {d:Fr} {H:AH} {Q Q':Ex→Fr→AH→Prop} (h:Wp E O c d H Q) (k:∀ex a b,Q ex a b→Q' ex a b):Wp E O c d H Q':=
 let⟨n,x,a,b,e,q⟩:=h;⟨n,x,a,b,e,k _ _ _ q⟩
theorem fP {n m:Nat} (h:n≤m) {c:AC} {a:Fr} {H:AH} {r:Ex×Fr×AH} (k:ab (bT E O n) n c a H=some r):ab (bT E O m) m c a H=some r:=
 cg h (bz (a8 h) k)
theorem Wp.skip {a:Fr} {H:AH} {Q:Ex→Fr→AH→Prop} (h:Q .normal a H):Wp E O .skip a H Q:=⟨1,_,_,_,rfl,h⟩
theorem Wp.ret {a:Fr} {H:AH} {Q:Ex→Fr→AH→Prop} (h:Q .ret a H):Wp E O .ret a H Q:=⟨1,_,_,_,rfl,h⟩
theorem Wp.exit {i:Nat} {a:Fr} {H:AH} {Q:Ex→Fr→AH→Prop} (h:Q (.exit i) a H):Wp E O (.exit i) a H Q:=⟨1,_,_,_,rfl,h⟩
def qv (k:Fr→AH→Prop) (Q:Ex→Fr→AH→Prop):Ex→Fr→AH→Prop
 | .normal,fr,H=>k fr H
 |ex,fr,H=>Q ex fr H
theorem Wp.seq {a b:AC} {d:Fr} {H:AH} {Q:Ex→Fr→AH→Prop} (h:Wp E O a d H (qv (fun k r=>Wp E O b k r Q) Q)):Wp E O (.seq a b) d H Q:=by
 obtain ⟨n,ex,c,f,e,q⟩:=h
 cases ex with
 |normal=>
  obtain ⟨m,l,j,p,o,g⟩:=q;refine ⟨max n m+1,l,j,p,?_,g⟩;simp only [ab];rw [bz (a8 (Na _)) (fP (Nat.le_max_left n m) e)];exact bz (a8 (Na _)) (fP (Nat.le_max_right n m) o)
 |exit i=>
  refine ⟨n+1,_,c,f,?_,q⟩;simp only [ab];rw [bz (a8 (Na _)) e]
 |ret=>
  refine ⟨n+1,_,c,f,?_,q⟩;simp only [ab];rw [bz (a8 (Na _)) e]
theorem Wp.cond {x:X} {a b:AC} {c:Fr} {H:AH} {Q:Ex→Fr→AH→Prop} {t:Bool} (d:x.ev c= .bool t) (h:Wp E O (bif t then a else b) c H Q):Wp E O (.cond x a b) c H Q:=by
 obtain ⟨n,ex,f,g,e,q⟩:=h;refine ⟨n+1,ex,f,g,?_,q⟩;simp only [ab,d];cases t<;>exact bz (a8 (Na _)) e
def qw (i:Nat) (Q:Ex→Fr→AH→Prop):Ex→Fr→AH→Prop
 | .exit j,fr,H=>if j=i then Q .normal fr H else Q (.exit j) fr H
 |ex,fr,H=>Q ex fr H
theorem Wp.block {i:Nat} {a:AC} {g:Fr} {H:AH} {Q:Ex→Fr→AH→Prop} (h:Wp E O a g H (qw i Q)):Wp E O (.block i a) g H Q:=by
 obtain ⟨n,ex,c,f,e,q⟩:=h;have d:=bz (a8 (Na n)) e
 cases ex with
 |normal=>exact ⟨n+1,_,c,f,by simp only [ab];rw [d],q⟩
 |ret=>exact ⟨n+1,_,c,f,by simp only [ab];rw [d],q⟩
 |exit j=>
  simp only [qw]at q;by_cases b:j=i
  ·rw [if_pos b]at q
   refine ⟨n+1,_,c,f,?_,q⟩;simp only [ab];rw [d];simp [nb,b]
  ·rw [if_neg b]at q
   refine ⟨n+1,_,c,f,?_,q⟩;simp only [ab];rw [d];simp [nb,b]
theorem Wp.zM {a:AC} {c:Fr} {H:AH} {Q:Ex→Fr→AH→Prop} (h:Wp E O a c H (qv (fun j p=>Wp E O (.loop a) j p Q) Q)):Wp E O (.loop a) c H Q:=by
 obtain ⟨n,ex,b,d,e,q⟩:=h
 cases ex with
 |normal=>
  obtain ⟨m,k,g,o,l,f⟩:=q;refine ⟨max n m+1,k,g,o,?_,f⟩;simp only [ab];rw [bz (a8 (Na _)) (fP (Nat.le_max_left n m) e)];exact bz (a8 (Na _)) (fP (Nat.le_max_right n m) l)
 |exit i=>
  refine ⟨n+1,_,b,d,?_,q⟩;simp only [ab];rw [bz (a8 (Na _)) e]
 |ret=>
  refine ⟨n+1,_,b,d,?_,q⟩;simp only [ab];rw [bz (a8 (Na _)) e]
theorem Wp.loop {a:AC} {Q:Ex→Fr→AH→Prop} (I:Nat→Fr→AH→Prop) (step:∀k b H,I k b H→Wp E O a b H (qv (fun c d=>∃j,j<k∧I j c d) Q)) (k:Nat) {b:Fr} {H:AH} (h:I k b H):Wp E O (.loop a) b H Q:=by
 induction k using Nat.strongRecOn generalizing b H with
 |_ k ih=>
  refine Wp.zM ((step k b H h).mono ?_);intro ex c d q
  cases ex with
  |normal=>obtain ⟨j,e,f⟩:=q;exact ih j e f
  |exit i=>exact q
  |ret=>exact q
theorem Wp.aB {l:List AO} {a:Fr} {H:AH} {Q:Ex→Fr→AH→Prop} (h:Wo E O l a H (Q .normal)):Wp E O (.aB l) a H Q:=by
 obtain ⟨n,b,c,e,q⟩:=h;refine ⟨n+1,_,b,c,?_,q⟩;simp only [ab];rw [kl (a8 (Na _)) e]
theorem Wo.nil {a:Fr} {H:AH} {Q:Fr→AH→Prop} (h:Q a H):Wo E O [] a H Q:=⟨0,a,H,rfl,h⟩
theorem Wo.cons {o:AO} {l:List AO} {a:Fr} {H:AH} {Q:Fr→AH→Prop} (h:iT E O o a H (fun c g=>Wo E O l c g Q)):Wo E O (o::l) a H Q:=by
 obtain ⟨n,i,j,e,m,b,f,d,q⟩:=h;refine ⟨max n m,b,f,?_,q⟩;simp only [ops];rw [ib (a8 (Nat.le_max_left n m)) e];exact kl (a8 (Nat.le_max_right n m)) d
theorem iT.val {o:AO} {a:Fr} {H b:AH} {x:Value} {Q:Fr→AH→Prop} (c:o.wanted a=true) (h:ar o.o (X.ev a) H=some (.v x,b)) (q:Q (a.aq o.d x) b):iT E O o a H Q:=
 ⟨0,_,_,bx.2 ⟨x,rfl,.val c h⟩,q⟩
theorem iT.off {o:AO} {a:Fr} {H:AH} {Q:Fr→AH→Prop} (b:o.wanted a=false) (q:Q (a.aq o.d undef) H):iT E O o a H Q:=
 ⟨0,_,_,bx.2 ⟨undef,rfl,.off b rfl rfl⟩,q⟩
theorem iT.call {o:AO} {a:Fr} {H H1:AH} {f:Nat} {as:List Value} {Q:Fr→AH→Prop} (c:o.wanted a=true) (h:ar o.o (X.ev a) H=some (.enter f as,H1)) (q:Ca E O f as H1 (fun x b=>Q (a.aq o.d x) b)):iT E O o a H Q:=by
 obtain ⟨n,x,b,e,q⟩:=q;exact ⟨n,_,_,bx.2 ⟨x,rfl,.call c f as H1 h e⟩,q⟩
theorem Wp.ai {l:List AO} {ck:List (Nat×Nat×Nat)} {a:Fr} {H:AH} {Q:Ex→Fr→AH→Prop}
 (h:Wt E O l a H (fun b=>(chain ((a,H)::b)=true∧ck.all (jZ l ((a,H)::b))=true)∧Q .normal (cN (a,H) b).1 (cN (a,H) b).2)):Wp E O (.ai l ck) a H Q:=by
 obtain ⟨n,b,e,⟨c,h2⟩,q⟩:=h;refine ⟨n+1,_,_,_,?_,q⟩;simp only [ab,pM];rw [ic (a8 (Na _)) e];simp [c,h2]
theorem Wt.nil {a:Fr} {H:AH} {Q:List (Fr×AH)→Prop} (h:Q []):Wt E O [] a H Q:=⟨0,[],rfl,h⟩
theorem Wt.cons {o:AO} {l:List AO} {c:Fr} {H:AH} {Q:List (Fr×AH)→Prop} (h:iT E O o c H (fun b d=>Wt E O l b d (fun a=>Q ((b,d)::a)))):Wt E O (o::l) c H Q:=by
 obtain ⟨n,g,i,e,m,a,f,q⟩:=h;refine ⟨max n m,_,?_,q⟩;simp only [ef];rw [ib (a8 (Nat.le_max_left n m)) e];simp only;rw [ic (a8 (Nat.le_max_right n m)) f]
def qx (r:List RS) (Q:Value→AH→Prop):Ex→Fr→AH→Prop
 | .exit _,_,_=>False
 |_,fr,H=>∃vs,RS.all fr H r=some vs∧Q (gJ vs) H
theorem Ca.body {f:Nat} {F:AF} {as:List Value} {H:AH} {Q:Value→AH→Prop} (b:O f=none) (d:E f=some F) (c:as.length=F.np) (h:Wp E O F.body (Fr.of as) H (qx F.res Q)):Ca E O f as H Q:=by
 obtain ⟨n,ex,j,k,e,q⟩:=h
 cases ex with
 |exit i=>exact q.elim
 |normal=>
  obtain ⟨g,a,q⟩:=q;refine ⟨n+1,_,_,?_,q⟩;simp only [bT,b,d];rw [nb,decide_eq_true c,cond_true,e];simp [a]
 |ret=>
  obtain ⟨g,a,q⟩:=q;refine ⟨n+1,_,_,?_,q⟩;simp only [bT,b,d];rw [nb,decide_eq_true c,cond_true,e];simp [a]
theorem Ca.JU {f:Nat} {g:List Value→AH→Option (Value×AH)} {as:List Value} {H a:AH} {x:Value} {Q:Value→AH→Prop} (b:O f=some g) (h:g as H=some (x,a)) (q:Q x a):Ca E O f as H Q:=
 ⟨1,x,a,by simp [bT,b,h],q⟩
end
end
section
open Go Go.RowKit
def jL (W:World) (b:Nat):Option jo:=match W.heap[b]? with
 |some (.cells cs _ _)=>some (.cells 1048576 cs.toList)
 |_=>none
def H0 (W:World):AH:=⟨jL W,W.heap.size,W.heap.size,.nil,none⟩
def iU (W:World):aw:=⟨W.heap.size,W.heap.size,fun b=>if b<W.heap.size then some ⟨b,0,0,1⟩else none⟩
theorem mM (W:World) (b:Nat):(H0 W).raw b=jL W b:=rfl
theorem Ei (W:World):∀b,b<(iU W).n0→(iU W).m b=some ⟨b,0,0,1⟩:=fun b a=>if_pos a
theorem Ej {W:World} (i:oR W):Rel W (iU W) (H0 W) W where
 n0:=rfl
 jr:=MM _
 hJ:=MM _
 c0:=rfl
 below:=Below.refl _ _
 dd:=fun b c=>if_pos c
 dX:=fun b z cs c a=>by
  rw [mM]at a;unfold jL at a;split at a
  ·rename_i p e j g
   cases a;exact ⟨e,j,by rw [g]⟩
  ·cases a
 cells:=fun b l z cs c d a=>by
  have:¬ b<W.heap.size:=Nat.not_lt.2 c;simp only [iU,if_neg this]at d;cases d
 maps:=fun b l es c d a=>by
  have:¬ b<W.heap.size:=Nat.not_lt.2 c;simp only [iU,if_neg this]at d;cases d
 inj:=fun k q n m h o f h2 _ _ _=>by
  have:¬ k<W.heap.size:=Nat.not_lt.2 h;simp only [iU,if_neg this]at f;cases f
 jz:=fun b s e=>by cases e
 la:=i
theorem wH (W:World):gL (iU W) (H0 W):=fun b a=>if_neg (Nat.not_lt.2 a)
theorem ly {P:Program} {E:Env} {O:dD} {W:World} (d:oR W) (b:P.follows .mixedOrders=true) (i:lr P E) (g:lu P O) {f:Nat} {as:List Value} {as':Array Value} (a:VL (iU W) as as'.toList)
 (h:Ca E O f as (H0 W) (fun x _=>x= .bool true)):Calls P f as' W fun e w'=>e= .returned (.bool true)∧Below W.heap.size W w':=by
 obtain ⟨n,x,l,e,rfl⟩:=h;refine ((kj b i g n f as _ _ _ e).2 W (iU W) W as' (Ej d) (wH W) a).mono ?_;rintro e w' ⟨j,k,rfl,c,R,G⟩;rw [c.bool];exact ⟨rfl,R.below⟩
def Good (P:Program) (f:Nat) (F:AF):Prop:=∃fn,P.funcs[f]?=some fn∧aa P fn=some F
def mN (P:Program) (g:Nat→Nat) (t:T (Option AF)):Prop:=∀k F,t.get none k=some F→Good P (g k) F
theorem mN.nil {P:Program} {g:Nat→Nat}:mN P g .nil:=fun k F h=>by cases k<;>cases h
theorem mN.node {P:Program} {g:Nat→Nat} {v:Option AF} {l r:T (Option AF)} (h:∀F,v=some F→Good P (g 0) F) (c:mN P (fun k=>g (2*k+1)) l) (b:mN P (fun k=>g (2*k+2)) r):mN P g (.node v l r):=by
 intro k F a;simp only [T.get,nb,Bool.cond_decide]at a;split at a
 ·rename_i e
  subst e;exact h F a
 ·split at a
  ·have:=c _ F a
   simp only at this;rwa [show 2*(k/2)+1=k by omega]at this
  ·have:=b _ F a
   simp only at this;rwa [show 2*(k/2- 1)+2=k by omega]at this
open Go Go.RowKit
theorem Rel.zN {w0 w w':World} {φ:aw} {H:AH} (R:Rel w0 φ H w) (B:Below w.heap.size w w'):Rel w0 φ H w' where
 n0:=R.n0
 jr:=R.jr
 hJ:=R.hJ
 c0:=R.c0
 below:=⟨B.os.trans R.below.os,B.tape.trans R.below.tape,B.output.trans R.below.output,M5 R.below.size B.size,fun k i=>(B.block k (M6 i R.below.size)).trans (R.below.block k i)⟩
 dd:=R.dd
 dX:=fun b z cs f d=>by
  obtain ⟨e,r,o⟩:=R.dX b z cs f d;exact ⟨e,r,(B.block b (MW.1 o).1).trans o⟩
 cells:=fun b l z cs f j d=>by
  obtain ⟨h,h2,m,arr,e,a,g,q,p⟩:=R.cells b l z cs f j d;exact ⟨h,h2,m,arr,e,(B.block l.c (MW.1 a).1).trans a,g,q,p⟩
 maps:=fun b l es f j d=>by
  obtain ⟨h,n,t,a,g⟩:=R.maps b l es f j d;exact ⟨h,n,t,(B.block l.c (MW.1 a).1).trans a,g⟩
 inj:=R.inj
 la:=R.la
 jz:=fun b s e=>by
  obtain ⟨h,h2,l,m,a,g⟩:=R.jz b s e;exact ⟨h,h2,l,m,a,g.iA rfl (fun k i _=>B.block k i) fun A y x v u=>.inl ⟨x,v,u⟩⟩
def He:AH:=⟨fun _=>none,0,0,.nil,none⟩
def isTrue:Option (Value×AH)→Bool
 |some (.bool true,_)=>true
 |_=>false
theorem mO {P:Program} {E:Env} {O:dD} (o:P.follows .mixedOrders=true) (r:lr P E) (q:lu P O) {n f:Nat} (h:isTrue (bT E O n f [] He)=true) (H:AH):mD P f∧wv P f [] H (.bool true) H:=by
 unfold isTrue at h;split at h
 case h_2=>cases h
 rename_i v e;obtain ⟨t,h2⟩:=kj o r q n f [] He (.bool true) v e;refine ⟨t,?_⟩;intro y i w a R J m
 have u:Rel w ⟨0,w.heap.size,fun _=>none⟩ He w:=⟨rfl,Nb _,MM _,rfl,Below.refl _ _,fun b d=>absurd d (M9 _),fun b z cs d=>absurd d (M9 _),
  fun b l z cs _ c=>(by cases c),fun b l es _ c=>(by cases c),fun I F D C _ _ c=>(by cases c),fun b s e=>(by cases e),R.la.below R.below⟩
 have j:VL ⟨0,w.heap.size,fun _=>none⟩ [] a.toList:=by
  have:=m.length;have e:a.toList=[]:=Ni this.symm;rw [e];exact .nil
 refine (h2 w _ w a u (fun _ _=>rfl) j).mono ?_;rintro e A ⟨x,B,rfl,p,g,G⟩;rw [p.bool];refine ⟨i,_,rfl,.same rfl,R.zN g.below,aw.le_refl _,rfl,rfl,MM _,fun b l h k=>(by rw [h]at k;cases k),g.below.size⟩
def s7 (f:Nat):dD:=fun g=>bif Nat.beq g f then some (fun as H=>match as with|[]=>some (.bool true,H)|_=>none)else none
theorem s8 {P:Program} {E:Env} (d:P.follows .mixedOrders=true) (i:lr P E) {n f:Nat} (h:isTrue (bT E (fun _=>none) n f [] He)=true):lu P (s7 f):=by
 intro g k c as H v j b;by_cases e:g=f
 case neg=>simp [s7,nb,e]at c
 subst e;simp only [s7,nb,decide_true,cond_true,MH]at c;subst c
 cases as with
 |nil=>
  simp only [MH,MQ]at b;obtain ⟨rfl,rfl⟩:=b;exact mO d i (fun f g h=>by cases h) h H
 |cons a l=>simp at b
end
section
open Go Go.RowKit
section
variable{E:Env} {O:dD}
def s9 (E:Env) (O:dD) (r:Option (db×AH)) (Q:Value→AH→Prop):Prop:=match r with
 |some (.v x,H)=>Q x H
 |some (.enter f as,H)=>Ca E O f as H Q
 |none=>False
theorem ta (a:Fr) (H:AH) (Q:Ex→Fr→AH→Prop):Wp E O .skip a H Q↔Q .normal a H:=by
 refine ⟨fun⟨n,ex,b,c,e,q⟩=>?_,Wp.skip⟩
 cases n with
 |zero=>simp [ab]at e
 |succ n=>simp only [ab,MH,MQ]at e;obtain ⟨rfl,rfl,rfl⟩:=e;exact q
theorem wI (a:Fr) (H:AH) (Q:Ex→Fr→AH→Prop):Wp E O .ret a H Q↔Q .ret a H:=by
 refine ⟨fun⟨n,ex,b,c,e,q⟩=>?_,Wp.ret⟩
 cases n with
 |zero=>simp [ab]at e
 |succ n=>simp only [ab,MH,MQ]at e;obtain ⟨rfl,rfl,rfl⟩:=e;exact q
theorem wJ (l:List AO) (a:Fr) (H:AH) (Q:Ex→Fr→AH→Prop):Wp E O (.aB l) a H Q↔Wo E O l a H (Q .normal):=by
 refine ⟨fun⟨n,ex,b,c,e,q⟩=>?_,Wp.aB⟩
 cases n with
 |zero=>simp [ab]at e
 |succ n=>
  simp only [ab]at e
  cases h:ops (bT E O (n+1)) l a H with
  |none=>simp [h]at e
  |some r=>
   simp only [h,MH,MQ]at e;obtain ⟨rfl,rfl,rfl⟩:=e;exact ⟨n+1,_,_,h,q⟩
theorem wK (a b:AC) (d:Fr) (H:AH) (Q:Ex→Fr→AH→Prop):Wp E O (.seq a b) d H Q↔Wp E O a d H (qv (fun f g=>Wp E O b f g Q) Q):=by
 refine ⟨fun⟨n,ex,f,g,e,q⟩=>?_,Wp.seq⟩
 cases n with
 |zero=>simp [ab]at e
 |succ n=>
  simp only [ab]at e
  cases h:ab (bT E O (n+1)) n a d H with
  |none=>simp [h]at e
  |some r=>
   obtain ⟨j,k,l⟩:=r;have c:=cg (Na n) h
   cases j with
   |normal=>
    simp only [h]at e;exact ⟨n+1,_,_,_,c,n+1,_,_,_,cg (Na n) e,q⟩
   |exit i=>
    simp only [h,MH,MQ]at e;obtain ⟨rfl,rfl,rfl⟩:=e;exact ⟨n+1,_,_,_,c,q⟩
   |ret=>
    simp only [h,MH,MQ]at e;obtain ⟨rfl,rfl,rfl⟩:=e;exact ⟨n+1,_,_,_,c,q⟩
theorem lz (o:AO) (l:List AO) (a:Fr) (H:AH) (Q:Fr→AH→Prop):Wo E O (o::l) a H Q↔iT E O o a H (fun b c=>Wo E O l b c Q):=by
 refine ⟨fun⟨n,b,c,e,q⟩=>?_,Wo.cons⟩;simp only [ops]at e
 cases h:dN (bT E O n) o a H with
 |none=>simp [h]at e
 |some r=>
  simp only [h]at e;exact ⟨n,_,_,h,n,_,_,e,q⟩
theorem km (o:AO) (g:Fr) (H:AH) (Q:Fr→AH→Prop) (j:o.wanted g=true):iT E O o g H Q↔s9 E O (ar o.o (X.ev g) H) (fun x k=>Q (g.aq o.d x) k):=by
 constructor
 ·rintro ⟨n,m,k,e,q⟩
  obtain ⟨x,rfl,h⟩:=bx.1 e
  cases h with
  |off a _ _=>rw [j]at a;cases a
  |val a b=>rw [b];exact q
  |call a f as l b c=>rw [b];exact ⟨n,x,k,c,q⟩
 ·intro h
  cases i:ar o.o (X.ev g) H with
  |none=>rw [i]at h;exact h.elim
  |some r=>
   obtain ⟨res,l⟩:=r;rw [i]at h
   cases res with
   |v x=>exact iT.val j i h
   |enter f as=>exact iT.call j i h
inductive Ko where
 |seq (b:AC)
 |bw (i:Nat)
def Un (E:Env) (O:dD):Ex→List Ko→Fr→AH→(Ex→Fr→AH→Prop)→Prop
 |ex,[],fr,H,Q=>Q ex fr H
 | .normal,.seq b::ks,fr,H,Q=>Wp E O b fr H (fun ex aL H'=>Un E O ex ks aL H' Q)
 | .normal,.bw _::ks,fr,H,Q=>Un E O .normal ks fr H Q
 | .exit j,.seq _::ks,fr,H,Q=>Un E O (.exit j) ks fr H Q
 | .exit j,.bw i::ks,fr,H,Q=>if j=i then Un E O .normal ks fr H Q else Un E O (.exit j) ks fr H Q
 | .ret,_::ks,fr,H,Q=>Un E O .ret ks fr H Q
def Wk (E:Env) (O:dD) (c:AC) (ks:List Ko) (fr:Fr) (H:AH) (Q:Ex→Fr→AH→Prop):Prop:=Wp E O c fr H (fun ex aL H'=>Un E O ex ks aL H' Q)
def Wr (E:Env) (O:dD) (l:List AO) (ks:List Ko) (fr:Fr) (H:AH) (Q:Ex→Fr→AH→Prop):Prop:=Wo E O l fr H (fun aL H'=>Un E O .normal ks aL H' Q)
def wL (l:List AO) (ck:List (Nat×Nat×Nat)) (acc:List (Fr×AH)):Bool:=chain acc.reverse&&ck.all (jZ l acc.reverse)
def Wd (E:Env) (O:dD) (l0:List AO) (ck:List (Nat×Nat×Nat)) (acc:List (Fr×AH)) (l:List AO) (ks:List Ko) (fr:Fr) (H:AH) (Q:Ex→Fr→AH→Prop):Prop:=
 Wt E O l fr H (fun ss=>wL l0 ck (ss.reverse++acc)=true∧Un E O .normal ks (cN (fr,H) ss).1 (cN (fr,H) ss).2 Q)
variable{ks:List Ko} {fr:Fr} {H:AH} {Q:Ex→Fr→AH→Prop}
@[simp]theorem wM (ex:Ex):Un E O ex [] fr H Q=Q ex fr H:=by cases ex<;>rfl
@[simp]theorem Ha (b:AC):Un E O .normal (.seq b::ks) fr H Q=Wk E O b ks fr H Q:=rfl
@[simp]theorem Hb (i:Nat):Un E O .normal (.bw i::ks) fr H Q=Un E O .normal ks fr H Q:=rfl
@[simp]theorem Hc (j:Nat) (b:AC):Un E O (.exit j) (.seq b::ks) fr H Q=Un E O (.exit j) ks fr H Q:=rfl
@[simp]theorem Ek (k:Ko):Un E O .ret (k::ks) fr H Q=Un E O .ret ks fr H Q:=by cases k<;>rfl
@[simp]theorem tc:Wk E O .skip ks fr H Q↔Un E O .normal ks fr H Q:=ta _ _ _
@[simp]theorem wN:Wk E O .ret ks fr H Q↔Un E O .ret ks fr H Q:=wI _ _ _
@[simp]theorem wO (l:List AO):Wk E O (.aB l) ks fr H Q↔Wr E O l ks fr H Q:=wJ _ _ _ _
@[simp]theorem wP (a b:AC):Wk E O (.seq a b) ks fr H Q↔Wk E O a (.seq b::ks) fr H Q:=by
 unfold Wk;rw [wK]
 have e:qv (fun c d=>Wp E O b c d fun ex c d=>Un E O ex ks c d Q) (fun ex c d=>Un E O ex ks c d Q)=fun ex c d=>Un E O ex (.seq b::ks) c d Q:=by
  funext ex c d;cases ex<;>rfl
 rw [e]
theorem gR {x:X} {a b:AC} {c:Bool} {Q:Ex→Fr→AH→Prop} (d:x.ev fr= .bool c):Wp E O (.cond x a b) fr H Q↔Wp E O (bif c then a else b) fr H Q:=by
 refine ⟨?_,Wp.cond d⟩;rintro ⟨n,ex,f,g,e,q⟩
 cases n with
 |zero=>simp [ab]at e
 |succ n=>
  simp only [ab,d]at e;cases c<;>exact ⟨n+1,_,_,_,cg (Na n) e,q⟩
@[simp]theorem qy {x:X} {a b:AC} (c:x.ev fr= .bool true):Wk E O (.cond x a b) ks fr H Q↔Wk E O a ks fr H Q:=gR c
@[simp]theorem qz {x:X} {a b:AC} (c:x.ev fr= .bool false):Wk E O (.cond x a b) ks fr H Q↔Wk E O b ks fr H Q:=gR c
@[simp]theorem wQ:Wr E O [] ks fr H Q↔Un E O .normal ks fr H Q:=by
 refine ⟨fun⟨n,a,b,e,q⟩=>?_,fun q=>Wo.nil q⟩;simp only [ops,MH,MQ]at e;obtain ⟨rfl,rfl⟩:=e;exact q
def aS.an:aS→Bool
 | .call _ _| .callv _ _=>true
 |_=>false
def u4:Option (db×AH)→Bool
 |some (.v _,_)=>true
 |_=>false
def valOf:Option (db×AH)→Value
 |some (.v x,_)=>x
 |_=>undef
def fw (H:AH):Option (db×AH)→AH
 |some (_,H')=>H'
 |none=>H
@[simp]theorem Hd (x:Value) (H:AH):u4 (some (.v x,H))=true:=rfl
@[simp]theorem BG (x:Value) (H:AH):valOf (some (.v x,H))=x:=rfl
@[simp]theorem zO (x:Value) (H H':AH):fw H (some (.v x,H'))=H':=rfl
theorem nH (r:Option (db×AH)) (b:∀f as a,r≠some (.enter f as,a)) (Q:Value→AH→Prop):s9 E O r Q↔u4 r=true∧Q (valOf r) (fw H r):=by
 cases r with
 |none=>simp [s9,u4]
 |some q=>
  obtain ⟨res,a⟩:=q
  cases res with
  |v x=>simp [s9]
  |enter f as=>exact absurd rfl (b f as a)
theorem nI {p:aS} {b:X→Value} (h:p.an=false):∀f as a,ar p b H≠some (.enter f as,a):=by
 intro f as a e
 cases p<;>first
  |(simp [aS.an]at h;done)
  |(simp only [ar,Bool.cond_eq_ite]at e
    (repeat' split at e)<;>simp at e)
@[simp]theorem El (d:Nat) (p:aS) (l:List AO) (h:p.an=false):Wr E O (⟨none,some d,p⟩::l) ks fr H Q↔
  u4 (ar p (X.ev fr) H)=true∧Wr E O l ks (fr.put d (valOf (ar p (X.ev fr) H))) (fw H (ar p (X.ev fr) H)) Q:=by
 unfold Wr;rw [lz,km _ _ _ _ rfl,nH _ (nI h)];rfl
variable{l0:List AO} {ck:List (Nat×Nat×Nat)} {acc:List (Fr×AH)}
theorem cR (o:AO) (l:List AO) (fr:Fr) (H:AH) (Q:List (Fr×AH)→Prop):Wt E O (o::l) fr H Q↔iT E O o fr H (fun b c=>Wt E O l b c (fun a=>Q ((b,c)::a))):=by
 refine ⟨fun⟨n,a,e,q⟩=>?_,Wt.cons⟩;simp only [ef]at e
 cases h:dN (bT E O n) o fr H with
 |none=>simp [h]at e
 |some r=>
  simp only [h]at e
  cases h2:ef (bT E O n) l r.1 r.2 with
  |none=>simp [h2]at e
  |some d=>
   simp only [h2,MH]at e;subst e;exact ⟨n,_,_,h,n,_,h2,q⟩
theorem qA (o:AO) (l:List AO):Wd E O l0 ck acc (o::l) ks fr H Q↔iT E O o fr H (fun a b=>Wd E O l0 ck ((a,b)::acc) l ks a b Q):=by
 unfold Wd;rw [cR];simp only [cN,List.reverse_cons,M8,List.singleton_append]
@[simp]theorem Em (d:Nat) (p:aS) (l:List AO) (h:p.an=false):Wd E O l0 ck acc (⟨none,some d,p⟩::l) ks fr H Q↔
  u4 (ar p (X.ev fr) H)=true∧Wd E O l0 ck ((fr.put d (valOf (ar p (X.ev fr) H)),fw H (ar p (X.ev fr) H))::acc) l ks (fr.put d (valOf (ar p (X.ev fr) H))) (fw H (ar p (X.ev fr) H)) Q:=by
 rw [qA,km _ _ _ _ rfl,nH _ (nI h)];rfl
theorem Ca.zP {f:Nat} {F:AF} {as:List Value} {H:AH} {Q:Value→AH→Prop} (a:O f=none) (c:E f=some F) (b:as.length=F.np) (h:Wk E O F.body [] (Fr.of as) H (qx F.res Q)):Ca E O f as H Q:=
 Ca.body a c b (Wp.mono h fun ex fr H q=>by simpa using q)
def qB (E:Env) (O:dD) (I:Nat→Fr→AH→Prop) (k:Nat) (ks:List Ko) (Q:Ex→Fr→AH→Prop):Ex→Fr→AH→Prop
 | .normal,fr,H=>∃j,j<k∧I j fr H
 | .exit i,fr,H=>Un E O (.exit i) ks fr H Q
 | .ret,fr,H=>Un E O .ret ks fr H Q
@[simp]theorem BH (I:Nat→Fr→AH→Prop) (k:Nat):qB E O I k ks Q .normal fr H=∃j,j<k∧I j fr H:=rfl
@[simp]theorem BI (I:Nat→Fr→AH→Prop) (k i:Nat):qB E O I k ks Q (.exit i) fr H=Un E O (.exit i) ks fr H Q:=rfl
@[simp]theorem BJ (I:Nat→Fr→AH→Prop) (k:Nat):qB E O I k ks Q .ret fr H=Un E O .ret ks fr H Q:=rfl
attribute [simp] Fr.aG Fr.bO X.ev gJ RS.all RS.get
@[simp]theorem En (r:List RS) (Q:Value→AH→Prop):qx r Q .normal fr H=∃vs,RS.all fr H r=some vs∧Q (gJ vs) H:=rfl
@[simp]theorem Eo (r:List RS) (Q:Value→AH→Prop):qx r Q .ret fr H=∃vs,RS.all fr H r=some vs∧Q (gJ vs) H:=rfl
@[simp]theorem yE (x:X):(aS.mv x).an=false:=rfl
@[simp]theorem u5 (c a b:X):(aS.pick c a b).an=false:=rfl
@[simp]theorem td (z:List Value):(aS.alloc z).an=false:=rfl
@[simp]theorem wR (x:X):(aS.box x).an=false:=rfl
@[simp]theorem te (z:List Value) (ps:List (Nat×Nat×X)):(aS.build z ps).an=false:=rfl
@[simp]theorem wS (len sz:Nat) (z:List Value) (ps:List (Nat×Nat×X)):(aS.bsl len sz z ps).an=false:=rfl
@[simp]theorem yF (x:X):(aS.ld x).an=false:=rfl
@[simp]theorem wT (n:Nat) (x:X):(aS.ldn n x).an=false:=rfl
@[simp]theorem yG (n:Nat) (x v:X):(aS.st n x v).an=false:=rfl
@[simp]theorem u6 (x:X):(aS.cw x).an=false:=rfl
@[simp]theorem wU (op:BinOp) (x y:X):(aS.bin op x y).an=false:=rfl
@[simp]theorem wV (k:Nat) (neg:Bool) (x y:X):(aS.eqk k neg x y).an=false:=rfl
@[simp]theorem yH (op:UnOp) (x:X):(aS.un op x).an=false:=rfl
@[simp]theorem wW (k:IntKind) (x:X):(aS.jq k x).an=false:=rfl
@[simp]theorem wX (x:X):(aS.yr x).an=false:=rfl
@[simp]theorem wY (f:Nat) (first cap:List X):(aS.mkf f first cap).an=false:=rfl
@[simp]theorem tf:aS.mkmap.an=false:=rfl
@[simp]theorem u7 (sz bytes:Nat) (z:List Value) (x:X):(aS.mksl sz bytes z x).an=false:=rfl
@[simp]theorem yI (sz:Nat) (x:X) (lo hi mx:Option X):(aS.sl sz x lo hi mx).an=false:=rfl
@[simp]theorem yJ (off:Nat) (x:X):(aS.fa off x).an=false:=rfl
@[simp]theorem yK (sz:Nat) (x i:X):(aS.ia sz x i).an=false:=rfl
@[simp]theorem wZ (len sz:Nat) (x i:X):(aS.cx len sz x i).an=false:=rfl
@[simp]theorem yL (x i:X):(aS.ix x i).an=false:=rfl
@[simp]theorem u9 (kk:Nat) (z:Value) (x k:X) (ok:Bool):(aS.look kk z x k ok).an=false:=rfl
@[simp]theorem w7 (kk:Nat) (x k v:X):(aS.pt kk x k v).an=false:=rfl
@[simp]theorem w8 (x:X) (i:Nat):(aS.ext x i).an=false:=rfl
@[simp]theorem w9 (sz bytes:Nat) (s x:X):(aS.app sz bytes s x).an=false:=rfl
@[simp]theorem va (sz:Nat) (d s:X):(aS.copy sz d s).an=false:=rfl
@[simp]theorem vb (x:X):(aS.lens x).an=false:=rfl
@[simp]theorem vc (x:X):(aS.fg x).an=false:=rfl
@[simp]theorem xa (t:Nat) (x:X):(aS.yt t x).an=false:=rfl
@[simp]theorem xb (x:X) (l:List X):(aS.mxl x l).an=false:=rfl
@[simp]theorem xc (x:X) (l:List X):(aS.mnl x l).an=false:=rfl
@[simp]theorem xd (neg:Bool) (offs:List (Nat×Nat)) (x y:X):(aS.eqs neg offs x y).an=false:=rfl
@[simp]theorem BK (b:Bool):uL .not (.bool b)=some (.bool !b):=rfl
@[simp]theorem BL (k:IntKind) (n:Int):uL .neg (.int k n)=some (.int k (k.wrap (0- n))):=rfl
@[simp]theorem zQ (k:IntKind) (a b:Int):aW .add (.int k a) (.int k b)=some (.int k (k.wrap (a+b))):=by simp [aW,bU,eQ]
@[simp]theorem zR (k:IntKind) (a b:Int):aW .sub (.int k a) (.int k b)=some (.int k (k.wrap (a- b))):=by simp [aW,bU,eQ]
@[simp]theorem zS (k:IntKind) (a b:Int):aW .eql (.int k a) (.int k b)=some (.bool (decide (a=b))):=by simp [aW,bU,eQ];rfl
@[simp]theorem zT (k:IntKind) (a b:Int):aW .neq (.int k a) (.int k b)=some (.bool (!decide (a=b))):=by simp [aW,bU,eQ];rfl
@[simp]theorem zU (k:IntKind) (a b:Int):aW .lss (.int k a) (.int k b)=some (.bool (decide (a<b))):=by simp [aW,bU,eQ]
@[simp]theorem zV (k:IntKind) (a b:Int):aW .leq (.int k a) (.int k b)=some (.bool (decide (a≤b))):=by simp [aW,bU,eQ]
@[simp]theorem zW (k:IntKind) (a b:Int):aW .gtr (.int k a) (.int k b)=some (.bool (decide (a>b))):=by simp [aW,bU,eQ]
@[simp]theorem zX (k:IntKind) (a b:Int):aW .geq (.int k a) (.int k b)=some (.bool (decide (a≥b))):=by simp [aW,bU,eQ]
def vd (a b:ByteArray):Bool:=a.data.toList==b.data.toList
@[simp]theorem zY (a b:ByteArray):aW .eql (.string a) (.string b)=some (.bool (vd a b)):=rfl
@[simp]theorem zZ (a b:ByteArray):aW .neq (.string a) (.string b)=some (.bool (!vd a b)):=rfl
def qC (s:ByteArray) (i:Nat):Int:=((s[i]?).getD 0).toNat
theorem qD {x i:X} {a:X→Value} {H:AH} {s:ByteArray} {n:Nat} (b:a x= .string s) (hi:a i= .int .i64 n) (h:n<s.size):ar (.ix x i) a H=some (.v (.int .u8 (qC s n)),H):=by
 simp only [ar,b,hi];rw [if_pos (by omega)];simp only [Int.toNat_natCast];unfold qC;have:s[n]?=some s[n]:=getElem?_pos s n h;rw [this];rfl
end
end
end Go.Proofs.Ytediokhgklkhnaa.A
