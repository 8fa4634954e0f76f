/- Texts that stand one behind the other: AbsB, AbsC, AbsD, AbsE, AbsF, AbsG, AbsH, AbsI, AbsJ, AbsK, AbsL, AbsM. -/
import Derived.Test.YtppcmpmnglaleaaGreatDoorG7
import Derived.Deep.LoopGhost
import Derived.Orders
set_option linter.unusedVariables false
set_option linter.unusedSimpArgs false
namespace Go.Proofs.YtppcmpmnglaleaaGreatDoor.A
open Go Go.RowKit
section
variable{P:Program}
def GG (P:Program) (f:Nat) (as:List Value) (H:AH) (v:Value) (H':AH):Prop:=
 ∀(w0:World) (φ:bZ) (w:World) (as':Array Value),Rel w0 φ H w→rm φ H→VL φ as as'.toList→
  Calls P f as' w fun e w'=>∃dT v',e= .returned v'∧V dT v v'∧Rel w0 dT H' w'∧Grow φ H w dT H' w'
def qB (P:Program) (call:Cl):Prop:=∀f as H v H',call f as H=some (v,H')→D5 P f∧GG P f as H v H'
theorem V.D6 {φ:bZ} {v:Value} {b:Bool} (h:V φ v (.bool b)):v= .bool b:=by
 cases h;rfl
theorem D7 {φ:bZ} {fr:Fr} {a:Act} (F:mu φ fr a) {cQ:Array Oper} {o:Oper} {g:Option (Nat×Bool)} {d:Option Nat} {p:cN} (hg:vT cQ o.guard=some g):
 Region.wanted o (yielded cQ a.tmps)=AO.wanted ⟨g,d,p⟩ fr:=by
 unfold Region.wanted AO.wanted
 cases hq:o.guard with
 |none=>rw [hq]at hg;simp [vT]at hg;subst hg;rfl
 |some jb=>
  obtain ⟨j,b⟩:=jb
  rw [hq]at hg
  simp only [vT]at hg
  cases ht:(cQ[j]?).bind (·.dst)with
  |none=>simp [ht]at hg
  |some t=>
   simp [ht]at hg
   subst hg
   dsimp only
   have hv:=F t
   have hy:yielded cQ a.tmps j=match a.tmps[t]?with|some (.bool b)=>some b|_=>none:=by
    unfold yielded
    rw [ht]
    rfl
   rw [hy]
   cases gj:fr.get t with
   |bool c=>
    rw [gj]at hv
    have:=hv.bool
    have h2:a.tmps[t]?=some (.bool c):=by
     cases h3:a.tmps[t]?with
     |none=>simp [h3,undef]at this
     |some u=>simp [h3]at this;rw [this]
    rw [h2]
    simp
   |_=>
    have:∀c,a.tmps[t]?≠some (.bool c):=by
     intro c hc
     have h2:a.tmps.getD t undef= .bool c:=by simp [hc]
     rw [h2]at hv
     have:=hv.D6
     rw [this]at gj
     cases gj
    dsimp only
    cases h3:a.tmps[t]?with
    |none=>rfl
    |some u=>cases u<;>first|rfl|exact absurd h3 (this _)
theorem jG {p:cN} {ρ:X→Value} {H H':AH} {f:Nat} {as:List Value} (h:aA p ρ H=some (.enter f as,H')):fw p= .kR:=by
 cases p<;>first
  |rfl
  |(exfalso
    simp only [aA,Bool.cond_eq_ite]at h
    (repeat' split at h)<;>simp at h)
theorem GJ {call:Cl} (gk:qB P call) {nt:Nat} {cQ:Array Oper} {i:Nat} {o:Oper} {ao:AO} (hi:cQ[i]?=some o) (hc:OT P nt cQ o=some ao)
 {w0 w:World} {φ:bZ} {H H':AH} {fr cq:Fr} {a:Act} (F:mu φ fr a) (R:Rel w0 φ H w) (uG:φ.m H.nx=none) (gj:fw ao.o= .kR→rm φ H) (hs:a.tmps.size=nt) (hd:a.defers=[]) (h:kF call ao fr H=some (cq,H'))
 {Q:Exit→Act→World→Prop} {K:Act→World→Prop}
 (hK:∀dT v v' w',Rel w0 dT H' w'→Grow φ H w dT H' w'→V dT v v'→cq=fr.aU o.dst v→mu dT cq (a.put o.dst v')→(a.put o.dst v').tmps.size=nt→(a.put o.dst v').defers=[]→K (a.put o.dst v') w'):
 wpOp P cQ Q i K a w:=by
 unfold wpOp
 simp only [hi]
 unfold OT at hc
 split at hc
 case h_2=>cases hc
 rename_i g hg
 obtain ⟨V0,hc⟩:=aD hc
 cases hc
 obtain ⟨p,hp⟩:∃p,KW P o=p:=⟨_,rfl⟩
 rw [hp]at h gj
 have BZ:∀n,o.dst=some n→n<a.tmps.size:=by
  intro n hn
  rw [hn]at V0
  rw [hs]
  simpa [OS]using V0
 have K9:∀v,(a.put o.dst v).tmps.size=nt:=by
  intro v
  cases hq:o.dst<;>simp [Act.put,hs]
 have B1:∀v,(a.put o.dst v).defers=[]:=by
  intro v
  cases hq:o.dst<;>simp [Act.put,hd]
 have hw:=D7 F (o:=o) (d:=o.dst) (p:=p) hg
 rw [hw]
 unfold kF at h
 cases V1:AO.wanted ⟨g,o.dst,p⟩ fr with
 |false=>
  simp only [V1,cond_false,asm,ast]at h
  obtain ⟨rfl,rfl⟩:=h
  simp only [Bool.false_eq_true,if_false]
  exact hK φ undef undef w R (Grow.refl _ _ _) (sL _) rfl (F.aU BZ (sL _)) (K9 _) (B1 _)
 |true=>
  simp only [V1,cond_true]at h
  simp only [if_true]
  left
  unfold Oper.wp
  cases r6:aA p (X.ev fr) H with
  |none=>simp [r6]at h
  |some rr=>
   obtain ⟨res,H1⟩:=rr
   simp only [r6]at h
   cases res with
   |v x=>
    simp only [asm,ast]at h
    obtain ⟨rfl,rfl⟩:=h
    obtain ⟨dT,w',nx,e1,R',G,hn⟩:=GF F R uG hp r6 (fun f as h=>by cases h)
    rw [e1]
    rcases hn with⟨x',rfl,hv⟩|⟨rfl,rfl⟩
    ·rw [Oper.upon_value]
     exact hK dT x x' w' R' G hv rfl ((F.mono G.le).aU BZ hv) (K9 _) (B1 _)
    ·rw [Oper.upon_skip]
     exact hK dT undef undef w' R' G (sL _) rfl ((F.mono G.le).aU BZ (sL _)) (K9 _) (B1 _)
   |enter f as=>
    simp only at h
    cases oG:call f as H1 with
    |none=>simp [oG]at h
    |some vv=>
     obtain ⟨x,H2⟩:=vv
     simp only [oG,asm,ast]at h
     obtain ⟨rfl,rfl⟩:=h
     obtain ⟨hf,adv⟩:=gk f as H1 x H2 oG
     obtain ⟨dT,w',nx,e1,R',G,as',rfl,hn⟩:=GF F R uG hp r6 (fun f' as' h=>by cases h;exact hf)
     rw [e1,Oper.upon_enter]
     refine (adv w0 dT w' as' R' (G.fresh (gj (jG r6))) hn).mono ?_
     rintro e w2 ⟨mY,v',rfl,hv,R2,G2⟩
     exact hK mY x v' w2 R2 (G.trans G2) hv rfl ((F.mono (G.trans G2).le).aU BZ hv) (K9 _) (B1 _)
def adw:Ex→Exit
 | .normal=>.normal
 | .exit i=>.exit i
 | .ret=>.ret
def GK (w0:World) (φ:bZ) (w:World) (H:AH) (nt:Nat) (ex:Ex) (cq:Fr) (H':AH) (e:Exit) (a':Act) (w':World):Prop:=
 e=adw ex∧∃dT,Rel w0 dT H' w'∧Grow φ H w dT H' w'∧mu dT cq a'∧a'.tmps.size=nt∧a'.defers=[]
theorem GM {call:Cl} (gk:qB P call) {nt:Nat} {cQ:Array Oper} {w0:World} {Q:Exit→Act→World→Prop}:∀(l:List Oper) (FK:List AO) (k:Nat) {w:World} {φ:bZ} {H H':AH} {fr cq:Fr} {a:Act},
 pv P nt cQ l=some FK→(∀j o,l[j]?=some o→cQ[k+j]?=some o)→ops call FK fr H=some (cq,H')→mu φ fr a→Rel w0 φ H w→rm φ H→a.tmps.size=nt→a.defers=[]→
 (∀dT a' w',Rel w0 dT H' w'→Grow φ H w dT H' w'→mu dT cq a'→a'.tmps.size=nt→a'.defers=[]→Q .normal a' w')→wpOps P cQ Q (List.range' k l.length) a w
 |[],FK,k,w,φ,H,H',fr,cq,a,hc,_,h,F,R,R0,hs,hd,hQ=>by
  simp [pv]at hc
  subst hc
  simp only [ops,asm,ast]at h
  obtain ⟨rfl,rfl⟩:=h
  exact hQ φ a w R (Grow.refl _ _ _) F hs hd
 |o::l,FK,k,w,φ,H,H',fr,cq,a,hc,hi,h,F,R,R0,hs,hd,hQ=>by
  simp only [pv]at hc
  cases ho:OT P nt cQ o with
  |none=>simp [ho]at hc
  |some ao=>
   cases hl:pv P nt cQ l with
   |none=>simp [ho,hl]at hc
   |some m=>
    simp [ho,hl]at hc
    subst hc
    simp only [ops]at h
    cases h1:kF call ao fr H with
    |none=>simp [h1]at h
    |some r=>
     obtain ⟨kU,H1⟩:=r
     simp only [h1]at h
     simp only [List.length_cons,List.range'_succ,wpOps_cons]
     refine GJ gk (by simpa using hi 0 o (by simp)) ho F R (R0 _ (asp _)) (fun _=>R0) hs hd h1 ?_
     intro mg v v' w1 R1 G1 _ _ F1 V2 V3
     refine GM gk l m (k+1) hl (fun j o' hj=>by have:=hi (j+1) o' (by simpa using hj);rwa [show k+(j+1)=k+1+j by omega]at this) h F1 R1 (G1.fresh R0) V2 V3 ?_
     intro mY a2 w2 R2 G2 F2 zN B7
     exact hQ mY a2 w2 R2 (G1.trans G2) F2 zN B7
def mz (l:List AO) (dp:List (List Nat)):List Nat→List (Nat×Nat)→List Row
 |[],_=>[]
 |j::r,am=>match nth l j,nth dp j with
  |some o,some d=>⟨o,fw o.o,j,d,oC am d⟩::mz l dp r ((j,oC am d)::am)
  |_,_=>[]
theorem xT {α:Type} (l:List AO) (dp:List (List Nat)):∀(ord:List Nat) (am:List (Nat×Nat)) (k:List Row→α),BO l dp ord am k=k (mz l dp ord am)
 |[],am,k=>rfl
 |j::r,am,k=>by
  simp only [BO,mz]
  cases hl:nth l j with
  |none=>rfl
  |some o=>
   cases hd:nth dp j with
   |none=>rfl
   |some d=>
    simp only [force_eq]
    rw [xT l dp r]
theorem sU {nt id:Nat} {cQ:Array Oper} {ac:AC} (h:eJ P nt (.region id cQ true)=some ac):
 ∃l ord,pv P nt cQ cQ.toList=some l∧Ae l.length (mz l (cQ.toList.map KX) ord [])=true∧
  ac= .bA ((mz l (cQ.toList.map KX) ord []).map (·.o)) (u6 0 (mz l (cQ.toList.map KX) ord [])):=by
 simp only [eJ]at h
 cases hl:pv P nt cQ cQ.toList with
 |none=>simp [hl]at h
 |some l=>
  simp only [hl,OU,xT]at h
  obtain ⟨h1,h2⟩:=aD h
  cases h2
  exact ⟨l,_,rfl,h1,rfl⟩
theorem An {nt id:Nat} {cQ:Array Oper} {ac:AC} (h:eJ P nt (.region id cQ true)=some ac):∃l ck,ac= .bA l ck:=by
 obtain ⟨_,_,_,_,e⟩:=sU h
 exact ⟨_,_,e⟩
def GN (P:Program) (call:Cl):Prop:=∀(nt:Nat) (id:Nat) (cQ:Array Oper) (ac:AC),eJ P nt (.region id cQ true)=some ac→∀(l:List AO) (ck:List (Nat×Nat×Nat)),ac= .bA l ck→
 ∀(w0 w:World) (φ:bZ) (H H':AH) (fr cq:Fr) (a:Act),xK call l ck fr H=some (cq,H')→mu φ fr a→Rel w0 φ H w→rm φ H→a.tmps.size=nt→a.defers=[]→
  (Code.region id cQ true).wp P (GK w0 φ w H nt .normal cq H') a w
theorem fY {call:Cl}:∀{n m:Nat} {c:AC} {fr:Fr} {H:AH} {r:Ex×Fr×AH},n≤m→aE call n c fr H=some r→aE call m c fr H=some r:=by
 intro n
 induction n with
 |zero=>intro m c fr H r _ h;simp [aE]at h
 |succ n ih=>
  intro m c fr H r hm h
  obtain ⟨m,rfl⟩:∃k,m=k+1:=⟨m- 1,by omega⟩
  have Ux:n≤m:=by omega
  cases c with
  |seq a b=>
   simp only [aE]at h⊢
   cases h1:aE call n a fr H with
   |none=>simp [h1]at h
   |some q=>
    rw [ih Ux h1]
    obtain ⟨ex,kU,H1⟩:=q
    cases ex<;>simp only [h1]at h⊢<;>first
     |exact ih Ux h
     |exact h
  |cond x a b=>
   simp only [aE]at h⊢
   cases hx:x.ev fr<;>simp only [hx]at h⊢<;>first
    |(cases h;done)
    |skip
   rename_i t
   cases t<;>exact ih Ux h
  |block i a=>
   simp only [aE]at h⊢
   cases h1:aE call n a fr H with
   |none=>simp [h1]at h
   |some q=>
    rw [ih Ux h1]
    obtain ⟨ex,kU,H1⟩:=q
    cases ex<;>simp only [h1]at h⊢<;>exact h
  |loop a=>
   simp only [aE]at h⊢
   cases h1:aE call n a fr H with
   |none=>simp [h1]at h
   |some q=>
    rw [ih Ux h1]
    obtain ⟨ex,kU,H1⟩:=q
    cases ex<;>simp only [h1]at h⊢<;>first
     |exact ih Ux h
     |exact h
  |_=>simpa only [aE]using h
theorem La {call:Cl} (gk:qB P call) (V4:GN P call) {nt:Nat} {w0:World}:∀(m:Nat) (c:Code) (ac:AC) {w:World} {φ:bZ} {H H':AH} {fr cq:Fr} {a:Act} {ex:Ex},
 eJ P nt c=some ac→aE call m ac fr H=some (ex,cq,H')→mu φ fr a→Rel w0 φ H w→rm φ H→a.tmps.size=nt→a.defers=[]→c.wp P (GK w0 φ w H nt ex cq H') a w:=by
 intro m
 induction m with
 |zero=>intro c ac w φ H H' fr cq a ex _ h;simp [aE]at h
 |succ m ih=>
  intro c ac w φ H H' fr cq a ex hc h F R R0 hs hd
  cases c with
  |skip=>
   simp [eJ]at hc
   subst hc
   simp only [aE,asm,ast]at h
   obtain ⟨rfl,rfl,rfl⟩:=h
   exact wp_skip ⟨rfl,φ,R,Grow.refl _ _ _,F,hs,hd⟩
  |region id cQ draw=>
   cases draw with
   |false=>
    simp only [eJ]at hc
    cases hl:pv P nt cQ cQ.toList with
    |none=>simp [hl]at hc
    |some l=>
     simp [hl]at hc
     subst hc
     simp only [aE]at h
     cases h1:ops call l fr H with
     |none=>simp [h1]at h
     |some r=>
      obtain ⟨kU,H1⟩:=r
      simp only [h1,asm,ast]at h
      obtain ⟨rfl,rfl,rfl⟩:=h
      refine wp_region ?_
      have:=GM (Q:=GK w0 φ w H nt .normal kU H1) gk cQ.toList l 0 hl (fun j o hj=>by simpa using hj) h1 F R R0 hs hd (fun dT a' w' R' G F' fF V5=>⟨rfl,dT,R',G,F',fF,V5⟩)
      rwa [Array.length_toList,←List.range_eq_range']at this
   |true=>
    have rT:=hc
    obtain ⟨l,ck,V6⟩:=An hc
    rw [V6]at h
    simp only [aE]at h
    split at h
    case h_2=>cases h
    rename_i kU H1 h1
    simp only [asm,ast]at h
    obtain ⟨rfl,rfl,rfl⟩:=h
    exact V4 nt id cQ _ rT _ _ V6 w0 w φ H H1 fr kU a h1 F R R0 hs hd
  |refuse r=>
   simp only [eJ,asm]at hc
   subst hc
   simp only [aE,X.ev]at h
   cases h
  |seq x y=>
   simp only [eJ]at hc
   cases hx:eJ P nt x with
   |none=>simp [hx]at hc
   |some ax=>
    cases hy:eJ P nt y with
    |none=>simp [hx,hy]at hc
    |some ay=>
     simp [hx,hy]at hc
     subst hc
     simp only [aE]at h
     refine wp_seq ?_
     cases h1:aE call m ax fr H with
     |none=>simp [h1]at h
     |some r=>
      obtain ⟨KE,kU,H1⟩:=r
      have w1:=ih x ax hx h1 F R R0 hs hd
      cases KE with
      |normal=>
       simp only [h1]at h
       refine wp_mono w1 ?_
       rintro e a1 w1 ⟨rfl,mg,R1,G1,F1,V2,V3⟩
       refine wp_mono (ih y ay hy h F1 R1 (G1.fresh R0) V2 V3) ?_
       rintro e a2 w2 ⟨he,mY,R2,G2,F2,zN,B7⟩
       exact ⟨he,mY,R2,G1.trans G2,F2,zN,B7⟩
      |exit i=>
       simp only [h1,asm,ast]at h
       obtain ⟨rfl,rfl,rfl⟩:=h
       refine wp_mono w1 ?_
       rintro e a1 w1 ⟨rfl,q⟩
       exact ⟨rfl,q⟩
      |ret=>
       simp only [h1,asm,ast]at h
       obtain ⟨rfl,rfl,rfl⟩:=h
       refine wp_mono w1 ?_
       rintro e a1 w1 ⟨rfl,q⟩
       exact ⟨rfl,q⟩
  |cond x y z=>
   simp only [eJ]at hc
   split at hc
   case h_2=>cases hc
   rename_i xx ay az hx hy hz
   cases hc
   simp only [aE]at h
   have hv:=dK F hx
   cases hq:xx.ev fr<;>simp [hq]at h
   rename_i b
   rw [hq]at hv
   refine wp_cond hv.bool ?_
   cases b
   ·simp only [Bool.false_eq_true,if_false]
    exact ih z az hz h F R R0 hs hd
   ·simp only [if_true]
    exact ih y ay hy h F R R0 hs hd
  |block i x=>
   simp only [eJ]at hc
   cases hx:eJ P nt x with
   |none=>simp [hx]at hc
   |some ax=>
    simp [hx]at hc
    subst hc
    simp only [aE]at h
    refine wp_block ?_
    cases h1:aE call m ax fr H with
    |none=>simp [h1]at h
    |some r=>
     obtain ⟨KE,kU,H1⟩:=r
     have w1:=ih x ax hx h1 F R R0 hs hd
     refine wp_mono w1 ?_
     rintro e a1 w3 ⟨rfl,q⟩
     cases KE with
     |normal=>
      simp only [h1,asm,ast]at h
      obtain ⟨rfl,rfl,rfl⟩:=h
      exact ⟨rfl,q⟩
     |ret=>
      simp only [h1,asm,ast]at h
      obtain ⟨rfl,rfl,rfl⟩:=h
      exact ⟨rfl,q⟩
     |exit j=>
      simp only [h1,nb,Bool.cond_decide]at h
      show Exit.inBlock i _ (.exit j) a1 w3
      simp only [Exit.inBlock]
      by_cases hj:j=i
      ·rw [if_pos hj]at h⊢
       simp only [asm,ast]at h
       obtain ⟨rfl,rfl,rfl⟩:=h
       exact ⟨rfl,q⟩
      ·rw [if_neg hj]at h⊢
       simp only [asm,ast]at h
       obtain ⟨rfl,rfl,rfl⟩:=h
       exact ⟨rfl,q⟩
  |loop x=>
   simp only [eJ]at hc
   cases hx:eJ P nt x with
   |none=>simp [hx]at hc
   |some ax=>
    simp [hx]at hc
    subst hc
    refine wp_loop_ghost (fun n a1 w1=>n≤m+1∧∃kU H1 mg,aE call n (.loop ax) kU H1=some (ex,cq,H')∧mu mg kU a1∧Rel w0 mg H1 w1∧Grow φ H w mg H1 w1∧a1.tmps.size=nt∧a1.defers=[]) (m+1) ⟨asp _,fr,H,φ,h,F,R,Grow.refl _ _ _,hs,hd⟩ ?_
    rintro n a1 w1 ⟨hn,kU,H1,mg,h1,F1,R1,G1,V2,V3⟩
    cases n with
    |zero=>simp [aE]at h1
    |succ n=>
     simp only [aE]at h1
     cases h2:aE call n ax kU H1 with
     |none=>simp [h2]at h1
     |some r=>
      obtain ⟨Uy,fK,H2⟩:=r
      have mono:aE call m ax kU H1=some (Uy,fK,H2):=fY (by omega) h2
      have w2:=ih x ax hx mono F1 R1 (G1.fresh R0) V2 V3
      refine wp_mono w2 ?_
      rintro e a2 w2 ⟨rfl,mY,R2,G2,F2,zN,B7⟩
      cases Uy with
      |normal=>
       simp only [h2]at h1
       exact ⟨n,by omega,by omega,fK,H2,mY,h1,F2,R2,G1.trans G2,zN,B7⟩
      |exit j=>
       simp only [h2,asm,ast]at h1
       obtain ⟨rfl,rfl,rfl⟩:=h1
       exact ⟨rfl,mY,R2,G1.trans G2,F2,zN,B7⟩
      |ret=>
       simp only [h2,asm,ast]at h1
       obtain ⟨rfl,rfl,rfl⟩:=h1
       exact ⟨rfl,mY,R2,G1.trans G2,F2,zN,B7⟩
  |exit i=>
   simp [eJ]at hc
   subst hc
   simp only [aE,asm,ast]at h
   obtain ⟨rfl,rfl,rfl⟩:=h
   exact wp_exit ⟨rfl,φ,R,Grow.refl _ _ _,F,hs,hd⟩
  |ret=>
   simp [eJ]at hc
   subst hc
   simp only [aE,asm,ast]at h
   obtain ⟨rfl,rfl,rfl⟩:=h
   exact wp_ret ⟨rfl,φ,R,Grow.refl _ _ _,F,hs,hd⟩
  |_=>simp [eJ]at hc
end
end Go.Proofs.YtppcmpmnglaleaaGreatDoor.A
namespace Go.Proofs.YtppcmpmnglaleaaGreatDoor.A
open Go
theorem D9 {p:cN} {ρ O3:X→Value} (h:∀x∈p.xs,ρ x=O3 x) (H:AH):aA p ρ H=aA p O3 H:=by
 have ml:∀(l:List X),(∀x∈l,ρ x=O3 x)→l.map ρ=l.map O3:=fun l hl=>List.map_congr_left hl
 have mp:∀(l:List (Nat×Nat×X)),(∀x∈l.map (fun p=>p.2.2),ρ x=O3 x)→(l.map fun p=>(p.1,p.2.1,ρ p.2.2))=l.map fun p=>(p.1,p.2.1,O3 p.2.2):=
  fun l hl=>List.map_congr_left fun p hp=>by rw [hl _ (List.mem_map.2 ⟨p,hp,rfl⟩)]
 have mo:∀(l:Option X),(∀x∈l.toList,ρ x=O3 x)→l.map ρ=l.map O3:=fun l hl=>by cases l<;>simp_all
 cases p
 case build z ps=>simp only [aA];rw [mp ps h]
 case bsl a b c ps=>simp only [aA];rw [mp ps h]
 case mkf f a b=>
  simp only [aA]
  rw [ml a fun x hx=>h x (by simp [cN.xs,hx]),ml b fun x hx=>h x (by simp [cN.xs,hx])]
 case call f as=>simp only [aA];rw [ml as h]
 case xt k l=>simp only [aA];rw [ml l h]
 case callv x as=>
  simp only [aA]
  rw [ml as fun x hx=>h x (by simp [cN.xs,hx]),h x (by simp [cN.xs])]
 case mxl x as=>
  simp only [aA]
  rw [ml as fun x hx=>h x (by simp [cN.xs,hx]),h x (by simp [cN.xs])]
 case mnl x as=>
  simp only [aA]
  rw [ml as fun x hx=>h x (by simp [cN.xs,hx]),h x (by simp [cN.xs])]
 case sl sz x lo hi mx=>
  simp only [aA]
  rw [h x (by simp [cN.xs]),mo lo fun x hx=>h x (by simp [cN.xs]at hx⊢;simp [hx]),mo hi fun x hx=>h x (by simp [cN.xs]at hx⊢;simp [hx]),mo mx fun x hx=>h x (by simp [cN.xs]at hx⊢;simp [hx])]
 all_goals
  simp only [cN.xs,List.mem_cons,List.not_mem_nil,or_false,forall_eq_or_imp,forall_eq,implies_true,false_imp_iff]at h
  simp only [aA,h]
theorem Ao {sz:Nat} {H H1:AH} {x:Value} {hi mx:Option Value}:cl sz H1 x none hi mx=cl sz H x none hi mx:=by
 cases x<;>try rfl
 rename_i a len cap
 simp only [cl]
 cases hb:bH len cap none hi mx with
 |none=>rfl
 |some r=>
  obtain ⟨l,h,m⟩:=r
  have hl:l=0:=by
   unfold bH at hb
   simp only [asw]at hb
   obtain ⟨_,_,_,_,_,e,e2⟩:=hb
   simp at e e2
   omega
  subst hl
  simp
theorem mZ {p:cN} {ρ:X→Value} {H H':AH} {r:jN} (hk:fw p= .pure) (h:aA p ρ H=some (r,H')):
 H'=H∧∀H1:AH,aA p ρ H1=some (r,H1):=by
 cases p
 case sl sz x lo hi mx=>
  cases lo with
  |some l=>simp [fw]at hk
  |none=>
   simp only [aA,Option.map_none,asv]at h⊢
   obtain ⟨v,hv,e⟩:=h
   cases e
   exact ⟨rfl,fun H1=>⟨v,Ao.trans hv,rfl⟩⟩
 case eqk k neg x y=>
  simp only [aA,asv]at h⊢
  obtain ⟨b,hb,e⟩:=h
  cases e
  exact ⟨rfl,fun H1=>⟨b,hb,rfl⟩⟩
 case xt k l=>
  cases k<;>first
   |(simp [fw]at hk;done)
   |skip
  all_goals
   simp only [aA,Ga]at h⊢
   split at h<;>simp_all<;>first
    |(obtain ⟨a,⟨h0,b,h1,rfl,rfl⟩,h2⟩:=h;exact ⟨rfl,fun _=>⟨_,⟨h0,h1⟩,h2⟩⟩)
    |(obtain ⟨_,h1,_,_⟩:=h;simp_all;done)
    |(obtain ⟨_,_,h1,_,_⟩:=h;simp_all;done)
    |skip
 case eqs neg offs x y=>
  simp only [aA]at h⊢
  split at h
  · simp only [asv]at h⊢
    obtain ⟨b,hb,e⟩:=h
    cases e
    exact ⟨rfl,fun H1=>⟨b,hb,rfl⟩⟩
  · cases h
 all_goals first
  |(simp [fw]at hk;done)
  |(simp only [aA,Bool.cond_eq_ite,asv]at h⊢
    (repeat' split at h)<;>simp_all<;>try(obtain ⟨_,_,h1,h2⟩:=h;simp_all))
theorem jP {p:cN} {ρ:X→Value} {H H':AH} {r:jN} (hk:fw p= .alloc) (h:aA p ρ H=some (r,H')):
 ∃aX,H'=H.alloc aX∧∀H1:AH,H1.nx=H.nx→aA p ρ H1=some (r,H1.alloc aX):=by
 cases p
 case sl sz x lo hi mx=>cases lo<;>simp [fw]at hk
 case xt k l=>cases k<;>simp [fw]at hk
 all_goals first
  |(simp [fw]at hk;done)
  |skip
 case alloc z=>
  simp only [aA,asm,ast]at h⊢
  obtain ⟨rfl,rfl⟩:=h
  exact ⟨_,rfl,fun H1 e=>⟨by rw [e],rfl⟩⟩
 case box x=>
  simp only [aA,Bool.cond_eq_ite]at h⊢
  split at h
  ·cases h
  ·rename_i ht
   simp only [asm,ast]at h
   obtain ⟨rfl,rfl⟩:=h
   exact ⟨_,rfl,fun H1 e=>by rw [if_neg ht,e]⟩
 case bsl len sz z ps=>
  simp only [aA,asv]at h⊢
  obtain ⟨c,hc,e⟩:=h
  cases e
  exact ⟨_,rfl,fun H1 e=>⟨c,hc,by rw [e]⟩⟩
 case mkmap=>
  simp only [aA,asm,ast]at h⊢
  obtain ⟨rfl,rfl⟩:=h
  exact ⟨_,rfl,fun H1 e=>⟨by rw [e],rfl⟩⟩
 case mksl sz bytes z x=>
  simp only [aA,Bool.cond_eq_ite]at h⊢
  split at h
  ·split at h
   ·rename_i hc
    simp only [asm,ast]at h
    obtain ⟨rfl,rfl⟩:=h
    exact ⟨_,rfl,fun H1 e=>by rw [if_pos hc,e]⟩
   ·cases h
  ·cases h
theorem nT {n0:Nat}:∀{l m:List Value},aT n0 l=some m→m.length=l.length
 |[],m,h=>by simp [aT]at h;subst h;rfl
 |v::l,m,h=>by
  simp only [aT]at h
  split at h
  ·rename_i x m' hx hm
   cases h
   simp [nT hm]
  ·cases h
theorem dH {H:AH} {a:Addr} {n:Nat} {vs:List Value} (h:H.ldn a n=some vs):(H.get a.block).isSome=true∧vs.length=n:=by
 unfold AH.ldn at h
 split at h
 case h_2=>cases h
 rename_i z c hs hg
 obtain ⟨hb,h⟩:=aD h
 simp at hb
 refine ⟨by simp [hg],?_⟩
 simp only [Bool.cond_eq_ite]at h
 split at h
 ·rw [nT h];simp;omega
 ·cases h;simp;omega
theorem fx {H H1:AH} {a:Addr} {n:Nat} (hg:H1.get a.block=H.get a.block) (h0:H1.n0=H.n0):H1.ldn a n=H.ldn a n:=by
 unfold AH.ldn
 rw [hg,h0]
theorem bg {H:AH} {a:Addr} {v:Value}:H.ld a=some v↔H.ldn a 1=some [v]:=by
 unfold AH.ld AH.ldn
 cases hs:a.spot with
 |some x=>simp
 |none=>
  cases hg:H.get a.block with
  |none=>simp
  |some b=>
   cases b with
   |map es=>simp
   |cells z c=>
    simp only
    cases hc:c[a.off]?with
    |none=>
     have:=List.getElem?_eq_none_iff.1 hc
     have:decide (a.off+1≤c.length)=false:=by simp;omega
     simp [this]
    |some u=>
     have c8:=(asr.1 hc).1
     have h1:decide (a.off+1≤c.length)=true:=by simp;omega
     have h2:List.take 1 (List.drop a.off c)=[u]:=by
      have:=(asr.1 hc).2
      rw [List.drop_eq_getElem_cons c8,this]
      rfl
     simp only [h1,cond_true,h2]
     cases hd:decide (a.block<H.n0)with
     |false=>simp
     |true=>
      simp only [cond_true,aT]
      cases bo H.n0 u<;>simp
theorem nc {o:AO} {fr:Fr} {H H':AH} {r:jN} (hk:fw o.o= .load) (h:aA o.o (X.ev fr) H=some (r,H')):
 H'=H∧∃a vs,ff o fr H=some (a,vs)∧dk o fr=some a.block∧H.ldn a vs.length=some vs∧∀H1:AH,H1.ldn a vs.length=some vs→aA o.o (X.ev fr) H1=some (r,H1):=by
 obtain ⟨g,d,p⟩:=o
 dsimp only at hk h
 unfold ff dk
 dsimp only
 cases p
 case sl sz x lo hi mx=>cases lo<;>simp [fw]at hk
 case xt k l=>cases k<;>simp [fw]at hk
 all_goals first
  |(simp [fw]at hk;done)
  |skip
 case ld x=>
  simp only [aA]at h⊢
  split at h
  case h_2=>cases h
  rename_i a ha
  simp only [asv]at h
  obtain ⟨v,hv,e⟩:=h
  cases e
  have hl:=bg.1 hv
  refine ⟨rfl,a,[v],?_,rfl,hl,fun H1 h1=>?_⟩
  ·rw [hl];rfl
  ·rw [bg.2 h1];rfl
 case ldn n x=>
  simp only [aA]at h⊢
  split at h
  case h_2=>cases h
  rename_i a ha
  simp only [asv]at h
  obtain ⟨vs,hv,e⟩:=h
  cases e
  have hl:=(dH hv).2
  subst hl
  refine ⟨rfl,a,vs,?_,rfl,hv,fun H1 h1=>?_⟩
  ·rw [hv];rfl
  ·rw [h1];rfl
theorem Lb {H H':AH} {a:Addr} {vs:List Value} (h:H.st a vs=some H'):(H.get a.block).isSome=true∧∃z c',H'=H.put a.block (some (.cells z c'))∧
 ∀H1:AH,H1.get a.block=H.get a.block→H1.n0=H.n0→H1.st a vs=some (H1.put a.block (some (.cells z c'))):=by
 unfold AH.st at h
 split at h
 case h_2=>cases h
 rename_i z c hs hg
 obtain ⟨hb,h⟩:=aD h
 cases h
 refine ⟨by simp [hg],z,_,rfl,fun H1 h1 h2=>?_⟩
 unfold AH.st
 rw [h1,h2,hg,hs]
 simp only [hb,cond_true]
theorem r9 {o:AO} {fr:Fr} {H H':AH} {r:jN} (hk:fw o.o= .st) (h:aA o.o (X.ev fr) H=some (r,H')):
 ∃b aX,dk o fr=some b∧(H.get b).isSome=true∧H'=H.put b aX∧∀H1:AH,H1.get b=H.get b→H1.n0=H.n0→aA o.o (X.ev fr) H1=some (r,H1.put b aX):=by
 obtain ⟨g,d,p⟩:=o
 dsimp only at hk h
 unfold dk
 dsimp only
 cases p
 case sl sz x lo hi mx=>cases lo<;>simp [fw]at hk
 case xt k l=>cases k<;>simp [fw]at hk
 all_goals first
  |(simp [fw]at hk;done)
  |skip
 case st n x v=>
  simp only [aA]at h⊢
  split at h
  case h_2=>cases h
  rename_i a ha
  obtain ⟨hb,h⟩:=aD h
  simp only [asv]at h
  obtain ⟨H2,h2,e⟩:=h
  cases e
  obtain ⟨hs,z,c',rfl,aG⟩:=Lb h2
  refine ⟨a.block,some (.cells z c'),rfl,hs,rfl,fun H1 e1 e2=>?_⟩
  rw [hb,cond_true,aG H1 e1 e2]
  rfl
theorem GO {H:AH} {b sz:Nat} (h:H.get b=none):H.lE b sz=false:=by
 unfold AH.lE;rw [h]
theorem ng {o:AO} {fr:Fr} {H H':AH} {r:jN} (hk:fw o.o= .read) (h:aA o.o (X.ev fr) H=some (r,H')):
 H'=H∧∀H1:AH,(∀b,dk o fr=some b→(H.get b).isSome=true→H1.get b=H.get b)→H1.n0=H.n0→aA o.o (X.ev fr) H1=some (r,H1):=by
 obtain ⟨g,d,p⟩:=o
 dsimp only at hk h
 unfold dk
 dsimp only
 cases p
 case sl sz x lo hi mx=>
  simp only [aA,asv]at h⊢
  obtain ⟨v,hv,e⟩:=h
  cases e
  refine ⟨rfl,fun H1 h1 h2=>⟨v,?_,rfl⟩⟩
  rw [←hv]
  cases hx:x.ev fr<;>try rfl
  rename_i a len cap
  rw [hx]at hv h1
  simp only [cl]at hv⊢
  split
  ·rfl
  ·cases a with
   |none=>rfl
   |some a=>
    rename_i l hh m V7
    rw [V7]at hv
    simp only at hv⊢
    have hz:(a.spot.isNone&&(Nat.beq l 0||H1.lE a.block sz))=(a.spot.isNone&&(Nat.beq l 0||H.lE a.block sz))∨H.get a.block=none:=by
     cases ji:a.spot.isNone with
     |false=>left;simp
     |true=>
      cases hg:H.get a.block with
      |none=>exact .inr rfl
      |some b=>
       left
       have:=h1 a.block (by simp [ji]) (by simp [hg])
       unfold AH.lE
       rw [this]
    rcases hz with hz|hz
    ·rw [hz]
    ·obtain ⟨h3,hv⟩:=aD hv
     rw [h3]
     simp only [cond_true]
     split
     ·rfl
     ·rename_i xP
      rw [if_neg xP]at hv
      obtain ⟨h4,hv⟩:=aD hv
      rw [GO hz,Bool.or_false]at h4
      simp only [aso]at h4
      simp [h4.1,h4.2]
 case look kk z x k ok=>
  simp only [aA]at h⊢
  cases hx:x.ev fr<;>simp only [hx]at h⊢<;>try(cases h;done)
  rename_i rr
  cases rr with
  |none=>
   simp only at h⊢
   obtain ⟨h1,h⟩:=aD h
   cases h
   exact ⟨rfl,fun H1 _ _=>by rw [h1];rfl⟩
  |some q=>
   simp only at h⊢
   cases hg:H.get q with
   |none=>simp [hg]at h
   |some b=>
    cases b with
    |cells z c=>simp [hg]at h
    |map es=>
     simp only [hg]at h
     obtain ⟨h1,h⟩:=aD h
     refine ⟨?_,fun H1 e1 e2=>?_⟩
     ·split at h<;>first|(cases h;rfl)|cases h
     ·have:=e1 q rfl (by simp [hg])
      rw [this,hg,e2]
      simp only [h1,cond_true]
      split at h
      ·cases h;rfl
      ·cases h;rfl
      ·cases h
 case xt k l=>cases k<;>simp [fw]at hk
 all_goals first
  |(simp [fw]at hk;done)
  |skip
theorem GP:∀{a b:Value},dG a b=true→a=b:=by
 intro a b h
 cases a<;>cases b<;>simp [dG]at h<;>simp_all
 exact ByteArray.ext h
theorem sV:∀{a b:List Value},fk a b=true→a=b
 |[],[],_=>rfl
 |a::l,b::m,h=>by
  simp only [fk,aso]at h
  rw [GP h.1,sV h.2]
 |[],_::_,h=>by simp [fk]at h
 |_::_,[],h=>by simp [fk]at h
theorem Ea {H:AH} {a:Addr} {vs:List Value} (h:sameAt H (a,vs)=true):H.ldn a vs.length=some vs:=by
 unfold sameAt at h
 dsimp only at h
 split at h
 ·rename_i m hm
  rw [hm,sV h]
 ·cases h
theorem GQ {x y:Option qy} (h:nQ x y=true):x=y:=by
 unfold nQ at h
 split at h
 ·simp only [aso,Nat.beq_eq]at h
  rw [h.1,sV h.2]
 ·rfl
 ·cases h
open Go
theorem mA {n:Nat}:∀{l:List Nat},xL n l=true↔n∈l
 |[]=>by simp [xL]
 |x::l=>by
  simp only [xL,Bool.or_eq_true,nb,asx,List.mem_cons]
  rw [mA (l:=l)]
  constructor
  ·rintro (h|h)
   ·exact .inl h.symm
   ·exact .inr h
  ·rintro (h|h)
   ·exact .inl h.symm
   ·exact .inr h
theorem mB {x y:AO} (h:kI x y=true):(∀d,x.d=some d→d∉tmpsOf y)∧(∀d,x.d=some d→y.d≠some d):=by
 unfold kI at h
 cases hd:x.d with
 |none=>exact ⟨fun _ h=>(by cases h),fun _ h=>(by cases h)⟩
 |some d=>
  simp only [hd,aso,Bool.not_eq_true']at h
  refine ⟨fun e he=>?_,fun e he=>?_⟩
  ·cases he
   intro hm
   rw [mA.2 hm]at h
   cases h.1
  ·cases he
   intro hy
   rw [hy]at h
   simp at h
theorem Fr.jQ {f:Fr} {d:Option Nat} {v:Value} {x:Nat}:(f.aU d v).get x=if d=some x then v else f.get x:=by
 cases d with
 |none=>simp [Fr.aU]
 |some k=>
  simp only [Fr.aU,Fr.bV,asm]
  by_cases h:x=k
  ·simp [h]
  ·rw [if_neg h,if_neg (fun e=>h e.symm)]
inductive One (call:Cl) (o:AO) (fr:Fr) (H:AH) (x:Value) (H':AH):Prop where
 |off (h:o.wanted fr=false) (e:x=undef) (e2:H'=H)
 |val (h:o.wanted fr=true) (e:aA o.o (X.ev fr) H=some (.v x,H'))
 |call (h:o.wanted fr=true) (f:Nat) (as:List Value) (H1:AH) (e:aA o.o (X.ev fr) H=some (.enter f as,H1)) (e2:call f as H1=some (x,H'))
theorem ey {call:Cl} {o:AO} {fr cq:Fr} {H H':AH}:kF call o fr H=some (cq,H')↔∃x,cq=fr.aU o.d x∧One call o fr H x H':=by
 unfold kF
 constructor
 ·intro h
  cases hw:o.wanted fr with
  |false=>
   simp only [hw,cond_false,asm,ast]at h
   exact ⟨undef,h.1.symm,.off hw rfl h.2.symm⟩
  |true=>
   simp only [hw,cond_true]at h
   cases r6:aA o.o (X.ev fr) H with
   |none=>simp [r6]at h
   |some rr=>
    obtain ⟨res,H1⟩:=rr
    simp only [r6]at h
    cases res with
    |v x=>
     simp only [asm,ast]at h
     obtain ⟨rfl,rfl⟩:=h
     exact ⟨x,rfl,.val hw r6⟩
    |enter f as=>
     simp only at h
     cases hc:call f as H1 with
     |none=>simp [hc]at h
     |some r=>
      obtain ⟨x,H2⟩:=r
      simp only [hc,asm,ast]at h
      obtain ⟨rfl,rfl⟩:=h
      exact ⟨x,rfl,.call hw f as H1 r6 hc⟩
 ·rintro ⟨x,rfl,h⟩
  cases h with
  |off h e e2=>subst e;subst e2;simp [h]
  |val h e=>simp [h,e]
  |call h f as H1 e e2=>simp [h,e,e2]
def ru (o:AO) (fr fK:Fr):Prop:=∀t∈tmpsOf o,fK.get t=fr.get t
theorem ru.ev {o:AO} {fr fK:Fr} (h:ru o fr fK):∀x∈o.o.xs,X.ev fK x=X.ev fr x:=by
 intro x hx
 cases x with
 |t n=>
  exact h n (by
   unfold tmpsOf
   exact List.mem_append_right _ (List.mem_filterMap.2 ⟨.t n,hx,rfl⟩))
 |k v=>rfl
 |f n=>rfl
theorem ru.wanted {o:AO} {fr fK:Fr} (h:ru o fr fK):o.wanted fK=o.wanted fr:=by
 unfold AO.wanted
 cases hg:o.g with
 |none=>rfl
 |some tb=>
  obtain ⟨t,b⟩:=tb
  simp only
  rw [h t (by unfold tmpsOf;rw [hg];simp)]
theorem ru.one {call:Cl} {o:AO} {fr fK:Fr} {H H':AH} {x:Value} (h:ru o fr fK) (k:One call o fr H x H'):One call o fK H x H':=by
 have he:∀H,aA o.o (X.ev fK) H=aA o.o (X.ev fr) H:=fun H=>D9 h.ev H
 cases k with
 |off a b c=>exact .off (h.wanted.trans a) b c
 |val a b=>exact .val (h.wanted.trans a) ((he _).trans b)
 |call a f as H1 b c=>exact .call (h.wanted.trans a) f as H1 ((he _).trans b) c
theorem GR {o:AO} {fr fK:Fr} (h:ru o fr fK):dk o fK=dk o fr:=by
 have he:=h.ev
 unfold dk
 cases hp:o.o<;>simp only [hp,cN.xs,List.mem_cons,List.not_mem_nil,or_false,forall_eq_or_imp,forall_eq]at he⊢
 all_goals (simp only [he])
structure qq (call:Cl) (O:Nat→AO) (n:Nat) (sF:Nat→Fr) (sH:Nat→AH) (sW:Nat→Nat→Prop):Prop where
 step:∀t,t<n→kF call (O t) (sF t) (sH t)=some (sF (t+1),sH (t+1))
 n0:∀t,t<n→(sH (t+1)).n0=(sH t).n0
 nx:∀t,t<n→(sH t).nx≤(sH (t+1)).nx
 pair:∀p q,p<q→q<n→sW p q∨(kI (O p) (O q)=true∧kI (O q) (O p)=true∧eU (fw (O p).o) (fw (O q).o)=true)
 c0:∀p q,p<q→q<n→¬ sW p q→(O p).wanted (sF p)=true→(O q).wanted (sF q)=true→fw (O p).o= .load→fw (O q).o= .kR→
  ∃x,ff (O p) (sF p) (sH p)=some x∧sameAt (sH (q+1)) x=true
 c1:∀p q,p<q→q<n→¬ sW p q→(O p).wanted (sF p)=true→(O q).wanted (sF q)=true→fw (O p).o= .alloc→fw (O q).o= .kR→
  (sH (q+1)).get (sH p).nx=(sH (p+1)).get (sH p).nx
 c2:∀p q,p<q→q<n→¬ sW p q→(O p).wanted (sF p)=true→(O q).wanted (sF q)=true→(fw (O p).o= .load∨fw (O p).o= .read∨fw (O p).o= .st)→fw (O q).o= .st→
  ∀b b',dk (O p) (sF p)=some b→dk (O q) (sF q)=some b'→b≠b'
section
variable{call:Cl} {O:Nat→AO} {n:Nat} {sF:Nat→Fr} {sH:Nat→AH} {sW:Nat→Nat→Prop} (R:qq call O n sF sH sW)
include R
theorem qq.Uz (t:Nat) (h:t≤n):(sH t).n0=(sH 0).n0:=by
 induction t with
 |zero=>rfl
 |succ t ih=>exact (R.n0 t (by omega)).trans (ih (by omega))
theorem qq.nxs {t:Nat} (k:Nat) (h:t+k≤n):(sH t).nx≤(sH (t+k)).nx:=by
 induction k with
 |zero=>exact asp _
 |succ k ih=>exact Nat.le_trans (ih (by omega)) (R.nx (t+k) (by omega))
theorem qq.jx {t u:Nat} (h:t≤u) (hu:u≤n):(sH t).nx≤(sH u).nx:=by
 have:=R.nxs (t:=t) (u- t) (by omega)
 rwa [show t+(u- t)=u by omega]at this
omit R in
def v7 (O:Nat→AO) (sF:Nat→Fr) (t:Nat):Value:=(sF (t+1)).get ((O t).d.getD 0)
omit R in
def v8 (O:Nat→AO) (sF:Nat→Fr) (S:Nat→Bool):Nat→Fr
 |0=>sF 0
 |t+1=>bif S t then(v8 O sF S t).aU (O t).d (v7 O sF t)else v8 O sF S t
theorem qq.frame {t:Nat} (ht:t<n) (x:Nat):(sF (t+1)).get x=if(O t).d=some x then v7 O sF t else(sF t).get x:=by
 obtain ⟨v,hf,_⟩:=ey.1 (R.step t ht)
 by_cases h:(O t).d=some x
 ·rw [if_pos h]
  unfold v7
  rw [h]
  rfl
 ·rw [if_neg h,hf,Fr.jQ,if_neg h]
theorem qq.one {t:Nat} (ht:t<n):∃x,One call (O t) (sF t) (sH t) x (sH (t+1))∧∀f:Fr,f.aU (O t).d x=f.aU (O t).d (v7 O sF t):=by
 obtain ⟨v,hf,h1⟩:=ey.1 (R.step t ht)
 refine ⟨v,h1,fun f=>?_⟩
 cases hd:(O t).d with
 |none=>rfl
 |some k=>
  have:v7 O sF t=v:=by
   unfold v7
   rw [hf,hd]
   simp [Fr.aU,Fr.bV]
  rw [this]
omit R in
theorem we {S S':Nat→Bool} {x m:Nat} (h:∀p,p<m→(O p).d=some x→S p=S' p):(v8 O sF S m).get x=(v8 O sF S' m).get x:=by
 induction m with
 |zero=>rfl
 |succ m ih=>
  have ih:=ih fun p hp=>h p (by omega)
  simp only [v8]
  by_cases hd:(O m).d=some x
  ·have:=h m (by omega) hd
   rw [this]
   cases S' m
   ·exact ih
   ·simp only [cond_true,Fr.jQ,if_pos hd]
  ·cases S m<;>cases S' m<;>simp only [cond_true,cond_false,Fr.jQ,if_neg hd]<;>exact ih
omit R in
theorem sX {S:Nat→Bool} {x t m:Nat} (UA:t≤m) (h:∀p,t≤p→p<m→S p=true→(O p).d≠some x):(v8 O sF S m).get x=(v8 O sF S t).get x:=by
 induction m with
 |zero=>obtain rfl:t=0:=by omega
        rfl
 |succ m ih=>
  rcases Nat.lt_or_ge m t with h1|h1
  · obtain rfl:t=m+1:=by omega
    rfl
  · have ih:=ih h1 fun p hp hp2=>h p hp (by omega)
    simp only [v8]
    cases hS:S m with
    |false=>exact ih
    |true=>simp only [cond_true,Fr.jQ,if_neg (h m h1 (by omega) hS)];exact ih
theorem qq.B8 {m:Nat} (hm:m≤n) (x:Nat):(v8 O sF (fun _=>true) m).get x=(sF m).get x:=by
 induction m with
 |zero=>rfl
 |succ m ih=>
  rw [R.frame (by omega),v8,cond_true,Fr.jQ,ih (by omega)]
omit R in
structure V8 (n:Nat) (sW:Nat→Nat→Prop) (S:Nat→Bool) (t:Nat):Prop where
 lt:t<n
 out:S t=false
 rdy:∀p,p<t→sW p t→S p=true
 cls:∀p q,p<q→q<n→S q=true→sW p q→S p=true
variable{S:Nat→Bool} {t:Nat} (C:V8 n sW S t)
include C
theorem qq.before {p:Nat} (hp:p<t) (hS:S p=false):¬ sW p t∧kI (O p) (O t)=true∧kI (O t) (O p)=true∧eU (fw (O p).o) (fw (O t).o)=true:=by
 have hn:¬ sW p t:=fun h=>by rw [C.rdy p hp h]at hS;cases hS
 exact ⟨hn,(R.pair p t hp C.lt).resolve_left hn⟩
theorem qq.behind {p:Nat} (hp:t<p) (nU:p<n) (hS:S p=true):¬ sW t p∧kI (O t) (O p)=true∧kI (O p) (O t)=true∧eU (fw (O t).o) (fw (O p).o)=true:=by
 have hn:¬ sW t p:=fun h=>by have:=C.cls t p hp nU hS h;rw [C.out]at this;cases this
 exact ⟨hn,(R.pair t p hp nU).resolve_left hn⟩
theorem qq.agree:ru (O t) (sF t) (v8 O sF S n):=by
 intro x hx
 rw [sX (t:=t) (Nat.le_of_lt C.lt),←R.B8 (Nat.le_of_lt C.lt)]
 ·refine we fun p hp hd=>?_
  cases hS:S p with
  |true=>rfl
  |false=>exact absurd hx ((mB (R.before C hp hS).2.1).1 x hd)
 ·intro p hp nU hS hd
  rcases Nat.lt_or_eq_of_le hp with h|h
  ·exact (mB (R.behind C h nU hS).2.2.1).1 x hd hx
  ·subst h;rw [C.out]at hS;cases hS
omit R C in
def ins (S:Nat→Bool) (t:Nat):Nat→Bool:=fun p=>bif Nat.beq p t then true else S p
omit R C in
theorem gL:ins S t t=true:=by simp [ins]
omit R C in
theorem jl {p:Nat} (h:p≠t):ins S t p=S p:=by
 unfold ins
 rw [nb,decide_eq_false h];rfl
theorem qq.Lc (x:Nat):(v8 O sF (ins S t) n).get x=((v8 O sF S n).aU (O t).d (v7 O sF t)).get x:=by
 rw [Fr.jQ]
 by_cases hd:(O t).d=some x
 ·rw [if_pos hd,sX (t:=t+1) C.lt]
  ·rw [v8,gL,cond_true,Fr.jQ,if_pos hd]
  ·intro p hp nU hS
   rw [jl (by omega)]at hS
   have:=(mB (R.behind C (by omega) nU hS).2.1).2 x hd
   exact this
 ·rw [if_neg hd]
  refine we fun p hp hdp=>?_
  exact jl (fun e=>hd (e▸hdp))
end
end Go.Proofs.YtppcmpmnglaleaaGreatDoor.A
namespace Go.Proofs.YtppcmpmnglaleaaGreatDoor.A
open Go
inductive Eb (O:Nat→AO) (sF:Nat→Fr) (sH:Nat→AH) (t b:Nat):Prop where
 |alloc (w:(O t).wanted (sF t)=true) (k:fw (O t).o= .alloc) (e:b=(sH t).nx)
 |st (w:(O t).wanted (sF t)=true) (k:fw (O t).o= .st) (e:dk (O t) (sF t)=some b)
 |kR (w:(O t).wanted (sF t)=true) (k:fw (O t).o= .kR)
open Classical in
noncomputable def gS (O:Nat→AO) (sF:Nat→Fr) (sH:Nat→AH) (S:Nat→Bool):Nat→Nat→Option qy
 |0=>(sH 0).raw
 |t+1=>fun b=>if S t=true∧Eb O sF sH t b then(sH (t+1)).raw b else gS O sF sH S t b
noncomputable def gB (O:Nat→AO) (sF:Nat→Fr) (sH:Nat→AH) (S:Nat→Bool):Nat→Option (Nat×ByteArray)
 |0=>(sH 0).bs
 |t+1=>if S t=true∧(O t).wanted (sF t)=true∧fw (O t).o= .kR then(sH (t+1)).bs else gB O sF sH S t
noncomputable def xD (O:Nat→AO) (sF:Nat→Fr) (sH:Nat→AH) (S:Nat→Bool) (m nx:Nat):AH:=⟨gS O sF sH S m,(sH 0).n0,nx,.nil,gB O sF sH S m⟩
section
variable{call:Cl} {O:Nat→AO} {n:Nat} {sF:Nat→Fr} {sH:Nat→AH} {sW:Nat→Nat→Prop}
theorem B9 (S:Nat→Bool) (m nx b:Nat):(xD O sF sH S m nx).raw b=gS O sF sH S m b:=rfl
theorem nh (S:Nat→Bool) (m nx b:Nat) (h:b<nx):(xD O sF sH S m nx).get b=gS O sF sH S m b:=by
 rw [AH.fv (by exact h)];rfl
theorem Cb {S S':Nat→Bool} {b m:Nat} (h:∀p,p<m→Eb O sF sH p b→S p=S' p):gS O sF sH S m b=gS O sF sH S' m b:=by
 induction m with
 |zero=>rfl
 |succ m ih=>
  have ih:=ih fun p hp=>h p (by omega)
  simp only [gS]
  by_cases hd:Eb O sF sH m b
  ·rw [h m (by omega) hd,ih]
  ·rw [if_neg (fun e=>hd e.2),if_neg (fun e=>hd e.2),ih]
theorem sb {S:Nat→Bool} {b t m:Nat} (UA:t≤m) (h:∀p,t≤p→p<m→S p=true→¬ Eb O sF sH p b):gS O sF sH S m b=gS O sF sH S t b:=by
 induction m with
 |zero=>obtain rfl:t=0:=by omega
        rfl
 |succ m ih=>
  rcases Nat.lt_or_ge m t with h1|h1
  · obtain rfl:t=m+1:=by omega
    rfl
  · have ih:=ih h1 fun p hp hp2=>h p hp (by omega)
    simp only [gS]
    rw [if_neg (fun e=>h m h1 (by omega) e.1 e.2),ih]
theorem Cc {S S':Nat→Bool} {m:Nat} (h:∀p,p<m→(O p).wanted (sF p)=true→fw (O p).o= .kR→S p=S' p):gB O sF sH S m=gB O sF sH S' m:=by
 induction m with
 |zero=>rfl
 |succ m ih=>
  have ih:=ih fun p hp=>h p (by omega)
  simp only [gB]
  by_cases hd:(O m).wanted (sF m)=true∧fw (O m).o= .kR
  ·rw [h m (by omega) hd.1 hd.2,ih]
  ·rw [if_neg (fun e=>hd e.2),if_neg (fun e=>hd e.2),ih]
theorem wg {S:Nat→Bool} {t m:Nat} (UA:t≤m) (h:∀p,t≤p→p<m→S p=true→(O p).wanted (sF p)=true→fw (O p).o≠ .kR):gB O sF sH S m=gB O sF sH S t:=by
 induction m with
 |zero=>obtain rfl:t=0:=by omega
        rfl
 |succ m ih=>
  rcases Nat.lt_or_ge m t with h1|h1
  · obtain rfl:t=m+1:=by omega
    rfl
  · have ih:=ih h1 fun p hp hp2=>h p hp (by omega)
    simp only [gB]
    rw [if_neg (fun e=>h m h1 (by omega) e.1 e.2.1 e.2.2),ih]
variable(R:qq call O n sF sH sW)
include R
theorem qq.QM {t:Nat} (ht:t<n) (h:¬ ((O t).wanted (sF t)=true∧fw (O t).o= .kR)):(sH (t+1)).bs=(sH t).bs:=by
 obtain ⟨x,h1,_⟩:=R.one ht
 cases h1 with
 |off a e e2=>rw [e2]
 |call a f as H1 e e2=>exact absurd ⟨a,jG e⟩ h
 |val a e=>
  cases hk:fw (O t).o with
  |pure=>rw [(mZ hk e).1]
  |load=>rw [(nc hk e).1]
  |read=>rw [(ng hk e).1]
  |kR=>exact absurd ⟨a,hk⟩ h
  |alloc=>
   obtain ⟨aX,e2,_⟩:=jP hk e
   rw [e2];rfl
  |st=>
   obtain ⟨c,aX,h2,_,e2,_⟩:=r9 hk e
   rw [e2];rfl
theorem qq.GS {m:Nat} (hm:m≤n):gB O sF sH (fun _=>true) m=(sH m).bs:=by
 induction m with
 |zero=>rfl
 |succ m ih=>
  simp only [gB]
  by_cases h:(O m).wanted (sF m)=true∧fw (O m).o= .kR
  ·rw [if_pos (by first|exact ⟨rfl,h⟩|exact ⟨trivial,h⟩)]
  ·rw [if_neg (fun e=>h e.2),ih (by omega),R.QM (by omega) h]
theorem qq.still {t:Nat} (ht:t<n) {b:Nat} (h:¬ Eb O sF sH t b):(sH (t+1)).raw b=(sH t).raw b:=by
 obtain ⟨x,h1,_⟩:=R.one ht
 cases h1 with
 |off a e e2=>rw [e2]
 |call a f as H1 e e2=>exact absurd (.kR a (jG e)) h
 |val a e=>
  cases hk:fw (O t).o with
  |pure=>rw [(mZ hk e).1]
  |load=>rw [(nc hk e).1]
  |read=>rw [(ng hk e).1]
  |kR=>exact absurd (.kR a hk) h
  |alloc=>
   obtain ⟨aX,e2,_⟩:=jP hk e
   rw [e2,AH.cU,if_neg]
   exact fun e3=>h (.alloc a hk e3)
  |st=>
   obtain ⟨c,aX,h2,_,e2,_⟩:=r9 hk e
   rw [e2,AH.db,if_neg]
   intro e3
   subst e3
   exact h (.st a hk h2)
theorem qq.GU {m:Nat} (hm:m≤n) (b:Nat):gS O sF sH (fun _=>true) m b=(sH m).raw b:=by
 induction m with
 |zero=>rfl
 |succ m ih=>
  simp only [gS]
  by_cases h:Eb O sF sH m b
  ·rw [if_pos ⟨rfl,h⟩]
  ·rw [if_neg (fun e=>h e.2),ih (by omega),R.still (by omega) h]
theorem qq.eu {t:Nat} (ht:t<n) (w:(O t).wanted (sF t)=true) (k:fw (O t).o= .alloc):(sH (t+1)).nx=(sH t).nx+1:=by
 obtain ⟨x,h1,_⟩:=R.one ht
 cases h1 with
 |off a e e2=>rw [w]at a;cases a
 |call a f as H1 e e2=>rw [jG e]at k;cases k
 |val a e=>
  obtain ⟨aX,e2,_⟩:=jP k e
  rw [e2];rfl
structure Dom (O:Nat→AO) (n:Nat) (sF:Nat→Fr) (sH:Nat→AH) (S:Nat→Bool) (Dm:Nat→Prop):Prop where
 GW:∀b,Dm b→b<(sH 0).nx∨∃t,t<n∧S t=true∧(sH t).nx≤b∧b<(sH (t+1)).nx
 sts:∀p,p<n→S p=true→(O p).wanted (sF p)=true→fw (O p).o= .st→∀b,dk (O p) (sF p)=some b→Dm b
variable{S:Nat→Bool} {Dm:Nat→Prop} (D:Dom O n sF sH S Dm)
include D
theorem qq.wj {p:Nat} (hp:p<n) (hS:S p=false) (w:(O p).wanted (sF p)=true) (k:fw (O p).o= .alloc):¬ Dm (sH p).nx:=by
 intro h
 rcases D.GW _ h with h|⟨t,ht,V9,h1,h2⟩
 ·have:=R.jx (Nat.zero_le p) (by omega);omega
 ·rcases Nat.lt_trichotomy t p with h3|h3|h3
  ·have:=R.jx (show t+1≤p by omega) (by omega);omega
  ·subst h3;rw [hS]at V9;cases V9
  ·have:=R.jx (show p+1≤t by omega) (by omega)
   rw [R.eu hp w k]at this
   omega
variable{t:Nat} (C:V8 n sW S t)
include C
theorem qq.ahead {b:Nat} (hb:Dm b) (h:∀p,p<t→S p=false→(O p).wanted (sF p)=true→fw (O p).o= .st→fw (O t).o= .st→dk (O p) (sF p)≠some b):gS O sF sH S t b=(sH t).raw b:=by
 rw [←R.GU (Nat.le_of_lt C.lt)]
 refine Cb fun p hp ht=>?_
 cases hS:S p with
 |true=>rfl
 |false=>
  exfalso
  obtain ⟨_,_,_,hm⟩:=R.before C hp hS
  have nU:p<n:=Nat.lt_trans hp C.lt
  cases ht with
  |alloc w k e=>subst e;exact R.wj D nU hS w k hb
  |st w k e=>
   rw [k]at hm
   cases hk:fw (O t).o<;>rw [hk]at hm<;>first
    |(simp [eU,zJ.kH]at hm;done)
    |exact h p hp hS w k hk e
  |kR w k=>
   rw [k]at hm
   cases hk:fw (O t).o<;>rw [hk]at hm<;>simp [eU,zJ.kH]at hm
theorem qq.load {a:Addr} {vs:List Value} (w:(O t).wanted (sF t)=true) (k:fw (O t).o= .load) (hl:ff (O t) (sF t) (sH t)=some (a,vs)) (uH:dk (O t) (sF t)=some a.block) (hv:(sH t).ldn a vs.length=some vs) (hb:Dm a.block):
 (xD O sF sH S n (sH n).nx).ldn a vs.length=some vs:=by
 have c8:a.block<(sH t).nx:=by
  obtain ⟨x,hx⟩:=Option.isSome_iff_exists.1 (dH hv).1
  exact AH.a8 hx
 have key:∀m,t≤m→m≤n→(xD O sF sH S m (sH n).nx).ldn a vs.length=some vs:=by
  intro m hm
  induction m with
  |zero=>
   intro Wa
   obtain rfl:t=0:=by omega
   rw [←hv]
   refine fx ?_ rfl
   rw [nh _ _ _ _ (by have:=R.jx (Nat.zero_le n) (asp _);omega),AH.fv c8]
   rfl
  |succ m ih=>
   intro Wa
   rcases Nat.lt_or_eq_of_le hm with h1|h1
   ·have ih:=ih (by omega) (by omega)
    have hN:a.block<(sH n).nx:=by have:=R.jx (Nat.le_of_lt C.lt) (asp _);omega
    by_cases hS:S m=true∧Eb O sF sH m a.block
    ·obtain ⟨hS,ht⟩:=hS
     have UA:t<m:=by
      rcases Nat.lt_or_eq_of_le (show t≤m by omega)with h2|h2
      ·exact h2
      ·subst h2;rw [C.out]at hS;cases hS
     obtain ⟨hn,_,_,hmf⟩:=R.behind C UA (by omega) hS
     cases ht with
     |alloc w' k' e=>
      have:=R.jx (show t≤m by omega) (by omega)
      omega
     |st w' k' e=>exact absurd rfl (R.c2 t m UA (by omega) hn w w' (.inl k) k' a.block a.block uH e)
     |kR w' k'=>
      obtain ⟨x,e1,e2⟩:=R.c0 t m UA (by omega) hn w w' k k'
      rw [hl]at e1
      cases e1
      have e3:=Ea e2
      rw [←e3]
      refine fx ?_ (R.Uz (m+1) (by omega)).symm
      rw [nh _ _ _ _ hN]
      have:a.block<(sH (m+1)).nx:=by have:=R.jx (show t≤m+1 by omega) (by omega);omega
      rw [AH.fv this]
      simp only [gS]
      rw [if_pos ⟨hS,.kR w' k'⟩]
    ·rw [←ih]
     refine fx ?_ rfl
     rw [nh _ _ _ _ hN,nh _ _ _ _ hN]
     simp only [gS]
     rw [if_neg hS]
   ·subst h1
    rw [←hv]
    refine fx ?_ (R.Uz _ (by omega)).symm
    rw [nh _ _ _ _ (by have:=R.jx (show m+1≤n by omega) (asp _);omega),AH.fv c8]
    exact R.ahead D C hb fun p hp hS w' k' k2=>by rw [k]at k2;cases k2
 exact key n (Nat.le_of_lt C.lt) (asp _)
theorem qq.look {b:Nat} (w:(O t).wanted (sF t)=true) (k:fw (O t).o= .read∨fw (O t).o= .st) (uH:dk (O t) (sF t)=some b) (hs:((sH t).get b).isSome=true) (hb:Dm b):
 (xD O sF sH S n (sH n).nx).get b=(sH t).get b:=by
 have c8:b<(sH t).nx:=by
  obtain ⟨x,hx⟩:=Option.isSome_iff_exists.1 hs
  exact AH.a8 hx
 rw [nh _ _ _ _ (by have:=R.jx (Nat.le_of_lt C.lt) (asp _);omega),AH.fv c8,sb (t:=t) (Nat.le_of_lt C.lt)]
 ·refine R.ahead D C hb fun p hp hS w' k' k2 e=>?_
  obtain ⟨hn,_⟩:=R.before C hp hS
  exact absurd rfl (R.c2 p t hp C.lt hn w' w (.inr (.inr k')) k2 b b e uH)
 ·intro p hp nU hS ht
  have htp:t<p:=by
   rcases Nat.lt_or_eq_of_le hp with h2|h2
   ·exact h2
   ·subst h2;rw [C.out]at hS;cases hS
  obtain ⟨hn,_,_,hm⟩:=R.behind C htp nU hS
  cases ht with
  |alloc w' k' e=>
   have:=R.jx (show t≤p by omega) (by omega)
   omega
  |st w' k' e=>
   exact absurd rfl (R.c2 t p htp nU hn w w' (.inr k) k' b b uH e)
  |kR w' k'=>
   rw [k']at hm
   rcases k with k|k<;>rw [k]at hm<;>simp [eU,zJ.kH]at hm
omit R D C in
theorem qC {b:Nat} (h:¬ Eb O sF sH t b):gS O sF sH (ins S t) n b=gS O sF sH S n b:=
 Cb fun p hp ht=>jl (fun e=>h (e▸ht))
theorem qq.sY {b:Nat} (h:Eb O sF sH t b):gS O sF sH (ins S t) n b=(sH (t+1)).raw b:=by
 have stop:(∀p,t<p→p<n→S p=true→¬ Eb O sF sH p b)→gS O sF sH (ins S t) n b=(sH (t+1)).raw b:=by
  intro hh
  rw [sb (t:=t+1) C.lt]
  ·simp only [gS]
   rw [if_pos ⟨gL,h⟩]
  ·intro p hp nU hS
   rw [jl (by omega)]at hS
   exact hh p (by omega) nU hS
 cases h with
 |kR w k=>
  refine stop fun p hp nU hS ht=>?_
  obtain ⟨hn,_,_,hm⟩:=R.behind C hp nU hS
  rw [k]at hm
  cases hk:fw (O p).o<;>rw [hk]at hm<;>simp [eU,zJ.kH]at hm
 |st w k e=>
  refine stop fun p hp nU hS ht=>?_
  obtain ⟨hn,_,_,hm⟩:=R.behind C hp nU hS
  cases ht with
  |alloc w' k' e'=>rw [k,k']at hm;simp [eU,zJ.kH]at hm
  |kR w' k'=>rw [k,k']at hm;simp [eU,zJ.kH]at hm
  |st w' k' e'=>exact absurd rfl (R.c2 t p hp nU hn w w' (.inr (.inr k)) k' b b e e')
 |alloc w k e=>
  have key:∀m,t+1≤m→m≤n→gS O sF sH (ins S t) m b=(sH (t+1)).raw b:=by
   intro m hm
   induction m with
   |zero=>omega
   |succ m ih=>
    intro Wa
    rcases Nat.lt_or_eq_of_le hm with h1|h1
    ·have ih:=ih (by omega) (by omega)
     simp only [gS]
     by_cases hS:ins S t m=true∧Eb O sF sH m b
     ·rw [if_pos hS]
      obtain ⟨hS,ht⟩:=hS
      rw [jl (by omega)]at hS
      obtain ⟨hn,_,_,_⟩:=R.behind C (show t<m by omega) (by omega) hS
      cases ht with
      |alloc w' k' e'=>
       have h2:=R.jx (show t+1≤m by omega) (by omega)
       rw [R.eu C.lt w k]at h2
       omega
      |st w' k' e'=>
       have:=D.sts m (by omega) hS w' k' b e'
       subst e
       exact absurd this (R.wj D C.lt C.out w k)
      |kR w' k'=>
       have h3:=R.c1 t m (by omega) (by omega) hn w w' k k'
       have h2:=R.eu C.lt w k
       have h4:=R.jx (show t+1≤m+1 by omega) (by omega)
       rw [AH.fv (by omega),AH.fv (by omega)]at h3
       rw [e]
       exact h3
     ·rw [if_neg hS,ih]
    ·have:m=t:=by omega
     subst this
     simp only [gS]
     rw [if_pos ⟨gL,.alloc w k e⟩]
  exact key n C.lt (asp _)
end
end Go.Proofs.YtppcmpmnglaleaaGreatDoor.A
namespace Go.Proofs.YtppcmpmnglaleaaGreatDoor.A
open Go
section
variable{call:Cl} {O:Nat→AO} {n:Nat} {sF:Nat→Fr} {sH:Nat→AH} {sW:Nat→Nat→Prop}
structure Step (call:Cl) (O:Nat→AO) (n:Nat) (sF:Nat→Fr) (sH:Nat→AH) (S:Nat→Bool) (Dm:Nat→Prop) (t:Nat) (Hx Hy:AH):Prop where
 run:kF call (O t) (v8 O sF S n) Hx=some ((v8 O sF S n).aU (O t).d (v7 O sF t),Hy)
 pre:∀b,Dm b→Hx.raw b=gS O sF sH S n b
 n0x:Hx.n0=(sH 0).n0
 post:∀b,gS O sF sH (ins S t) n b=Hy.raw b
 n0y:Hy.n0=(sH 0).n0
 bsx:Hx.bs=gB O sF sH S n
 bsy:gB O sF sH (ins S t) n=Hy.bs
 lo:(sH 0).nx≤Hx.nx
 hi:Hy.nx≤(sH n).nx
 out:¬ Dm Hx.nx
 fresh:fw (O t).o= .kR→∀b,Hx.nx≤b→¬ Dm b
 new:∀b,Hx.nx≤b→b<Hy.nx→(sH t).nx≤b∧b<(sH (t+1)).nx
variable(R:qq call O n sF sH sW) {S:Nat→Bool} {Dm:Nat→Prop} (D:Dom O n sF sH S Dm) {t:Nat} (C:V8 n sW S t)
include R D
theorem qq.se {b:Nat} (h:(sH n).nx≤b):¬ Dm b:=by
 intro hb
 rcases D.GW b hb with h1|⟨p,hp,_,h1,h2⟩
 ·have:=R.jx (Nat.zero_le n) (asp _);omega
 ·have:=R.jx (show p+1≤n by omega) (asp _);omega
include C
omit R D C in
theorem Ap (h:¬ ((O t).wanted (sF t)=true∧fw (O t).o= .kR)):gB O sF sH (ins S t) n=gB O sF sH S n:=
 Cc fun p _ w k=>jl (fun e=>h (e▸⟨w,k⟩))
theorem qq.same {x:Value} (hv:∀f:Fr,f.aU (O t).d x=f.aU (O t).d (v7 O sF t)) (rv:∀b,¬ Eb O sF sH t b)
 (h:One call (O t) (sF t) (xD O sF sH S n (sH n).nx) x (xD O sF sH S n (sH n).nx)):Step call O n sF sH S Dm t (xD O sF sH S n (sH n).nx) (xD O sF sH S n (sH n).nx)where
 run:=ey.2 ⟨x,(hv _).symm,(R.agree C).one h⟩
 pre:=fun b _=>rfl
 n0x:=rfl
 post:=fun b=>qC (rv b)
 n0y:=rfl
 bsx:=rfl
 bsy:=Ap fun e=>rv 0 (.kR e.1 e.2)
 lo:=R.jx (Nat.zero_le n) (asp _)
 hi:=asp _
 out:=R.se D (asp _)
 fresh:=fun _ b hb=>R.se D hb
 new:=fun b h1 h2=>by omega
theorem qq.QN (QO:(O t).wanted (sF t)=true→∀b,dk (O t) (sF t)=some b→Dm b):∃Hx Hy,Step call O n sF sH S Dm t Hx Hy:=by
 obtain ⟨x,h1,hv⟩:=R.one C.lt
 have hN:=R.jx (show t+1≤n from C.lt) (asp _)
 have hN2:=R.jx (show t≤n by have:=C.lt;omega) (asp _)
 have h0:=R.jx (Nat.zero_le t) (Nat.le_of_lt C.lt)
 have nJ:(xD O sF sH S n (sH n).nx).n0=(sH t).n0:=(R.Uz t (Nat.le_of_lt C.lt)).symm
 have Cd:(O t).wanted (sF t)=true→fw (O t).o= .kR→∃Hx Hy,Step call O n sF sH S Dm t Hx Hy:=by
  intro w k
  have kn:∀p,t<p→p<n→S p=true→False:=by
   intro p hp nU hS
   obtain ⟨_,_,_,hm⟩:=R.behind C hp nU hS
   rw [k]at hm
   cases hk:fw (O p).o<;>rw [hk]at hm<;>simp [eU,zJ.kH]at hm
  have fresh:∀b,(sH t).nx≤b→¬ Dm b:=by
   intro b hb hd
   rcases D.GW b hd with h2|⟨p,hp,hS,h2,h3⟩
   ·omega
   ·rcases Nat.lt_trichotomy p t with h4|h4|h4
    ·have:=R.jx (show p+1≤t by omega) (Nat.le_of_lt C.lt);omega
    ·subst h4;rw [C.out]at hS;cases hS
    ·exact kn p h4 hp hS
  have bs1:(sH t).bs=gB O sF sH S n:=by
   rw [wg (t:=t) (Nat.le_of_lt C.lt),←R.GS (Nat.le_of_lt C.lt)]
   ·refine Cc fun p hp w' k'=>?_
    cases hS:S p with
    |true=>rfl
    |false=>
     obtain ⟨_,_,_,hm⟩:=R.before C hp hS
     rw [k,k']at hm
     simp [eU,zJ.kH]at hm
   ·intro p hp nU hS w' k'
    rcases Nat.lt_or_eq_of_le hp with h4|h4
    ·exact kn p h4 nU hS
    ·subst h4;rw [C.out]at hS;cases hS
  have bs2:gB O sF sH (ins S t) n=(sH (t+1)).bs:=by
   rw [wg (t:=t+1) C.lt]
   ·simp only [gB]
    rw [if_pos ⟨gL,w,k⟩]
   ·intro p hp nU hS w' k'
    rw [jl (by omega)]at hS
    exact kn p (by omega) nU hS
  refine ⟨sH t,sH (t+1),?_,?_,R.Uz t (Nat.le_of_lt C.lt),?_,R.Uz (t+1) C.lt,bs1,bs2,h0,hN,fresh _ (asp _),fun _=>fresh,fun b h2 h3=>⟨h2,h3⟩⟩
  ·exact ey.2 ⟨x,(hv _).symm,(R.agree C).one h1⟩
  ·intro b hb
   rw [sb (t:=t) (Nat.le_of_lt C.lt)]
   ·exact (R.ahead D C hb fun p hp hS w' k' k2=>by rw [k]at k2;cases k2).symm
   ·intro p hp nU hS
    rcases Nat.lt_or_eq_of_le hp with h4|h4
    ·exact (kn p h4 nU hS).elim
    ·subst h4;rw [C.out]at hS;cases hS
  ·intro b
   exact R.sY D C (.kR w k)
 cases h1 with
 |off w e e2=>
  exact ⟨_,_,R.same D C hv (fun b ht=>by
   have:(O t).wanted (sF t)=true:=by cases ht<;>assumption
   rw [w]at this
   cases this) (.off w e rfl)⟩
 |call w f as H1 e e2=>exact Cd w (jG e)
 |val w e=>
  have quiet:(fw (O t).o≠ .alloc)→(fw (O t).o≠ .st)→(fw (O t).o≠ .kR)→∀b,¬ Eb O sF sH t b:=by
   intro h2 h3 h4 b ht
   cases ht with
   |alloc _ k _=>exact h2 k
   |st _ k _=>exact h3 k
   |kR _ k=>exact h4 k
  cases hk:fw (O t).o with
  |kR=>exact Cd w hk
  |pure=>
   exact ⟨_,_,R.same D C hv (quiet (by simp [hk]) (by simp [hk]) (by simp [hk])) (.val w ((mZ hk e).2 _))⟩
  |load=>
   obtain ⟨_,a,vs,hl,uH,oH,aG⟩:=nc hk e
   exact ⟨_,_,R.same D C hv (quiet (by simp [hk]) (by simp [hk]) (by simp [hk])) (.val w (aG _ (R.load D C w hk hl uH oH (QO w _ uH))))⟩
  |read=>
   obtain ⟨_,aG⟩:=ng hk e
   exact ⟨_,_,R.same D C hv (quiet (by simp [hk]) (by simp [hk]) (by simp [hk])) (.val w (aG _ (fun b uH hs=>R.look D C w (.inl hk) uH hs (QO w _ uH)) nJ))⟩
  |st=>
   obtain ⟨c,aX,uH,hs,e2,aG⟩:=r9 hk e
   have h3:=aG (xD O sF sH S n (sH n).nx) (R.look D C w (.inr hk) uH hs (QO w _ uH)) nJ
   have GY:One call (O t) (sF t) (xD O sF sH S n (sH n).nx) x ((xD O sF sH S n (sH n).nx).put c aX):=.val w h3
   refine ⟨_,_,ey.2 ⟨x,(hv _).symm,(R.agree C).one GY⟩,fun b _=>rfl,rfl,fun b=>?_,rfl,rfl,Ap (fun e=>by rw [hk]at e;cases e.2),R.jx (Nat.zero_le n) (asp _),asp _,R.se D (asp _),fun _ b hb=>R.se D hb,fun b h1 h2=>?_⟩
   ·rw [AH.db]
    by_cases hb:b=c
    ·subst hb
     rw [if_pos rfl,R.sY D C (.st w hk uH),e2,AH.db,if_pos rfl]
    ·rw [if_neg hb,qC]
     ·rfl
     ·intro ht
      cases ht with
      |alloc _ k _=>rw [hk]at k;cases k
      |kR _ k=>rw [hk]at k;cases k
      |st _ _ e=>rw [uH]at e;cases e;exact hb rfl
   ·have:b<(sH n).nx:=h2
    have:(sH n).nx≤b:=h1
    omega
  |alloc=>
   obtain ⟨aX,e2,aG⟩:=jP hk e
   have h3:=aG (xD O sF sH S n (sH t).nx) rfl
   have GY:One call (O t) (sF t) (xD O sF sH S n (sH t).nx) x ((xD O sF sH S n (sH t).nx).alloc aX):=.val w h3
   have nV:=R.eu C.lt w hk
   refine ⟨_,_,ey.2 ⟨x,(hv _).symm,(R.agree C).one GY⟩,fun b _=>rfl,rfl,fun b=>?_,rfl,rfl,Ap (fun e=>by rw [hk]at e;cases e.2),h0,?_,R.wj D C.lt C.out w hk,fun h=>?_,fun b h1 h2=>?_⟩
   ·rw [AH.cU]
    by_cases hb:b=(xD O sF sH S n (sH t).nx).nx
    ·have mi:b=(sH t).nx:=hb
     rw [if_pos hb,R.sY D C (.alloc w hk mi),e2,AH.cU,if_pos mi]
    ·rw [if_neg hb,qC]
     ·rfl
     ·intro ht
      cases ht with
      |alloc _ k e=>exact hb e
      |kR _ k=>rw [hk]at k;cases k
      |st _ k e=>rw [hk]at k;cases k
   ·show(sH t).nx+1≤_
    omega
   ·rw [hk]at h;cases h
   ·have sM:(sH t).nx≤b:=h1
    have xR:b<(sH t).nx+1:=h2
    omega
end
end Go.Proofs.YtppcmpmnglaleaaGreatDoor.A
namespace Go.Proofs.YtppcmpmnglaleaaGreatDoor.A
open Go
theorem wk {α:Type}:∀(l:List α) (n:Nat),nth l n=l[n]?
 |[],n=>by simp [nth]
 |x::l,0=>by simp [nth]
 |x::l,n+1=>by simp [nth,wk l n]
theorem qD {call:Cl}:∀(l:List AO) (fr:Fr) (H:AH) (ss:List (Fr×AH)),kG call l fr H=some ss→
 ss.length=l.length∧gJ (fr,H) ss=(((fr,H)::ss)[l.length]?).getD (fr,H)∧
 ∀t o,l[t]?=some o→∃s s',((fr,H)::ss)[t]?=some s∧((fr,H)::ss)[t+1]?=some s'∧kF call o s.1 s.2=some s'
 |[],fr,H,ss,h=>by
  simp only [kG,asm]at h
  subst h
  exact ⟨rfl,rfl,fun t o h=>(by simp at h)⟩
 |o::l,fr,H,ss,h=>by
  simp only [kG]at h
  cases h1:kF call o fr H with
  |none=>simp [h1]at h
  |some r=>
   obtain ⟨cq,H'⟩:=r
   simp only [h1]at h
   cases h2:kG call l cq H' with
   |none=>simp [h2]at h
   |some ss'=>
    simp only [h2,asm]at h
    subst h
    obtain ⟨e1,e2,e3⟩:=qD l cq H' ss' h2
    refine ⟨by simp [e1],?_,fun t o' ho=>?_⟩
    ·simp only [gJ,e2,List.length_cons,List.getElem?_cons_succ]
     cases hq:((cq,H')::ss')[l.length]?with
     |some q=>rfl
     |none=>
      have:=List.getElem?_eq_none_iff.1 hq
      simp only [List.length_cons,e1]at this
      omega
    ·cases t with
     |zero=>
      simp only [asj,asm]at ho
      subst ho
      exact ⟨_,_,rfl,rfl,h1⟩
     |succ t=>
      obtain ⟨s,s',a1,a2,a3⟩:=e3 t o' (by simpa using ho)
      exact ⟨s,s',by simpa using a1,by simpa using a2,a3⟩
theorem oI:∀(l:List (Fr×AH)),chain l=true→∀t s s',l[t]?=some s→l[t+1]?=some s'→s'.2.n0=s.2.n0∧s.2.nx≤s'.2.nx
 |[],_,t,s,s',h,_=>by simp at h
 |[a],_,t,s,s',_,h=>by simp at h
 |a::b::l,hc,t,s,s',h1,h2=>by
  simp only [chain,aso,nb,asx,Nat.ble_eq]at hc
  cases t with
  |zero=>
   simp at h1 h2
   subst h1
   subst h2
   exact ⟨hc.1.1.symm,hc.1.2⟩
  |succ t=>exact oI (b::l) hc.2 t s s' (by simpa using h1) (by simpa using h2)
theorem lG {l:List AO} {dp:List (List Nat)}:∀(ord:List Nat) (am:List (Nat×Nat)) (t:Nat) (r:Row),(mz l dp ord am)[t]?=some r→
 l[r.j]?=some r.o∧r.k=fw r.o.o∧dp[r.j]?=some r.dep∧
  ∀i,r.m.testBit i=true→∃e∈r.dep,e=i∨(∃q<t,∃r':Row,(mz l dp ord am)[q]?=some r'∧r'.j=e∧r'.m.testBit i=true)∨(uZ e am).testBit i=true
 |[],am,t,r,h=>by simp [mz]at h
 |j::ord,am,t,r,h=>by
  simp only [mz]at h⊢
  cases hl:nth l j with
  |none=>simp [hl]at h
  |some o=>
   cases hd:nth dp j with
   |none=>simp [hl,hd]at h
   |some d=>
    simp only [hl,hd]at h⊢
    cases t with
    |zero=>
     simp only [asj,asm]at h
     subst h
     refine ⟨by rw [←wk];exact hl,rfl,by rw [←wk];exact hd,fun i hi=>?_⟩
     have key:∀(d:List Nat),(oC am d).testBit i=true→∃e∈d,e=i∨(uZ e am).testBit i=true:=by
      intro d
      induction d with
      |nil=>intro h;simp [oC]at h
      |cons e d ih=>
       intro h
       simp only [oC,Nat.testBit_or,Bool.or_eq_true]at h
       rcases h with h|h|h
       ·obtain ⟨e',h1,h2⟩:=ih h
        exact ⟨e',List.mem_cons_of_mem _ h1,h2⟩
       ·refine ⟨e,List.mem_cons_self,.inl ?_⟩
        rw [Nat.one_shiftLeft,Nat.testBit_two_pow]at h
        simpa using h
       ·exact ⟨e,List.mem_cons_self,.inr h⟩
     obtain ⟨e,h1,h2⟩:=key d hi
     exact ⟨e,h1,h2.imp id .inr⟩
    |succ t=>
     simp only [List.getElem?_cons_succ]at h
     obtain ⟨h1,h2,h3,h4⟩:=lG ord _ t r h
     refine ⟨h1,h2,h3,fun i hi=>?_⟩
     obtain ⟨e,he,h5⟩:=h4 i hi
     refine ⟨e,he,?_⟩
     rcases h5 with h5|⟨q,hq,r',h6,h7,h8⟩|h5
     ·exact .inl h5
     ·exact .inr (.inl ⟨q+1,by omega,r',by simpa using h6,h7,h8⟩)
     ·simp only [uZ,nb,Bool.cond_decide]at h5
      split at h5
      ·rename_i hje
       exact .inr (.inl ⟨0,by omega,_,rfl,hje,h5⟩)
      ·exact .inr (.inr h5)
theorem sZ:∀(rs:List Row) (done:List Nat),BP rs done=true→∀(t:Nat) (r:Row),rs[t]?=some r→
 (r.j∉done∧∀(q:Nat) (r':Row),q<t→rs[q]?=some r'→r'.j≠r.j)∧∀e∈r.dep,e∈done∨∃q<t,∃r':Row,rs[q]?=some r'∧r'.j=e
 |[],_,_,t,r,h=>by simp at h
 |y::rs,done,h,t,r,hr=>by
  simp only [BP,aso,Bool.not_eq_true',asB]at h
  obtain ⟨⟨h1,h2⟩,h3⟩:=h
  cases t with
  |zero=>
   simp only [asj,asm]at hr
   subst hr
   refine ⟨⟨fun hm=>?_,fun q _ hq=>by omega⟩,fun e he=>.inl (mA.1 (h2 e he))⟩
   rw [mA.2 hm]at h1
   cases h1
  |succ t=>
   simp only [List.getElem?_cons_succ]at hr
   obtain ⟨⟨h4,h5⟩,h6⟩:=sZ rs _ h3 t r hr
   refine ⟨⟨fun hm=>h4 (List.mem_cons_of_mem _ hm),fun q r' hq FM=>?_⟩,fun e he=>?_⟩
   ·cases q with
    |zero=>
     simp only [asj,asm]at FM
     subst FM
     exact fun e=>h4 (by rw [←e];exact List.mem_cons_self)
    |succ q=>exact h5 q r' (by omega) (by simpa using FM)
   ·rcases h6 e he with h7|⟨q,hq,r',h8,h9⟩
    ·rcases List.mem_cons.1 h7 with rfl|h7
     ·exact .inr ⟨0,by omega,y,rfl,rfl⟩
     ·exact .inl h7
    ·exact .inr ⟨q+1,by omega,r',by simpa using h8,h9⟩
theorem Ce:∀(rs:List Row),pw rs=true→∀(p q:Nat) (x y:Row),p<q→rs[p]?=some x→rs[q]?=some y→Gc x y=true
 |[],_,p,q,x,y,_,h,_=>by simp at h
 |z::rs,h,p,q,x,y,xU,hx,hy=>by
  simp only [pw,aso,asB]at h
  cases q with
  |zero=>omega
  |succ q=>
   simp only [List.getElem?_cons_succ]at hy
   cases p with
   |zero=>
    simp only [asj,asm]at hx
    subst hx
    exact h.1 y (asq hy)
   |succ p=>exact Ce rs h.2 p q x y (by omega) (by simpa using hx) hy
theorem rz {p:Nat} {x:Row}:∀(rs:List Row) (q0 q:Nat) (y:Row),rs[q]?=some y→∀c∈Ad p (q0+q) x y,c∈vU p x q0 rs
 |[],q0,q,y,h,c,_=>by simp at h
 |z::rs,q0,q,y,h,c,hc=>by
  simp only [vU]
  cases q with
  |zero=>
   simp only [asj,asm]at h
   subst h
   exact List.mem_append_left _ (by simpa using hc)
  |succ q=>
   exact List.mem_append_right _ (rz rs (q0+1) q y (by simpa using h) c (by rwa [show q0+1+q=q0+(q+1) by omega]))
theorem ta:∀(rs:List Row) (p0 p q:Nat) (x y:Row),p<q→rs[p]?=some x→rs[q]?=some y→∀c∈Ad (p0+p) (p0+q) x y,c∈u6 p0 rs
 |[],_,p,q,x,y,_,h,_,_,_=>by simp at h
 |z::rs,p0,p,q,x,y,xU,hx,hy,c,hc=>by
  simp only [u6]
  cases q with
  |zero=>omega
  |succ q=>
   simp only [List.getElem?_cons_succ]at hy
   cases p with
   |zero=>
    simp only [asj,asm]at hx
    subst hx
    exact List.mem_append_left _ (rz rs (p0+1) q y hy c (by rwa [show p0+1+q=p0+(q+1) by omega]))
   |succ p=>
    refine List.mem_append_right _ (ta rs (p0+1) p q x y (by omega) (by simpa using hx) hy c ?_)
    rwa [show p0+1+p=p0+(p+1) by omega,show p0+1+q=p0+(q+1) by omega]
theorem GZ {n i:Nat} (h:i<n):i∈KY n:=by
 induction n with
 |zero=>omega
 |succ n ih=>
  simp only [KY,List.mem_cons]
  by_cases e:i=n
  ·exact .inl e
  ·exact .inr (ih (by omega))
def Wb:Row:=⟨⟨none,none,.mkmap⟩,.pure,0,[],0⟩
def rowAt (rs:List Row) (t:Nat):Row:=(rs[t]?).getD Wb
def Wc (rs:List Row) (p q:Nat):Prop:=(rowAt rs q).m.testBit (rowAt rs p).j=true
theorem cw {rs:List Row} {t:Nat} (h:t<rs.length):rs[t]?=some (rowAt rs t):=by
 unfold rowAt
 rw [asl h]
 rfl
def FN (s0:Fr×AH) (ss:List (Fr×AH)) (t:Nat):Fr:=(((s0::ss)[t]?).getD s0).1
def Aq (s0:Fr×AH) (ss:List (Fr×AH)) (t:Nat):AH:=(((s0::ss)[t]?).getD s0).2
theorem QP {call:Cl} {rs:List Row} (hk:∀(t:Nat) (r:Row),rs[t]?=some r→r.k=fw r.o.o) (oJ:pw rs=true) {fr:Fr} {H:AH} {ss:List (Fr×AH)} (hT:kG call (rs.map (·.o)) fr H=some ss) (gK:chain ((fr,H)::ss)=true)
 (FI:(u6 0 rs).all (kQ (rs.map (·.o)) ((fr,H)::ss))=true):
 qq call (fun t=>(rowAt rs t).o) rs.length (FN (fr,H) ss) (Aq (fr,H) ss) (Wc rs):=by
 obtain ⟨hlen,_,eT⟩:=qD _ _ _ _ hT
 have st:∀t,t<rs.length→∃s s',((fr,H)::ss)[t]?=some s∧((fr,H)::ss)[t+1]?=some s'∧kF call (rowAt rs t).o s.1 s.2=some s':=
  fun t ht=>eT t (rowAt rs t).o (by rw [List.getElem?_map,cw ht];rfl)
 have con:∀p q,p<q→q<rs.length→∀c∈Ad p q (rowAt rs p) (rowAt rs q),kQ (rs.map (·.o)) ((fr,H)::ss) c=true:=by
  intro p q xU hq c hc
  exact asB.1 FI c (ta rs 0 p q _ _ xU (cw (by omega)) (cw hq) c (by simpa using hc))
 have un:∀p q k,p<q→q<rs.length→(rowAt rs p).o.wanted (FN (fr,H) ss p)=true→(rowAt rs q).o.wanted (FN (fr,H) ss q)=true→kQ (rs.map (·.o)) ((fr,H)::ss) (k,p,q)=true→
  (match k with
   |0=>match ff (rowAt rs p).o (FN (fr,H) ss p) (Aq (fr,H) ss p)with|some x=>sameAt (Aq (fr,H) ss (q+1)) x|none=>false
   |1=>nQ ((Aq (fr,H) ss (p+1)).get (Aq (fr,H) ss p).nx) ((Aq (fr,H) ss (q+1)).get (Aq (fr,H) ss p).nx)
   |_=>match dk (rowAt rs p).o (FN (fr,H) ss p),dk (rowAt rs q).o (FN (fr,H) ss q)with|some b,some b'=>!Nat.beq b b'|_,_=>true)=true:=by
  intro p q k xU hq wp wq h
  obtain ⟨s1,s2,a1,a2,_⟩:=st p (by omega)
  obtain ⟨s3,s4,a3,a4,_⟩:=st q hq
  have e1:(rs.map (·.o))[p]?=some (rowAt rs p).o:=by rw [List.getElem?_map,cw (by omega)];rfl
  have e2:(rs.map (·.o))[q]?=some (rowAt rs q).o:=by rw [List.getElem?_map,cw hq];rfl
  unfold FN Aq at*
  rw [a1,Option.getD_some]at wp
  rw [a3,Option.getD_some]at wq
  unfold kQ at h
  simp only [wk,e1,e2,a1,a2,a3,a4,wp,wq,Bool.not_true,Bool.false_or]at h
  rw [a1,a2,a3,a4]
  simp only [Option.getD_some]
  exact h
 refine ⟨fun t ht=>?_,fun t ht=>?_,fun t ht=>?_,fun p q xU hq=>?_,?_,?_,?_⟩
 ·obtain ⟨s,s',h1,h2,h3⟩:=st t ht
  unfold FN Aq
  rw [h1,h2]
  exact h3
 ·obtain ⟨s,s',h1,h2,h3⟩:=st t ht
  unfold Aq
  rw [h1,h2]
  exact (oI _ gK t s s' h1 h2).1
 ·obtain ⟨s,s',h1,h2,h3⟩:=st t ht
  unfold Aq
  rw [h1,h2]
  exact (oI _ gK t s s' h1 h2).2
 ·have:=Ce rs oJ p q _ _ xU (cw (by omega)) (cw hq)
  simp only [Gc,Bool.or_eq_true,aso]at this
  rw [←hk p _ (cw (by omega)),←hk q _ (cw hq)]
  rcases this with h|⟨⟨h1,h2⟩,h3⟩
  ·exact .inl h
  ·exact .inr ⟨h1,h2,h3⟩
 ·intro p q xU hq hn wp wq kp kq
  rw [←hk p _ (cw (by omega))]at kp
  rw [←hk q _ (cw hq)]at kq
  have:=un p q 0 xU hq wp wq (con p q xU hq _ (by
   unfold Ad
   rw [show(rowAt rs q).m.testBit (rowAt rs p).j=false from Bool.eq_false_iff.2 hn,kp,kq]
   simp))
  simp only at this
  split at this
  ·rename_i x hx
   exact ⟨x,hx,this⟩
  ·cases this
 ·intro p q xU hq hn wp wq kp kq
  rw [←hk p _ (cw (by omega))]at kp
  rw [←hk q _ (cw hq)]at kq
  have:=un p q 1 xU hq wp wq (con p q xU hq _ (by
   unfold Ad
   rw [show(rowAt rs q).m.testBit (rowAt rs p).j=false from Bool.eq_false_iff.2 hn,kp,kq]
   simp))
  exact (GQ this).symm
 ·intro p q xU hq hn wp wq kp kq b b' hb mi
  rw [←hk p _ (cw (by omega))]at kp
  rw [←hk q _ (cw hq)]at kq
  have:=un p q 2 xU hq wp wq (con p q xU hq _ (by
   unfold Ad
   rw [show(rowAt rs q).m.testBit (rowAt rs p).j=false from Bool.eq_false_iff.2 hn,kq]
   rcases kp with kp|kp|kp<;>rw [kp]<;>simp))
  simp only [hb,mi,nb]at this
  simpa using this
open Go Go.RowKit
section
variable{P:Program}
theorem Rel.tc {w0 w:World} {φ:bZ} {H H1:AH} (R:Rel w0 φ H w) (h:∀b,φ.m b≠none→H1.raw b=H.raw b) (h0:H1.n0=H.n0) (hx:φ.n0≤H1.nx) (kN:H1.bs=H.bs):Rel w0 φ H1 w where
 n0:=h0.trans R.n0
 rR:=R.rR
 r5:=hx
 c0:=R.c0
 below:=R.below
 kh:=R.kh
 ma:=fun b z cs hb hg=>R.ma b z cs hb (by rw [←h b (by rw [R.kh b hb];simp)];exact hg)
 cells:=fun b l z cs hb hl hg=>R.cells b l z cs hb hl (by rw [←h b (by rw [hl];simp)];exact hg)
 maps:=fun b l es hb hl hg=>R.maps b l es hb hl (by rw [←h b (by rw [hl];simp)];exact hg)
 inj:=fun b1 b2 l1 l2 mj iL h1 h2 s1 s2 hc=>R.inj b1 b2 l1 l2 mj iL h1 h2 (by rw [←h b1 (by rw [h1];simp)];exact s1) (by rw [←h b2 (by rw [h2];simp)];exact s2) hc
 qn:=fun b s e=>by
  obtain ⟨h1,h2,l,h3,h4,h5⟩:=R.qn b s (by rw [←kN];exact e)
  exact ⟨h1,by rw [h b (by rw [h3];simp)];exact h2,l,h3,h4,h5.uM rfl (fun _ _ _=>rfl) fun b' l' a1 a2 a3=>.inl ⟨a1,a2,by rw [←h b' (by rw [a2];simp)];exact a3⟩⟩
theorem Grow.comp {φ mg mY:bZ} {H HN Hx Hy:AH} {w w1 w2:World} (h:Grow φ H w mg HN w1) (k:Grow mg Hx w1 mY Hy w2) (h1:H.nx≤Hx.nx) (h2:Hy.nx≤HN.nx):Grow φ H w mY HN w2 where
 le:=bZ.le_trans h.le k.le
 n0:=k.n0.trans h.n0
 c0:=k.c0.trans h.c0
 nx:=h.nx
 new:=fun b l e e2=>by
  cases e1:mg.m b with
  |none=>exact ⟨Nat.le_trans h1 (k.new b l e1 e2).1,Nat.lt_of_lt_of_le (k.new b l e1 e2).2 h2⟩
  |some l1=>exact h.new b l1 e e1
 size:=Nat.le_trans h.size k.size
theorem wm {φ:bZ} {fr:Fr} {a:Act} (F:mu φ fr a) {x:X} (h:Qu x=true) {d:Addr} (e:x.ev fr= .pointer (some d)):φ.m d.block≠none:=by
 cases x with
 |t n=>
  have:=F n
  rw [show fr.get n= .pointer (some d) from e]at this
  obtain ⟨l,_,hl,_⟩:=this.xO
  rw [hl];simp
 |k v=>rw [show v= .pointer (some d) from e]at h;cases h
 |f n=>cases e
theorem Ld {φ:bZ} {fr:Fr} {a:Act} (F:mu φ fr a) {x:X} (h:Qu x=true) {d:Nat} (e:x.ev fr= .map (some d)):φ.m d≠none:=by
 cases x with
 |t n=>
  have:=F n
  rw [show fr.get n= .map (some d) from e]at this
  obtain ⟨l,hl,_⟩:=this.mp1
  rw [hl];simp
 |k v=>rw [show v= .map (some d) from e]at h;cases h
 |f n=>cases e
theorem QQ {φ:bZ} {fr:Fr} {a:Act} (F:mu φ fr a) {x:X} (h:Qu x=true) {d:Addr} {n c:Nat} (e:x.ev fr= .slice (some d) n c) (hs:d.spot=none):φ.m d.block≠none:=by
 cases x with
 |t m=>
  have:=F m
  rw [show fr.get m= .slice (some d) n c from e]at this
  rcases this.Gf with⟨l,c',_,hl,_⟩|⟨h1,_⟩
  ·rw [hl];simp
  ·rw [hs]at h1;cases h1
 |k v=>rw [show v= .slice (some d) n c from e]at h;cases h
 |f n=>cases e
theorem G0 {φ:bZ} {fr:Fr} {a:Act} (F:mu φ fr a) {o:AO} (h:o.o.xs.all Qu=true) {b:Nat} (e:dk o fr=some b):φ.m b≠none:=by
 unfold dk at e
 cases hp:o.o<;>simp only [hp,cN.xs,List.all_cons,aso]at h e<;>(try(cases e;done))
 case st n x v=>
  split at e<;>cases e
  rename_i hx
  exact wm F h.1 hx
 case ld x=>
  split at e<;>cases e
  rename_i hx
  exact wm F h.1 hx
 case ldn n x=>
  split at e<;>cases e
  rename_i hx
  exact wm F h.1 hx
 case look kk z x k ok=>
  split at e<;>cases e
  rename_i hx
  exact Ld F h.1 hx
 case sl sz x lo hi mx=>
  split at e
  ·rename_i hx
   obtain ⟨hs,e⟩:=aD e
   cases e
   exact QQ F h.1 hx (by simpa using hs)
  ·cases e
def zO (S:Nat→Bool):Nat→Nat
 |0=>0
 |m+1=>zO S m+(bif S m then 0 else 1)
theorem xV {S:Nat→Bool}:∀{m:Nat},zO S m=0→∀t,t<m→S t=true
 |0,_,t,h=>by omega
 |m+1,h,t,ht=>by
  simp only [zO]at h
  by_cases e:t=m
  ·subst e
   cases hS:S t with
   |true=>rfl
   |false=>rw [hS]at h;simp at h
  ·exact xV (m:=m) (by omega) t (by omega)
theorem wo {S S':Nat→Bool}:∀{m:Nat},(∀t,t<m→S t=true→S' t=true)→zO S' m≤zO S m
 |0,_=>asp _
 |m+1,h=>by
  have:=wo (S:=S) (S':=S') (m:=m) fun t ht=>h t (by omega)
  simp only [zO]
  cases hS:S m with
  |true=>rw [h m (by omega) hS];simpa using this
  |false=>cases S' m<;>simp<;>omega
theorem Cg {S:Nat→Bool} {t:Nat} (hS:S t=false):∀{m:Nat},t<m→zO (ins S t) m+1≤zO S m
 |0,h=>by omega
 |m+1,h=>by
  simp only [zO]
  by_cases e:t=m
  ·subst e
   rw [gL,hS]
   have:=wo (S:=S) (S':=ins S t) (m:=t) fun p _ hp=>by
    by_cases e:p=t
    ·subst e;exact gL
    ·rw [jl e];exact hp
   simp;omega
  ·rw [jl (fun h=>e h.symm)]
   have:=Cg hS (m:=m) (by omega)
   omega
theorem Lf {m:Nat}:zO (fun _=>false) m=m:=by
 induction m with
 |zero=>rfl
 |succ m ih=>simp [zO,ih]
def uI (rs:List Row) (listed:Array Bool) (t:Nat):Bool:=listed.getD (rowAt rs t).j false
structure Lg (w0 w:World) (φ:bZ) (O:Nat→AO) (n:Nat) (sF:Nat→Fr) (sH:Nat→AH) (nt:Nat) (S:Nat→Bool) (mg:bZ) (a1:Act) (w1:World):Prop where
 rel:Rel w0 mg (xD O sF sH S n (sH n).nx) w1
 We:mu mg (v8 O sF S n) a1
 size:a1.tmps.size=nt
 defs:a1.defers=[]
 GW:Dom O n sF sH S (fun b=>mg.m b≠none)
 grow:Grow φ (sH 0) w mg (sH n) w1
theorem Wf {call:Cl} (gk:qB P call) {O:Nat→AO} {n:Nat} {sF:Nat→Fr} {sH:Nat→AH} {sW:Nat→Nat→Prop} (R:qq call O n sF sH sW) {w0 w:World} {φ:bZ} (hb:φ.n0≤(sH 0).nx) {nt:Nat} {S:Nat→Bool} {t:Nat} (C:V8 n sW S t)
 {mg:bZ} {a1:Act} {w1:World} (I:Lg w0 w φ O n sF sH nt S mg a1 w1) {cQ:Array Oper} {j:Nat} {o:Oper} (hj:cQ[j]?=some o) (hc:OT P nt cQ o=some (O t)) (hx:(O t).o.xs.all Qu=true)
 {Q:Exit→Act→World→Prop} {K:Act→World→Prop} (hK:∀mY a2 w2,Lg w0 w φ O n sF sH nt (ins S t) mY a2 w2→K a2 w2):wpOp P cQ Q j K a1 w1:=by
 obtain ⟨Hx,Hy,St⟩:=R.QN I.GW C (fun _ b hb=>G0 I.We hx (by rw [GR (R.agree C)];exact hb))
 have hlo:mg.n0≤Hx.nx:=by rw [I.grow.n0];exact Nat.le_trans hb St.lo
 refine GJ gk hj hc I.We (I.rel.tc (fun b hb=>St.pre b hb) St.n0x hlo St.bsx) (Classical.not_not.1 St.out) (fun hk b hb=>Classical.not_not.1 (St.fresh hk b hb)) I.size I.defs St.run ?_
 intro mY v v' w2 R2 G2 hv gj F2 zN B7
 refine hK mY _ w2 ⟨?_,?_,zN,B7,?_,I.grow.comp G2 St.lo St.hi⟩
 ·refine R2.tc (fun b _=>St.post b) St.n0y.symm ?_ St.bsy
  show mY.n0≤(sH n).nx
  rw [G2.n0,I.grow.n0]
  exact Nat.le_trans hb (R.jx (Nat.zero_le n) (asp _))
 ·intro x
  rw [R.Lc C x]
  exact F2 x
 ·refine ⟨fun b hb=>?_,fun p hp hS w k b uH=>?_⟩
  ·by_cases h1:mg.m b=none
   ·obtain ⟨l,hl⟩:∃l,mY.m b=some l:=by
     cases h2:mY.m b with
     |none=>exact absurd h2 hb
     |some l=>exact ⟨l,rfl⟩
    have h3:=G2.new b l h1 hl
    have h4:=St.new b h3.1 h3.2
    exact .inr ⟨t,C.lt,gL,h4.1,h4.2⟩
   ·rcases I.GW.GW b h1 with h|⟨p,hp,hS,h2,h3⟩
    ·exact .inl h
    ·refine .inr ⟨p,hp,?_,h2,h3⟩
     by_cases e:p=t
     ·subst e;exact gL
     ·rw [jl e];exact hS
  ·have up:∀b,mg.m b≠none→mY.m b≠none:=by
    intro b h
    cases h1:mg.m b with
    |none=>exact absurd h1 h
    |some l=>rw [G2.le _ _ h1];simp
   by_cases e:p=t
   ·subst e
    exact up b (G0 I.We hx (by rw [GR (R.agree C)];exact uH))
   ·rw [jl e]at hS
    exact up b (I.GW.sts p hp hS w k b uH)
theorem xW {nt:Nat} {cQ:Array Oper}:∀{l:List Oper} {FK:List AO},pv P nt cQ l=some FK→FK.length=l.length∧∀(j:Nat) (o:Oper) (ao:AO),l[j]?=some o→FK[j]?=some ao→OT P nt cQ o=some ao
 |[],FK,h=>by
  simp [pv]at h
  subst h
  exact ⟨rfl,fun j o ao h=>(by simp at h)⟩
 |x::l,FK,h=>by
  simp only [pv]at h
  cases h1:OT P nt cQ x with
  |none=>simp [h1]at h
  |some y=>
   cases h2:pv P nt cQ l with
   |none=>simp [h1,h2]at h
   |some m=>
    simp only [h1,h2,asm]at h
    subst h
    obtain ⟨e1,e2⟩:=xW h2
    refine ⟨by simp [e1],fun j o ao ho ha=>?_⟩
    cases j with
    |zero=>
     simp at ho ha
     subst ho
     subst ha
     exact h1
    |succ j=>exact e2 j o ao (by simpa using ho) (by simpa using ha)
theorem wu {o:Oper} {i:Nat}:i∈KX o↔∃e∈o.after,Region.binds .any e=true∧e.on=i:=by
 unfold KX
 rw [List.mem_filterMap]
 constructor
 ·rintro ⟨e,he,h⟩
  cases hb:Region.binds .any e with
  |false=>rw [hb]at h;cases h
  |true=>rw [hb]at h;cases h;exact ⟨e,by simpa using he,hb,rfl⟩
 ·rintro ⟨e,he,hb,rfl⟩
  exact ⟨e,by simpa using he,by rw [hb];rfl⟩
theorem QR (hm:P.follows .mixedOrders=true) {call:Cl} (gk:qB P call):GN P call:=by
 intro nt id cQ ac hc l ck hac w0 w φ H H' fr cq a h F R R0 hs hd
 obtain ⟨FK,ord,hl,rU,Wg⟩:=sU hc
 generalize Ar:mz FK (cQ.toList.map KX) ord []=rs at rU Wg
 rw [Wg]at hac
 cases hac
 simp only [Ae,aso,nb,asx,asB]at rU
 obtain ⟨⟨⟨⟨adB,hlen⟩,adC⟩,adD⟩,oJ⟩:=rU
 obtain ⟨O4,Wh⟩:=xW hl
 have hn:rs.length=cQ.size:=by rw [hlen,O4];simp
 have row:∀t,t<rs.length→∃o,cQ[(rowAt rs t).j]?=some o∧OT P nt cQ o=some (rowAt rs t).o∧(rowAt rs t).dep=KX o∧(rowAt rs t).o.o.xs.all Qu=true:=by
  intro t ht
  have hg:=cw ht
  obtain ⟨h1,h2,h3,_⟩:=lG ord [] t (rowAt rs t) (by rw [Ar];exact hg)
  rw [List.getElem?_map]at h3
  cases ho:cQ.toList[(rowAt rs t).j]?with
  |none=>simp [ho]at h3
  |some o=>
   simp [ho]at h3
   exact ⟨o,by simpa using ho,Wh _ o _ ho h1,h3.symm,asB.2 (adB _ (asq hg))⟩
 have Wi:∀t,t<rs.length→∀i,(rowAt rs t).m.testBit i=true→∃e∈(rowAt rs t).dep,e=i∨∃q<t,(rowAt rs q).j=e∧(rowAt rs q).m.testBit i=true:=by
  intro t ht i hi
  obtain ⟨_,_,_,h4⟩:=lG ord [] t (rowAt rs t) (by rw [Ar];exact cw ht)
  obtain ⟨e,he,h5⟩:=h4 i hi
  refine ⟨e,he,?_⟩
  rcases h5 with h5|⟨q,hq,r',h6,h7,h8⟩|h5
  ·exact .inl h5
  ·rw [Ar]at h6
   have:rowAt rs q=r':=by unfold rowAt;rw [h6];rfl
   exact .inr ⟨q,hq,by rw [this];exact h7,by rw [this];exact h8⟩
  ·simp [uZ]at h5
 have lin:∀t,t<rs.length→(∀q,q<t→(rowAt rs q).j≠(rowAt rs t).j)∧∀e∈(rowAt rs t).dep,∃q<t,(rowAt rs q).j=e:=by
  intro t ht
  obtain ⟨⟨_,h1⟩,h2⟩:=sZ rs [] adD t _ (cw ht)
  refine ⟨fun q hq=>h1 q _ hq (cw (by omega)),fun e he=>?_⟩
  rcases h2 e he with h3|⟨q,hq,r',h4,h5⟩
  ·cases h3
  ·exact ⟨q,hq,by unfold rowAt;rw [h4];exact h5⟩
 have sur:∀i,i<cQ.size→∃t,t<rs.length∧(rowAt rs t).j=i:=by
  intro i hi
  have:=mA.1 (adC i (GZ (by rw [O4];simpa using hi)))
  obtain ⟨r,hr,e⟩:=List.mem_map.1 this
  obtain ⟨t,ht,e2⟩:=List.mem_iff_getElem.1 hr
  refine ⟨t,ht,?_⟩
  unfold rowAt
  rw [asl ht,Option.getD_some,e2]
  exact e
 have jlt:∀t,t<rs.length→(rowAt rs t).j<cQ.size:=by
  intro t ht
  obtain ⟨o,ho,_⟩:=row t ht
  exact (asz.1 ho).1
 unfold xK at h
 cases hT:kG call (rs.map (·.o)) fr H with
 |none=>simp [hT]at h
 |some ss=>
  simp only [hT]at h
  obtain ⟨FI,h⟩:=aD h
  simp only [aso]at FI
  have Rn:=QP (fun t r hr=>(lG ord [] t r (by rw [Ar];exact hr)).2.1) oJ hT FI.1 FI.2
  have xX:=(qD _ _ _ _ hT).2.1
  rw [List.length_map]at xX
  simp only [asm]at h
  rw [xX]at h
  have hFn:FN (fr,H) ss rs.length=cq:=by unfold FN;rw [h]
  have hHn:Aq (fr,H) ss rs.length=H':=by unfold Aq;rw [h]
  have oK:FN (fr,H) ss 0=fr:=rfl
  have Ch:Aq (fr,H) ss 0=H:=rfl
  generalize FN (fr,H) ss=sF at*
  generalize Aq (fr,H) ss=sH at*
  have main:∀(fuel:Nat) (listed:Array Bool) (mg:bZ) (a1:Act) (w1:World),listed.size=cQ.size→zO (uI rs listed) rs.length≤fuel→
   (∀(j:Nat) (o:Oper),cQ[j]?=some o→listed.getD j false=true→∀e∈KX o,listed.getD e false=true)→
   Lg w0 w φ (fun t=>(rowAt rs t).o) rs.length sF sH nt (uI rs listed) mg a1 w1→
   wpAny P .any cQ (GK w0 φ w H nt .normal cq H') fuel listed a1 w1:=by
   have fin:∀(listed:Array Bool) (mg:bZ) (a1:Act) (w1:World),(∀t,t<rs.length→uI rs listed t=true)→
    Lg w0 w φ (fun t=>(rowAt rs t).o) rs.length sF sH nt (uI rs listed) mg a1 w1→GK w0 φ w H nt .normal cq H' .normal a1 w1:=by
    intro listed mg a1 w1 aG I
    refine ⟨rfl,mg,?_,?_,?_,I.size,I.defs⟩
    ·rw [←hHn]
     refine I.rel.tc (fun b _=>?_) (by rw [Rn.Uz _ (asp _)];rfl) ?_ (by rw [←Rn.GS (asp _)];exact Cc fun p hp _ _=>(aG p hp).symm)
     ·rw [B9,←Rn.GU (asp _)]
      exact Cb fun p hp _=>(aG p hp).symm
     ·rw [I.grow.n0]
      exact Nat.le_trans R.r5 (by rw [←Ch];exact Rn.jx (Nat.zero_le _) (asp _))
    ·rw [←hHn,←Ch];exact I.grow
    ·intro x
     rw [←hFn,←Rn.B8 (asp _)]
     rw [we (S:=fun _=>true) (S':=uI rs listed) fun p hp _=>(aG p hp).symm]
     exact I.We x
   intro fuel
   induction fuel with
   |zero=>
    intro listed mg a1 w1 iu hun hcd I
    have aG:=xV (Nat.le_zero.1 hun)
    refine ⟨?_,fin listed mg a1 w1 aG I⟩
    rw [List.eq_nil_iff_forall_not_mem]
    intro i hi
    obtain ⟨h0,o,ho,_⟩:=mem_ready.1 hi
    obtain ⟨t,ht,rfl⟩:=sur i (asz.1 ho).1
    have h1:=aG t ht
    unfold uI at h1
    have c8:(rowAt rs t).j<listed.size:=by rw [iu];exact jlt t ht
    simp [c8]at h0 h1
    rw [h0]at h1
    cases h1
   |succ fuel ih=>
    intro listed mg a1 w1 iu hun hcd I
    refine ⟨fun hr=>?_,fun i hi=>?_⟩
    ·refine fin listed mg a1 w1 ?_ I
     intro t
     induction t using Nat.strongRecOn with
     |_ t iht=>
      intro ht
      cases hS:uI rs listed t with
      |true=>rfl
      |false=>
       exfalso
       obtain ⟨o,ho,_,QS,_⟩:=row t ht
       have:(rowAt rs t).j∈Region.ready .any cQ listed:=by
        refine mem_ready.2 ⟨?_,o,ho,fun e he hb=>?_⟩
        ·have c8:(rowAt rs t).j<listed.size:=by rw [iu];exact jlt t ht
         unfold uI at hS
         simp [c8]at hS⊢
         exact hS
        ·obtain ⟨q,hq,e2⟩:=(lin t ht).2 e.on (by rw [QS];exact wu.2 ⟨e,he,hb,rfl⟩)
         have:=iht q hq (by omega)
         unfold uI at this
         rw [e2]at this
         exact this
       rw [hr]at this
       cases this
    ·obtain ⟨h0,o',ho',O5⟩:=mem_ready.1 hi
     obtain ⟨t,ht,rfl⟩:=sur i (asz.1 ho').1
     obtain ⟨o,ho,adH,QS,hx⟩:=row t ht
     rw [ho]at ho'
     cases ho'
     have c8:(rowAt rs t).j<listed.size:=by rw [iu];exact jlt t ht
     have V9:uI rs listed t=false:=by
      unfold uI
      simp [c8]at h0⊢
      exact h0
     have closed:∀q,q<rs.length→(∀e∈(rowAt rs q).dep,listed.getD e false=true)→∀i,(rowAt rs q).m.testBit i=true→listed.getD i false=true:=by
      intro q
      induction q using Nat.strongRecOn with
      |_ q ihq=>
       intro hq hdq i hi
       obtain ⟨e,he,h5⟩:=Wi q hq i hi
       rcases h5 with rfl|⟨p,hp,h6,h7⟩
       ·exact hdq _ he
       ·refine ihq p hp (by omega) (fun e' he'=>?_) i h7
        obtain ⟨op,r6,_,hdp,_⟩:=row p (by omega)
        exact hcd _ op r6 (by rw [h6];exact hdq e he) e' (by rw [←hdp];exact he')
     have C:V8 rs.length (Wc rs) (uI rs listed) t:=by
      refine ⟨ht,V9,fun p hp ha=>?_,fun p q xU hq hSq ha=>?_⟩
      ·refine closed t ht (fun e he=>?_) _ ha
       rw [QS]at he
       obtain ⟨ed,h1,h2,rfl⟩:=wu.1 he
       exact O5 ed h1 h2
      ·refine closed q hq (fun e he=>?_) _ ha
       obtain ⟨oq,hoq,_,hdq,_⟩:=row q hq
       exact hcd _ oq hoq hSq e (by rw [←hdq];exact he)
     have Ec:∀p,p<rs.length→uI rs (listed.setIfInBounds (rowAt rs t).j true) p=ins (uI rs listed) t p:=by
      intro p hp
      unfold uI
      by_cases e:p=t
      ·subst e
       rw [gL]
       simp [c8]
      ·rw [jl e]
       refine getD_set_ne false ?_
       rcases Nat.lt_or_gt_of_ne e with h1|h1
       ·exact fun h2=>(lin t ht).1 p h1 h2.symm
       ·exact (lin p hp).1 t h1
     refine Wf (O:=fun t=>(rowAt rs t).o) gk Rn (by rw [Ch];exact R.r5) C I ho adH hx ?_
     intro mY a2 w2 I2
     refine ih _ mY a2 w2 (by simp [iu]) ?_ ?_ ?_
     ·have h1:=Cg V9 ht
      have h2:zO (uI rs (listed.setIfInBounds (rowAt rs t).j true)) rs.length≤zO (ins (uI rs listed) t) rs.length:=
       wo fun p hp h=>by rw [Ec p hp];exact h
      omega
     ·intro j oj hoj hj e he
      by_cases ej:(rowAt rs t).j=j
      ·subst ej
       rw [ho]at hoj
       cases hoj
       obtain ⟨ed,h1,h2,rfl⟩:=wu.1 he
       exact getD_set_true (O5 ed h1 h2)
      ·rw [getD_set_ne false ej]at hj
       exact getD_set_true (hcd j oj hoj hj e he)
     ·have eF:∀x,(v8 (fun t=>(rowAt rs t).o) sF (uI rs (listed.setIfInBounds (rowAt rs t).j true)) rs.length).get x=(v8 (fun t=>(rowAt rs t).o) sF (ins (uI rs listed) t) rs.length).get x:=
       fun x=>we fun p hp _=>Ec p hp
      refine ⟨I2.rel.tc (fun b _=>Cb fun p hp _=>Ec p hp) rfl I2.rel.r5 (Cc fun p hp _ _=>Ec p hp),fun x=>by rw [eF];exact I2.We x,I2.size,I2.defs,⟨fun b hb=>?_,fun p hp hS=>?_⟩,I2.grow⟩
      ·rcases I2.GW.GW b hb with h1|⟨p,hp,hS,h2⟩
       ·exact .inl h1
       ·exact .inr ⟨p,hp,by rw [Ec p hp];exact hS,h2⟩
      ·rw [Ec p hp]at hS
       exact I2.GW.sts p hp hS
  refine wp_region_any hm ?_
  have hS0:∀t,uI rs (Array.replicate cQ.size false) t=false:=by
   intro t
   unfold uI
   by_cases h:(rowAt rs t).j<cQ.size<;>simp [h]
  refine main cQ.size _ φ a _ (by simp) ?_ ?_ ?_
  ·rw [←hn]
   have:zO (uI rs (Array.replicate cQ.size false)) rs.length≤zO (fun _=>false) rs.length:=wo fun p _ h=>by cases h
   rw [Lf]at this
   rwa [hn]at this⊢
  ·intro j o _ h
   exfalso
   by_cases h2:j<cQ.size<;>simp [h2]at h
  ·have R':Rel w0 φ H {w with drawn:=w.drawn+1}:=R.drew rfl rfl rfl rfl
   refine ⟨R'.tc (fun b _=>?_) (by show(sH 0).n0=_;rw [Ch]) ?_ ?_,fun x=>?_,hs,hd,⟨fun b hb=>.inl ?_,fun p hp hS=>?_⟩,?_⟩
   ·rw [B9,sb (t:=0) (Nat.zero_le _)]
    ·show(sH 0).raw b=_;rw [Ch]
    ·intro p _ _ h;rw [hS0]at h;cases h
   ·refine Nat.le_trans R.r5 ?_
    rw [←Ch]
    exact Rn.jx (Nat.zero_le _) (asp _)
   ·show gB _ _ _ _ _=_
    rw [wg (t:=0) (Nat.zero_le _)]
    ·show(sH 0).bs=_;rw [Ch]
    ·intro p _ _ h;rw [hS0]at h;cases h
   ·rw [sX (t:=0) (Nat.zero_le _)]
    ·show V φ ((sF 0).get x) _;rw [oK];exact F x
    ·intro p _ _ h;rw [hS0]at h;cases h
   ·rw [Ch]
    rcases Nat.lt_or_ge b H.nx with h1|h1
    ·exact h1
    ·exact absurd (R0 b h1) hb
   ·rw [hS0]at hS;cases hS
   ·have G:Grow φ H w φ H {w with drawn:=w.drawn+1}:=Grow.of_heap rfl
    rw [Ch]
    refine ⟨G.le,G.n0,G.c0,?_,fun b l h1 h2=>(by rw [h1]at h2;cases h2),G.size⟩
    rw [←Ch]
    exact Rn.jx (Nat.zero_le _) (asp _)
end
end Go.Proofs.YtppcmpmnglaleaaGreatDoor.A
namespace Go.Proofs.YtppcmpmnglaleaaGreatDoor.A
open Go Go.RowKit
section
variable{P:Program}
def qE (tmps:Array Value):ResultVar→Sem Value
 | .tmp t=>pure (tmps.getD t undef)
 | .cell a t=>do loadVar t (←asAddr (tmps.getD a undef))
theorem wv (fn:Func) (tmps:Array Value):results fn tmps=(do
 let vs←fn.results.toList.mapM (qE tmps)
 pure (if h:vs.toArray.size=1 then vs.toArray[0]else .tuple vs.toArray)):=by
 have e:results fn tmps=(do
  let vs←fn.results.mapM (qE tmps)
  pure (if h:vs.size=1 then vs[0]else .tuple vs)):=rfl
 rw [e,Array.mapM_eq_mapM_toList]
 simp
theorem sg {w0 w:World} {φ:bZ} {H:AH} {fr:Fr} {a:Act} (F:mu φ fr a) (R:Rel w0 φ H w):∀(l:List ResultVar) (m:List RS) (vs:List Value),xM P l=some m→RS.all fr H m=some vs→
 ∃kS,(l.mapM (qE a.tmps)).run P w= .ok kS w∧VL φ vs kS
 |[],m,vs,hc,h=>by
  simp [xM]at hc
  subst hc
  simp [RS.all]at h
  subst h
  exact ⟨[],by simp,.nil⟩
 | .tmp t::l,m,vs,hc,h=>by
  simp only [xM,asv]at hc
  obtain ⟨m',hm,rfl⟩:=hc
  simp only [RS.all,RS.get]at h
  cases hr:RS.all fr H m' with
  |none=>simp [hr]at h
  |some us=>
   simp only [hr,asm]at h
   subst h
   obtain ⟨kS,h1,h2⟩:=sg F R l m' us hm hr
   refine ⟨a.tmps.getD t undef::kS,?_,.cons (F t) h2⟩
   simp [List.mapM_cons,qE,h1]
 | .cell t ty::l,m,vs,hc,h=>by
  simp only [xM]at hc
  split at hc
  ·rename_i n m' QI iu hm
   cases hc
   simp only [RS.all,RS.get]at h
   cases hq:fr.get t<;>simp [hq]at h
   rename_i p
   cases p<;>simp at h
   rename_i ad
   cases eh:H.ldn ad n with
   |none=>simp [eh]at h
   |some ws=>
    cases hr:RS.all fr H m' with
    |none=>simp [eh,hr]at h
    |some us=>
     simp [eh,hr]at h
     subst h
     obtain ⟨kS,h1,h2⟩:=sg F R l m' us hm hr
     have hv:=F t
     rw [hq]at hv
     obtain ⟨a',ws',e1,e2,e3,e4,e5⟩:=Gk R hv eh
     have h4:=run_loadCells_list (P:=P) w a' ws' e5
     rw [e2]at h4
     refine ⟨.agg ws'.toArray::kS,?_,.cons (.agg (by simpa using e3) (by simpa using e4)) h2⟩
     have KF:a.tmps.getD t undef= .pointer (some a'):=e1
     simp only [List.mapM_cons,qE,KF]
     simp [asAddr,loadVar,kT QI,cW iu,h4,h1]
  ·rename_i n m' QI iu hm
   cases hc
   simp only [RS.all,RS.get]at h
   cases hq:fr.get t<;>simp [hq]at h
   rename_i p
   cases p<;>simp at h
   rename_i ad
   cases eh:H.ld ad with
   |none=>simp [eh]at h
   |some v=>
    cases hr:RS.all fr H m' with
    |none=>simp [eh,hr]at h
    |some us=>
     simp [eh,hr]at h
     subst h
     obtain ⟨kS,h1,h2⟩:=sg F R l m' us hm hr
     have hv:=F t
     rw [hq]at hv
     obtain ⟨a',v',e1,e2,e3⟩:=OV R hv eh
     refine ⟨v'::kS,?_,.cons e3 h2⟩
     have KF:a.tmps.getD t undef= .pointer (some a'):=e1
     simp only [List.mapM_cons,qE,KF]
     simp [asAddr,loadVar,kT QI,e2,h1]
  ·cases hc
theorem rA {w0 w:World} {φ:bZ} {H:AH} {fr:Fr} {a:Act} (F:mu φ fr a) (R:Rel w0 φ H w) {fn:Func} {m:List RS} {vs:List Value} (hc:xM P fn.results.toList=some m) (h:RS.all fr H m=some vs):
 ∃v',(results fn a.tmps).run P w= .ok v' w∧V φ (rk vs) v':=by
 obtain ⟨kS,h1,h2⟩:=sg F R _ _ _ hc h
 rw [wv]
 simp only [Sem.run_bind,h1,Result.andThen_ok,Sem.run_pure]
 cases h2 with
 |nil=>exact ⟨_,rfl,.tuple .nil⟩
 |cons x y=>
  cases y with
  |nil=>exact ⟨_,rfl,x⟩
  |cons y z=>
   refine ⟨_,rfl,?_⟩
   simp only [List.size_toArray,List.length_cons]
   rw [dif_neg (by omega)]
   exact .tuple (.cons x (.cons y z))
theorem Fr.td:∀(l:List Value) (i:Nat) (f:Fr) (t:Nat),(Fr.sG i l f).get t=if i≤t∧t<i+l.length then l.getD (t- i) undef else f.get t
 |[],i,f,t=>by
  simp only [Fr.sG,List.length_nil]
  rw [if_neg (by omega)]
 |v::l,i,f,t=>by
  simp only [Fr.sG,List.length_cons]
  rw [Fr.td l,Fr.bV]
  by_cases h1:t=i
  ·subst h1
   rw [if_neg (by omega),if_pos rfl,if_pos (by omega)]
   simp
  ·by_cases h2:i+1≤t∧t<i+1+l.length
   ·rw [if_pos h2,if_pos (by omega)]
    obtain ⟨k,hk⟩:∃k,t- i=k+1:=⟨t- i- 1,by omega⟩
    rw [hk,show t- (i+1)=k by omega]
    simp
   ·rw [if_neg h2,if_neg h1,if_neg (by omega)]
theorem Fr.get_nil (t:Nat):(⟨.nil⟩:Fr).get t=undef:=by
 unfold Fr.get
 cases t<;>rfl
theorem Fr.fv (l:List Value) (t:Nat):(Fr.of l).get t=l.getD t undef:=by
 unfold Fr.of
 rw [Fr.td,Fr.get_nil]
 split
 ·rfl
 ·rename_i h
  simp only [List.getD_eq_getElem?_getD]
  rw [List.getElem?_eq_none (by omega)]
  rfl
theorem xY {φ:bZ} {as:List Value} {as':Array Value} (k:Nat) (h:VL φ as as'.toList) (t:Nat):V φ ((Fr.of as).get t) ((as'++Array.replicate k undef).getD t undef):=by
 rw [Fr.fv]
 have hl:=h.length
 simp only [List.getD_eq_getElem?_getD]
 cases ht:as[t]?with
 |some v=>
  obtain ⟨v',e,hv⟩:=h.get t v ht
  have c8:t<as'.size:=by
   have:=(asr.1 e).1
   simpa using this
  have e2:(as'++Array.replicate k undef).getD t undef=v':=by
   rw [Array.getD_eq_getD_getElem?,Array.getElem?_append_left c8]
   simp only [Array.getElem?_toList]at e
   rw [e]
   rfl
  rw [e2]
  exact hv
 |none=>
  have Lh:=List.getElem?_eq_none_iff.1 ht
  have e2:(as'++Array.replicate k undef).getD t undef=undef:=by
   rw [Array.getD_eq_getD_getElem?,Array.getElem?_append_right (by rw [←Array.length_toList,←hl];exact Lh)]
   rw [Array.getElem?_replicate]
   split<;>rfl
  rw [e2]
  exact sL _
def G3 (P:Program) (E:Env):Prop:=∀f F,E f=some F→∃fn,P.funcs[f]?=some fn∧aq P fn=some F
abbrev kj:=Nat→Option (List Value→AH→Option (Value×AH))
def Ci (P:Program) (O:kj):Prop:=∀f g,O f=some g→∀as H v H',g as H=some (v,H')→D5 P f∧GG P f as H v H'
theorem Cj (hm:P.follows .mixedOrders=true) {E:Env} {O:kj} (hE:G3 P E) (hO:Ci P O):∀n,qB P (fW E O n)
 |0=>fun f as H v H' h=>by simp [fW]at h
 |n+1=>fun f as H v H' h=>by
  have ih:=Cj hm hE hO n
  simp only [fW]at h
  cases ho:O f with
  |some g=>
   simp only [ho]at h
   exact hO f g ho as H v H' h
  |none=>
   simp only [ho]at h
   cases he:E f with
   |none=>simp [he]at h
   |some F=>
    simp only [he]at h
    obtain ⟨hlen,h⟩:=aD h
    obtain ⟨fn,hf,hc⟩:=hE f F he
    unfold aq at hc
    cases hb:fn.body with
    |none=>simp [hb]at hc
    |some c=>
     simp only [hb]at hc
     split at hc
     case h_2=>cases hc
     rename_i x r hx hr
     split at hc
     case isTrue=>cases hc
     rename_i rq
     cases hc
     simp only [Bool.or_eq_true,not_or,Bool.not_eq_true,decide_eq_false_iff_not,Nat.not_lt]at rq
     refine ⟨⟨fn,hf,by rw [hb];rfl,rq.1⟩, ?_⟩
     intro w0 φ w as' R R0 hv
     refine calls_of_wp hf hb ?_
     have iu:as'.size=fn.params.size+fn.nfree:=by
      have:=hv.length
      rw [nb]at hlen
      simp at hlen this
      omega
     cases xZ:aE (fW E O n) n x (Fr.of as) H with
     |none=>simp [xZ]at h
     |some q=>
      obtain ⟨ex,fr,H1⟩:=q
      have hw:=La ih (QR hm ih) n c x (w0:=w0) (w:=w) (φ:=φ) (a:={tmps:=as'++Array.replicate (fn.ntmps- as'.size) undef,defers:=[]}) hx xZ (fun t=>xY _ hv t) R R0 (by simp;omega) rfl
      refine wp_mono hw ?_
      rintro e a2 w2 ⟨rfl,mY,R2,G2,F2,zN,B7⟩
      cases ex with
      |exit i=>simp [xZ]at h
      |normal=>
       simp only [xZ]at h
       cases G4:RS.all fr H1 r with
       |none=>simp [G4]at h
       |some vs=>
        simp only [G4,asm,ast]at h
        obtain ⟨rfl,rfl⟩:=h
        obtain ⟨v',h1,h2⟩:=rA F2 R2 hr G4
        exact ⟨B7,v',h1,mY,v',rfl,h2,R2,G2⟩
      |ret=>
       simp only [xZ]at h
       cases G4:RS.all fr H1 r with
       |none=>simp [G4]at h
       |some vs=>
        simp only [G4,asm,ast]at h
        obtain ⟨rfl,rfl⟩:=h
        obtain ⟨v',h1,h2⟩:=rA F2 R2 hr G4
        exact ⟨B7,v',h1,mY,v',rfl,h2,R2,G2⟩
end
end Go.Proofs.YtppcmpmnglaleaaGreatDoor.A
namespace Go.Proofs.YtppcmpmnglaleaaGreatDoor.A
open Go
def Ed (c d:Cl):Prop:=∀f as H r,c f as H=some r→d f as H=some r
theorem sj {c d:Cl} (h:Ed c d) {o:AO} {fr:Fr} {H:AH} {r:Fr×AH} (k:kF c o fr H=some r):kF d o fr H=some r:=by
 obtain ⟨cq,H'⟩:=r
 obtain ⟨x,e,k⟩:=ey.1 k
 refine ey.2 ⟨x,e,?_⟩
 cases k with
 |off a b c=>exact .off a b c
 |val a b=>exact .val a b
 |call a f as H1 b c=>exact .call a f as H1 b (h _ _ _ _ c)
theorem wx {c d:Cl} (h:Ed c d):∀{l:List AO} {fr:Fr} {H:AH} {r:Fr×AH},ops c l fr H=some r→ops d l fr H=some r
 |[],fr,H,r,k=>k
 |o::l,fr,H,r,k=>by
  simp only [ops]at k⊢
  cases h1:kF c o fr H with
  |none=>simp [h1]at k
  |some q=>
   rw [sj h h1]
   simp only [h1]at k
   exact wx h k
theorem sk {c d:Cl} (h:Ed c d):∀{l:List AO} {fr:Fr} {H:AH} {r:List (Fr×AH)},kG c l fr H=some r→kG d l fr H=some r
 |[],fr,H,r,k=>k
 |o::l,fr,H,r,k=>by
  simp only [kG]at k⊢
  cases h1:kF c o fr H with
  |none=>simp [h1]at k
  |some q=>
   rw [sj h h1]
   simp only [h1]at k⊢
   cases h2:kG c l q.1 q.2 with
   |none=>simp [h2]at k
   |some ss=>rw [sk h h2];simpa [h2]using k
theorem eV {c d:Cl} (h:Ed c d):∀{n:Nat} {a:AC} {fr:Fr} {H:AH} {r:Ex×Fr×AH},aE c n a fr H=some r→aE d n a fr H=some r:=by
 intro n
 induction n with
 |zero=>intro a fr H r k;simp [aE]at k
 |succ n ih=>
  intro a fr H r k
  cases a with
  |bR l=>
   simp only [aE]at k⊢
   cases h1:ops c l fr H with
   |none=>simp [h1]at k
   |some q=>rw [wx h h1];simpa [h1]using k
  |bA l ck=>
   simp only [aE,xK]at k⊢
   cases h1:kG c l fr H with
   |none=>simp [h1]at k
   |some q=>rw [sk h h1];simpa [h1]using k
  |seq a b=>
   simp only [aE]at k⊢
   cases h1:aE c n a fr H with
   |none=>simp [h1]at k
   |some q=>
    rw [ih h1]
    obtain ⟨ex,kU,H1⟩:=q
    cases ex<;>simp only [h1]at k⊢<;>first
     |exact ih k
     |exact k
  |cond x a b=>
   simp only [aE]at k⊢
   cases hx:x.ev fr<;>simp only [hx]at k⊢<;>first
    |(cases k;done)
    |skip
   rename_i t
   cases t<;>exact ih k
  |block i a=>
   simp only [aE]at k⊢
   cases h1:aE c n a fr H with
   |none=>simp [h1]at k
   |some q=>
    rw [ih h1]
    obtain ⟨ex,kU,H1⟩:=q
    cases ex<;>simp only [h1]at k⊢<;>exact k
  |loop a=>
   simp only [aE]at k⊢
   cases h1:aE c n a fr H with
   |none=>simp [h1]at k
   |some q=>
    rw [ih h1]
    obtain ⟨ex,kU,H1⟩:=q
    cases ex<;>simp only [h1]at k⊢<;>first
     |exact ih k
     |exact k
  |_=>simpa only [aE]using k
theorem u9 {E:Env} {O:kj}:∀n,Ed (fW E O n) (fW E O (n+1))
 |0=>fun f as H r k=>by simp [fW]at k
 |n+1=>fun f as H r k=>by
  have ih:=u9 (E:=E) (O:=O) n
  rw [fW]at k⊢
  cases ho:O f with
  |some g=>simpa [ho]using k
  |none=>
   simp only [ho]at k⊢
   cases he:E f with
   |none=>simp [he]at k
   |some F=>
    simp only [he]at k⊢
    obtain ⟨hl,k⟩:=aD k
    rw [hl,cond_true]
    cases h1:aE (fW E O n) n F.body (Fr.of as) H with
    |none=>simp [h1]at k
    |some q=>
     rw [fY (Nat.le_succ n) (eV ih h1)]
     simpa [h1]using k
theorem dW {E:Env} {O:kj} {n m:Nat} (h:n≤m):Ed (fW E O n) (fW E O m):=by
 induction m with
 |zero=>obtain rfl:n=0:=by omega
        exact fun _ _ _ _ k=>k
 |succ m ih=>
  rcases Nat.lt_or_eq_of_le h with h1|h1
  · exact fun f as H r k=>u9 m f as H r (ih (by omega) f as H r k)
  · subst h1;exact fun _ _ _ _ k=>k
section
variable(E:Env) (O:kj)
def Ca (f:Nat) (as:List Value) (H:AH) (Q:Value→AH→Prop):Prop:=∃n x H',fW E O n f as H=some (x,H')∧Q x H'
def Wp (c:AC) (fr:Fr) (H:AH) (Q:Ex→Fr→AH→Prop):Prop:=∃n ex cq H',aE (fW E O n) n c fr H=some (ex,cq,H')∧Q ex cq H'
def rV (o:AO) (fr:Fr) (H:AH) (Q:Fr→AH→Prop):Prop:=∃n cq H',kF (fW E O n) o fr H=some (cq,H')∧Q cq H'
def Wo (l:List AO) (fr:Fr) (H:AH) (Q:Fr→AH→Prop):Prop:=∃n cq H',ops (fW E O n) l fr H=some (cq,H')∧Q cq H'
def Wt (l:List AO) (fr:Fr) (H:AH) (Q:List (Fr×AH)→Prop):Prop:=∃n ss,kG (fW E O n) l fr H=some ss∧Q ss
variable{E O}
theorem Ca.mono {f:Nat} {as:List Value} {H:AH} {Q Q':Value→AH→Prop} (h:Ca E O f as H Q) (k:∀x H',Q x H'→Q' x H'):Ca E O f as H Q':=
 let⟨n,x,H',e,q⟩:=h;⟨n,x,H',e,k _ _ q⟩
theorem Wp.mono {c:AC} {fr:Fr} {H:AH} {Q Q':Ex→Fr→AH→Prop} (h:Wp E O c fr H Q) (k:∀ex cq H',Q ex cq H'→Q' ex cq H'):Wp E O c fr H Q':=
 let⟨n,x,cq,H',e,q⟩:=h;⟨n,x,cq,H',e,k _ _ _ q⟩
theorem pE {n m:Nat} (h:n≤m) {c:AC} {fr:Fr} {H:AH} {r:Ex×Fr×AH} (k:aE (fW E O n) n c fr H=some r):aE (fW E O m) m c fr H=some r:=
 fY h (eV (dW h) k)
theorem Wp.skip {fr:Fr} {H:AH} {Q:Ex→Fr→AH→Prop} (h:Q .normal fr H):Wp E O .skip fr H Q:=⟨1,_,_,_,rfl,h⟩
theorem Wp.ret {fr:Fr} {H:AH} {Q:Ex→Fr→AH→Prop} (h:Q .ret fr H):Wp E O .ret fr H Q:=⟨1,_,_,_,rfl,h⟩
theorem Wp.exit {i:Nat} {fr:Fr} {H:AH} {Q:Ex→Fr→AH→Prop} (h:Q (.exit i) fr H):Wp E O (.exit i) fr H Q:=⟨1,_,_,_,rfl,h⟩
def G5 (k:Fr→AH→Prop) (Q:Ex→Fr→AH→Prop):Ex→Fr→AH→Prop
 | .normal,fr,H=>k fr H
 |ex,fr,H=>Q ex fr H
theorem Wp.seq {a b:AC} {fr:Fr} {H:AH} {Q:Ex→Fr→AH→Prop} (h:Wp E O a fr H (G5 (fun cq H'=>Wp E O b cq H' Q) Q)):Wp E O (.seq a b) fr H Q:=by
 obtain ⟨n,ex,kU,H1,e,q⟩:=h
 cases ex with
 |normal=>
  obtain ⟨m,Uy,fK,H2,e2,q2⟩:=q
  refine ⟨max n m+1,Uy,fK,H2,?_,q2⟩
  simp only [aE]
  rw [eV (dW (Nat.le_succ _)) (pE (Nat.le_max_left n m) e)]
  exact eV (dW (Nat.le_succ _)) (pE (Nat.le_max_right n m) e2)
 |exit i=>
  refine ⟨n+1,_,kU,H1,?_,q⟩
  simp only [aE]
  rw [eV (dW (Nat.le_succ _)) e]
 |ret=>
  refine ⟨n+1,_,kU,H1,?_,q⟩
  simp only [aE]
  rw [eV (dW (Nat.le_succ _)) e]
theorem Wp.cond {x:X} {a b:AC} {fr:Fr} {H:AH} {Q:Ex→Fr→AH→Prop} {t:Bool} (hx:x.ev fr= .bool t) (h:Wp E O (bif t then a else b) fr H Q):Wp E O (.cond x a b) fr H Q:=by
 obtain ⟨n,ex,kU,H1,e,q⟩:=h
 refine ⟨n+1,ex,kU,H1,?_,q⟩
 simp only [aE,hx]
 cases t<;>exact eV (dW (Nat.le_succ _)) e
def te (i:Nat) (Q:Ex→Fr→AH→Prop):Ex→Fr→AH→Prop
 | .exit j,fr,H=>if j=i then Q .normal fr H else Q (.exit j) fr H
 |ex,fr,H=>Q ex fr H
theorem Wp.block {i:Nat} {a:AC} {fr:Fr} {H:AH} {Q:Ex→Fr→AH→Prop} (h:Wp E O a fr H (te i Q)):Wp E O (.block i a) fr H Q:=by
 obtain ⟨n,ex,kU,H1,e,q⟩:=h
 have e':=eV (dW (Nat.le_succ n)) e
 cases ex with
 |normal=>exact ⟨n+1,_,kU,H1,by simp only [aE];rw [e'],q⟩
 |ret=>exact ⟨n+1,_,kU,H1,by simp only [aE];rw [e'],q⟩
 |exit j=>
  simp only [te]at q
  by_cases hj:j=i
  ·rw [if_pos hj]at q
   refine ⟨n+1,_,kU,H1,?_,q⟩
   simp only [aE]
   rw [e']
   simp [nb,hj]
  ·rw [if_neg hj]at q
   refine ⟨n+1,_,kU,H1,?_,q⟩
   simp only [aE]
   rw [e']
   simp [nb,hj]
theorem Wp.Wj {a:AC} {fr:Fr} {H:AH} {Q:Ex→Fr→AH→Prop} (h:Wp E O a fr H (G5 (fun cq H'=>Wp E O (.loop a) cq H' Q) Q)):Wp E O (.loop a) fr H Q:=by
 obtain ⟨n,ex,kU,H1,e,q⟩:=h
 cases ex with
 |normal=>
  obtain ⟨m,Uy,fK,H2,e2,q2⟩:=q
  refine ⟨max n m+1,Uy,fK,H2,?_,q2⟩
  simp only [aE]
  rw [eV (dW (Nat.le_succ _)) (pE (Nat.le_max_left n m) e)]
  exact eV (dW (Nat.le_succ _)) (pE (Nat.le_max_right n m) e2)
 |exit i=>
  refine ⟨n+1,_,kU,H1,?_,q⟩
  simp only [aE]
  rw [eV (dW (Nat.le_succ _)) e]
 |ret=>
  refine ⟨n+1,_,kU,H1,?_,q⟩
  simp only [aE]
  rw [eV (dW (Nat.le_succ _)) e]
theorem Wp.loop {a:AC} {Q:Ex→Fr→AH→Prop} (I:Nat→Fr→AH→Prop) (step:∀k fr H,I k fr H→Wp E O a fr H (G5 (fun cq H'=>∃j,j<k∧I j cq H') Q)) (k:Nat) {fr:Fr} {H:AH} (h:I k fr H):Wp E O (.loop a) fr H Q:=by
 induction k using Nat.strongRecOn generalizing fr H with
 |_ k ih=>
  refine Wp.Wj ((step k fr H h).mono ?_)
  intro ex cq H' q
  cases ex with
  |normal=>obtain ⟨j,hj,hI⟩:=q;exact ih j hj hI
  |exit i=>exact q
  |ret=>exact q
theorem Wp.bR {l:List AO} {fr:Fr} {H:AH} {Q:Ex→Fr→AH→Prop} (h:Wo E O l fr H (Q .normal)):Wp E O (.bR l) fr H Q:=by
 obtain ⟨n,kU,H1,e,q⟩:=h
 refine ⟨n+1,_,kU,H1,?_,q⟩
 simp only [aE]
 rw [wx (dW (Nat.le_succ _)) e]
theorem Wo.nil {fr:Fr} {H:AH} {Q:Fr→AH→Prop} (h:Q fr H):Wo E O [] fr H Q:=⟨0,fr,H,rfl,h⟩
theorem Wo.cons {o:AO} {l:List AO} {fr:Fr} {H:AH} {Q:Fr→AH→Prop} (h:rV E O o fr H (fun cq H'=>Wo E O l cq H' Q)):Wo E O (o::l) fr H Q:=by
 obtain ⟨n,kU,H1,e,m,fK,H2,e2,q⟩:=h
 refine ⟨max n m,fK,H2,?_,q⟩
 simp only [ops]
 rw [sj (dW (Nat.le_max_left n m)) e]
 exact wx (dW (Nat.le_max_right n m)) e2
theorem rV.val {o:AO} {fr:Fr} {H H':AH} {x:Value} {Q:Fr→AH→Prop} (hw:o.wanted fr=true) (h:aA o.o (X.ev fr) H=some (.v x,H')) (q:Q (fr.aU o.d x) H'):rV E O o fr H Q:=
 ⟨0,_,_,ey.2 ⟨x,rfl,.val hw h⟩,q⟩
theorem rV.off {o:AO} {fr:Fr} {H:AH} {Q:Fr→AH→Prop} (hw:o.wanted fr=false) (q:Q (fr.aU o.d undef) H):rV E O o fr H Q:=
 ⟨0,_,_,ey.2 ⟨undef,rfl,.off hw rfl rfl⟩,q⟩
theorem rV.call {o:AO} {fr:Fr} {H H1:AH} {f:Nat} {as:List Value} {Q:Fr→AH→Prop} (hw:o.wanted fr=true) (h:aA o.o (X.ev fr) H=some (.enter f as,H1)) (q:Ca E O f as H1 (fun x H'=>Q (fr.aU o.d x) H')):rV E O o fr H Q:=by
 obtain ⟨n,x,H',e,q⟩:=q
 exact ⟨n,_,_,ey.2 ⟨x,rfl,.call hw f as H1 h e⟩,q⟩
theorem Wp.bA {l:List AO} {ck:List (Nat×Nat×Nat)} {fr:Fr} {H:AH} {Q:Ex→Fr→AH→Prop}
 (h:Wt E O l fr H (fun ss=>(chain ((fr,H)::ss)=true∧ck.all (kQ l ((fr,H)::ss))=true)∧Q .normal (gJ (fr,H) ss).1 (gJ (fr,H) ss).2)):Wp E O (.bA l ck) fr H Q:=by
 obtain ⟨n,ss,e,⟨h1,h2⟩,q⟩:=h
 refine ⟨n+1,_,_,_,?_,q⟩
 simp only [aE,xK]
 rw [sk (dW (Nat.le_succ _)) e]
 simp [h1,h2]
theorem Wt.nil {fr:Fr} {H:AH} {Q:List (Fr×AH)→Prop} (h:Q []):Wt E O [] fr H Q:=⟨0,[],rfl,h⟩
theorem Wt.cons {o:AO} {l:List AO} {fr:Fr} {H:AH} {Q:List (Fr×AH)→Prop} (h:rV E O o fr H (fun cq H'=>Wt E O l cq H' (fun ss=>Q ((cq,H')::ss)))):Wt E O (o::l) fr H Q:=by
 obtain ⟨n,kU,H1,e,m,ss,e2,q⟩:=h
 refine ⟨max n m,_,?_,q⟩
 simp only [kG]
 rw [sj (dW (Nat.le_max_left n m)) e]
 simp only
 rw [sk (dW (Nat.le_max_right n m)) e2]
def x7 (r:List RS) (Q:Value→AH→Prop):Ex→Fr→AH→Prop
 | .exit _,_,_=>False
 |_,fr,H=>∃vs,RS.all fr H r=some vs∧Q (rk vs) H
theorem Ca.body {f:Nat} {F:AF} {as:List Value} {H:AH} {Q:Value→AH→Prop} (ho:O f=none) (he:E f=some F) (hl:as.length=F.np) (h:Wp E O F.body (Fr.of as) H (x7 F.res Q)):Ca E O f as H Q:=by
 obtain ⟨n,ex,kU,H1,e,q⟩:=h
 cases ex with
 |exit i=>exact q.elim
 |normal=>
  obtain ⟨vs,h1,q⟩:=q
  refine ⟨n+1,_,_,?_,q⟩
  simp only [fW,ho,he]
  rw [nb,decide_eq_true hl,cond_true,e]
  simp [h1]
 |ret=>
  obtain ⟨vs,h1,q⟩:=q
  refine ⟨n+1,_,_,?_,q⟩
  simp only [fW,ho,he]
  rw [nb,decide_eq_true hl,cond_true,e]
  simp [h1]
theorem Ca.qF {f:Nat} {g:List Value→AH→Option (Value×AH)} {as:List Value} {H H':AH} {x:Value} {Q:Value→AH→Prop} (ho:O f=some g) (h:g as H=some (x,H')) (q:Q x H'):Ca E O f as H Q:=
 ⟨1,x,H',by simp [fW,ho,h],q⟩
end
end Go.Proofs.YtppcmpmnglaleaaGreatDoor.A
namespace Go.Proofs.YtppcmpmnglaleaaGreatDoor.A
open Go Go.RowKit
def vd (W:World) (b:Nat):Option qy:=match W.heap[b]?with
 |some (.cells cs _ _)=>some (.cells 1048576 cs.toList)
 |_=>none
def H0 (W:World):AH:=⟨vd W,W.heap.size,W.heap.size,.nil,none⟩
def tf (W:World):bZ:=⟨W.heap.size,W.heap.size,fun b=>if b<W.heap.size then some ⟨b,0,0,1⟩else none⟩
theorem As (W:World) (b:Nat):(H0 W).raw b=vd W b:=rfl
theorem QT (W:World):Rel W (tf W) (H0 W) W where
 n0:=rfl
 rR:=asp _
 r5:=asp _
 c0:=rfl
 below:=Below.refl _ _
 kh:=fun b hb=>if_pos hb
 ma:=fun b z cs hb hg=>by
  rw [As]at hg
  unfold vd at hg
  split at hg
  ·rename_i dF e fz hw
   cases hg
   exact ⟨e,fz,by rw [hw]⟩
  ·cases hg
 cells:=fun b l z cs hb hl hg=>by
  have:¬ b<W.heap.size:=Nat.not_lt.2 hb
  simp only [tf,if_neg this]at hl
  cases hl
 maps:=fun b l es hb hl hg=>by
  have:¬ b<W.heap.size:=Nat.not_lt.2 hb
  simp only [tf,if_neg this]at hl
  cases hl
 inj:=fun b1 b2 l1 l2 mj iL h1 h2 _ _ _=>by
  have:¬ b1<W.heap.size:=Nat.not_lt.2 mj
  simp only [tf,if_neg this]at h1
  cases h1
 qn:=fun b s e=>by cases e
theorem QU (W:World):rm (tf W) (H0 W):=fun b hb=>if_neg (Nat.not_lt.2 hb)
theorem rB {P:Program} {E:Env} {O:kj} (hm:P.follows .mixedOrders=true) (hE:G3 P E) (hO:Ci P O) {f:Nat} {as:List Value} {as':Array Value} {W:World} (hv:VL (tf W) as as'.toList)
 (h:Ca E O f as (H0 W) (fun x _=>x= .bool true)):Calls P f as' W fun e w'=>e= .returned (.bool true)∧Below W.heap.size W w':=by
 obtain ⟨n,x,H',e,rfl⟩:=h
 refine ((Cj hm hE hO n f as _ _ _ e).2 W (tf W) W as' (QT W) (QU W) hv).mono ?_
 rintro e w' ⟨dT,v',rfl,hV,R,G⟩
 rw [hV.bool]
 exact ⟨rfl,R.below⟩
def Good (P:Program) (f:Nat) (F:AF):Prop:=∃fn,P.funcs[f]?=some fn∧aq P fn=some F
def Au (P:Program) (g:Nat→Nat) (t:T (Option AF)):Prop:=∀k F,t.get none k=some F→Good P (g k) F
theorem Au.nil {P:Program} {g:Nat→Nat}:Au P g .nil:=fun k F h=>by cases k<;>cases h
theorem Au.node {P:Program} {g:Nat→Nat} {v:Option AF} {l r:T (Option AF)} (h:∀F,v=some F→Good P (g 0) F) (hl:Au P (fun k=>g (2*k+1)) l) (hr:Au P (fun k=>g (2*k+2)) r):Au P g (.node v l r):=by
 intro k F hk
 simp only [T.get,nb,Bool.cond_decide]at hk
 split at hk
 ·rename_i e
  subst e
  exact h F hk
 ·split at hk
  ·have:=hl _ F hk
   simp only at this
   rwa [show 2*(k/2)+1=k by omega]at this
  ·have:=hr _ F hk
   simp only at this
   rwa [show 2*(k/2- 1)+2=k by omega]at this
open Go Go.RowKit
def He:AH:=⟨fun _=>none,0,0,.nil,none⟩
def isTrue:Option (Value×AH)→Bool
 |some (.bool true,_)=>true
 |_=>false
end Go.Proofs.YtppcmpmnglaleaaGreatDoor.A
namespace Go.Proofs.YtppcmpmnglaleaaGreatDoor.A
open Go Go.RowKit
section
variable{E:Env} {O:kj}
def Li (E:Env) (O:kj) (r:Option (jN×AH)) (Q:Value→AH→Prop):Prop:=match r with
 |some (.v x,H)=>Q x H
 |some (.enter f as,H)=>Ca E O f as H Q
 |none=>False
theorem Lj (fr:Fr) (H:AH) (Q:Ex→Fr→AH→Prop):Wp E O .skip fr H Q↔Q .normal fr H:=by
 refine ⟨fun⟨n,ex,cq,H',e,q⟩=>?_,Wp.skip⟩
 cases n with
 |zero=>simp [aE]at e
 |succ n=>simp only [aE,asm,ast]at e;obtain ⟨rfl,rfl,rfl⟩:=e;exact q
theorem QV (fr:Fr) (H:AH) (Q:Ex→Fr→AH→Prop):Wp E O .ret fr H Q↔Q .ret fr H:=by
 refine ⟨fun⟨n,ex,cq,H',e,q⟩=>?_,Wp.ret⟩
 cases n with
 |zero=>simp [aE]at e
 |succ n=>simp only [aE,asm,ast]at e;obtain ⟨rfl,rfl,rfl⟩:=e;exact q
theorem Lk (i:Nat) (fr:Fr) (H:AH) (Q:Ex→Fr→AH→Prop):Wp E O (.exit i) fr H Q↔Q (.exit i) fr H:=by
 refine ⟨fun⟨n,ex,cq,H',e,q⟩=>?_,Wp.exit⟩
 cases n with
 |zero=>simp [aE]at e
 |succ n=>simp only [aE,asm,ast]at e;obtain ⟨rfl,rfl,rfl⟩:=e;exact q
theorem QW (l:List AO) (fr:Fr) (H:AH) (Q:Ex→Fr→AH→Prop):Wp E O (.bR l) fr H Q↔Wo E O l fr H (Q .normal):=by
 refine ⟨fun⟨n,ex,cq,H',e,q⟩=>?_,Wp.bR⟩
 cases n with
 |zero=>simp [aE]at e
 |succ n=>
  simp only [aE]at e
  cases h:ops (fW E O (n+1)) l fr H with
  |none=>simp [h]at e
  |some r=>
   simp only [h,asm,ast]at e
   obtain ⟨rfl,rfl,rfl⟩:=e
   exact ⟨n+1,_,_,h,q⟩
theorem QX (a b:AC) (fr:Fr) (H:AH) (Q:Ex→Fr→AH→Prop):Wp E O (.seq a b) fr H Q↔Wp E O a fr H (G5 (fun cq H'=>Wp E O b cq H' Q) Q):=by
 refine ⟨fun⟨n,ex,cq,H',e,q⟩=>?_,Wp.seq⟩
 cases n with
 |zero=>simp [aE]at e
 |succ n=>
  simp only [aE]at e
  cases h:aE (fW E O (n+1)) n a fr H with
  |none=>simp [h]at e
  |some r=>
   obtain ⟨KE,kU,H1⟩:=r
   have h':=fY (Nat.le_succ n) h
   cases KE with
   |normal=>
    simp only [h]at e
    exact ⟨n+1,_,_,_,h',n+1,_,_,_,fY (Nat.le_succ n) e,q⟩
   |exit i=>
    simp only [h,asm,ast]at e
    obtain ⟨rfl,rfl,rfl⟩:=e
    exact ⟨n+1,_,_,_,h',q⟩
   |ret=>
    simp only [h,asm,ast]at e
    obtain ⟨rfl,rfl,rfl⟩:=e
    exact ⟨n+1,_,_,_,h',q⟩
theorem G6 (i:Nat) (a:AC) (fr:Fr) (H:AH) (Q:Ex→Fr→AH→Prop):Wp E O (.block i a) fr H Q↔Wp E O a fr H (te i Q):=by
 refine ⟨fun⟨n,ex,cq,H',e,q⟩=>?_,Wp.block⟩
 cases n with
 |zero=>simp [aE]at e
 |succ n=>
  simp only [aE]at e
  cases h:aE (fW E O (n+1)) n a fr H with
  |none=>simp [h]at e
  |some r=>
   obtain ⟨KE,kU,H1⟩:=r
   have h':=fY (Nat.le_succ n) h
   refine ⟨n+1,KE,kU,H1,h',?_⟩
   cases KE with
   |normal=>simp only [h,asm,ast]at e;obtain ⟨rfl,rfl,rfl⟩:=e;exact q
   |ret=>simp only [h,asm,ast]at e;obtain ⟨rfl,rfl,rfl⟩:=e;exact q
   |exit j=>
    simp only [h,nb,Bool.cond_decide]at e
    simp only [te]
    by_cases hj:j=i
    ·rw [if_pos hj]at e⊢
     simp only [asm,ast]at e;obtain ⟨rfl,rfl,rfl⟩:=e;exact q
    ·rw [if_neg hj]at e⊢
     simp only [asm,ast]at e;obtain ⟨rfl,rfl,rfl⟩:=e;exact q
theorem iW (o:AO) (l:List AO) (fr:Fr) (H:AH) (Q:Fr→AH→Prop):Wo E O (o::l) fr H Q↔rV E O o fr H (fun cq H'=>Wo E O l cq H' Q):=by
 refine ⟨fun⟨n,cq,H',e,q⟩=>?_,Wo.cons⟩
 simp only [ops]at e
 cases h:kF (fW E O n) o fr H with
 |none=>simp [h]at e
 |some r=>
  simp only [h]at e
  exact ⟨n,_,_,h,n,_,_,e,q⟩
theorem gM (o:AO) (fr:Fr) (H:AH) (Q:Fr→AH→Prop) (hw:o.wanted fr=true):rV E O o fr H Q↔Li E O (aA o.o (X.ev fr) H) (fun x H'=>Q (fr.aU o.d x) H'):=by
 constructor
 ·rintro ⟨n,cq,H',e,q⟩
  obtain ⟨x,rfl,h⟩:=ey.1 e
  cases h with
  |off a _ _=>rw [hw]at a;cases a
  |val a b=>rw [b];exact q
  |call a f as H1 b c=>rw [b];exact ⟨n,x,H',c,q⟩
 ·intro h
  cases hr:aA o.o (X.ev fr) H with
  |none=>rw [hr]at h;exact h.elim
  |some r=>
   obtain ⟨res,H1⟩:=r
   rw [hr]at h
   cases res with
   |v x=>exact rV.val hw hr h
   |enter f as=>exact rV.call hw hr h
theorem Ck (o:AO) (fr:Fr) (H:AH) (Q:Fr→AH→Prop) (hw:o.wanted fr=false):rV E O o fr H Q↔Q (fr.aU o.d undef) H:=by
 constructor
 ·rintro ⟨n,cq,H',e,q⟩
  obtain ⟨x,rfl,h⟩:=ey.1 e
  cases h with
  |off _ a b=>subst a;subst b;exact q
  |val a b=>rw [hw]at a;cases a
  |call a f as H1 b c=>rw [hw]at a;cases a
 ·exact fun h=>rV.off hw h
inductive Ko where
 |seq (b:AC)
 |aX (i:Nat)
def Un (E:Env) (O:kj):Ex→List Ko→Fr→AH→(Ex→Fr→AH→Prop)→Prop
 |ex,[],fr,H,Q=>Q ex fr H
 | .normal,.seq b::ks,fr,H,Q=>Wp E O b fr H (fun ex cq H'=>Un E O ex ks cq H' Q)
 | .normal,.aX _::ks,fr,H,Q=>Un E O .normal ks fr H Q
 | .exit j,.seq _::ks,fr,H,Q=>Un E O (.exit j) ks fr H Q
 | .exit j,.aX i::ks,fr,H,Q=>if j=i then Un E O .normal ks fr H Q else Un E O (.exit j) ks fr H Q
 | .ret,_::ks,fr,H,Q=>Un E O .ret ks fr H Q
def Wk (E:Env) (O:kj) (c:AC) (ks:List Ko) (fr:Fr) (H:AH) (Q:Ex→Fr→AH→Prop):Prop:=Wp E O c fr H (fun ex cq H'=>Un E O ex ks cq H' Q)
def Wr (E:Env) (O:kj) (l:List AO) (ks:List Ko) (fr:Fr) (H:AH) (Q:Ex→Fr→AH→Prop):Prop:=Wo E O l fr H (fun cq H'=>Un E O .normal ks cq H' Q)
def uJ (l:List AO) (ck:List (Nat×Nat×Nat)) (acc:List (Fr×AH)):Bool:=chain acc.reverse&&ck.all (kQ l acc.reverse)
def Wd (E:Env) (O:kj) (l0:List AO) (ck:List (Nat×Nat×Nat)) (acc:List (Fr×AH)) (l:List AO) (ks:List Ko) (fr:Fr) (H:AH) (Q:Ex→Fr→AH→Prop):Prop:=
 Wt E O l fr H (fun ss=>uJ l0 ck (ss.reverse++acc)=true∧Un E O .normal ks (gJ (fr,H) ss).1 (gJ (fr,H) ss).2 Q)
variable{ks:List Ko} {fr:Fr} {H:AH} {Q:Ex→Fr→AH→Prop}
@[simp]theorem G7 (ex:Ex):Un E O ex [] fr H Q=Q ex fr H:=by cases ex<;>rfl
@[simp]theorem ajC (b:AC):Un E O .normal (.seq b::ks) fr H Q=Wk E O b ks fr H Q:=rfl
@[simp]theorem ajD (i:Nat):Un E O .normal (.aX i::ks) fr H Q=Un E O .normal ks fr H Q:=rfl
@[simp]theorem ajE (j:Nat) (b:AC):Un E O (.exit j) (.seq b::ks) fr H Q=Un E O (.exit j) ks fr H Q:=rfl
theorem Wl (i j:Nat):Un E O (.exit j) (.aX i::ks) fr H Q=if j=i then Un E O .normal ks fr H Q else Un E O (.exit j) ks fr H Q:=rfl
@[simp]theorem QY (i:Nat):Un E O (.exit i) (.aX i::ks) fr H Q=Un E O .normal ks fr H Q:=by rw [Wl,if_pos rfl]
@[simp]theorem adJ (k:Ko):Un E O .ret (k::ks) fr H Q=Un E O .ret ks fr H Q:=by cases k<;>rfl
@[simp]theorem Ll:Wk E O .skip ks fr H Q↔Un E O .normal ks fr H Q:=Lj _ _ _
@[simp]theorem QZ:Wk E O .ret ks fr H Q↔Un E O .ret ks fr H Q:=QV _ _ _
@[simp]theorem Lm (i:Nat):Wk E O (.exit i) ks fr H Q↔Un E O (.exit i) ks fr H Q:=Lk _ _ _ _
@[simp]theorem Q5 (l:List AO):Wk E O (.bR l) ks fr H Q↔Wr E O l ks fr H Q:=QW _ _ _ _
@[simp]theorem Q6 (a b:AC):Wk E O (.seq a b) ks fr H Q↔Wk E O a (.seq b::ks) fr H Q:=by
 unfold Wk
 rw [QX]
 have e:G5 (fun cq H'=>Wp E O b cq H' fun ex cq H'=>Un E O ex ks cq H' Q) (fun ex cq H'=>Un E O ex ks cq H' Q)=fun ex cq H'=>Un E O ex (.seq b::ks) cq H' Q:=by
  funext ex cq H'
  cases ex<;>rfl
 rw [e]
@[simp]theorem G8 (i:Nat) (a:AC):Wk E O (.block i a) ks fr H Q↔Wk E O a (.aX i::ks) fr H Q:=by
 unfold Wk
 rw [G6]
 have e:te i (fun ex cq H'=>Un E O ex ks cq H' Q)=fun ex cq H'=>Un E O ex (.aX i::ks) cq H' Q:=by
  funext ex cq H'
  cases ex<;>rfl
 rw [e]
theorem rC {x:X} {a b:AC} {c:Bool} {Q:Ex→Fr→AH→Prop} (hx:x.ev fr= .bool c):Wp E O (.cond x a b) fr H Q↔Wp E O (bif c then a else b) fr H Q:=by
 refine ⟨?_,Wp.cond hx⟩
 rintro ⟨n,ex,cq,H',e,q⟩
 cases n with
 |zero=>simp [aE]at e
 |succ n=>
  simp only [aE,hx]at e
  cases c<;>exact ⟨n+1,_,_,_,fY (Nat.le_succ n) e,q⟩
@[simp]theorem G9 {x:X} {a b:AC} (hx:x.ev fr= .bool true):Wk E O (.cond x a b) ks fr H Q↔Wk E O a ks fr H Q:=rC hx
@[simp]theorem Hg {x:X} {a b:AC} (hx:x.ev fr= .bool false):Wk E O (.cond x a b) ks fr H Q↔Wk E O b ks fr H Q:=rC hx
@[simp]theorem Q7:Wr E O [] ks fr H Q↔Un E O .normal ks fr H Q:=by
 refine ⟨fun⟨n,cq,H',e,q⟩=>?_,fun q=>Wo.nil q⟩
 simp only [ops,asm,ast]at e
 obtain ⟨rfl,rfl⟩:=e
 exact q
def cN.bh:cN→Bool
 | .call _ _| .callv _ _=>true
 |_=>false
def Cm:Option (jN×AH)→Bool
 |some (.v _,_)=>true
 |_=>false
def valOf:Option (jN×AH)→Value
 |some (.v x,_)=>x
 |_=>undef
def gN (H:AH):Option (jN×AH)→AH
 |some (_,H')=>H'
 |none=>H
@[simp]theorem ajF (x:Value) (H:AH):Cm (some (.v x,H))=true:=rfl
@[simp]theorem aaj (x:Value) (H:AH):valOf (some (.v x,H))=x:=rfl
@[simp]theorem Wm (x:Value) (H H':AH):gN H (some (.v x,H'))=H':=rfl
theorem sn (r:Option (jN×AH)) (hc:∀f as H',r≠some (.enter f as,H')) (Q:Value→AH→Prop):Li E O r Q↔Cm r=true∧Q (valOf r) (gN H r):=by
 cases r with
 |none=>simp [Li,Cm]
 |some q=>
  obtain ⟨res,H'⟩:=q
  cases res with
  |v x=>simp [Li]
  |enter f as=>exact absurd rfl (hc f as H')
theorem so {p:cN} {ρ:X→Value} (h:p.bh=false):∀f as H',aA p ρ H≠some (.enter f as,H'):=by
 intro f as H' e
 cases p<;>first
  |(simp [cN.bh]at h;done)
  |(simp only [aA,Bool.cond_eq_ite]at e
    (repeat' split at e)<;>simp at e)
@[simp]theorem adK (d:Nat) (p:cN) (l:List AO) (h:p.bh=false):Wr E O (⟨none,some d,p⟩::l) ks fr H Q↔
  Cm (aA p (X.ev fr) H)=true∧Wr E O l ks (fr.put d (valOf (aA p (X.ev fr) H))) (gN H (aA p (X.ev fr) H)) Q:=by
 unfold Wr
 rw [iW,gM _ _ _ _ rfl,sn _ (so h)];rfl
@[simp]theorem adL (p:cN) (l:List AO) (h:p.bh=false):Wr E O (⟨none,none,p⟩::l) ks fr H Q↔
  Cm (aA p (X.ev fr) H)=true∧Wr E O l ks fr (gN H (aA p (X.ev fr) H)) Q:=by
 unfold Wr
 rw [iW,gM _ _ _ _ rfl,sn _ (so h)];rfl
@[simp]theorem Wn {t:Nat} {b:Bool} (d:Option Nat) (p:cN) (l:List AO) (h:fr.get t= .bool b):Wr E O (⟨some (t,b),d,p⟩::l) ks fr H Q↔Wr E O (⟨none,d,p⟩::l) ks fr H Q:=by
 unfold Wr
 rw [iW,iW,gM _ _ _ _ (by simp [AO.wanted,h]),gM _ _ _ _ rfl]
theorem Av {t:Nat} {b:Bool} (d:Option Nat) (p:cN) (l:List AO) (h:fr.get t≠ .bool b):Wr E O (⟨some (t,b),d,p⟩::l) ks fr H Q↔Wr E O l ks (fr.aU d undef) H Q:=by
 unfold Wr
 rw [iW,Ck]
 unfold AO.wanted
 dsimp only
 cases hq:fr.get t<;>first
  |rfl
  |(rw [hq]at h;simpa using h)
@[simp]theorem aak {t:Nat} (d:Nat) (p:cN) (l:List AO) (h:fr.get t= .bool false):Wr E O (⟨some (t,true),some d,p⟩::l) ks fr H Q↔Wr E O l ks (fr.put d undef) H Q:=
 Av _ _ _ (by rw [h];simp)
@[simp]theorem aal {t:Nat} (d:Nat) (p:cN) (l:List AO) (h:fr.get t= .bool true):Wr E O (⟨some (t,false),some d,p⟩::l) ks fr H Q↔Wr E O l ks (fr.put d undef) H Q:=
 Av _ _ _ (by rw [h];simp)
theorem bB {d:Nat} {f:Nat} {as:List X} {l:List AO} (h:Ca E O f (as.map (X.ev fr)) H (fun x H'=>Wr E O l ks (fr.put d x) H' Q)):Wr E O (⟨none,some d,.call f as⟩::l) ks fr H Q:=by
 unfold Wr
 rw [iW,gM _ _ _ _ rfl]
 exact h
theorem pF (l:List AO) (ck:List (Nat×Nat×Nat)) (h:Wd E O l ck [(fr,H)] l ks fr H Q):Wk E O (.bA l ck) ks fr H Q:=by
 refine Wp.bA ?_
 obtain ⟨n,ss,e,h1,h2⟩:=h
 unfold uJ at h1
 simp only [List.reverse_append,List.reverse_cons,List.reverse_nil,List.nil_append,List.reverse_reverse,List.cons_append,aso]at h1
 exact ⟨n,ss,e,h1,h2⟩
variable{l0:List AO} {ck:List (Nat×Nat×Nat)} {acc:List (Fr×AH)}
@[simp]theorem Q8:Wd E O l0 ck acc [] ks fr H Q↔uJ l0 ck acc=true∧Un E O .normal ks fr H Q:=by
 refine ⟨fun⟨n,ss,e,q⟩=>?_,fun q=>Wt.nil (by simpa [gJ]using q)⟩
 simp only [kG,asm]at e
 subst e
 simpa [gJ]using q
theorem jR (o:AO) (l:List AO) (fr:Fr) (H:AH) (Q:List (Fr×AH)→Prop):Wt E O (o::l) fr H Q↔rV E O o fr H (fun cq H'=>Wt E O l cq H' (fun ss=>Q ((cq,H')::ss))):=by
 refine ⟨fun⟨n,ss,e,q⟩=>?_,Wt.cons⟩
 simp only [kG]at e
 cases h:kF (fW E O n) o fr H with
 |none=>simp [h]at e
 |some r=>
  simp only [h]at e
  cases h2:kG (fW E O n) l r.1 r.2 with
  |none=>simp [h2]at e
  |some ss'=>
   simp only [h2,asm]at e
   subst e
   exact ⟨n,_,_,h,n,_,h2,q⟩
theorem jS (o:AO) (l:List AO):Wd E O l0 ck acc (o::l) ks fr H Q↔rV E O o fr H (fun cq H'=>Wd E O l0 ck ((cq,H')::acc) l ks cq H' Q):=by
 unfold Wd
 rw [jR]
 simp only [gJ,List.reverse_cons,List.append_assoc,List.singleton_append]
@[simp]theorem adM (d:Nat) (p:cN) (l:List AO) (h:p.bh=false):Wd E O l0 ck acc (⟨none,some d,p⟩::l) ks fr H Q↔
  Cm (aA p (X.ev fr) H)=true∧Wd E O l0 ck ((fr.put d (valOf (aA p (X.ev fr) H)),gN H (aA p (X.ev fr) H))::acc) l ks (fr.put d (valOf (aA p (X.ev fr) H))) (gN H (aA p (X.ev fr) H)) Q:=by
 rw [jS,gM _ _ _ _ rfl,sn _ (so h)];rfl
@[simp]theorem adN (p:cN) (l:List AO) (h:p.bh=false):Wd E O l0 ck acc (⟨none,none,p⟩::l) ks fr H Q↔
  Cm (aA p (X.ev fr) H)=true∧Wd E O l0 ck ((fr,gN H (aA p (X.ev fr) H))::acc) l ks fr (gN H (aA p (X.ev fr) H)) Q:=by
 rw [jS,gM _ _ _ _ rfl,sn _ (so h)];rfl
@[simp]theorem Ws {t:Nat} {b:Bool} (d:Option Nat) (p:cN) (l:List AO) (h:fr.get t= .bool b):Wd E O l0 ck acc (⟨some (t,b),d,p⟩::l) ks fr H Q↔Wd E O l0 ck acc (⟨none,d,p⟩::l) ks fr H Q:=by
 rw [jS,jS,gM _ _ _ _ (by simp [AO.wanted,h]),gM _ _ _ _ rfl]
theorem Aw {t:Nat} {b:Bool} (d:Option Nat) (p:cN) (l:List AO) (h:fr.get t≠ .bool b):Wd E O l0 ck acc (⟨some (t,b),d,p⟩::l) ks fr H Q↔Wd E O l0 ck ((fr.aU d undef,H)::acc) l ks (fr.aU d undef) H Q:=by
 rw [jS,Ck]
 unfold AO.wanted
 dsimp only
 cases hq:fr.get t<;>first
  |rfl
  |(rw [hq]at h;simpa using h)
@[simp]theorem aam {t:Nat} (d:Nat) (p:cN) (l:List AO) (h:fr.get t= .bool false):Wd E O l0 ck acc (⟨some (t,true),some d,p⟩::l) ks fr H Q↔Wd E O l0 ck ((fr.put d undef,H)::acc) l ks (fr.put d undef) H Q:=
 Aw _ _ _ (by rw [h];simp)
@[simp]theorem aan {t:Nat} (d:Nat) (p:cN) (l:List AO) (h:fr.get t= .bool true):Wd E O l0 ck acc (⟨some (t,false),some d,p⟩::l) ks fr H Q↔Wd E O l0 ck ((fr.put d undef,H)::acc) l ks (fr.put d undef) H Q:=
 Aw _ _ _ (by rw [h];simp)
theorem ni {d:Nat} {f:Nat} {as:List X} {l:List AO} (h:Ca E O f (as.map (X.ev fr)) H (fun x H'=>Wd E O l0 ck ((fr.put d x,H')::acc) l ks (fr.put d x) H' Q)):Wd E O l0 ck acc (⟨none,some d,.call f as⟩::l) ks fr H Q:=by
 rw [jS,gM _ _ _ _ rfl]
 exact h
theorem Ca.dO {f:Nat} {F:AF} {as:List Value} {H:AH} {Q:Value→AH→Prop} (ho:O f=none) (he:E f=some F) (hl:as.length=F.np) (h:Wk E O F.body [] (Fr.of as) H (x7 F.res Q)):Ca E O f as H Q:=
 Ca.body ho he hl (Wp.mono h fun ex fr H q=>by simpa using q)
def x8 (E:Env) (O:kj) (I:Nat→Fr→AH→Prop) (k:Nat) (ks:List Ko) (Q:Ex→Fr→AH→Prop):Ex→Fr→AH→Prop
 | .normal,fr,H=>∃j,j<k∧I j fr H
 | .exit i,fr,H=>Un E O (.exit i) ks fr H Q
 | .ret,fr,H=>Un E O .ret ks fr H Q
@[simp]theorem aao (I:Nat→Fr→AH→Prop) (k:Nat):x8 E O I k ks Q .normal fr H=∃j,j<k∧I j fr H:=rfl
@[simp]theorem aap (I:Nat→Fr→AH→Prop) (k i:Nat):x8 E O I k ks Q (.exit i) fr H=Un E O (.exit i) ks fr H Q:=rfl
@[simp]theorem aaq (I:Nat→Fr→AH→Prop) (k:Nat):x8 E O I k ks Q .ret fr H=Un E O .ret ks fr H Q:=rfl
theorem eL {a:AC} (I:Nat→Fr→AH→Prop) (step:∀k fr H,I k fr H→Wk E O a [] fr H (x8 E O I k ks Q)) (k:Nat) (h:I k fr H):Wk E O (.loop a) ks fr H Q:=by
 refine Wp.loop I (fun k fr H hI=>?_) k h
 refine (step k fr H hI).mono ?_
 intro ex cq H' q
 rw [G7]at q
 cases ex<;>exact q
attribute [simp] Fr.bV Fr.fv X.ev rk RS.all RS.get
@[simp]theorem adO (r:List RS) (Q:Value→AH→Prop):x7 r Q .normal fr H=∃vs,RS.all fr H r=some vs∧Q (rk vs) H:=rfl
@[simp]theorem adP (r:List RS) (Q:Value→AH→Prop):x7 r Q .ret fr H=∃vs,RS.all fr H r=some vs∧Q (rk vs) H:=rfl
@[simp]theorem UB (x:X):(cN.mv x).bh=false:=rfl
@[simp]theorem O6 (c a b:X):(cN.pick c a b).bh=false:=rfl
@[simp]theorem Ln (z:List Value):(cN.alloc z).bh=false:=rfl
@[simp]theorem Q9 (x:X):(cN.box x).bh=false:=rfl
@[simp]theorem Lo (z:List Value) (ps:List (Nat×Nat×X)):(cN.build z ps).bh=false:=rfl
@[simp]theorem Ra (len sz:Nat) (z:List Value) (ps:List (Nat×Nat×X)):(cN.bsl len sz z ps).bh=false:=rfl
@[simp]theorem UC (x:X):(cN.ld x).bh=false:=rfl
@[simp]theorem Rb (n:Nat) (x:X):(cN.ldn n x).bh=false:=rfl
@[simp]theorem UD (n:Nat) (x v:X):(cN.st n x v).bh=false:=rfl
@[simp]theorem O7 (x:X):(cN.bz x).bh=false:=rfl
@[simp]theorem Rc (op:BinOp) (x y:X):(cN.bin op x y).bh=false:=rfl
@[simp]theorem Re (k:Nat) (neg:Bool) (x y:X):(cN.eqk k neg x y).bh=false:=rfl
@[simp]theorem UE (op:UnOp) (x:X):(cN.un op x).bh=false:=rfl
@[simp]theorem Rf (k:IntKind) (x:X):(cN.nP k x).bh=false:=rfl
@[simp]theorem Rg (x:X):(cN.Um x).bh=false:=rfl
@[simp]theorem Rh (f:Nat) (first cap:List X):(cN.mkf f first cap).bh=false:=rfl
@[simp]theorem Lp:cN.mkmap.bh=false:=rfl
@[simp]theorem O8 (sz bytes:Nat) (z:List Value) (x:X):(cN.mksl sz bytes z x).bh=false:=rfl
@[simp]theorem UF (sz:Nat) (x:X) (lo hi mx:Option X):(cN.sl sz x lo hi mx).bh=false:=rfl
@[simp]theorem UG (off:Nat) (x:X):(cN.fa off x).bh=false:=rfl
@[simp]theorem UJ (sz:Nat) (x i:X):(cN.ia sz x i).bh=false:=rfl
@[simp]theorem Ri (len sz:Nat) (x i:X):(cN.qo len sz x i).bh=false:=rfl
@[simp]theorem UK (x i:X):(cN.ix x i).bh=false:=rfl
@[simp]theorem O9 (kk:Nat) (z:Value) (x k:X) (ok:Bool):(cN.look kk z x k ok).bh=false:=rfl
@[simp]theorem Rj (kk:Nat) (x k v:X):(cN.qp kk x k v).bh=false:=rfl
@[simp]theorem Rl (x:X) (i:Nat):(cN.ext x i).bh=false:=rfl
@[simp]theorem Rm (sz bytes:Nat) (s x:X):(cN.app sz bytes s x).bh=false:=rfl
@[simp]theorem Pa (sz:Nat) (d s:X):(cN.copy sz d s).bh=false:=rfl
@[simp]theorem Pb (x:X):(cN.lens x).bh=false:=rfl
@[simp]theorem Pc (x:X):(cN.eE x).bh=false:=rfl
@[simp]theorem Ro (t:Nat) (x:X):(cN.Qr t x).bh=false:=rfl
@[simp]theorem Rp (x:X) (l:List X):(cN.mxl x l).bh=false:=rfl
@[simp]theorem Rq (x:X) (l:List X):(cN.mnl x l).bh=false:=rfl
@[simp]theorem Rr (neg:Bool) (offs:List (Nat×Nat)) (x y:X):(cN.eqs neg offs x y).bh=false:=rfl
@[simp]theorem aar (b:Bool):F8 .not (.bool b)=some (.bool !b):=rfl
@[simp]theorem aas (k:IntKind) (n:Int):F8 .neg (.int k n)=some (.int k (k.wrap (0- n))):=rfl
@[simp]theorem Wu (k:IntKind) (a b:Int):cx .add (.int k a) (.int k b)=some (.int k (k.wrap (a+b))):=by simp [cx,dt,ju]
@[simp]theorem Wv (k:IntKind) (a b:Int):cx .sub (.int k a) (.int k b)=some (.int k (k.wrap (a- b))):=by simp [cx,dt,ju]
@[simp]theorem Ww (k:IntKind) (a b:Int):cx .mul (.int k a) (.int k b)=some (.int k (k.wrap (a*b))):=by simp [cx,dt,ju]
@[simp]theorem Wx (k:IntKind) (a b:Int):cx .eql (.int k a) (.int k b)=some (.bool (decide (a=b))):=by simp [cx,dt,ju];rfl
@[simp]theorem Wy (k:IntKind) (a b:Int):cx .neq (.int k a) (.int k b)=some (.bool (!decide (a=b))):=by simp [cx,dt,ju];rfl
@[simp]theorem Wz (k:IntKind) (a b:Int):cx .lss (.int k a) (.int k b)=some (.bool (decide (a<b))):=by simp [cx,dt,ju]
@[simp]theorem WA (k:IntKind) (a b:Int):cx .leq (.int k a) (.int k b)=some (.bool (decide (a≤b))):=by simp [cx,dt,ju]
@[simp]theorem WB (k:IntKind) (a b:Int):cx .gtr (.int k a) (.int k b)=some (.bool (decide (a>b))):=by simp [cx,dt,ju]
@[simp]theorem WC (k:IntKind) (a b:Int):cx .geq (.int k a) (.int k b)=some (.bool (decide (a≥b))):=by simp [cx,dt,ju]
def bY (a b:ByteArray):Bool:=a.data.toList==b.data.toList
@[simp]theorem WD (a b:ByteArray):cx .eql (.string a) (.string b)=some (.bool (bY a b)):=rfl
@[simp]theorem WE (a b:ByteArray):cx .neq (.string a) (.string b)=some (.bool (!bY a b)):=rfl
theorem jH {a b:ByteArray}:bY a b=true↔a=b:=by
 unfold bY
 constructor
 ·intro h
  have:a.data.toList=b.data.toList:=by simpa using h
  exact ByteArray.ext (Array.toList_inj.1 this)
 ·rintro rfl;simp
def df (s:ByteArray) (i:Nat):Int:=((s[i]?).getD 0).toNat
theorem Hh {x i:X} {ρ:X→Value} {H:AH} {s:ByteArray} {n:Nat} (hx:ρ x= .string s) (hi:ρ i= .int .i64 n) (h:n<s.size):aA (.ix x i) ρ H=some (.v (.int .u8 (df s n)),H):=by
 simp only [aA,hx,hi]
 rw [if_pos (by omega)]
 simp only [Int.toNat_natCast]
 unfold df
 have:s[n]?=some s[n]:=getElem?_pos s n h
 rw [this]
 rfl
end
end Go.Proofs.YtppcmpmnglaleaaGreatDoor.A
