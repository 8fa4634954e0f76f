/- Texts that stand one behind the other: AbsB, AbsC, AbsD, AbsE, AbsF, AbsG, AbsH, AbsI, AbsJ, AbsK, AbsL, AbsM. -/
import Derived.Test.YtppcmpmnglaleaaGreatDoorG8
import Derived.Deep.LoopGhost
import Derived.Orders
set_option linter.unusedVariables false
set_option linter.unusedSimpArgs false
namespace Go.Proofs.YtppcmpmnglaleaaGreatDoor.A
open Go Go.RowKit
section
variable{P:Program}
def CT (P:Program) (f:Nat) (as:List Value) (H:AH) (v:Value) (H':AH):Prop:=
 ∀(w0:World) (φ:bl) (w:World) (as':Array Value),Rel w0 φ H w→oE φ H→VL φ as as'.toList→
  Calls P f as' w fun e w'=>∃cN v',e= .returned v'∧V cN v v'∧Rel w0 cN H' w'∧Grow φ H w cN H' w'
def nH (P:Program) (call:Cl):Prop:=∀f as H v H',call f as H=some (v,H')→AP P f∧CT P f as H v H'
theorem V.AQ {φ:bl} {v:Value} {b:Bool} (h:V φ v (.bool b)):v= .bool b:=by
 cases h;rfl
theorem AR {φ:bl} {fr:Fr} {a:Act} (F:j8 φ fr a) {cg:Array Oper} {o:Oper} {g:Option (Nat×Bool)} {d:Option Nat} {p:cl} (hg:sS cg o.guard=some g):
 Region.wanted o (yielded cg a.tmps)=AO.wanted ⟨g,d,p⟩ fr:=by
 unfold Region.wanted AO.wanted
 cases hq:o.guard with
 |none=>rw [hq]at hg;simp [sS]at hg;subst hg;rfl
 |some jb=>
  obtain ⟨j,b⟩:=jb
  rw [hq]at hg
  simp only [sS]at hg
  cases ht:(cg[j]?).bind (·.dst)with
  |none=>simp [ht]at hg
  |some t=>
   simp [ht]at hg
   subst hg
   dsimp only
   have hv:=F t
   have hy:yielded cg a.tmps j=match a.tmps[t]? with|some (.bool b)=>some b|_=>none:=by
    unfold yielded
    rw [ht]
    rfl
   rw [hy]
   cases iX:fr.get t with
   |bool c=>
    rw [iX]at hv
    have:=hv.bool
    have h2:a.tmps[t]?=some (.bool c):=by
     cases h3:a.tmps[t]? with
     |none=>simp [h3,undef]at this
     |some u=>simp [h3]at this;rw [this]
    rw [h2]
    simp
   |_=>
    have:∀c,a.tmps[t]?≠some (.bool c):=by
     intro c hc
     have h2:a.tmps.getD t undef= .bool c:=by simp [hc]
     rw [h2]at hv
     have:=hv.AQ
     rw [this]at iX
     cases iX
    dsimp only
    cases h3:a.tmps[t]? with
    |none=>rfl
    |some u=>cases u<;>first|rfl|exact absurd h3 (this _)
theorem gG {p:cl} {ρ:X→Value} {H H':AH} {f:Nat} {as:List Value} (h:aS p ρ H=some (.enter f as,H')):dS p= .iT:=by
 cases p<;>first
  |rfl
  |(exfalso
    simp only [aS,Bool.cond_eq_ite]at h
    (repeat' split at h)<;>simp at h)
theorem CU {call:Cl} (jK:nH P call) {nt:Nat} {cg:Array Oper} {i:Nat} {o:Oper} {ao:AO} (hi:cg[i]?=some o) (hc:Ka P nt cg o=some ao)
 {w0 w:World} {φ:bl} {H H':AH} {fr bG:Fr} {a:Act} (F:j8 φ fr a) (R:Rel w0 φ H w) (rE:φ.m H.nx=none) (iX:dS ao.o= .iT→oE φ H) (hs:a.tmps.size=nt) (hd:a.defers=[]) (h:iH call ao fr H=some (bG,H'))
 {Q:Exit→Act→World→Prop} {K:Act→World→Prop}
 (hK:∀cN v v' w',Rel w0 cN H' w'→Grow φ H w cN H' w'→V cN v v'→bG=fr.aM o.dst v→j8 cN bG (a.put o.dst v')→(a.put o.dst v').tmps.size=nt→(a.put o.dst v').defers=[]→K (a.put o.dst v') w'):
 wpOp P cg Q i K a w:=by
 unfold wpOp
 simp only [hi]
 unfold Ka at hc
 split at hc
 case h_2=>cases hc
 rename_i g hg
 obtain ⟨Qq,hc⟩:=au hc
 cases hc
 obtain ⟨p,hp⟩:∃p,GQ P o=p:=⟨_,rfl⟩
 rw [hp]at h iX
 have yU:∀n,o.dst=some n→n<a.tmps.size:=by
  intro n hn
  rw [hn]at Qq
  rw [hs]
  simpa [J9]using Qq
 have G8:∀v,(a.put o.dst v).tmps.size=nt:=by
  intro v
  cases hq:o.dst<;>simp [Act.put,hs]
 have yV:∀v,(a.put o.dst v).defers=[]:=by
  intro v
  cases hq:o.dst<;>simp [Act.put,hd]
 have hw:=AR F (o:=o) (d:=o.dst) (p:=p) hg
 rw [hw]
 unfold iH at h
 cases Qr:AO.wanted ⟨g,o.dst,p⟩ fr with
 |false=>
  simp only [Qr,cond_false,alO,alV]at h
  obtain ⟨rfl,rfl⟩:=h
  simp only [Bool.false_eq_true,if_false]
  exact hK φ undef undef w R (Grow.refl _ _ _) (pZ _) rfl (F.aM yU (pZ _)) (G8 _) (yV _)
 |true=>
  simp only [Qr,cond_true]at h
  simp only [if_true]
  left
  unfold Oper.wp
  cases pr:aS p (X.ev fr) H with
  |none=>simp [pr]at h
  |some rr=>
   obtain ⟨res,H1⟩:=rr
   simp only [pr]at h
   cases res with
   |v x=>
    simp only [alO,alV]at h
    obtain ⟨rfl,rfl⟩:=h
    obtain ⟨cN,w',nx,e1,R',G,hn⟩:=CS F R rE hp pr (fun f as h=>by cases h)
    rw [e1]
    rcases hn with⟨x',rfl,hv⟩|⟨rfl,rfl⟩
    ·rw [Oper.upon_value]
     exact hK cN x x' w' R' G hv rfl ((F.mono G.le).aM yU hv) (G8 _) (yV _)
    ·rw [Oper.upon_skip]
     exact hK cN undef undef w' R' G (pZ _) rfl ((F.mono G.le).aM yU (pZ _)) (G8 _) (yV _)
   |enter f as=>
    simp only at h
    cases nv:call f as H1 with
    |none=>simp [nv]at h
    |some vv=>
     obtain ⟨x,H2⟩:=vv
     simp only [nv,alO,alV]at h
     obtain ⟨rfl,rfl⟩:=h
     obtain ⟨hf,XJ⟩:=jK f as H1 x H2 nv
     obtain ⟨cN,w',nx,e1,R',G,as',rfl,hn⟩:=CS F R rE hp pr (fun f' as' h=>by cases h;exact hf)
     rw [e1,Oper.upon_enter]
     refine (XJ w0 cN w' as' R' (G.fresh (iX (gG pr))) hn).mono ?_
     rintro e w2 ⟨kJ,v',rfl,hv,R2,G2⟩
     exact hK kJ x v' w2 R2 (G.trans G2) hv rfl ((F.mono (G.trans G2).le).aM yU hv) (G8 _) (yV _)
def XL:Ex→Exit
 | .normal=>.normal
 | .exit i=>.exit i
 | .ret=>.ret
def CW (w0:World) (φ:bl) (w:World) (H:AH) (nt:Nat) (ex:Ex) (bG:Fr) (H':AH) (e:Exit) (a':Act) (w':World):Prop:=
 e=XL ex∧∃cN,Rel w0 cN H' w'∧Grow φ H w cN H' w'∧j8 cN bG a'∧a'.tmps.size=nt∧a'.defers=[]
theorem CX {call:Cl} (jK:nH P call) {nt:Nat} {cg:Array Oper} {w0:World} {Q:Exit→Act→World→Prop}:∀(l:List Oper) (B9:List AO) (k:Nat) {w:World} {φ:bl} {H H':AH} {fr bG:Fr} {a:Act},
 mA P nt cg l=some B9→(∀j o,l[j]?=some o→cg[k+j]?=some o)→ops call B9 fr H=some (bG,H')→j8 φ fr a→Rel w0 φ H w→oE φ H→a.tmps.size=nt→a.defers=[]→
 (∀cN a' w',Rel w0 cN H' w'→Grow φ H w cN H' w'→j8 cN bG a'→a'.tmps.size=nt→a'.defers=[]→Q .normal a' w')→wpOps P cg Q (List.range' k l.length) a w
 |[],B9,k,w,φ,H,H',fr,bG,a,hc,_,h,F,R,R0,hs,hd,hQ=>by
  simp [mA]at hc
  subst hc
  simp only [ops,alO,alV]at h
  obtain ⟨rfl,rfl⟩:=h
  exact hQ φ a w R (Grow.refl _ _ _) F hs hd
 |o::l,B9,k,w,φ,H,H',fr,bG,a,hc,hi,h,F,R,R0,hs,hd,hQ=>by
  simp only [mA]at hc
  cases ho:Ka P nt cg o with
  |none=>simp [ho]at hc
  |some ao=>
   cases hl:mA P nt cg l with
   |none=>simp [ho,hl]at hc
   |some m=>
    simp [ho,hl]at hc
    subst hc
    simp only [ops]at h
    cases h1:iH call ao fr H with
    |none=>simp [h1]at h
    |some r=>
     obtain ⟨iY,H1⟩:=r
     simp only [h1]at h
     simp only [List.length_cons,List.range'_succ,wpOps_cons]
     refine CU jK (by simpa using hi 0 o (by simp)) ho F R (R0 _ (alR _)) (fun _=>R0) hs hd h1 ?_
     intro jV v v' w1 R1 G1 _ _ F1 Qs Qt
     refine CX jK l m (k+1) hl (fun j o' hj=>by have:=hi (j+1) o' (by simpa using hj);rwa [show k+(j+1)=k+1+j by omega]at this) h F1 R1 (G1.fresh R0) Qs Qt ?_
     intro kJ a2 w2 R2 G2 F2 AS yW
     exact hQ kJ a2 w2 R2 (G1.trans G2) F2 AS yW
def kb (l:List AO) (dp:List (List Nat)):List Nat→List (Nat×Nat)→List Row
 |[],_=>[]
 |j::r,am=>match nth l j,nth dp j with
  |some o,some d=>⟨o,dS o.o,j,d,lN am d⟩::kb l dp r ((j,lN am d)::am)
  |_,_=>[]
theorem uO {α:Type} (l:List AO) (dp:List (List Nat)):∀(ord:List Nat) (am:List (Nat×Nat)) (k:List Row→α),yL l dp ord am k=k (kb l dp ord am)
 |[],am,k=>rfl
 |j::r,am,k=>by
  simp only [yL,kb]
  cases hl:nth l j with
  |none=>rfl
  |some o=>
   cases hd:nth dp j with
   |none=>rfl
   |some d=>
    simp only [force_eq]
    rw [uO l dp r]
theorem qd {nt id:Nat} {cg:Array Oper} {ac:AC} (h:dz P nt (.region id cg true)=some ac):
 ∃l ord,mA P nt cg cg.toList=some l∧xh l.length (kb l (cg.toList.map GR) ord [])=true∧
  ac= .bM ((kb l (cg.toList.map GR) ord []).map (·.o)) (rU 0 (kb l (cg.toList.map GR) ord [])):=by
 simp only [dz]at h
 cases hl:mA P nt cg cg.toList with
 |none=>simp [hl]at h
 |some l=>
  simp only [hl,Kb,uO]at h
  obtain ⟨h1,h2⟩:=au h
  cases h2
  exact ⟨l,_,rfl,h1,rfl⟩
theorem xw {nt id:Nat} {cg:Array Oper} {ac:AC} (h:dz P nt (.region id cg true)=some ac):∃l ck,ac= .bM l ck:=by
 obtain ⟨_,_,_,_,e⟩:=qd h
 exact ⟨_,_,e⟩
def CY (P:Program) (call:Cl):Prop:=∀(nt:Nat) (id:Nat) (cg:Array Oper) (ac:AC),dz P nt (.region id cg true)=some ac→∀(l:List AO) (ck:List (Nat×Nat×Nat)),ac= .bM l ck→
 ∀(w0 w:World) (φ:bl) (H H':AH) (fr bG:Fr) (a:Act),uH call l ck fr H=some (bG,H')→j8 φ fr a→Rel w0 φ H w→oE φ H→a.tmps.size=nt→a.defers=[]→
  (Code.region id cg true).wp P (CW w0 φ w H nt .normal bG H') a w
theorem eA {call:Cl}:∀{n m:Nat} {c:AC} {fr:Fr} {H:AH} {r:Ex×Fr×AH},n≤m→aA call n c fr H=some r→aA call m c fr H=some r:=by
 intro n
 induction n with
 |zero=>intro m c fr H r _ h;simp [aA]at h
 |succ n ih=>
  intro m c fr H r hm h
  obtain ⟨m,rfl⟩:∃k,m=k+1:=⟨m- 1,by omega⟩
  have O5:n≤m:=by omega
  cases c with
  |seq a b=>
   simp only [aA]at h⊢
   cases h1:aA call n a fr H with
   |none=>simp [h1]at h
   |some q=>
    rw [ih O5 h1]
    obtain ⟨ex,iY,H1⟩:=q
    cases ex<;>simp only [h1]at h⊢<;>first
     |exact ih O5 h
     |exact h
  |cond x a b=>
   simp only [aA]at h⊢
   cases hx:x.ev fr<;>simp only [hx]at h⊢<;>first
    |(cases h;done)
    |skip
   rename_i t
   cases t<;>exact ih O5 h
  |block i a=>
   simp only [aA]at h⊢
   cases h1:aA call n a fr H with
   |none=>simp [h1]at h
   |some q=>
    rw [ih O5 h1]
    obtain ⟨ex,iY,H1⟩:=q
    cases ex<;>simp only [h1]at h⊢<;>exact h
  |loop a=>
   simp only [aA]at h⊢
   cases h1:aA call n a fr H with
   |none=>simp [h1]at h
   |some q=>
    rw [ih O5 h1]
    obtain ⟨ex,iY,H1⟩:=q
    cases ex<;>simp only [h1]at h⊢<;>first
     |exact ih O5 h
     |exact h
  |_=>simpa only [aA]using h
theorem G9 {call:Cl} (jK:nH P call) (Qu:CY P call) {nt:Nat} {w0:World}:∀(m:Nat) (c:Code) (ac:AC) {w:World} {φ:bl} {H H':AH} {fr bG:Fr} {a:Act} {ex:Ex},
 dz P nt c=some ac→aA call m ac fr H=some (ex,bG,H')→j8 φ fr a→Rel w0 φ H w→oE φ H→a.tmps.size=nt→a.defers=[]→c.wp P (CW w0 φ w H nt ex bG H') a w:=by
 intro m
 induction m with
 |zero=>intro c ac w φ H H' fr bG a ex _ h;simp [aA]at h
 |succ m ih=>
  intro c ac w φ H H' fr bG a ex hc h F R R0 hs hd
  cases c with
  |skip=>
   simp [dz]at hc
   subst hc
   simp only [aA,alO,alV]at h
   obtain ⟨rfl,rfl,rfl⟩:=h
   exact wp_skip ⟨rfl,φ,R,Grow.refl _ _ _,F,hs,hd⟩
  |region id cg draw=>
   cases draw with
   |false=>
    simp only [dz]at hc
    cases hl:mA P nt cg cg.toList with
    |none=>simp [hl]at hc
    |some l=>
     simp [hl]at hc
     subst hc
     simp only [aA]at h
     cases h1:ops call l fr H with
     |none=>simp [h1]at h
     |some r=>
      obtain ⟨iY,H1⟩:=r
      simp only [h1,alO,alV]at h
      obtain ⟨rfl,rfl,rfl⟩:=h
      refine wp_region ?_
      have:=CX (Q:=CW w0 φ w H nt .normal iY H1) jK cg.toList l 0 hl (fun j o hj=>by simpa using hj) h1 F R R0 hs hd (fun cN a' w' R' G F' uy Qv=>⟨rfl,cN,R',G,F',uy,Qv⟩)
      rwa [Array.length_toList,←List.range_eq_range']at this
   |true=>
    have xl:=hc
    obtain ⟨l,ck,Qw⟩:=xw hc
    rw [Qw]at h
    simp only [aA]at h
    split at h
    case h_2=>cases h
    rename_i iY H1 h1
    simp only [alO,alV]at h
    obtain ⟨rfl,rfl,rfl⟩:=h
    exact Qu nt id cg _ xl _ _ Qw w0 w φ H H1 fr iY a h1 F R R0 hs hd
  |refuse r=>
   simp only [dz,alO]at hc
   subst hc
   simp only [aA,X.ev]at h
   cases h
  |seq x y=>
   simp only [dz]at hc
   cases hx:dz P nt x with
   |none=>simp [hx]at hc
   |some ax=>
    cases hy:dz P nt y with
    |none=>simp [hx,hy]at hc
    |some ay=>
     simp [hx,hy]at hc
     subst hc
     simp only [aA]at h
     refine wp_seq ?_
     cases h1:aA call m ax fr H with
     |none=>simp [h1]at h
     |some r=>
      obtain ⟨Gy,iY,H1⟩:=r
      have w1:=ih x ax hx h1 F R R0 hs hd
      cases Gy with
      |normal=>
       simp only [h1]at h
       refine wp_mono w1 ?_
       rintro e a1 w1 ⟨rfl,jV,R1,G1,F1,Qs,Qt⟩
       refine wp_mono (ih y ay hy h F1 R1 (G1.fresh R0) Qs Qt) ?_
       rintro e a2 w2 ⟨he,kJ,R2,G2,F2,AS,yW⟩
       exact ⟨he,kJ,R2,G1.trans G2,F2,AS,yW⟩
      |exit i=>
       simp only [h1,alO,alV]at h
       obtain ⟨rfl,rfl,rfl⟩:=h
       refine wp_mono w1 ?_
       rintro e a1 w1 ⟨rfl,q⟩
       exact ⟨rfl,q⟩
      |ret=>
       simp only [h1,alO,alV]at h
       obtain ⟨rfl,rfl,rfl⟩:=h
       refine wp_mono w1 ?_
       rintro e a1 w1 ⟨rfl,q⟩
       exact ⟨rfl,q⟩
  |cond x y z=>
   simp only [dz]at hc
   split at hc
   case h_2=>cases hc
   rename_i xx ay az hx hy hz
   cases hc
   simp only [aA]at h
   have hv:=cE F hx
   cases hq:xx.ev fr<;>simp [hq]at h
   rename_i b
   rw [hq]at hv
   refine wp_cond hv.bool ?_
   cases b
   ·simp only [Bool.false_eq_true,if_false]
    exact ih z az hz h F R R0 hs hd
   ·simp only [if_true]
    exact ih y ay hy h F R R0 hs hd
  |block i x=>
   simp only [dz]at hc
   cases hx:dz P nt x with
   |none=>simp [hx]at hc
   |some ax=>
    simp [hx]at hc
    subst hc
    simp only [aA]at h
    refine wp_block ?_
    cases h1:aA call m ax fr H with
    |none=>simp [h1]at h
    |some r=>
     obtain ⟨Gy,iY,H1⟩:=r
     have w1:=ih x ax hx h1 F R R0 hs hd
     refine wp_mono w1 ?_
     rintro e a1 w3 ⟨rfl,q⟩
     cases Gy with
     |normal=>
      simp only [h1,alO,alV]at h
      obtain ⟨rfl,rfl,rfl⟩:=h
      exact ⟨rfl,q⟩
     |ret=>
      simp only [h1,alO,alV]at h
      obtain ⟨rfl,rfl,rfl⟩:=h
      exact ⟨rfl,q⟩
     |exit j=>
      simp only [h1,nb,Bool.cond_decide]at h
      show Exit.inBlock i _ (.exit j) a1 w3
      simp only [Exit.inBlock]
      by_cases hj:j=i
      ·rw [if_pos hj]at h⊢
       simp only [alO,alV]at h
       obtain ⟨rfl,rfl,rfl⟩:=h
       exact ⟨rfl,q⟩
      ·rw [if_neg hj]at h⊢
       simp only [alO,alV]at h
       obtain ⟨rfl,rfl,rfl⟩:=h
       exact ⟨rfl,q⟩
  |loop x=>
   simp only [dz]at hc
   cases hx:dz P nt x with
   |none=>simp [hx]at hc
   |some ax=>
    simp [hx]at hc
    subst hc
    refine wp_loop_ghost (fun n a1 w1=>n≤m+1∧∃iY H1 jV,aA call n (.loop ax) iY H1=some (ex,bG,H')∧j8 jV iY a1∧Rel w0 jV H1 w1∧Grow φ H w jV H1 w1∧a1.tmps.size=nt∧a1.defers=[]) (m+1) ⟨alR _,fr,H,φ,h,F,R,Grow.refl _ _ _,hs,hd⟩ ?_
    rintro n a1 w1 ⟨hn,iY,H1,jV,h1,F1,R1,G1,Qs,Qt⟩
    cases n with
    |zero=>simp [aA]at h1
    |succ n=>
     simp only [aA]at h1
     cases h2:aA call n ax iY H1 with
     |none=>simp [h2]at h1
     |some r=>
      obtain ⟨O6,fx,H2⟩:=r
      have mono:aA call m ax iY H1=some (O6,fx,H2):=eA (by omega) h2
      have w2:=ih x ax hx mono F1 R1 (G1.fresh R0) Qs Qt
      refine wp_mono w2 ?_
      rintro e a2 w2 ⟨rfl,kJ,R2,G2,F2,AS,yW⟩
      cases O6 with
      |normal=>
       simp only [h2]at h1
       exact ⟨n,by omega,by omega,fx,H2,kJ,h1,F2,R2,G1.trans G2,AS,yW⟩
      |exit j=>
       simp only [h2,alO,alV]at h1
       obtain ⟨rfl,rfl,rfl⟩:=h1
       exact ⟨rfl,kJ,R2,G1.trans G2,F2,AS,yW⟩
      |ret=>
       simp only [h2,alO,alV]at h1
       obtain ⟨rfl,rfl,rfl⟩:=h1
       exact ⟨rfl,kJ,R2,G1.trans G2,F2,AS,yW⟩
  |exit i=>
   simp [dz]at hc
   subst hc
   simp only [aA,alO,alV]at h
   obtain ⟨rfl,rfl,rfl⟩:=h
   exact wp_exit ⟨rfl,φ,R,Grow.refl _ _ _,F,hs,hd⟩
  |ret=>
   simp [dz]at hc
   subst hc
   simp only [aA,alO,alV]at h
   obtain ⟨rfl,rfl,rfl⟩:=h
   exact wp_ret ⟨rfl,φ,R,Grow.refl _ _ _,F,hs,hd⟩
  |_=>simp [dz]at hc
end
end Go.Proofs.YtppcmpmnglaleaaGreatDoor.A
namespace Go.Proofs.YtppcmpmnglaleaaGreatDoor.A
open Go
theorem AT {p:cl} {ρ Kk:X→Value} (h:∀x∈p.xs,ρ x=Kk x) (H:AH):aS p ρ H=aS p Kk H:=by
 have ml:∀(l:List X),(∀x∈l,ρ x=Kk x)→l.map ρ=l.map Kk:=fun l hl=>List.map_congr_left hl
 have mp:∀(l:List (Nat×Nat×X)),(∀x∈l.map (fun p=>p.2.2),ρ x=Kk x)→(l.map fun p=>(p.1,p.2.1,ρ p.2.2))=l.map fun p=>(p.1,p.2.1,Kk p.2.2):=
  fun l hl=>List.map_congr_left fun p hp=>by rw [hl _ (List.mem_map.2 ⟨p,hp,rfl⟩)]
 have mo:∀(l:Option X),(∀x∈l.toList,ρ x=Kk x)→l.map ρ=l.map Kk:=fun l hl=>by cases l<;>simp_all
 cases p
 case build z ps=>simp only [aS];rw [mp ps h]
 case bsl a b c ps=>simp only [aS];rw [mp ps h]
 case mkf f a b=>
  simp only [aS]
  rw [ml a fun x hx=>h x (by simp [cl.xs,hx]),ml b fun x hx=>h x (by simp [cl.xs,hx])]
 case call f as=>simp only [aS];rw [ml as h]
 case xt k l=>simp only [aS];rw [ml l h]
 case callv x as=>
  simp only [aS]
  rw [ml as fun x hx=>h x (by simp [cl.xs,hx]),h x (by simp [cl.xs])]
 case mxl x as=>
  simp only [aS]
  rw [ml as fun x hx=>h x (by simp [cl.xs,hx]),h x (by simp [cl.xs])]
 case mnl x as=>
  simp only [aS]
  rw [ml as fun x hx=>h x (by simp [cl.xs,hx]),h x (by simp [cl.xs])]
 case sl sz x lo hi mx=>
  simp only [aS]
  rw [h x (by simp [cl.xs]),mo lo fun x hx=>h x (by simp [cl.xs]at hx⊢;simp [hx]),mo hi fun x hx=>h x (by simp [cl.xs]at hx⊢;simp [hx]),mo mx fun x hx=>h x (by simp [cl.xs]at hx⊢;simp [hx])]
 all_goals
  simp only [cl.xs,List.mem_cons,List.not_mem_nil,or_false,forall_eq_or_imp,forall_eq,implies_true,false_imp_iff]at h
  simp only [aS,h]
theorem xy {sz:Nat} {H H1:AH} {x:Value} {hi mx:Option Value}:bC sz H1 x none hi mx=bC sz H x none hi mx:=by
 cases x<;>try rfl
 rename_i a len cap
 simp only [bC]
 cases hb:a7 len cap none hi mx with
 |none=>rfl
 |some r=>
  obtain ⟨l,h,m⟩:=r
  have hl:l=0:=by
   unfold a7 at hb
   simp only [alY]at hb
   obtain ⟨_,_,_,_,_,e,e2⟩:=hb
   simp at e e2
   omega
  subst hl
  simp
theorem kK {p:cl} {ρ:X→Value} {H H':AH} {r:gM} (hk:dS p= .pure) (h:aS p ρ H=some (r,H')):
 H'=H∧∀H1:AH,aS p ρ H1=some (r,H1):=by
 cases p
 case sl sz x lo hi mx=>
  cases lo with
  |some l=>simp [dS]at hk
  |none=>
   simp only [aS,Option.map_none,alX]at h⊢
   obtain ⟨v,hv,e⟩:=h
   cases e
   exact ⟨rfl,fun H1=>⟨v,xy.trans hv,rfl⟩⟩
 case eqk k neg x y=>
  simp only [aS,alX]at h⊢
  obtain ⟨b,hb,e⟩:=h
  cases e
  exact ⟨rfl,fun H1=>⟨b,hb,rfl⟩⟩
 case xt k l=>
  cases k<;>first
   |(simp [dS]at hk;done)
   |skip
  all_goals
   simp only [aS,Co]at h⊢
   split at h<;>simp_all<;>first
    |(obtain ⟨a,⟨h0,b,h1,rfl,rfl⟩,h2⟩:=h;exact ⟨rfl,fun _=>⟨_,⟨h0,h1⟩,h2⟩⟩)
    |(obtain ⟨_,h1,_,_⟩:=h;simp_all;done)
    |(obtain ⟨_,_,h1,_,_⟩:=h;simp_all;done)
    |skip
 case eqs neg offs x y=>
  simp only [aS]at h⊢
  split at h
  · simp only [alX]at h⊢
    obtain ⟨b,hb,e⟩:=h
    cases e
    exact ⟨rfl,fun H1=>⟨b,hb,rfl⟩⟩
  · cases h
 all_goals first
  |(simp [dS]at hk;done)
  |(simp only [aS,Bool.cond_eq_ite,alX]at h⊢
    (repeat' split at h)<;>simp_all<;>try(obtain ⟨_,_,h1,h2⟩:=h;simp_all))
theorem gO {p:cl} {ρ:X→Value} {H H':AH} {r:gM} (hk:dS p= .alloc) (h:aS p ρ H=some (r,H')):
 ∃aN,H'=H.alloc aN∧∀H1:AH,H1.nx=H.nx→aS p ρ H1=some (r,H1.alloc aN):=by
 cases p
 case sl sz x lo hi mx=>cases lo<;>simp [dS]at hk
 case xt k l=>cases k<;>simp [dS]at hk
 all_goals first
  |(simp [dS]at hk;done)
  |skip
 case alloc z=>
  simp only [aS,alO,alV]at h⊢
  obtain ⟨rfl,rfl⟩:=h
  exact ⟨_,rfl,fun H1 e=>⟨by rw [e],rfl⟩⟩
 case box x=>
  simp only [aS,Bool.cond_eq_ite]at h⊢
  split at h
  ·cases h
  ·rename_i ht
   simp only [alO,alV]at h
   obtain ⟨rfl,rfl⟩:=h
   exact ⟨_,rfl,fun H1 e=>by rw [if_neg ht,e]⟩
 case bsl len sz z ps=>
  simp only [aS,alX]at h⊢
  obtain ⟨c,hc,e⟩:=h
  cases e
  exact ⟨_,rfl,fun H1 e=>⟨c,hc,by rw [e]⟩⟩
 case mkmap=>
  simp only [aS,alO,alV]at h⊢
  obtain ⟨rfl,rfl⟩:=h
  exact ⟨_,rfl,fun H1 e=>⟨by rw [e],rfl⟩⟩
 case mksl sz bytes z x=>
  simp only [aS,Bool.cond_eq_ite]at h⊢
  split at h
  ·split at h
   ·rename_i hc
    simp only [alO,alV]at h
    obtain ⟨rfl,rfl⟩:=h
    exact ⟨_,rfl,fun H1 e=>by rw [if_pos hc,e]⟩
   ·cases h
  ·cases h
theorem lA {n0:Nat}:∀{l m:List Value},aJ n0 l=some m→m.length=l.length
 |[],m,h=>by simp [aJ]at h;subst h;rfl
 |v::l,m,h=>by
  simp only [aJ]at h
  split at h
  ·rename_i x m' hx hm
   cases h
   simp [lA hm]
  ·cases h
theorem cB {H:AH} {a:Addr} {n:Nat} {vs:List Value} (h:H.ldn a n=some vs):(H.get a.block).isSome=true∧vs.length=n:=by
 unfold AH.ldn at h
 split at h
 case h_2=>cases h
 rename_i z c hs hg
 obtain ⟨hb,h⟩:=au h
 simp at hb
 refine ⟨by simp [hg],?_⟩
 simp only [Bool.cond_eq_ite]at h
 split at h
 ·rw [lA h];simp;omega
 ·cases h;simp;omega
theorem dT {H H1:AH} {a:Addr} {n:Nat} (hg:H1.get a.block=H.get a.block) (h0:H1.n0=H.n0):H1.ldn a n=H.ldn a n:=by
 unfold AH.ldn
 rw [hg,h0]
theorem bm {H:AH} {a:Addr} {v:Value}:H.ld a=some v↔H.ldn a 1=some [v]:=by
 unfold AH.ld AH.ldn
 cases hs:a.spot with
 |some x=>simp
 |none=>
  cases hg:H.get a.block with
  |none=>simp
  |some b=>
   cases b with
   |map es=>simp
   |cells z c=>
    simp only
    cases hc:c[a.off]? with
    |none=>
     have:=List.getElem?_eq_none_iff.1 hc
     have:decide (a.off+1≤c.length)=false:=by simp;omega
     simp [this]
    |some u=>
     have dm:=(alT.1 hc).1
     have h1:decide (a.off+1≤c.length)=true:=by simp;omega
     have h2:List.take 1 (List.drop a.off c)=[u]:=by
      have:=(alT.1 hc).2
      rw [List.drop_eq_getElem_cons dm,this]
      rfl
     simp only [h1,cond_true,h2]
     cases hd:decide (a.block<H.n0)with
     |false=>simp
     |true=>
      simp only [cond_true,aJ]
      cases aK H.n0 u<;>simp
theorem kL {o:AO} {fr:Fr} {H H':AH} {r:gM} (hk:dS o.o= .load) (h:aS o.o (X.ev fr) H=some (r,H')):
 H'=H∧∃a vs,iI o fr H=some (a,vs)∧cw o fr=some a.block∧H.ldn a vs.length=some vs∧∀H1:AH,H1.ldn a vs.length=some vs→aS o.o (X.ev fr) H1=some (r,H1):=by
 obtain ⟨g,d,p⟩:=o
 dsimp only at hk h
 unfold iI cw
 dsimp only
 cases p
 case sl sz x lo hi mx=>cases lo<;>simp [dS]at hk
 case xt k l=>cases k<;>simp [dS]at hk
 all_goals first
  |(simp [dS]at hk;done)
  |skip
 case ld x=>
  simp only [aS]at h⊢
  split at h
  case h_2=>cases h
  rename_i a ha
  simp only [alX]at h
  obtain ⟨v,hv,e⟩:=h
  cases e
  have hl:=bm.1 hv
  refine ⟨rfl,a,[v],?_,rfl,hl,fun H1 h1=>?_⟩
  ·rw [hl];rfl
  ·rw [bm.2 h1];rfl
 case ldn n x=>
  simp only [aS]at h⊢
  split at h
  case h_2=>cases h
  rename_i a ha
  simp only [alX]at h
  obtain ⟨vs,hv,e⟩:=h
  cases e
  have hl:=(cB hv).2
  subst hl
  refine ⟨rfl,a,vs,?_,rfl,hv,fun H1 h1=>?_⟩
  ·rw [hv];rfl
  ·rw [h1];rfl
theorem Hg {H H':AH} {a:Addr} {vs:List Value} (h:H.st a vs=some H'):(H.get a.block).isSome=true∧∃z c',H'=H.put a.block (some (.cells z c'))∧
 ∀H1:AH,H1.get a.block=H.get a.block→H1.n0=H.n0→H1.st a vs=some (H1.put a.block (some (.cells z c'))):=by
 unfold AH.st at h
 split at h
 case h_2=>cases h
 rename_i z c hs hg
 obtain ⟨hb,h⟩:=au h
 cases h
 refine ⟨by simp [hg],z,_,rfl,fun H1 h1 h2=>?_⟩
 unfold AH.st
 rw [h1,h2,hg,hs]
 simp only [hb,cond_true]
theorem pv {o:AO} {fr:Fr} {H H':AH} {r:gM} (hk:dS o.o= .st) (h:aS o.o (X.ev fr) H=some (r,H')):
 ∃b aN,cw o fr=some b∧(H.get b).isSome=true∧H'=H.put b aN∧∀H1:AH,H1.get b=H.get b→H1.n0=H.n0→aS o.o (X.ev fr) H1=some (r,H1.put b aN):=by
 obtain ⟨g,d,p⟩:=o
 dsimp only at hk h
 unfold cw
 dsimp only
 cases p
 case sl sz x lo hi mx=>cases lo<;>simp [dS]at hk
 case xt k l=>cases k<;>simp [dS]at hk
 all_goals first
  |(simp [dS]at hk;done)
  |skip
 case st n x v=>
  simp only [aS]at h⊢
  split at h
  case h_2=>cases h
  rename_i a ha
  obtain ⟨hb,h⟩:=au h
  simp only [alX]at h
  obtain ⟨H2,h2,e⟩:=h
  cases e
  obtain ⟨hs,z,c',rfl,aT⟩:=Hg h2
  refine ⟨a.block,some (.cells z c'),rfl,hs,rfl,fun H1 e1 e2=>?_⟩
  rw [hb,cond_true,aT H1 e1 e2]
  rfl
theorem CZ {H:AH} {b sz:Nat} (h:H.get b=none):H.jm b sz=false:=by
 unfold AH.jm;rw [h]
theorem kM {o:AO} {fr:Fr} {H H':AH} {r:gM} (hk:dS o.o= .read) (h:aS o.o (X.ev fr) H=some (r,H')):
 H'=H∧∀H1:AH,(∀b,cw o fr=some b→(H.get b).isSome=true→H1.get b=H.get b)→H1.n0=H.n0→aS o.o (X.ev fr) H1=some (r,H1):=by
 obtain ⟨g,d,p⟩:=o
 dsimp only at hk h
 unfold cw
 dsimp only
 cases p
 case sl sz x lo hi mx=>
  simp only [aS,alX]at h⊢
  obtain ⟨v,hv,e⟩:=h
  cases e
  refine ⟨rfl,fun H1 h1 h2=>⟨v,?_,rfl⟩⟩
  rw [←hv]
  cases hx:x.ev fr<;>try rfl
  rename_i a len cap
  rw [hx]at hv h1
  simp only [bC]at hv⊢
  split
  ·rfl
  ·cases a with
   |none=>rfl
   |some a=>
    rename_i l hh m Qx
    rw [Qx]at hv
    simp only at hv⊢
    have hz:(a.spot.isNone&&(Nat.beq l 0||H1.jm a.block sz))=(a.spot.isNone&&(Nat.beq l 0||H.jm a.block sz))∨H.get a.block=none:=by
     cases fM:a.spot.isNone with
     |false=>left;simp
     |true=>
      cases hg:H.get a.block with
      |none=>exact .inr rfl
      |some b=>
       left
       have:=h1 a.block (by simp [fM]) (by simp [hg])
       unfold AH.jm
       rw [this]
    rcases hz with hz|hz
    ·rw [hz]
    ·obtain ⟨h3,hv⟩:=au hv
     rw [h3]
     simp only [cond_true]
     split
     ·rfl
     ·rename_i wR
      rw [if_neg wR]at hv
      obtain ⟨h4,hv⟩:=au hv
      rw [CZ hz,Bool.or_false]at h4
      simp only [alQ]at h4
      simp [h4.1,h4.2]
 case look kk z x k ok=>
  simp only [aS]at h⊢
  cases hx:x.ev fr<;>simp only [hx]at h⊢<;>try(cases h;done)
  rename_i rr
  cases rr with
  |none=>
   simp only at h⊢
   obtain ⟨h1,h⟩:=au h
   cases h
   exact ⟨rfl,fun H1 _ _=>by rw [h1];rfl⟩
  |some q=>
   simp only at h⊢
   cases hg:H.get q with
   |none=>simp [hg]at h
   |some b=>
    cases b with
    |cells z c=>simp [hg]at h
    |map es=>
     simp only [hg]at h
     obtain ⟨h1,h⟩:=au h
     refine ⟨?_,fun H1 e1 e2=>?_⟩
     ·split at h<;>first|(cases h;rfl)|cases h
     ·have:=e1 q rfl (by simp [hg])
      rw [this,hg,e2]
      simp only [h1,cond_true]
      split at h
      ·cases h;rfl
      ·cases h;rfl
      ·cases h
 case xt k l=>cases k<;>simp [dS]at hk
 all_goals first
  |(simp [dS]at hk;done)
  |skip
theorem C1:∀{a b:Value},dD a b=true→a=b:=by
 intro a b h
 cases a<;>cases b<;>simp [dD]at h<;>simp_all
 exact ByteArray.ext h
theorem qe:∀{a b:List Value},fV a b=true→a=b
 |[],[],_=>rfl
 |a::l,b::m,h=>by
  simp only [fV,alQ]at h
  rw [C1 h.1,qe h.2]
 |[],_::_,h=>by simp [fV]at h
 |_::_,[],h=>by simp [fV]at h
theorem AU {H:AH} {a:Addr} {vs:List Value} (h:sameAt H (a,vs)=true):H.ldn a vs.length=some vs:=by
 unfold sameAt at h
 dsimp only at h
 split at h
 ·rename_i m hm
  rw [hm,qe h]
 ·cases h
theorem C2 {x y:Option nC} (h:ly x y=true):x=y:=by
 unfold ly at h
 split at h
 ·simp only [alQ,Nat.beq_eq]at h
  rw [h.1,qe h.2]
 ·rfl
 ·cases h
open Go
theorem kc {n:Nat}:∀{l:List Nat},uI n l=true↔n∈l
 |[]=>by simp [uI]
 |x::l=>by
  simp only [uI,Bool.or_eq_true,nb,alZ,List.mem_cons]
  rw [kc (l:=l)]
  constructor
  ·rintro (h|h)
   ·exact .inl h.symm
   ·exact .inr h
  ·rintro (h|h)
   ·exact .inl h.symm
   ·exact .inr h
theorem ke {x y:AO} (h:iL x y=true):(∀d,x.d=some d→d∉tmpsOf y)∧(∀d,x.d=some d→y.d≠some d):=by
 unfold iL at h
 cases hd:x.d with
 |none=>exact ⟨fun _ h=>(by cases h),fun _ h=>(by cases h)⟩
 |some d=>
  simp only [hd,alQ,Bool.not_eq_true']at h
  refine ⟨fun e he=>?_,fun e he=>?_⟩
  ·cases he
   intro hm
   rw [kc.2 hm]at h
   cases h.1
  ·cases he
   intro hy
   rw [hy]at h
   simp at h
theorem Fr.gP {f:Fr} {d:Option Nat} {v:Value} {x:Nat}:(f.aM d v).get x=if d=some x then v else f.get x:=by
 cases d with
 |none=>simp [Fr.aM]
 |some k=>
  simp only [Fr.aM,Fr.bj,alO]
  by_cases h:x=k
  ·simp [h]
  ·rw [if_neg h,if_neg (fun e=>h e.symm)]
inductive One (call:Cl) (o:AO) (fr:Fr) (H:AH) (x:Value) (H':AH):Prop where
 |off (h:o.wanted fr=false) (e:x=undef) (e2:H'=H)
 |val (h:o.wanted fr=true) (e:aS o.o (X.ev fr) H=some (.v x,H'))
 |call (h:o.wanted fr=true) (f:Nat) (as:List Value) (H1:AH) (e:aS o.o (X.ev fr) H=some (.enter f as,H1)) (e2:call f as H1=some (x,H'))
theorem dq {call:Cl} {o:AO} {fr bG:Fr} {H H':AH}:iH call o fr H=some (bG,H')↔∃x,bG=fr.aM o.d x∧One call o fr H x H':=by
 unfold iH
 constructor
 ·intro h
  cases hw:o.wanted fr with
  |false=>
   simp only [hw,cond_false,alO,alV]at h
   exact ⟨undef,h.1.symm,.off hw rfl h.2.symm⟩
  |true=>
   simp only [hw,cond_true]at h
   cases pr:aS o.o (X.ev fr) H with
   |none=>simp [pr]at h
   |some rr=>
    obtain ⟨res,H1⟩:=rr
    simp only [pr]at h
    cases res with
    |v x=>
     simp only [alO,alV]at h
     obtain ⟨rfl,rfl⟩:=h
     exact ⟨x,rfl,.val hw pr⟩
    |enter f as=>
     simp only at h
     cases hc:call f as H1 with
     |none=>simp [hc]at h
     |some r=>
      obtain ⟨x,H2⟩:=r
      simp only [hc,alO,alV]at h
      obtain ⟨rfl,rfl⟩:=h
      exact ⟨x,rfl,.call hw f as H1 pr hc⟩
 ·rintro ⟨x,rfl,h⟩
  cases h with
  |off h e e2=>subst e;subst e2;simp [h]
  |val h e=>simp [h,e]
  |call h f as H1 e e2=>simp [h,e,e2]
def oG (o:AO) (fr fx:Fr):Prop:=∀t∈tmpsOf o,fx.get t=fr.get t
theorem oG.ev {o:AO} {fr fx:Fr} (h:oG o fr fx):∀x∈o.o.xs,X.ev fx x=X.ev fr x:=by
 intro x hx
 cases x with
 |t n=>
  exact h n (by
   unfold tmpsOf
   exact List.mem_append_right _ (List.mem_filterMap.2 ⟨.t n,hx,rfl⟩))
 |k v=>rfl
 |f n=>rfl
theorem oG.wanted {o:AO} {fr fx:Fr} (h:oG o fr fx):o.wanted fx=o.wanted fr:=by
 unfold AO.wanted
 cases hg:o.g with
 |none=>rfl
 |some tb=>
  obtain ⟨t,b⟩:=tb
  simp only
  rw [h t (by unfold tmpsOf;rw [hg];simp)]
theorem oG.one {call:Cl} {o:AO} {fr fx:Fr} {H H':AH} {x:Value} (h:oG o fr fx) (k:One call o fr H x H'):One call o fx H x H':=by
 have he:∀H,aS o.o (X.ev fx) H=aS o.o (X.ev fr) H:=fun H=>AT h.ev H
 cases k with
 |off a b c=>exact .off (h.wanted.trans a) b c
 |val a b=>exact .val (h.wanted.trans a) ((he _).trans b)
 |call a f as H1 b c=>exact .call (h.wanted.trans a) f as H1 ((he _).trans b) c
theorem C3 {o:AO} {fr fx:Fr} (h:oG o fr fx):cw o fx=cw o fr:=by
 have he:=h.ev
 unfold cw
 cases hp:o.o<;>simp only [hp,cl.xs,List.mem_cons,List.not_mem_nil,or_false,forall_eq_or_imp,forall_eq]at he⊢
 all_goals (simp only [he])
structure ny (call:Cl) (O:Nat→AO) (n:Nat) (sF:Nat→Fr) (sH:Nat→AH) (qf:Nat→Nat→Prop):Prop where
 step:∀t,t<n→iH call (O t) (sF t) (sH t)=some (sF (t+1),sH (t+1))
 n0:∀t,t<n→(sH (t+1)).n0=(sH t).n0
 nx:∀t,t<n→(sH t).nx≤(sH (t+1)).nx
 pair:∀p q,p<q→q<n→qf p q∨(iL (O p) (O q)=true∧iL (O q) (O p)=true∧dE (dS (O p).o) (dS (O q).o)=true)
 c0:∀p q,p<q→q<n→¬ qf p q→(O p).wanted (sF p)=true→(O q).wanted (sF q)=true→dS (O p).o= .load→dS (O q).o= .iT→
  ∃x,iI (O p) (sF p) (sH p)=some x∧sameAt (sH (q+1)) x=true
 c1:∀p q,p<q→q<n→¬ qf p q→(O p).wanted (sF p)=true→(O q).wanted (sF q)=true→dS (O p).o= .alloc→dS (O q).o= .iT→
  (sH (q+1)).get (sH p).nx=(sH (p+1)).get (sH p).nx
 c2:∀p q,p<q→q<n→¬ qf p q→(O p).wanted (sF p)=true→(O q).wanted (sF q)=true→(dS (O p).o= .load∨dS (O p).o= .read∨dS (O p).o= .st)→dS (O q).o= .st→
  ∀b b',cw (O p) (sF p)=some b→cw (O q) (sF q)=some b'→b≠b'
section
variable{call:Cl} {O:Nat→AO} {n:Nat} {sF:Nat→Fr} {sH:Nat→AH} {qf:Nat→Nat→Prop} (R:ny call O n sF sH qf)
include R
theorem ny.O7 (t:Nat) (h:t≤n):(sH t).n0=(sH 0).n0:=by
 induction t with
 |zero=>rfl
 |succ t ih=>exact (R.n0 t (by omega)).trans (ih (by omega))
theorem ny.nxs {t:Nat} (k:Nat) (h:t+k≤n):(sH t).nx≤(sH (t+k)).nx:=by
 induction k with
 |zero=>exact alR _
 |succ k ih=>exact Nat.le_trans (ih (by omega)) (R.nx (t+k) (by omega))
theorem ny.gk {t u:Nat} (h:t≤u) (hu:u≤n):(sH t).nx≤(sH u).nx:=by
 have:=R.nxs (t:=t) (u- t) (by omega)
 rwa [show t+(u- t)=u by omega]at this
omit R in
def tc (O:Nat→AO) (sF:Nat→Fr) (t:Nat):Value:=(sF (t+1)).get ((O t).d.getD 0)
omit R in
def td (O:Nat→AO) (sF:Nat→Fr) (S:Nat→Bool):Nat→Fr
 |0=>sF 0
 |t+1=>bif S t then(td O sF S t).aM (O t).d (tc O sF t)else td O sF S t
theorem ny.frame {t:Nat} (ht:t<n) (x:Nat):(sF (t+1)).get x=if(O t).d=some x then tc O sF t else(sF t).get x:=by
 obtain ⟨v,hf,_⟩:=dq.1 (R.step t ht)
 by_cases h:(O t).d=some x
 ·rw [if_pos h]
  unfold tc
  rw [h]
  rfl
 ·rw [if_neg h,hf,Fr.gP,if_neg h]
theorem ny.one {t:Nat} (ht:t<n):∃x,One call (O t) (sF t) (sH t) x (sH (t+1))∧∀f:Fr,f.aM (O t).d x=f.aM (O t).d (tc O sF t):=by
 obtain ⟨v,hf,h1⟩:=dq.1 (R.step t ht)
 refine ⟨v,h1,fun f=>?_⟩
 cases hd:(O t).d with
 |none=>rfl
 |some k=>
  have:tc O sF t=v:=by
   unfold tc
   rw [hf,hd]
   simp [Fr.aM,Fr.bj]
  rw [this]
omit R in
theorem te {S S':Nat→Bool} {x m:Nat} (h:∀p,p<m→(O p).d=some x→S p=S' p):(td O sF S m).get x=(td O sF S' m).get x:=by
 induction m with
 |zero=>rfl
 |succ m ih=>
  have ih:=ih fun p hp=>h p (by omega)
  simp only [td]
  by_cases hd:(O m).d=some x
  ·have:=h m (by omega) hd
   rw [this]
   cases S' m
   ·exact ih
   ·simp only [cond_true,Fr.gP,if_pos hd]
  ·cases S m<;>cases S' m<;>simp only [cond_true,cond_false,Fr.gP,if_neg hd]<;>exact ih
omit R in
theorem qg {S:Nat→Bool} {x t m:Nat} (O8:t≤m) (h:∀p,t≤p→p<m→S p=true→(O p).d≠some x):(td O sF S m).get x=(td O sF S t).get x:=by
 induction m with
 |zero=>obtain rfl:t=0:=by omega
        rfl
 |succ m ih=>
  rcases Nat.lt_or_ge m t with h1|h1
  · obtain rfl:t=m+1:=by omega
    rfl
  · have ih:=ih h1 fun p hp hp2=>h p hp (by omega)
    simp only [td]
    cases hS:S m with
    |false=>exact ih
    |true=>simp only [cond_true,Fr.gP,if_neg (h m h1 (by omega) hS)];exact ih
theorem ny.yX {m:Nat} (hm:m≤n) (x:Nat):(td O sF (fun _=>true) m).get x=(sF m).get x:=by
 induction m with
 |zero=>rfl
 |succ m ih=>
  rw [R.frame (by omega),td,cond_true,Fr.gP,ih (by omega)]
omit R in
structure Qy (n:Nat) (qf:Nat→Nat→Prop) (S:Nat→Bool) (t:Nat):Prop where
 lt:t<n
 out:S t=false
 rdy:∀p,p<t→qf p t→S p=true
 cls:∀p q,p<q→q<n→S q=true→qf p q→S p=true
variable{S:Nat→Bool} {t:Nat} (C:Qy n qf S t)
include C
theorem ny.before {p:Nat} (hp:p<t) (hS:S p=false):¬ qf p t∧iL (O p) (O t)=true∧iL (O t) (O p)=true∧dE (dS (O p).o) (dS (O t).o)=true:=by
 have hn:¬ qf p t:=fun h=>by rw [C.rdy p hp h]at hS;cases hS
 exact ⟨hn,(R.pair p t hp C.lt).resolve_left hn⟩
theorem ny.behind {p:Nat} (hp:t<p) (lC:p<n) (hS:S p=true):¬ qf t p∧iL (O t) (O p)=true∧iL (O p) (O t)=true∧dE (dS (O t).o) (dS (O p).o)=true:=by
 have hn:¬ qf t p:=fun h=>by have:=C.cls t p hp lC hS h;rw [C.out]at this;cases this
 exact ⟨hn,(R.pair t p hp lC).resolve_left hn⟩
theorem ny.agree:oG (O t) (sF t) (td O sF S n):=by
 intro x hx
 rw [qg (t:=t) (Nat.le_of_lt C.lt),←R.yX (Nat.le_of_lt C.lt)]
 ·refine te fun p hp hd=>?_
  cases hS:S p with
  |true=>rfl
  |false=>exact absurd hx ((ke (R.before C hp hS).2.1).1 x hd)
 ·intro p hp lC hS hd
  rcases Nat.lt_or_eq_of_le hp with h|h
  ·exact (ke (R.behind C h lC hS).2.2.1).1 x hd hx
  ·subst h;rw [C.out]at hS;cases hS
omit R C in
def ins (S:Nat→Bool) (t:Nat):Nat→Bool:=fun p=>bif Nat.beq p t then true else S p
omit R C in
theorem eO:ins S t t=true:=by simp [ins]
omit R C in
theorem fR {p:Nat} (h:p≠t):ins S t p=S p:=by
 unfold ins
 rw [nb,decide_eq_false h];rfl
theorem ny.Hh (x:Nat):(td O sF (ins S t) n).get x=((td O sF S n).aM (O t).d (tc O sF t)).get x:=by
 rw [Fr.gP]
 by_cases hd:(O t).d=some x
 ·rw [if_pos hd,qg (t:=t+1) C.lt]
  ·rw [td,eO,cond_true,Fr.gP,if_pos hd]
  ·intro p hp lC hS
   rw [fR (by omega)]at hS
   have:=(ke (R.behind C (by omega) lC hS).2.1).2 x hd
   exact this
 ·rw [if_neg hd]
  refine te fun p hp Uv=>?_
  exact fR (fun e=>hd (e▸Uv))
end
end Go.Proofs.YtppcmpmnglaleaaGreatDoor.A
namespace Go.Proofs.YtppcmpmnglaleaaGreatDoor.A
open Go
inductive AV (O:Nat→AO) (sF:Nat→Fr) (sH:Nat→AH) (t b:Nat):Prop where
 |alloc (w:(O t).wanted (sF t)=true) (k:dS (O t).o= .alloc) (e:b=(sH t).nx)
 |st (w:(O t).wanted (sF t)=true) (k:dS (O t).o= .st) (e:cw (O t) (sF t)=some b)
 |iT (w:(O t).wanted (sF t)=true) (k:dS (O t).o= .iT)
open Classical in
noncomputable def gS (O:Nat→AO) (sF:Nat→Fr) (sH:Nat→AH) (S:Nat→Bool):Nat→Nat→Option nC
 |0=>(sH 0).raw
 |t+1=>fun b=>if S t=true∧AV O sF sH t b then(sH (t+1)).raw b else gS O sF sH S t b
noncomputable def gB (O:Nat→AO) (sF:Nat→Fr) (sH:Nat→AH) (S:Nat→Bool):Nat→Option (Nat×ByteArray)
 |0=>(sH 0).bs
 |t+1=>if S t=true∧(O t).wanted (sF t)=true∧dS (O t).o= .iT then(sH (t+1)).bs else gB O sF sH S t
noncomputable def uz (O:Nat→AO) (sF:Nat→Fr) (sH:Nat→AH) (S:Nat→Bool) (m nx:Nat):AH:=⟨gS O sF sH S m,(sH 0).n0,nx,.nil,gB O sF sH S m⟩
section
variable{call:Cl} {O:Nat→AO} {n:Nat} {sF:Nat→Fr} {sH:Nat→AH} {qf:Nat→Nat→Prop}
theorem yY (S:Nat→Bool) (m nx b:Nat):(uz O sF sH S m nx).raw b=gS O sF sH S m b:=rfl
theorem kN (S:Nat→Bool) (m nx b:Nat) (h:b<nx):(uz O sF sH S m nx).get b=gS O sF sH S m b:=by
 rw [AH.dR (by exact h)];rfl
theorem yZ {S S':Nat→Bool} {b m:Nat} (h:∀p,p<m→AV O sF sH p b→S p=S' p):gS O sF sH S m b=gS O sF sH S' m b:=by
 induction m with
 |zero=>rfl
 |succ m ih=>
  have ih:=ih fun p hp=>h p (by omega)
  simp only [gS]
  by_cases hd:AV O sF sH m b
  ·rw [h m (by omega) hd,ih]
  ·rw [if_neg (fun e=>hd e.2),if_neg (fun e=>hd e.2),ih]
theorem px {S:Nat→Bool} {b t m:Nat} (O8:t≤m) (h:∀p,t≤p→p<m→S p=true→¬ AV O sF sH p b):gS O sF sH S m b=gS O sF sH S t b:=by
 induction m with
 |zero=>obtain rfl:t=0:=by omega
        rfl
 |succ m ih=>
  rcases Nat.lt_or_ge m t with h1|h1
  · obtain rfl:t=m+1:=by omega
    rfl
  · have ih:=ih h1 fun p hp hp2=>h p hp (by omega)
    simp only [gS]
    rw [if_neg (fun e=>h m h1 (by omega) e.1 e.2),ih]
theorem y3 {S S':Nat→Bool} {m:Nat} (h:∀p,p<m→(O p).wanted (sF p)=true→dS (O p).o= .iT→S p=S' p):gB O sF sH S m=gB O sF sH S' m:=by
 induction m with
 |zero=>rfl
 |succ m ih=>
  have ih:=ih fun p hp=>h p (by omega)
  simp only [gB]
  by_cases hd:(O m).wanted (sF m)=true∧dS (O m).o= .iT
  ·rw [h m (by omega) hd.1 hd.2,ih]
  ·rw [if_neg (fun e=>hd e.2),if_neg (fun e=>hd e.2),ih]
theorem tf {S:Nat→Bool} {t m:Nat} (O8:t≤m) (h:∀p,t≤p→p<m→S p=true→(O p).wanted (sF p)=true→dS (O p).o≠ .iT):gB O sF sH S m=gB O sF sH S t:=by
 induction m with
 |zero=>obtain rfl:t=0:=by omega
        rfl
 |succ m ih=>
  rcases Nat.lt_or_ge m t with h1|h1
  · obtain rfl:t=m+1:=by omega
    rfl
  · have ih:=ih h1 fun p hp hp2=>h p hp (by omega)
    simp only [gB]
    rw [if_neg (fun e=>h m h1 (by omega) e.1 e.2.1 e.2.2),ih]
variable(R:ny call O n sF sH qf)
include R
theorem ny.LV {t:Nat} (ht:t<n) (h:¬ ((O t).wanted (sF t)=true∧dS (O t).o= .iT)):(sH (t+1)).bs=(sH t).bs:=by
 obtain ⟨x,h1,_⟩:=R.one ht
 cases h1 with
 |off a e e2=>rw [e2]
 |call a f as H1 e e2=>exact absurd ⟨a,gG e⟩ h
 |val a e=>
  cases hk:dS (O t).o with
  |pure=>rw [(kK hk e).1]
  |load=>rw [(kL hk e).1]
  |read=>rw [(kM hk e).1]
  |iT=>exact absurd ⟨a,hk⟩ h
  |alloc=>
   obtain ⟨aN,e2,_⟩:=gO hk e
   rw [e2];rfl
  |st=>
   obtain ⟨c,aN,h2,_,e2,_⟩:=pv hk e
   rw [e2];rfl
theorem ny.C4 {m:Nat} (hm:m≤n):gB O sF sH (fun _=>true) m=(sH m).bs:=by
 induction m with
 |zero=>rfl
 |succ m ih=>
  simp only [gB]
  by_cases h:(O m).wanted (sF m)=true∧dS (O m).o= .iT
  ·rw [if_pos (by first|exact ⟨rfl,h⟩|exact ⟨trivial,h⟩)]
  ·rw [if_neg (fun e=>h e.2),ih (by omega),R.LV (by omega) h]
theorem ny.still {t:Nat} (ht:t<n) {b:Nat} (h:¬ AV O sF sH t b):(sH (t+1)).raw b=(sH t).raw b:=by
 obtain ⟨x,h1,_⟩:=R.one ht
 cases h1 with
 |off a e e2=>rw [e2]
 |call a f as H1 e e2=>exact absurd (.iT a (gG e)) h
 |val a e=>
  cases hk:dS (O t).o with
  |pure=>rw [(kK hk e).1]
  |load=>rw [(kL hk e).1]
  |read=>rw [(kM hk e).1]
  |iT=>exact absurd (.iT a hk) h
  |alloc=>
   obtain ⟨aN,e2,_⟩:=gO hk e
   rw [e2,AH.cj,if_neg]
   exact fun e3=>h (.alloc a hk e3)
  |st=>
   obtain ⟨c,aN,h2,_,e2,_⟩:=pv hk e
   rw [e2,AH.cu,if_neg]
   intro e3
   subst e3
   exact h (.st a hk h2)
theorem ny.C5 {m:Nat} (hm:m≤n) (b:Nat):gS O sF sH (fun _=>true) m b=(sH m).raw b:=by
 induction m with
 |zero=>rfl
 |succ m ih=>
  simp only [gS]
  by_cases h:AV O sF sH m b
  ·rw [if_pos ⟨rfl,h⟩]
  ·rw [if_neg (fun e=>h e.2),ih (by omega),R.still (by omega) h]
theorem ny.dj {t:Nat} (ht:t<n) (w:(O t).wanted (sF t)=true) (k:dS (O t).o= .alloc):(sH (t+1)).nx=(sH t).nx+1:=by
 obtain ⟨x,h1,_⟩:=R.one ht
 cases h1 with
 |off a e e2=>rw [w]at a;cases a
 |call a f as H1 e e2=>rw [gG e]at k;cases k
 |val a e=>
  obtain ⟨aN,e2,_⟩:=gO k e
  rw [e2];rfl
structure XM (O:Nat→AO) (n:Nat) (sF:Nat→Fr) (sH:Nat→AH) (S:Nat→Bool) (Dm:Nat→Prop):Prop where
 C6:∀b,Dm b→b<(sH 0).nx∨∃t,t<n∧S t=true∧(sH t).nx≤b∧b<(sH (t+1)).nx
 XN:∀p,p<n→S p=true→(O p).wanted (sF p)=true→dS (O p).o= .st→∀b,cw (O p) (sF p)=some b→Dm b
variable{S:Nat→Bool} {Dm:Nat→Prop} (D:XM O n sF sH S Dm)
include D
theorem ny.tg {p:Nat} (hp:p<n) (hS:S p=false) (w:(O p).wanted (sF p)=true) (k:dS (O p).o= .alloc):¬ Dm (sH p).nx:=by
 intro h
 rcases D.C6 _ h with h|⟨t,ht,Qz,h1,h2⟩
 ·have:=R.gk (Nat.zero_le p) (by omega);omega
 ·rcases Nat.lt_trichotomy t p with h3|h3|h3
  ·have:=R.gk (show t+1≤p by omega) (by omega);omega
  ·subst h3;rw [hS]at Qz;cases Qz
  ·have:=R.gk (show p+1≤t by omega) (by omega)
   rw [R.dj hp w k]at this
   omega
variable{t:Nat} (C:Qy n qf S t)
include C
theorem ny.ahead {b:Nat} (hb:Dm b) (h:∀p,p<t→S p=false→(O p).wanted (sF p)=true→dS (O p).o= .st→dS (O t).o= .st→cw (O p) (sF p)≠some b):gS O sF sH S t b=(sH t).raw b:=by
 rw [←R.C5 (Nat.le_of_lt C.lt)]
 refine yZ fun p hp ht=>?_
 cases hS:S p with
 |true=>rfl
 |false=>
  exfalso
  obtain ⟨_,_,_,hm⟩:=R.before C hp hS
  have lC:p<n:=Nat.lt_trans hp C.lt
  cases ht with
  |alloc w k e=>subst e;exact R.tg D lC hS w k hb
  |st w k e=>
   rw [k]at hm
   cases hk:dS (O t).o<;>rw [hk]at hm<;>first
    |(simp [dE,wQ.iK]at hm;done)
    |exact h p hp hS w k hk e
  |iT w k=>
   rw [k]at hm
   cases hk:dS (O t).o<;>rw [hk]at hm<;>simp [dE,wQ.iK]at hm
theorem ny.load {a:Addr} {vs:List Value} (w:(O t).wanted (sF t)=true) (k:dS (O t).o= .load) (hl:iI (O t) (sF t) (sH t)=some (a,vs)) (rF:cw (O t) (sF t)=some a.block) (hv:(sH t).ldn a vs.length=some vs) (hb:Dm a.block):
 (uz O sF sH S n (sH n).nx).ldn a vs.length=some vs:=by
 have dm:a.block<(sH t).nx:=by
  obtain ⟨x,hx⟩:=Option.isSome_iff_exists.1 (cB hv).1
  exact AH.aL hx
 have key:∀m,t≤m→m≤n→(uz O sF sH S m (sH n).nx).ldn a vs.length=some vs:=by
  intro m hm
  induction m with
  |zero=>
   intro QA
   obtain rfl:t=0:=by omega
   rw [←hv]
   refine dT ?_ rfl
   rw [kN _ _ _ _ (by have:=R.gk (Nat.zero_le n) (alR _);omega),AH.dR dm]
   rfl
  |succ m ih=>
   intro QA
   rcases Nat.lt_or_eq_of_le hm with h1|h1
   ·have ih:=ih (by omega) (by omega)
    have hN:a.block<(sH n).nx:=by have:=R.gk (Nat.le_of_lt C.lt) (alR _);omega
    by_cases hS:S m=true∧AV O sF sH m a.block
    ·obtain ⟨hS,ht⟩:=hS
     have O8:t<m:=by
      rcases Nat.lt_or_eq_of_le (show t≤m by omega)with h2|h2
      ·exact h2
      ·subst h2;rw [C.out]at hS;cases hS
     obtain ⟨hn,_,_,hmf⟩:=R.behind C O8 (by omega) hS
     cases ht with
     |alloc w' k' e=>
      have:=R.gk (show t≤m by omega) (by omega)
      omega
     |st w' k' e=>exact absurd rfl (R.c2 t m O8 (by omega) hn w w' (.inl k) k' a.block a.block rF e)
     |iT w' k'=>
      obtain ⟨x,e1,e2⟩:=R.c0 t m O8 (by omega) hn w w' k k'
      rw [hl]at e1
      cases e1
      have e3:=AU e2
      rw [←e3]
      refine dT ?_ (R.O7 (m+1) (by omega)).symm
      rw [kN _ _ _ _ hN]
      have:a.block<(sH (m+1)).nx:=by have:=R.gk (show t≤m+1 by omega) (by omega);omega
      rw [AH.dR this]
      simp only [gS]
      rw [if_pos ⟨hS,.iT w' k'⟩]
    ·rw [←ih]
     refine dT ?_ rfl
     rw [kN _ _ _ _ hN,kN _ _ _ _ hN]
     simp only [gS]
     rw [if_neg hS]
   ·subst h1
    rw [←hv]
    refine dT ?_ (R.O7 _ (by omega)).symm
    rw [kN _ _ _ _ (by have:=R.gk (show m+1≤n by omega) (alR _);omega),AH.dR dm]
    exact R.ahead D C hb fun p hp hS w' k' k2=>by rw [k]at k2;cases k2
 exact key n (Nat.le_of_lt C.lt) (alR _)
theorem ny.look {b:Nat} (w:(O t).wanted (sF t)=true) (k:dS (O t).o= .read∨dS (O t).o= .st) (rF:cw (O t) (sF t)=some b) (hs:((sH t).get b).isSome=true) (hb:Dm b):
 (uz O sF sH S n (sH n).nx).get b=(sH t).get b:=by
 have dm:b<(sH t).nx:=by
  obtain ⟨x,hx⟩:=Option.isSome_iff_exists.1 hs
  exact AH.aL hx
 rw [kN _ _ _ _ (by have:=R.gk (Nat.le_of_lt C.lt) (alR _);omega),AH.dR dm,px (t:=t) (Nat.le_of_lt C.lt)]
 ·refine R.ahead D C hb fun p hp hS w' k' k2 e=>?_
  obtain ⟨hn,_⟩:=R.before C hp hS
  exact absurd rfl (R.c2 p t hp C.lt hn w' w (.inr (.inr k')) k2 b b e rF)
 ·intro p hp lC hS ht
  have htp:t<p:=by
   rcases Nat.lt_or_eq_of_le hp with h2|h2
   ·exact h2
   ·subst h2;rw [C.out]at hS;cases hS
  obtain ⟨hn,_,_,hm⟩:=R.behind C htp lC hS
  cases ht with
  |alloc w' k' e=>
   have:=R.gk (show t≤p by omega) (by omega)
   omega
  |st w' k' e=>
   exact absurd rfl (R.c2 t p htp lC hn w w' (.inr k) k' b b rF e)
  |iT w' k'=>
   rw [k']at hm
   rcases k with k|k<;>rw [k]at hm<;>simp [dE,wQ.iK]at hm
omit R D C in
theorem nI {b:Nat} (h:¬ AV O sF sH t b):gS O sF sH (ins S t) n b=gS O sF sH S n b:=
 yZ fun p hp ht=>fR (fun e=>h (e▸ht))
theorem ny.qh {b:Nat} (h:AV O sF sH t b):gS O sF sH (ins S t) n b=(sH (t+1)).raw b:=by
 have stop:(∀p,t<p→p<n→S p=true→¬ AV O sF sH p b)→gS O sF sH (ins S t) n b=(sH (t+1)).raw b:=by
  intro hh
  rw [px (t:=t+1) C.lt]
  ·simp only [gS]
   rw [if_pos ⟨eO,h⟩]
  ·intro p hp lC hS
   rw [fR (by omega)]at hS
   exact hh p (by omega) lC hS
 cases h with
 |iT w k=>
  refine stop fun p hp lC hS ht=>?_
  obtain ⟨hn,_,_,hm⟩:=R.behind C hp lC hS
  rw [k]at hm
  cases hk:dS (O p).o<;>rw [hk]at hm<;>simp [dE,wQ.iK]at hm
 |st w k e=>
  refine stop fun p hp lC hS ht=>?_
  obtain ⟨hn,_,_,hm⟩:=R.behind C hp lC hS
  cases ht with
  |alloc w' k' e'=>rw [k,k']at hm;simp [dE,wQ.iK]at hm
  |iT w' k'=>rw [k,k']at hm;simp [dE,wQ.iK]at hm
  |st w' k' e'=>exact absurd rfl (R.c2 t p hp lC hn w w' (.inr (.inr k)) k' b b e e')
 |alloc w k e=>
  have key:∀m,t+1≤m→m≤n→gS O sF sH (ins S t) m b=(sH (t+1)).raw b:=by
   intro m hm
   induction m with
   |zero=>omega
   |succ m ih=>
    intro QA
    rcases Nat.lt_or_eq_of_le hm with h1|h1
    ·have ih:=ih (by omega) (by omega)
     simp only [gS]
     by_cases hS:ins S t m=true∧AV O sF sH m b
     ·rw [if_pos hS]
      obtain ⟨hS,ht⟩:=hS
      rw [fR (by omega)]at hS
      obtain ⟨hn,_,_,_⟩:=R.behind C (show t<m by omega) (by omega) hS
      cases ht with
      |alloc w' k' e'=>
       have h2:=R.gk (show t+1≤m by omega) (by omega)
       rw [R.dj C.lt w k]at h2
       omega
      |st w' k' e'=>
       have:=D.XN m (by omega) hS w' k' b e'
       subst e
       exact absurd this (R.tg D C.lt C.out w k)
      |iT w' k'=>
       have h3:=R.c1 t m (by omega) (by omega) hn w w' k k'
       have h2:=R.dj C.lt w k
       have h4:=R.gk (show t+1≤m+1 by omega) (by omega)
       rw [AH.dR (by omega),AH.dR (by omega)]at h3
       rw [e]
       exact h3
     ·rw [if_neg hS,ih]
    ·have:m=t:=by omega
     subst this
     simp only [gS]
     rw [if_pos ⟨eO,.alloc w k e⟩]
  exact key n C.lt (alR _)
end
end Go.Proofs.YtppcmpmnglaleaaGreatDoor.A
namespace Go.Proofs.YtppcmpmnglaleaaGreatDoor.A
open Go
section
variable{call:Cl} {O:Nat→AO} {n:Nat} {sF:Nat→Fr} {sH:Nat→AH} {qf:Nat→Nat→Prop}
structure Step (call:Cl) (O:Nat→AO) (n:Nat) (sF:Nat→Fr) (sH:Nat→AH) (S:Nat→Bool) (Dm:Nat→Prop) (t:Nat) (Hx Hy:AH):Prop where
 run:iH call (O t) (td O sF S n) Hx=some ((td O sF S n).aM (O t).d (tc O sF t),Hy)
 pre:∀b,Dm b→Hx.raw b=gS O sF sH S n b
 n0x:Hx.n0=(sH 0).n0
 post:∀b,gS O sF sH (ins S t) n b=Hy.raw b
 n0y:Hy.n0=(sH 0).n0
 bsx:Hx.bs=gB O sF sH S n
 bsy:gB O sF sH (ins S t) n=Hy.bs
 lo:(sH 0).nx≤Hx.nx
 hi:Hy.nx≤(sH n).nx
 out:¬ Dm Hx.nx
 fresh:dS (O t).o= .iT→∀b,Hx.nx≤b→¬ Dm b
 new:∀b,Hx.nx≤b→b<Hy.nx→(sH t).nx≤b∧b<(sH (t+1)).nx
variable(R:ny call O n sF sH qf) {S:Nat→Bool} {Dm:Nat→Prop} (D:XM O n sF sH S Dm) {t:Nat} (C:Qy n qf S t)
include R D
theorem ny.py {b:Nat} (h:(sH n).nx≤b):¬ Dm b:=by
 intro hb
 rcases D.C6 b hb with h1|⟨p,hp,_,h1,h2⟩
 ·have:=R.gk (Nat.zero_le n) (alR _);omega
 ·have:=R.gk (show p+1≤n by omega) (alR _);omega
include C
omit R D C in
theorem xz (h:¬ ((O t).wanted (sF t)=true∧dS (O t).o= .iT)):gB O sF sH (ins S t) n=gB O sF sH S n:=
 y3 fun p _ w k=>fR (fun e=>h (e▸⟨w,k⟩))
theorem ny.same {x:Value} (hv:∀f:Fr,f.aM (O t).d x=f.aM (O t).d (tc O sF t)) (qi:∀b,¬ AV O sF sH t b)
 (h:One call (O t) (sF t) (uz O sF sH S n (sH n).nx) x (uz O sF sH S n (sH n).nx)):Step call O n sF sH S Dm t (uz O sF sH S n (sH n).nx) (uz O sF sH S n (sH n).nx)where
 run:=dq.2 ⟨x,(hv _).symm,(R.agree C).one h⟩
 pre:=fun b _=>rfl
 n0x:=rfl
 post:=fun b=>nI (qi b)
 n0y:=rfl
 bsx:=rfl
 bsy:=xz fun e=>qi 0 (.iT e.1 e.2)
 lo:=R.gk (Nat.zero_le n) (alR _)
 hi:=alR _
 out:=R.py D (alR _)
 fresh:=fun _ b hb=>R.py D hb
 new:=fun b h1 h2=>by omega
theorem ny.LW (LX:(O t).wanted (sF t)=true→∀b,cw (O t) (sF t)=some b→Dm b):∃Hx Hy,Step call O n sF sH S Dm t Hx Hy:=by
 obtain ⟨x,h1,hv⟩:=R.one C.lt
 have hN:=R.gk (show t+1≤n from C.lt) (alR _)
 have hN2:=R.gk (show t≤n by have:=C.lt;omega) (alR _)
 have h0:=R.gk (Nat.zero_le t) (Nat.le_of_lt C.lt)
 have mu:(uz O sF sH S n (sH n).nx).n0=(sH t).n0:=(R.O7 t (Nat.le_of_lt C.lt)).symm
 have y4:(O t).wanted (sF t)=true→dS (O t).o= .iT→∃Hx Hy,Step call O n sF sH S Dm t Hx Hy:=by
  intro w k
  have iw:∀p,t<p→p<n→S p=true→False:=by
   intro p hp lC hS
   obtain ⟨_,_,_,hm⟩:=R.behind C hp lC hS
   rw [k]at hm
   cases hk:dS (O p).o<;>rw [hk]at hm<;>simp [dE,wQ.iK]at hm
  have fresh:∀b,(sH t).nx≤b→¬ Dm b:=by
   intro b hb hd
   rcases D.C6 b hd with h2|⟨p,hp,hS,h2,h3⟩
   ·omega
   ·rcases Nat.lt_trichotomy p t with h4|h4|h4
    ·have:=R.gk (show p+1≤t by omega) (Nat.le_of_lt C.lt);omega
    ·subst h4;rw [C.out]at hS;cases hS
    ·exact iw p h4 hp hS
  have bs1:(sH t).bs=gB O sF sH S n:=by
   rw [tf (t:=t) (Nat.le_of_lt C.lt),←R.C4 (Nat.le_of_lt C.lt)]
   ·refine y3 fun p hp w' k'=>?_
    cases hS:S p with
    |true=>rfl
    |false=>
     obtain ⟨_,_,_,hm⟩:=R.before C hp hS
     rw [k,k']at hm
     simp [dE,wQ.iK]at hm
   ·intro p hp lC hS w' k'
    rcases Nat.lt_or_eq_of_le hp with h4|h4
    ·exact iw p h4 lC hS
    ·subst h4;rw [C.out]at hS;cases hS
  have bs2:gB O sF sH (ins S t) n=(sH (t+1)).bs:=by
   rw [tf (t:=t+1) C.lt]
   ·simp only [gB]
    rw [if_pos ⟨eO,w,k⟩]
   ·intro p hp lC hS w' k'
    rw [fR (by omega)]at hS
    exact iw p (by omega) lC hS
  refine ⟨sH t,sH (t+1),?_,?_,R.O7 t (Nat.le_of_lt C.lt),?_,R.O7 (t+1) C.lt,bs1,bs2,h0,hN,fresh _ (alR _),fun _=>fresh,fun b h2 h3=>⟨h2,h3⟩⟩
  ·exact dq.2 ⟨x,(hv _).symm,(R.agree C).one h1⟩
  ·intro b hb
   rw [px (t:=t) (Nat.le_of_lt C.lt)]
   ·exact (R.ahead D C hb fun p hp hS w' k' k2=>by rw [k]at k2;cases k2).symm
   ·intro p hp lC hS
    rcases Nat.lt_or_eq_of_le hp with h4|h4
    ·exact (iw p h4 lC hS).elim
    ·subst h4;rw [C.out]at hS;cases hS
  ·intro b
   exact R.qh D C (.iT w k)
 cases h1 with
 |off w e e2=>
  exact ⟨_,_,R.same D C hv (fun b ht=>by
   have:(O t).wanted (sF t)=true:=by cases ht<;>assumption
   rw [w]at this
   cases this) (.off w e rfl)⟩
 |call w f as H1 e e2=>exact y4 w (gG e)
 |val w e=>
  have quiet:(dS (O t).o≠ .alloc)→(dS (O t).o≠ .st)→(dS (O t).o≠ .iT)→∀b,¬ AV O sF sH t b:=by
   intro h2 h3 h4 b ht
   cases ht with
   |alloc _ k _=>exact h2 k
   |st _ k _=>exact h3 k
   |iT _ k=>exact h4 k
  cases hk:dS (O t).o with
  |iT=>exact y4 w hk
  |pure=>
   exact ⟨_,_,R.same D C hv (quiet (by simp [hk]) (by simp [hk]) (by simp [hk])) (.val w ((kK hk e).2 _))⟩
  |load=>
   obtain ⟨_,a,vs,hl,rF,uA,aT⟩:=kL hk e
   exact ⟨_,_,R.same D C hv (quiet (by simp [hk]) (by simp [hk]) (by simp [hk])) (.val w (aT _ (R.load D C w hk hl rF uA (LX w _ rF))))⟩
  |read=>
   obtain ⟨_,aT⟩:=kM hk e
   exact ⟨_,_,R.same D C hv (quiet (by simp [hk]) (by simp [hk]) (by simp [hk])) (.val w (aT _ (fun b rF hs=>R.look D C w (.inl hk) rF hs (LX w _ rF)) mu))⟩
  |st=>
   obtain ⟨c,aN,rF,hs,e2,aT⟩:=pv hk e
   have h3:=aT (uz O sF sH S n (sH n).nx) (R.look D C w (.inr hk) rF hs (LX w _ rF)) mu
   have LY:One call (O t) (sF t) (uz O sF sH S n (sH n).nx) x ((uz O sF sH S n (sH n).nx).put c aN):=.val w h3
   refine ⟨_,_,dq.2 ⟨x,(hv _).symm,(R.agree C).one LY⟩,fun b _=>rfl,rfl,fun b=>?_,rfl,rfl,xz (fun e=>by rw [hk]at e;cases e.2),R.gk (Nat.zero_le n) (alR _),alR _,R.py D (alR _),fun _ b hb=>R.py D hb,fun b h1 h2=>?_⟩
   ·rw [AH.cu]
    by_cases hb:b=c
    ·subst hb
     rw [if_pos rfl,R.qh D C (.st w hk rF),e2,AH.cu,if_pos rfl]
    ·rw [if_neg hb,nI]
     ·rfl
     ·intro ht
      cases ht with
      |alloc _ k _=>rw [hk]at k;cases k
      |iT _ k=>rw [hk]at k;cases k
      |st _ _ e=>rw [rF]at e;cases e;exact hb rfl
   ·have:b<(sH n).nx:=h2
    have:(sH n).nx≤b:=h1
    omega
  |alloc=>
   obtain ⟨aN,e2,aT⟩:=gO hk e
   have h3:=aT (uz O sF sH S n (sH t).nx) rfl
   have LY:One call (O t) (sF t) (uz O sF sH S n (sH t).nx) x ((uz O sF sH S n (sH t).nx).alloc aN):=.val w h3
   have xA:=R.dj C.lt w hk
   refine ⟨_,_,dq.2 ⟨x,(hv _).symm,(R.agree C).one LY⟩,fun b _=>rfl,rfl,fun b=>?_,rfl,rfl,xz (fun e=>by rw [hk]at e;cases e.2),h0,?_,R.tg D C.lt C.out w hk,fun h=>?_,fun b h1 h2=>?_⟩
   ·rw [AH.cj]
    by_cases hb:b=(uz O sF sH S n (sH t).nx).nx
    ·have jW:b=(sH t).nx:=hb
     rw [if_pos hb,R.qh D C (.alloc w hk jW),e2,AH.cj,if_pos jW]
    ·rw [if_neg hb,nI]
     ·rfl
     ·intro ht
      cases ht with
      |alloc _ k e=>exact hb e
      |iT _ k=>rw [hk]at k;cases k
      |st _ k e=>rw [hk]at k;cases k
   ·show(sH t).nx+1≤_
    omega
   ·rw [hk]at h;cases h
   ·have Gv:(sH t).nx≤b:=h1
    have B1:b<(sH t).nx+1:=h2
    omega
end
end Go.Proofs.YtppcmpmnglaleaaGreatDoor.A
namespace Go.Proofs.YtppcmpmnglaleaaGreatDoor.A
open Go
theorem th {α:Type}:∀(l:List α) (n:Nat),nth l n=l[n]?
 |[],n=>by simp [nth]
 |x::l,0=>by simp [nth]
 |x::l,n+1=>by simp [nth,th l n]
theorem nJ {call:Cl}:∀(l:List AO) (fr:Fr) (H:AH) (ss:List (Fr×AH)),iJ call l fr H=some ss→
 ss.length=l.length∧eM (fr,H) ss=(((fr,H)::ss)[l.length]?).getD (fr,H)∧
 ∀t o,l[t]?=some o→∃s s',((fr,H)::ss)[t]?=some s∧((fr,H)::ss)[t+1]?=some s'∧iH call o s.1 s.2=some s'
 |[],fr,H,ss,h=>by
  simp only [iJ,alO]at h
  subst h
  exact ⟨rfl,rfl,fun t o h=>(by simp at h)⟩
 |o::l,fr,H,ss,h=>by
  simp only [iJ]at h
  cases h1:iH call o fr H with
  |none=>simp [h1]at h
  |some r=>
   obtain ⟨bG,H'⟩:=r
   simp only [h1]at h
   cases h2:iJ call l bG H' with
   |none=>simp [h2]at h
   |some XO=>
    simp only [h2,alO]at h
    subst h
    obtain ⟨e1,e2,e3⟩:=nJ l bG H' XO h2
    refine ⟨by simp [e1],?_,fun t o' ho=>?_⟩
    ·simp only [eM,e2,List.length_cons,List.getElem?_cons_succ]
     cases hq:((bG,H')::XO)[l.length]? with
     |some q=>rfl
     |none=>
      have:=List.getElem?_eq_none_iff.1 hq
      simp only [List.length_cons,e1]at this
      omega
    ·cases t with
     |zero=>
      simp only [alM,alO]at ho
      subst ho
      exact ⟨_,_,rfl,rfl,h1⟩
     |succ t=>
      obtain ⟨s,s',a1,a2,a3⟩:=e3 t o' (by simpa using ho)
      exact ⟨s,s',by simpa using a1,by simpa using a2,a3⟩
theorem lR:∀(l:List (Fr×AH)),chain l=true→∀t s s',l[t]?=some s→l[t+1]?=some s'→s'.2.n0=s.2.n0∧s.2.nx≤s'.2.nx
 |[],_,t,s,s',h,_=>by simp at h
 |[a],_,t,s,s',_,h=>by simp at h
 |a::b::l,hc,t,s,s',h1,h2=>by
  simp only [chain,alQ,nb,alZ,Nat.ble_eq]at hc
  cases t with
  |zero=>
   simp at h1 h2
   subst h1
   subst h2
   exact ⟨hc.1.1.symm,hc.1.2⟩
  |succ t=>exact lR (b::l) hc.2 t s s' (by simpa using h1) (by simpa using h2)
theorem jq {l:List AO} {dp:List (List Nat)}:∀(ord:List Nat) (am:List (Nat×Nat)) (t:Nat) (r:Row),(kb l dp ord am)[t]?=some r→
 l[r.j]?=some r.o∧r.k=dS r.o.o∧dp[r.j]?=some r.dep∧
  ∀i,r.m.testBit i=true→∃e∈r.dep,e=i∨(∃q<t,∃r':Row,(kb l dp ord am)[q]?=some r'∧r'.j=e∧r'.m.testBit i=true)∨(rT e am).testBit i=true
 |[],am,t,r,h=>by simp [kb]at h
 |j::ord,am,t,r,h=>by
  simp only [kb]at h⊢
  cases hl:nth l j with
  |none=>simp [hl]at h
  |some o=>
   cases hd:nth dp j with
   |none=>simp [hl,hd]at h
   |some d=>
    simp only [hl,hd]at h⊢
    cases t with
    |zero=>
     simp only [alM,alO]at h
     subst h
     refine ⟨by rw [←th];exact hl,rfl,by rw [←th];exact hd,fun i hi=>?_⟩
     have key:∀(d:List Nat),(lN am d).testBit i=true→∃e∈d,e=i∨(rT e am).testBit i=true:=by
      intro d
      induction d with
      |nil=>intro h;simp [lN]at h
      |cons e d ih=>
       intro h
       simp only [lN,Nat.testBit_or,Bool.or_eq_true]at h
       rcases h with h|h|h
       ·obtain ⟨e',h1,h2⟩:=ih h
        exact ⟨e',List.mem_cons_of_mem _ h1,h2⟩
       ·refine ⟨e,List.mem_cons_self,.inl ?_⟩
        rw [Nat.one_shiftLeft,Nat.testBit_two_pow]at h
        simpa using h
       ·exact ⟨e,List.mem_cons_self,.inr h⟩
     obtain ⟨e,h1,h2⟩:=key d hi
     exact ⟨e,h1,h2.imp id .inr⟩
    |succ t=>
     simp only [List.getElem?_cons_succ]at h
     obtain ⟨h1,h2,h3,h4⟩:=jq ord _ t r h
     refine ⟨h1,h2,h3,fun i hi=>?_⟩
     obtain ⟨e,he,h5⟩:=h4 i hi
     refine ⟨e,he,?_⟩
     rcases h5 with h5|⟨q,hq,r',h6,h7,h8⟩|h5
     ·exact .inl h5
     ·exact .inr (.inl ⟨q+1,by omega,r',by simpa using h6,h7,h8⟩)
     ·simp only [rT,nb,Bool.cond_decide]at h5
      split at h5
      ·rename_i hje
       exact .inr (.inl ⟨0,by omega,_,rfl,hje,h5⟩)
      ·exact .inr (.inr h5)
theorem qj:∀(rs:List Row) (done:List Nat),yM rs done=true→∀(t:Nat) (r:Row),rs[t]?=some r→
 (r.j∉done∧∀(q:Nat) (r':Row),q<t→rs[q]?=some r'→r'.j≠r.j)∧∀e∈r.dep,e∈done∨∃q<t,∃r':Row,rs[q]?=some r'∧r'.j=e
 |[],_,_,t,r,h=>by simp at h
 |y::rs,done,h,t,r,hr=>by
  simp only [yM,alQ,Bool.not_eq_true',al3]at h
  obtain ⟨⟨h1,h2⟩,h3⟩:=h
  cases t with
  |zero=>
   simp only [alM,alO]at hr
   subst hr
   refine ⟨⟨fun hm=>?_,fun q _ hq=>by omega⟩,fun e he=>.inl (kc.1 (h2 e he))⟩
   rw [kc.2 hm]at h1
   cases h1
  |succ t=>
   simp only [List.getElem?_cons_succ]at hr
   obtain ⟨⟨h4,h5⟩,h6⟩:=qj rs _ h3 t r hr
   refine ⟨⟨fun hm=>h4 (List.mem_cons_of_mem _ hm),fun q r' hq Cb=>?_⟩,fun e he=>?_⟩
   ·cases q with
    |zero=>
     simp only [alM,alO]at Cb
     subst Cb
     exact fun e=>h4 (by rw [←e];exact List.mem_cons_self)
    |succ q=>exact h5 q r' (by omega) (by simpa using Cb)
   ·rcases h6 e he with h7|⟨q,hq,r',h8,h9⟩
    ·rcases List.mem_cons.1 h7 with rfl|h7
     ·exact .inr ⟨0,by omega,y,rfl,rfl⟩
     ·exact .inl h7
    ·exact .inr ⟨q+1,by omega,r',by simpa using h8,h9⟩
theorem y5:∀(rs:List Row),pw rs=true→∀(p q:Nat) (x y:Row),p<q→rs[p]?=some x→rs[q]?=some y→Cr x y=true
 |[],_,p,q,x,y,_,h,_=>by simp at h
 |z::rs,h,p,q,x,y,uP,hx,hy=>by
  simp only [pw,alQ,al3]at h
  cases q with
  |zero=>omega
  |succ q=>
   simp only [List.getElem?_cons_succ]at hy
   cases p with
   |zero=>
    simp only [alM,alO]at hx
    subst hx
    exact h.1 y (alS hy)
   |succ p=>exact y5 rs h.2 p q x y (by omega) (by simpa using hx) hy
theorem oH {p:Nat} {x:Row}:∀(rs:List Row) (q0 q:Nat) (y:Row),rs[q]?=some y→∀c∈xg p (q0+q) x y,c∈sT p x q0 rs
 |[],q0,q,y,h,c,_=>by simp at h
 |z::rs,q0,q,y,h,c,hc=>by
  simp only [sT]
  cases q with
  |zero=>
   simp only [alM,alO]at h
   subst h
   exact List.mem_append_left _ (by simpa using hc)
  |succ q=>
   exact List.mem_append_right _ (oH rs (q0+1) q y (by simpa using h) c (by rwa [show q0+1+q=q0+(q+1) by omega]))
theorem qk:∀(rs:List Row) (p0 p q:Nat) (x y:Row),p<q→rs[p]?=some x→rs[q]?=some y→∀c∈xg (p0+p) (p0+q) x y,c∈rU p0 rs
 |[],_,p,q,x,y,_,h,_,_,_=>by simp at h
 |z::rs,p0,p,q,x,y,uP,hx,hy,c,hc=>by
  simp only [rU]
  cases q with
  |zero=>omega
  |succ q=>
   simp only [List.getElem?_cons_succ]at hy
   cases p with
   |zero=>
    simp only [alM,alO]at hx
    subst hx
    exact List.mem_append_left _ (oH rs (p0+1) q y hy c (by rwa [show p0+1+q=p0+(q+1) by omega]))
   |succ p=>
    refine List.mem_append_right _ (qk rs (p0+1) p q x y (by omega) (by simpa using hx) hy c ?_)
    rwa [show p0+1+p=p0+(p+1) by omega,show p0+1+q=p0+(q+1) by omega]
theorem C7 {n i:Nat} (h:i<n):i∈GS n:=by
 induction n with
 |zero=>omega
 |succ n ih=>
  simp only [GS,List.mem_cons]
  by_cases e:i=n
  ·exact .inl e
  ·exact .inr (ih (by omega))
def QB:Row:=⟨⟨none,none,.mkmap⟩,.pure,0,[],0⟩
def rowAt (rs:List Row) (t:Nat):Row:=(rs[t]?).getD QB
def QC (rs:List Row) (p q:Nat):Prop:=(rowAt rs q).m.testBit (rowAt rs p).j=true
theorem bK {rs:List Row} {t:Nat} (h:t<rs.length):rs[t]?=some (rowAt rs t):=by
 unfold rowAt
 rw [alN h]
 rfl
def Cc (s0:Fr×AH) (ss:List (Fr×AH)) (t:Nat):Fr:=(((s0::ss)[t]?).getD s0).1
def xB (s0:Fr×AH) (ss:List (Fr×AH)) (t:Nat):AH:=(((s0::ss)[t]?).getD s0).2
theorem LZ {call:Cl} {rs:List Row} (hk:∀(t:Nat) (r:Row),rs[t]?=some r→r.k=dS r.o.o) (lS:pw rs=true) {fr:Fr} {H:AH} {ss:List (Fr×AH)} (hT:iJ call (rs.map (·.o)) fr H=some ss) (eN:chain ((fr,H)::ss)=true)
 (B8:(rU 0 rs).all (oZ (rs.map (·.o)) ((fr,H)::ss))=true):
 ny call (fun t=>(rowAt rs t).o) rs.length (Cc (fr,H) ss) (xB (fr,H) ss) (QC rs):=by
 obtain ⟨hlen,_,gE⟩:=nJ _ _ _ _ hT
 have st:∀t,t<rs.length→∃s s',((fr,H)::ss)[t]?=some s∧((fr,H)::ss)[t+1]?=some s'∧iH call (rowAt rs t).o s.1 s.2=some s':=
  fun t ht=>gE t (rowAt rs t).o (by rw [List.getElem?_map,bK ht];rfl)
 have XP:∀p q,p<q→q<rs.length→∀c∈xg p q (rowAt rs p) (rowAt rs q),oZ (rs.map (·.o)) ((fr,H)::ss) c=true:=by
  intro p q uP hq c hc
  exact al3.1 B8 c (qk rs 0 p q _ _ uP (bK (by omega)) (bK hq) c (by simpa using hc))
 have un:∀p q k,p<q→q<rs.length→(rowAt rs p).o.wanted (Cc (fr,H) ss p)=true→(rowAt rs q).o.wanted (Cc (fr,H) ss q)=true→oZ (rs.map (·.o)) ((fr,H)::ss) (k,p,q)=true→
  (match k with
   |0=>match iI (rowAt rs p).o (Cc (fr,H) ss p) (xB (fr,H) ss p)with|some x=>sameAt (xB (fr,H) ss (q+1)) x|none=>false
   |1=>ly ((xB (fr,H) ss (p+1)).get (xB (fr,H) ss p).nx) ((xB (fr,H) ss (q+1)).get (xB (fr,H) ss p).nx)
   |_=>match cw (rowAt rs p).o (Cc (fr,H) ss p),cw (rowAt rs q).o (Cc (fr,H) ss q)with|some b,some b'=>!Nat.beq b b'|_,_=>true)=true:=by
  intro p q k uP hq wp wq h
  obtain ⟨s1,s2,a1,a2,_⟩:=st p (by omega)
  obtain ⟨s3,s4,a3,a4,_⟩:=st q hq
  have e1:(rs.map (·.o))[p]?=some (rowAt rs p).o:=by rw [List.getElem?_map,bK (by omega)];rfl
  have e2:(rs.map (·.o))[q]?=some (rowAt rs q).o:=by rw [List.getElem?_map,bK hq];rfl
  unfold Cc xB at*
  rw [a1,Option.getD_some]at wp
  rw [a3,Option.getD_some]at wq
  unfold oZ at h
  simp only [th,e1,e2,a1,a2,a3,a4,wp,wq,Bool.not_true,Bool.false_or]at h
  rw [a1,a2,a3,a4]
  simp only [Option.getD_some]
  exact h
 refine ⟨fun t ht=>?_,fun t ht=>?_,fun t ht=>?_,fun p q uP hq=>?_,?_,?_,?_⟩
 ·obtain ⟨s,s',h1,h2,h3⟩:=st t ht
  unfold Cc xB
  rw [h1,h2]
  exact h3
 ·obtain ⟨s,s',h1,h2,h3⟩:=st t ht
  unfold xB
  rw [h1,h2]
  exact (lR _ eN t s s' h1 h2).1
 ·obtain ⟨s,s',h1,h2,h3⟩:=st t ht
  unfold xB
  rw [h1,h2]
  exact (lR _ eN t s s' h1 h2).2
 ·have:=y5 rs lS p q _ _ uP (bK (by omega)) (bK hq)
  simp only [Cr,Bool.or_eq_true,alQ]at this
  rw [←hk p _ (bK (by omega)),←hk q _ (bK hq)]
  rcases this with h|⟨⟨h1,h2⟩,h3⟩
  ·exact .inl h
  ·exact .inr ⟨h1,h2,h3⟩
 ·intro p q uP hq hn wp wq kp kq
  rw [←hk p _ (bK (by omega))]at kp
  rw [←hk q _ (bK hq)]at kq
  have:=un p q 0 uP hq wp wq (XP p q uP hq _ (by
   unfold xg
   rw [show(rowAt rs q).m.testBit (rowAt rs p).j=false from Bool.eq_false_iff.2 hn,kp,kq]
   simp))
  simp only at this
  split at this
  ·rename_i x hx
   exact ⟨x,hx,this⟩
  ·cases this
 ·intro p q uP hq hn wp wq kp kq
  rw [←hk p _ (bK (by omega))]at kp
  rw [←hk q _ (bK hq)]at kq
  have:=un p q 1 uP hq wp wq (XP p q uP hq _ (by
   unfold xg
   rw [show(rowAt rs q).m.testBit (rowAt rs p).j=false from Bool.eq_false_iff.2 hn,kp,kq]
   simp))
  exact (C2 this).symm
 ·intro p q uP hq hn wp wq kp kq b b' hb jW
  rw [←hk p _ (bK (by omega))]at kp
  rw [←hk q _ (bK hq)]at kq
  have:=un p q 2 uP hq wp wq (XP p q uP hq _ (by
   unfold xg
   rw [show(rowAt rs q).m.testBit (rowAt rs p).j=false from Bool.eq_false_iff.2 hn,kq]
   rcases kp with kp|kp|kp<;>rw [kp]<;>simp))
  simp only [hb,jW,nb]at this
  simpa using this
open Go Go.RowKit
section
variable{P:Program}
theorem Rel.ql {w0 w:World} {φ:bl} {H H1:AH} (R:Rel w0 φ H w) (h:∀b,φ.m b≠none→H1.raw b=H.raw b) (h0:H1.n0=H.n0) (hx:φ.n0≤H1.nx) (lD:H1.bs=H.bs):Rel w0 φ H1 w where
 n0:=h0.trans R.n0
 nE:=R.nE
 oD:=hx
 c0:=R.c0
 below:=R.below
 sV:=R.sV
 gg:=R.gg
 iU:=fun b z cs hb hg=>R.iU b z cs hb (by rw [←h b (by rw [R.gg b hb];simp)];exact hg)
 cells:=fun b l z cs hb hl hg=>R.cells b l z cs hb hl (by rw [←h b (by rw [hl];simp)];exact hg)
 maps:=fun b l es hb hl hg=>R.maps b l es hb hl (by rw [←h b (by rw [hl];simp)];exact hg)
 inj:=fun b1 b2 l1 l2 j6 gC h1 h2 s1 s2 hc=>R.inj b1 b2 l1 l2 j6 gC h1 h2 (by rw [←h b1 (by rw [h1];simp)];exact s1) (by rw [←h b2 (by rw [h2];simp)];exact s2) hc
 mr:=fun b s e=>by
  obtain ⟨h1,h2,l,h3,h4,h5⟩:=R.mr b s (by rw [←lD];exact e)
  exact ⟨h1,by rw [h b (by rw [h3];simp)];exact h2,l,h3,h4,h5.pX rfl (fun _ _ _=>rfl) fun b' l' a1 a2 a3=>.inl ⟨a1,a2,by rw [←h b' (by rw [a2];simp)];exact a3⟩⟩
theorem Grow.comp {φ jV kJ:bl} {H HN Hx Hy:AH} {w w1 w2:World} (h:Grow φ H w jV HN w1) (k:Grow jV Hx w1 kJ Hy w2) (h1:H.nx≤Hx.nx) (h2:Hy.nx≤HN.nx):Grow φ H w kJ HN w2 where
 le:=bl.le_trans h.le k.le
 n0:=k.n0.trans h.n0
 c0:=k.c0.trans h.c0
 nx:=h.nx
 new:=fun b l e e2=>by
  cases e1:jV.m b with
  |none=>exact ⟨Nat.le_trans h1 (k.new b l e1 e2).1,Nat.lt_of_lt_of_le (k.new b l e1 e2).2 h2⟩
  |some l1=>exact h.new b l1 e e1
 size:=Nat.le_trans h.size k.size
theorem ti {φ:bl} {fr:Fr} {a:Act} (F:j8 φ fr a) {x:X} (h:Lx x=true) {d:Addr} (e:x.ev fr= .pointer (some d)):φ.m d.block≠none:=by
 cases x with
 |t n=>
  have:=F n
  rw [show fr.get n= .pointer (some d) from e]at this
  obtain ⟨l,_,hl,_⟩:=this.uM
  rw [hl];simp
 |k v=>rw [show v= .pointer (some d) from e]at h;cases h
 |f n=>cases e
theorem Hi {φ:bl} {fr:Fr} {a:Act} (F:j8 φ fr a) {x:X} (h:Lx x=true) {d:Nat} (e:x.ev fr= .map (some d)):φ.m d≠none:=by
 cases x with
 |t n=>
  have:=F n
  rw [show fr.get n= .map (some d) from e]at this
  obtain ⟨l,hl,_⟩:=this.Xm
  rw [hl];simp
 |k v=>rw [show v= .map (some d) from e]at h;cases h
 |f n=>cases e
theorem L0 {φ:bl} {fr:Fr} {a:Act} (F:j8 φ fr a) {x:X} (h:Lx x=true) {d:Addr} {n c:Nat} (e:x.ev fr= .slice (some d) n c) (hs:d.spot=none):φ.m d.block≠none:=by
 cases x with
 |t m=>
  have:=F m
  rw [show fr.get m= .slice (some d) n c from e]at this
  rcases this.Cu with⟨l,c',_,hl,_⟩|⟨h1,_⟩
  ·rw [hl];simp
  ·rw [hs]at h1;cases h1
 |k v=>rw [show v= .slice (some d) n c from e]at h;cases h
 |f n=>cases e
theorem C8 {φ:bl} {fr:Fr} {a:Act} (F:j8 φ fr a) {o:AO} (h:o.o.xs.all Lx=true) {b:Nat} (e:cw o fr=some b):φ.m b≠none:=by
 unfold cw at e
 cases hp:o.o<;>simp only [hp,cl.xs,List.all_cons,alQ]at h e<;>(try(cases e;done))
 case st n x v=>
  split at e<;>cases e
  rename_i hx
  exact ti F h.1 hx
 case ld x=>
  split at e<;>cases e
  rename_i hx
  exact ti F h.1 hx
 case ldn n x=>
  split at e<;>cases e
  rename_i hx
  exact ti F h.1 hx
 case look kk z x k ok=>
  split at e<;>cases e
  rename_i hx
  exact Hi F h.1 hx
 case sl sz x lo hi mx=>
  split at e
  ·rename_i hx
   obtain ⟨hs,e⟩:=au e
   cases e
   exact L0 F h.1 hx (by simpa using hs)
  ·cases e
def wT (S:Nat→Bool):Nat→Nat
 |0=>0
 |m+1=>wT S m+(bif S m then 0 else 1)
theorem uQ {S:Nat→Bool}:∀{m:Nat},wT S m=0→∀t,t<m→S t=true
 |0,_,t,h=>by omega
 |m+1,h,t,ht=>by
  simp only [wT]at h
  by_cases e:t=m
  ·subst e
   cases hS:S t with
   |true=>rfl
   |false=>rw [hS]at h;simp at h
  ·exact uQ (m:=m) (by omega) t (by omega)
theorem tj {S S':Nat→Bool}:∀{m:Nat},(∀t,t<m→S t=true→S' t=true)→wT S' m≤wT S m
 |0,_=>alR _
 |m+1,h=>by
  have:=tj (S:=S) (S':=S') (m:=m) fun t ht=>h t (by omega)
  simp only [wT]
  cases hS:S m with
  |true=>rw [h m (by omega) hS];simpa using this
  |false=>cases S' m<;>simp<;>omega
theorem y6 {S:Nat→Bool} {t:Nat} (hS:S t=false):∀{m:Nat},t<m→wT (ins S t) m+1≤wT S m
 |0,h=>by omega
 |m+1,h=>by
  simp only [wT]
  by_cases e:t=m
  ·subst e
   rw [eO,hS]
   have:=tj (S:=S) (S':=ins S t) (m:=t) fun p _ hp=>by
    by_cases e:p=t
    ·subst e;exact eO
    ·rw [fR e];exact hp
   simp;omega
  ·rw [fR (fun h=>e h.symm)]
   have:=y6 hS (m:=m) (by omega)
   omega
theorem Hj {m:Nat}:wT (fun _=>false) m=m:=by
 induction m with
 |zero=>rfl
 |succ m ih=>simp [wT,ih]
def rG (rs:List Row) (listed:Array Bool) (t:Nat):Bool:=listed.getD (rowAt rs t).j false
structure Hk (w0 w:World) (φ:bl) (O:Nat→AO) (n:Nat) (sF:Nat→Fr) (sH:Nat→AH) (nt:Nat) (S:Nat→Bool) (jV:bl) (a1:Act) (w1:World):Prop where
 rel:Rel w0 jV (uz O sF sH S n (sH n).nx) w1
 QD:j8 jV (td O sF S n) a1
 size:a1.tmps.size=nt
 defs:a1.defers=[]
 C6:XM O n sF sH S (fun b=>jV.m b≠none)
 grow:Grow φ (sH 0) w jV (sH n) w1
theorem QE {call:Cl} (jK:nH P call) {O:Nat→AO} {n:Nat} {sF:Nat→Fr} {sH:Nat→AH} {qf:Nat→Nat→Prop} (R:ny call O n sF sH qf) {w0 w:World} {φ:bl} (hb:φ.n0≤(sH 0).nx) {nt:Nat} {S:Nat→Bool} {t:Nat} (C:Qy n qf S t)
 {jV:bl} {a1:Act} {w1:World} (I:Hk w0 w φ O n sF sH nt S jV a1 w1) {cg:Array Oper} {j:Nat} {o:Oper} (hj:cg[j]?=some o) (hc:Ka P nt cg o=some (O t)) (hx:(O t).o.xs.all Lx=true)
 {Q:Exit→Act→World→Prop} {K:Act→World→Prop} (hK:∀kJ a2 w2,Hk w0 w φ O n sF sH nt (ins S t) kJ a2 w2→K a2 w2):wpOp P cg Q j K a1 w1:=by
 obtain ⟨Hx,Hy,St⟩:=R.LW I.C6 C (fun _ b hb=>C8 I.QD hx (by rw [C3 (R.agree C)];exact hb))
 have O4:jV.n0≤Hx.nx:=by rw [I.grow.n0];exact Nat.le_trans hb St.lo
 refine CU jK hj hc I.QD (I.rel.ql (fun b hb=>St.pre b hb) St.n0x O4 St.bsx) (Classical.not_not.1 St.out) (fun hk b hb=>Classical.not_not.1 (St.fresh hk b hb)) I.size I.defs St.run ?_
 intro kJ v v' w2 R2 G2 hv iX F2 AS yW
 refine hK kJ _ w2 ⟨?_,?_,AS,yW,?_,I.grow.comp G2 St.lo St.hi⟩
 ·refine R2.ql (fun b _=>St.post b) St.n0y.symm ?_ St.bsy
  show kJ.n0≤(sH n).nx
  rw [G2.n0,I.grow.n0]
  exact Nat.le_trans hb (R.gk (Nat.zero_le n) (alR _))
 ·intro x
  rw [R.Hh C x]
  exact F2 x
 ·refine ⟨fun b hb=>?_,fun p hp hS w k b rF=>?_⟩
  ·by_cases h1:jV.m b=none
   ·obtain ⟨l,hl⟩:∃l,kJ.m b=some l:=by
     cases h2:kJ.m b with
     |none=>exact absurd h2 hb
     |some l=>exact ⟨l,rfl⟩
    have h3:=G2.new b l h1 hl
    have h4:=St.new b h3.1 h3.2
    exact .inr ⟨t,C.lt,eO,h4.1,h4.2⟩
   ·rcases I.C6.C6 b h1 with h|⟨p,hp,hS,h2,h3⟩
    ·exact .inl h
    ·refine .inr ⟨p,hp,?_,h2,h3⟩
     by_cases e:p=t
     ·subst e;exact eO
     ·rw [fR e];exact hS
  ·have up:∀b,jV.m b≠none→kJ.m b≠none:=by
    intro b h
    cases h1:jV.m b with
    |none=>exact absurd h1 h
    |some l=>rw [G2.le _ _ h1];simp
   by_cases e:p=t
   ·subst e
    exact up b (C8 I.QD hx (by rw [C3 (R.agree C)];exact rF))
   ·rw [fR e]at hS
    exact up b (I.C6.XN p hp hS w k b rF)
theorem uR {nt:Nat} {cg:Array Oper}:∀{l:List Oper} {B9:List AO},mA P nt cg l=some B9→B9.length=l.length∧∀(j:Nat) (o:Oper) (ao:AO),l[j]?=some o→B9[j]?=some ao→Ka P nt cg o=some ao
 |[],B9,h=>by
  simp [mA]at h
  subst h
  exact ⟨rfl,fun j o ao h=>(by simp at h)⟩
 |x::l,B9,h=>by
  simp only [mA]at h
  cases h1:Ka P nt cg x with
  |none=>simp [h1]at h
  |some y=>
   cases h2:mA P nt cg l with
   |none=>simp [h1,h2]at h
   |some m=>
    simp only [h1,h2,alO]at h
    subst h
    obtain ⟨e1,e2⟩:=uR h2
    refine ⟨by simp [e1],fun j o ao ho ha=>?_⟩
    cases j with
    |zero=>
     simp at ho ha
     subst ho
     subst ha
     exact h1
    |succ j=>exact e2 j o ao (by simpa using ho) (by simpa using ha)
theorem tk {o:Oper} {i:Nat}:i∈GR o↔∃e∈o.after,Region.binds .any e=true∧e.on=i:=by
 unfold GR
 rw [List.mem_filterMap]
 constructor
 ·rintro ⟨e,he,h⟩
  cases hb:Region.binds .any e with
  |false=>rw [hb]at h;cases h
  |true=>rw [hb]at h;cases h;exact ⟨e,by simpa using he,hb,rfl⟩
 ·rintro ⟨e,he,hb,rfl⟩
  exact ⟨e,by simpa using he,by rw [hb];rfl⟩
theorem L2 (hm:P.follows .mixedOrders=true) {call:Cl} (jK:nH P call):CY P call:=by
 intro nt id cg ac hc l ck hac w0 w φ H H' fr bG a h F R R0 hs hd
 obtain ⟨B9,ord,hl,ta,QF⟩:=qd hc
 generalize xC:kb B9 (cg.toList.map GR) ord []=rs at ta QF
 rw [QF]at hac
 cases hac
 simp only [xh,alQ,nb,alZ,al3]at ta
 obtain ⟨⟨⟨⟨XQ,hlen⟩,XR⟩,XS⟩,lS⟩:=ta
 obtain ⟨Kl,QG⟩:=uR hl
 have hn:rs.length=cg.size:=by rw [hlen,Kl];simp
 have row:∀t,t<rs.length→∃o,cg[(rowAt rs t).j]?=some o∧Ka P nt cg o=some (rowAt rs t).o∧(rowAt rs t).dep=GR o∧(rowAt rs t).o.o.xs.all Lx=true:=by
  intro t ht
  have hg:=bK ht
  obtain ⟨h1,h2,h3,_⟩:=jq ord [] t (rowAt rs t) (by rw [xC];exact hg)
  rw [List.getElem?_map]at h3
  cases ho:cg.toList[(rowAt rs t).j]? with
  |none=>simp [ho]at h3
  |some o=>
   simp [ho]at h3
   exact ⟨o,by simpa using ho,QG _ o _ ho h1,h3.symm,al3.2 (XQ _ (alS hg))⟩
 have QH:∀t,t<rs.length→∀i,(rowAt rs t).m.testBit i=true→∃e∈(rowAt rs t).dep,e=i∨∃q<t,(rowAt rs q).j=e∧(rowAt rs q).m.testBit i=true:=by
  intro t ht i hi
  obtain ⟨_,_,_,h4⟩:=jq ord [] t (rowAt rs t) (by rw [xC];exact bK ht)
  obtain ⟨e,he,h5⟩:=h4 i hi
  refine ⟨e,he,?_⟩
  rcases h5 with h5|⟨q,hq,r',h6,h7,h8⟩|h5
  ·exact .inl h5
  ·rw [xC]at h6
   have:rowAt rs q=r':=by unfold rowAt;rw [h6];rfl
   exact .inr ⟨q,hq,by rw [this];exact h7,by rw [this];exact h8⟩
  ·simp [rT]at h5
 have XT:∀t,t<rs.length→(∀q,q<t→(rowAt rs q).j≠(rowAt rs t).j)∧∀e∈(rowAt rs t).dep,∃q<t,(rowAt rs q).j=e:=by
  intro t ht
  obtain ⟨⟨_,h1⟩,h2⟩:=qj rs [] XS t _ (bK ht)
  refine ⟨fun q hq=>h1 q _ hq (bK (by omega)),fun e he=>?_⟩
  rcases h2 e he with h3|⟨q,hq,r',h4,h5⟩
  ·cases h3
  ·exact ⟨q,hq,by unfold rowAt;rw [h4];exact h5⟩
 have sur:∀i,i<cg.size→∃t,t<rs.length∧(rowAt rs t).j=i:=by
  intro i hi
  have:=kc.1 (XR i (C7 (by rw [Kl];simpa using hi)))
  obtain ⟨r,hr,e⟩:=List.mem_map.1 this
  obtain ⟨t,ht,e2⟩:=List.mem_iff_getElem.1 hr
  refine ⟨t,ht,?_⟩
  unfold rowAt
  rw [alN ht,Option.getD_some,e2]
  exact e
 have XU:∀t,t<rs.length→(rowAt rs t).j<cg.size:=by
  intro t ht
  obtain ⟨o,ho,_⟩:=row t ht
  exact (al1.1 ho).1
 unfold uH at h
 cases hT:iJ call (rs.map (·.o)) fr H with
 |none=>simp [hT]at h
 |some ss=>
  simp only [hT]at h
  obtain ⟨B8,h⟩:=au h
  simp only [alQ]at B8
  have Rn:=LZ (fun t r hr=>(jq ord [] t r (by rw [xC];exact hr)).2.1) lS hT B8.1 B8.2
  have uS:=(nJ _ _ _ _ hT).2.1
  rw [List.length_map]at uS
  simp only [alO]at h
  rw [uS]at h
  have hFn:Cc (fr,H) ss rs.length=bG:=by unfold Cc;rw [h]
  have hHn:xB (fr,H) ss rs.length=H':=by unfold xB;rw [h]
  have lT:Cc (fr,H) ss 0=fr:=rfl
  have y7:xB (fr,H) ss 0=H:=rfl
  generalize Cc (fr,H) ss=sF at*
  generalize xB (fr,H) ss=sH at*
  have main:∀(fuel:Nat) (listed:Array Bool) (jV:bl) (a1:Act) (w1:World),listed.size=cg.size→wT (rG rs listed) rs.length≤fuel→
   (∀(j:Nat) (o:Oper),cg[j]?=some o→listed.getD j false=true→∀e∈GR o,listed.getD e false=true)→
   Hk w0 w φ (fun t=>(rowAt rs t).o) rs.length sF sH nt (rG rs listed) jV a1 w1→
   wpAny P .any cg (CW w0 φ w H nt .normal bG H') fuel listed a1 w1:=by
   have fin:∀(listed:Array Bool) (jV:bl) (a1:Act) (w1:World),(∀t,t<rs.length→rG rs listed t=true)→
    Hk w0 w φ (fun t=>(rowAt rs t).o) rs.length sF sH nt (rG rs listed) jV a1 w1→CW w0 φ w H nt .normal bG H' .normal a1 w1:=by
    intro listed jV a1 w1 aT I
    refine ⟨rfl,jV,?_,?_,?_,I.size,I.defs⟩
    ·rw [←hHn]
     refine I.rel.ql (fun b _=>?_) (by rw [Rn.O7 _ (alR _)];rfl) ?_ (by rw [←Rn.C4 (alR _)];exact y3 fun p hp _ _=>(aT p hp).symm)
     ·rw [yY,←Rn.C5 (alR _)]
      exact yZ fun p hp _=>(aT p hp).symm
     ·rw [I.grow.n0]
      exact Nat.le_trans R.oD (by rw [←y7];exact Rn.gk (Nat.zero_le _) (alR _))
    ·rw [←hHn,←y7];exact I.grow
    ·intro x
     rw [←hFn,←Rn.yX (alR _)]
     rw [te (S:=fun _=>true) (S':=rG rs listed) fun p hp _=>(aT p hp).symm]
     exact I.QD x
   intro fuel
   induction fuel with
   |zero=>
    intro listed jV a1 w1 gA hun Uw I
    have aT:=uQ (Nat.le_zero.1 hun)
    refine ⟨?_,fin listed jV a1 w1 aT I⟩
    rw [List.eq_nil_iff_forall_not_mem]
    intro i hi
    obtain ⟨h0,o,ho,_⟩:=mem_ready.1 hi
    obtain ⟨t,ht,rfl⟩:=sur i (al1.1 ho).1
    have h1:=aT t ht
    unfold rG at h1
    have dm:(rowAt rs t).j<listed.size:=by rw [gA];exact XU t ht
    simp [dm]at h0 h1
    rw [h0]at h1
    cases h1
   |succ fuel ih=>
    intro listed jV a1 w1 gA hun Uw I
    refine ⟨fun hr=>?_,fun i hi=>?_⟩
    ·refine fin listed jV a1 w1 ?_ I
     intro t
     induction t using Nat.strongRecOn with
     |_ t iht=>
      intro ht
      cases hS:rG rs listed t with
      |true=>rfl
      |false=>
       exfalso
       obtain ⟨o,ho,_,L3,_⟩:=row t ht
       have:(rowAt rs t).j∈Region.ready .any cg listed:=by
        refine mem_ready.2 ⟨?_,o,ho,fun e he hb=>?_⟩
        ·have dm:(rowAt rs t).j<listed.size:=by rw [gA];exact XU t ht
         unfold rG at hS
         simp [dm]at hS⊢
         exact hS
        ·obtain ⟨q,hq,e2⟩:=(XT t ht).2 e.on (by rw [L3];exact tk.2 ⟨e,he,hb,rfl⟩)
         have:=iht q hq (by omega)
         unfold rG at this
         rw [e2]at this
         exact this
       rw [hr]at this
       cases this
    ·obtain ⟨h0,o',XV,Km⟩:=mem_ready.1 hi
     obtain ⟨t,ht,rfl⟩:=sur i (al1.1 XV).1
     obtain ⟨o,ho,XW,L3,hx⟩:=row t ht
     rw [ho]at XV
     cases XV
     have dm:(rowAt rs t).j<listed.size:=by rw [gA];exact XU t ht
     have Qz:rG rs listed t=false:=by
      unfold rG
      simp [dm]at h0⊢
      exact h0
     have closed:∀q,q<rs.length→(∀e∈(rowAt rs q).dep,listed.getD e false=true)→∀i,(rowAt rs q).m.testBit i=true→listed.getD i false=true:=by
      intro q
      induction q using Nat.strongRecOn with
      |_ q ihq=>
       intro hq Ux i hi
       obtain ⟨e,he,h5⟩:=QH q hq i hi
       rcases h5 with rfl|⟨p,hp,h6,h7⟩
       ·exact Ux _ he
       ·refine ihq p hp (by omega) (fun e' he'=>?_) i h7
        obtain ⟨op,pr,_,Uv,_⟩:=row p (by omega)
        exact Uw _ op pr (by rw [h6];exact Ux e he) e' (by rw [←Uv];exact he')
     have C:Qy rs.length (QC rs) (rG rs listed) t:=by
      refine ⟨ht,Qz,fun p hp ha=>?_,fun p q uP hq hSq ha=>?_⟩
      ·refine closed t ht (fun e he=>?_) _ ha
       rw [L3]at he
       obtain ⟨ed,h1,h2,rfl⟩:=tk.1 he
       exact Km ed h1 h2
      ·refine closed q hq (fun e he=>?_) _ ha
       obtain ⟨oq,hoq,_,Ux,_⟩:=row q hq
       exact Uw _ oq hoq hSq e (by rw [←Ux];exact he)
     have AW:∀p,p<rs.length→rG rs (listed.setIfInBounds (rowAt rs t).j true) p=ins (rG rs listed) t p:=by
      intro p hp
      unfold rG
      by_cases e:p=t
      ·subst e
       rw [eO]
       simp [dm]
      ·rw [fR e]
       refine getD_set_ne false ?_
       rcases Nat.lt_or_gt_of_ne e with h1|h1
       ·exact fun h2=>(XT t ht).1 p h1 h2.symm
       ·exact (XT p hp).1 t h1
     refine QE (O:=fun t=>(rowAt rs t).o) jK Rn (by rw [y7];exact R.oD) C I ho XW hx ?_
     intro kJ a2 w2 I2
     refine ih _ kJ a2 w2 (by simp [gA]) ?_ ?_ ?_
     ·have h1:=y6 Qz ht
      have h2:wT (rG rs (listed.setIfInBounds (rowAt rs t).j true)) rs.length≤wT (ins (rG rs listed) t) rs.length:=
       tj fun p hp h=>by rw [AW p hp];exact h
      omega
     ·intro j oj XY hj e he
      by_cases ej:(rowAt rs t).j=j
      ·subst ej
       rw [ho]at XY
       cases XY
       obtain ⟨ed,h1,h2,rfl⟩:=tk.1 he
       exact getD_set_true (Km ed h1 h2)
      ·rw [getD_set_ne false ej]at hj
       exact getD_set_true (Uw j oj XY hj e he)
     ·have eF:∀x,(td (fun t=>(rowAt rs t).o) sF (rG rs (listed.setIfInBounds (rowAt rs t).j true)) rs.length).get x=(td (fun t=>(rowAt rs t).o) sF (ins (rG rs listed) t) rs.length).get x:=
       fun x=>te fun p hp _=>AW p hp
      refine ⟨I2.rel.ql (fun b _=>yZ fun p hp _=>AW p hp) rfl I2.rel.oD (y3 fun p hp _ _=>AW p hp),fun x=>by rw [eF];exact I2.QD x,I2.size,I2.defs,⟨fun b hb=>?_,fun p hp hS=>?_⟩,I2.grow⟩
      ·rcases I2.C6.C6 b hb with h1|⟨p,hp,hS,h2⟩
       ·exact .inl h1
       ·exact .inr ⟨p,hp,by rw [AW p hp];exact hS,h2⟩
      ·rw [AW p hp]at hS
       exact I2.C6.XN p hp hS
  refine wp_region_any hm ?_
  have Uy:∀t,rG rs (Array.replicate cg.size false) t=false:=by
   intro t
   unfold rG
   by_cases h:(rowAt rs t).j<cg.size<;>simp [h]
  refine main cg.size _ φ a _ (by simp) ?_ ?_ ?_
  ·rw [←hn]
   have:wT (rG rs (Array.replicate cg.size false)) rs.length≤wT (fun _=>false) rs.length:=tj fun p _ h=>by cases h
   rw [Hj]at this
   rwa [hn]at this⊢
  ·intro j o _ h
   exfalso
   by_cases h2:j<cg.size<;>simp [h2]at h
  ·have R':Rel w0 φ H {w with drawn:=w.drawn+1}:=R.drew rfl rfl rfl rfl
   refine ⟨R'.ql (fun b _=>?_) (by show(sH 0).n0=_;rw [y7]) ?_ ?_,fun x=>?_,hs,hd,⟨fun b hb=>.inl ?_,fun p hp hS=>?_⟩,?_⟩
   ·rw [yY,px (t:=0) (Nat.zero_le _)]
    ·show(sH 0).raw b=_;rw [y7]
    ·intro p _ _ h;rw [Uy]at h;cases h
   ·refine Nat.le_trans R.oD ?_
    rw [←y7]
    exact Rn.gk (Nat.zero_le _) (alR _)
   ·show gB _ _ _ _ _=_
    rw [tf (t:=0) (Nat.zero_le _)]
    ·show(sH 0).bs=_;rw [y7]
    ·intro p _ _ h;rw [Uy]at h;cases h
   ·rw [qg (t:=0) (Nat.zero_le _)]
    ·show V φ ((sF 0).get x) _;rw [lT];exact F x
    ·intro p _ _ h;rw [Uy]at h;cases h
   ·rw [y7]
    rcases Nat.lt_or_ge b H.nx with h1|h1
    ·exact h1
    ·exact absurd (R0 b h1) hb
   ·rw [Uy]at hS;cases hS
   ·have G:Grow φ H w φ H {w with drawn:=w.drawn+1}:=Grow.of_heap rfl
    rw [y7]
    refine ⟨G.le,G.n0,G.c0,?_,fun b l h1 h2=>(by rw [h1]at h2;cases h2),G.size⟩
    rw [←y7]
    exact Rn.gk (Nat.zero_le _) (alR _)
end
end Go.Proofs.YtppcmpmnglaleaaGreatDoor.A
namespace Go.Proofs.YtppcmpmnglaleaaGreatDoor.A
open Go Go.RowKit
section
variable{P:Program}
def nK (tmps:Array Value):ResultVar→Sem Value
 | .tmp t=>pure (tmps.getD t undef)
 | .cell a t=>do loadVar t (←asAddr (tmps.getD a undef))
theorem tm (fn:Func) (tmps:Array Value):results fn tmps=(do
 let vs←fn.results.toList.mapM (nK tmps)
 pure (if h:vs.toArray.size=1 then vs.toArray[0]else .tuple vs.toArray)):=by
 have e:results fn tmps=(do
  let vs←fn.results.mapM (nK tmps)
  pure (if h:vs.size=1 then vs[0]else .tuple vs)):=rfl
 rw [e,Array.mapM_eq_mapM_toList]
 simp
theorem pA {w0 w:World} {φ:bl} {H:AH} {fr:Fr} {a:Act} (F:j8 φ fr a) (R:Rel w0 φ H w):∀(l:List ResultVar) (m:List RS) (vs:List Value),uJ P l=some m→RS.all fr H m=some vs→
 ∃iV,(l.mapM (nK a.tmps)).run P w= .ok iV w∧VL φ vs iV
 |[],m,vs,hc,h=>by
  simp [uJ]at hc
  subst hc
  simp [RS.all]at h
  subst h
  exact ⟨[],by simp,.nil⟩
 | .tmp t::l,m,vs,hc,h=>by
  simp only [uJ,alX]at hc
  obtain ⟨m',hm,rfl⟩:=hc
  simp only [RS.all,RS.get]at h
  cases hr:RS.all fr H m' with
  |none=>simp [hr]at h
  |some us=>
   simp only [hr,alO]at h
   subst h
   obtain ⟨iV,h1,h2⟩:=pA F R l m' us hm hr
   refine ⟨a.tmps.getD t undef::iV,?_,.cons (F t) h2⟩
   simp [List.mapM_cons,nK,h1]
 | .cell t ty::l,m,vs,hc,h=>by
  simp only [uJ]at hc
  split at hc
  ·rename_i n m' LP gA hm
   cases hc
   simp only [RS.all,RS.get]at h
   cases hq:fr.get t<;>simp [hq]at h
   rename_i p
   cases p<;>simp at h
   rename_i ad
   cases eW:H.ldn ad n with
   |none=>simp [eW]at h
   |some ws=>
    cases hr:RS.all fr H m' with
    |none=>simp [eW,hr]at h
    |some us=>
     simp [eW,hr]at h
     subst h
     obtain ⟨iV,h1,h2⟩:=pA F R l m' us hm hr
     have hv:=F t
     rw [hq]at hv
     obtain ⟨a',ws',e1,e2,e3,e4,e5⟩:=Cy R hv eW
     have h4:=run_loadCells_list (P:=P) w a' ws' e5
     rw [e2]at h4
     refine ⟨.agg ws'.toArray::iV,?_,.cons (.agg (by simpa using e3) (by simpa using e4)) h2⟩
     have Gz:a.tmps.getD t undef= .pointer (some a'):=e1
     simp only [List.mapM_cons,nK,Gz]
     simp [asAddr,loadVar,iW LP,cm gA,h4,h1]
  ·rename_i n m' LP gA hm
   cases hc
   simp only [RS.all,RS.get]at h
   cases hq:fr.get t<;>simp [hq]at h
   rename_i p
   cases p<;>simp at h
   rename_i ad
   cases eW:H.ld ad with
   |none=>simp [eW]at h
   |some v=>
    cases hr:RS.all fr H m' with
    |none=>simp [eW,hr]at h
    |some us=>
     simp [eW,hr]at h
     subst h
     obtain ⟨iV,h1,h2⟩:=pA F R l m' us hm hr
     have hv:=F t
     rw [hq]at hv
     obtain ⟨a',v',e1,e2,e3⟩:=Kc R hv eW
     refine ⟨v'::iV,?_,.cons e3 h2⟩
     have Gz:a.tmps.getD t undef= .pointer (some a'):=e1
     simp only [List.mapM_cons,nK,Gz]
     simp [asAddr,loadVar,iW LP,e2,h1]
  ·cases hc
theorem oI {w0 w:World} {φ:bl} {H:AH} {fr:Fr} {a:Act} (F:j8 φ fr a) (R:Rel w0 φ H w) {fn:Func} {m:List RS} {vs:List Value} (hc:uJ P fn.results.toList=some m) (h:RS.all fr H m=some vs):
 ∃v',(results fn a.tmps).run P w= .ok v' w∧V φ (oB vs) v':=by
 obtain ⟨iV,h1,h2⟩:=pA F R _ _ _ hc h
 rw [tm]
 simp only [Sem.run_bind,h1,Result.andThen_ok,Sem.run_pure]
 cases h2 with
 |nil=>exact ⟨_,rfl,.tuple .nil⟩
 |cons x y=>
  cases y with
  |nil=>exact ⟨_,rfl,x⟩
  |cons y z=>
   refine ⟨_,rfl,?_⟩
   simp only [List.size_toArray,List.length_cons]
   rw [dif_neg (by omega)]
   exact .tuple (.cons x (.cons y z))
theorem Fr.qm:∀(l:List Value) (i:Nat) (f:Fr) (t:Nat),(Fr.pT i l f).get t=if i≤t∧t<i+l.length then l.getD (t- i) undef else f.get t
 |[],i,f,t=>by
  simp only [Fr.pT,List.length_nil]
  rw [if_neg (by omega)]
 |v::l,i,f,t=>by
  simp only [Fr.pT,List.length_cons]
  rw [Fr.qm l,Fr.bj]
  by_cases h1:t=i
  ·subst h1
   rw [if_neg (by omega),if_pos rfl,if_pos (by omega)]
   simp
  ·by_cases h2:i+1≤t∧t<i+1+l.length
   ·rw [if_pos h2,if_pos (by omega)]
    obtain ⟨k,hk⟩:∃k,t- i=k+1:=⟨t- i- 1,by omega⟩
    rw [hk,show t- (i+1)=k by omega]
    simp
   ·rw [if_neg h2,if_neg h1,if_neg (by omega)]
theorem Fr.get_nil (t:Nat):(⟨.nil⟩:Fr).get t=undef:=by
 unfold Fr.get
 cases t<;>rfl
theorem Fr.dR (l:List Value) (t:Nat):(Fr.of l).get t=l.getD t undef:=by
 unfold Fr.of
 rw [Fr.qm,Fr.get_nil]
 split
 ·rfl
 ·rename_i h
  simp only [List.getD_eq_getElem?_getD]
  rw [List.getElem?_eq_none (by omega)]
  rfl
theorem uT {φ:bl} {as:List Value} {as':Array Value} (k:Nat) (h:VL φ as as'.toList) (t:Nat):V φ ((Fr.of as).get t) ((as'++Array.replicate k undef).getD t undef):=by
 rw [Fr.dR]
 have hl:=h.length
 simp only [List.getD_eq_getElem?_getD]
 cases ht:as[t]? with
 |some v=>
  obtain ⟨v',e,hv⟩:=h.get t v ht
  have dm:t<as'.size:=by
   have:=(alT.1 e).1
   simpa using this
  have e2:(as'++Array.replicate k undef).getD t undef=v':=by
   rw [Array.getD_eq_getD_getElem?,Array.getElem?_append_left dm]
   simp only [Array.getElem?_toList]at e
   rw [e]
   rfl
  rw [e2]
  exact hv
 |none=>
  have Hl:=List.getElem?_eq_none_iff.1 ht
  have e2:(as'++Array.replicate k undef).getD t undef=undef:=by
   rw [Array.getD_eq_getD_getElem?,Array.getElem?_append_right (by rw [←Array.length_toList,←hl];exact Hl)]
   rw [Array.getElem?_replicate]
   split<;>rfl
  rw [e2]
  exact pZ _
def C9 (P:Program) (E:Env):Prop:=∀f F,E f=some F→∃fn,P.funcs[f]?=some fn∧aq P fn=some F
abbrev iq:=Nat→Option (List Value→AH→Option (Value×AH))
def y8 (P:Program) (O:iq):Prop:=∀f g,O f=some g→∀as H v H',g as H=some (v,H')→AP P f∧CT P f as H v H'
theorem y9 (hm:P.follows .mixedOrders=true) {E:Env} {O:iq} (hE:C9 P E) (hO:y8 P O):∀n,nH P (ey E O n)
 |0=>fun f as H v H' h=>by simp [ey]at h
 |n+1=>fun f as H v H' h=>by
  have ih:=y9 hm hE hO n
  simp only [ey]at h
  cases ho:O f with
  |some g=>
   simp only [ho]at h
   exact hO f g ho as H v H' h
  |none=>
   simp only [ho]at h
   cases he:E f with
   |none=>simp [he]at h
   |some F=>
    simp only [he]at h
    obtain ⟨hlen,h⟩:=au h
    obtain ⟨fn,hf,hc⟩:=hE f F he
    unfold aq at hc
    cases hb:fn.body with
    |none=>simp [hb]at hc
    |some c=>
     simp only [hb]at hc
     split at hc
     case h_2=>cases hc
     rename_i x r hx hr
     split at hc
     case isTrue=>cases hc
     rename_i rW
     cases hc
     simp only [Bool.or_eq_true,not_or,Bool.not_eq_true,decide_eq_false_iff_not,Nat.not_lt]at rW
     refine ⟨⟨fn,hf,by rw [hb];rfl,rW.1⟩, ?_⟩
     intro w0 φ w as' R R0 hv
     refine calls_of_wp hf hb ?_
     have gA:as'.size=fn.params.size+fn.nfree:=by
      have:=hv.length
      rw [nb]at hlen
      simp at hlen this
      omega
     cases uU:aA (ey E O n) n x (Fr.of as) H with
     |none=>simp [uU]at h
     |some q=>
      obtain ⟨ex,fr,H1⟩:=q
      have hw:=G9 ih (L2 hm ih) n c x (w0:=w0) (w:=w) (φ:=φ) (a:={tmps:=as'++Array.replicate (fn.ntmps- as'.size) undef,defers:=[]}) hx uU (fun t=>uT _ hv t) R R0 (by simp;omega) rfl
      refine wp_mono hw ?_
      rintro e a2 w2 ⟨rfl,kJ,R2,G2,F2,AS,yW⟩
      cases ex with
      |exit i=>simp [uU]at h
      |normal=>
       simp only [uU]at h
       cases Da:RS.all fr H1 r with
       |none=>simp [Da]at h
       |some vs=>
        simp only [Da,alO,alV]at h
        obtain ⟨rfl,rfl⟩:=h
        obtain ⟨v',h1,h2⟩:=oI F2 R2 hr Da
        exact ⟨yW,v',h1,kJ,v',rfl,h2,R2,G2⟩
      |ret=>
       simp only [uU]at h
       cases Da:RS.all fr H1 r with
       |none=>simp [Da]at h
       |some vs=>
        simp only [Da,alO,alV]at h
        obtain ⟨rfl,rfl⟩:=h
        obtain ⟨v',h1,h2⟩:=oI F2 R2 hr Da
        exact ⟨yW,v',h1,kJ,v',rfl,h2,R2,G2⟩
end
end Go.Proofs.YtppcmpmnglaleaaGreatDoor.A
namespace Go.Proofs.YtppcmpmnglaleaaGreatDoor.A
open Go
def AX (c d:Cl):Prop:=∀f as H r,c f as H=some r→d f as H=some r
theorem pB {c d:Cl} (h:AX c d) {o:AO} {fr:Fr} {H:AH} {r:Fr×AH} (k:iH c o fr H=some r):iH d o fr H=some r:=by
 obtain ⟨bG,H'⟩:=r
 obtain ⟨x,e,k⟩:=dq.1 k
 refine dq.2 ⟨x,e,?_⟩
 cases k with
 |off a b c=>exact .off a b c
 |val a b=>exact .val a b
 |call a f as H1 b c=>exact .call a f as H1 b (h _ _ _ _ c)
theorem tn {c d:Cl} (h:AX c d):∀{l:List AO} {fr:Fr} {H:AH} {r:Fr×AH},ops c l fr H=some r→ops d l fr H=some r
 |[],fr,H,r,k=>k
 |o::l,fr,H,r,k=>by
  simp only [ops]at k⊢
  cases h1:iH c o fr H with
  |none=>simp [h1]at k
  |some q=>
   rw [pB h h1]
   simp only [h1]at k
   exact tn h k
theorem pC {c d:Cl} (h:AX c d):∀{l:List AO} {fr:Fr} {H:AH} {r:List (Fr×AH)},iJ c l fr H=some r→iJ d l fr H=some r
 |[],fr,H,r,k=>k
 |o::l,fr,H,r,k=>by
  simp only [iJ]at k⊢
  cases h1:iH c o fr H with
  |none=>simp [h1]at k
  |some q=>
   rw [pB h h1]
   simp only [h1]at k⊢
   cases h2:iJ c l q.1 q.2 with
   |none=>simp [h2]at k
   |some ss=>rw [pC h h2];simpa [h2]using k
theorem dF {c d:Cl} (h:AX c d):∀{n:Nat} {a:AC} {fr:Fr} {H:AH} {r:Ex×Fr×AH},aA c n a fr H=some r→aA d n a fr H=some r:=by
 intro n
 induction n with
 |zero=>intro a fr H r k;simp [aA]at k
 |succ n ih=>
  intro a fr H r k
  cases a with
  |bW l=>
   simp only [aA]at k⊢
   cases h1:ops c l fr H with
   |none=>simp [h1]at k
   |some q=>rw [tn h h1];simpa [h1]using k
  |bM l ck=>
   simp only [aA,uH]at k⊢
   cases h1:iJ c l fr H with
   |none=>simp [h1]at k
   |some q=>rw [pC h h1];simpa [h1]using k
  |seq a b=>
   simp only [aA]at k⊢
   cases h1:aA c n a fr H with
   |none=>simp [h1]at k
   |some q=>
    rw [ih h1]
    obtain ⟨ex,iY,H1⟩:=q
    cases ex<;>simp only [h1]at k⊢<;>first
     |exact ih k
     |exact k
  |cond x a b=>
   simp only [aA]at k⊢
   cases hx:x.ev fr<;>simp only [hx]at k⊢<;>first
    |(cases k;done)
    |skip
   rename_i t
   cases t<;>exact ih k
  |block i a=>
   simp only [aA]at k⊢
   cases h1:aA c n a fr H with
   |none=>simp [h1]at k
   |some q=>
    rw [ih h1]
    obtain ⟨ex,iY,H1⟩:=q
    cases ex<;>simp only [h1]at k⊢<;>exact k
  |loop a=>
   simp only [aA]at k⊢
   cases h1:aA c n a fr H with
   |none=>simp [h1]at k
   |some q=>
    rw [ih h1]
    obtain ⟨ex,iY,H1⟩:=q
    cases ex<;>simp only [h1]at k⊢<;>first
     |exact ih k
     |exact k
  |_=>simpa only [aA]using k
theorem rX {E:Env} {O:iq}:∀n,AX (ey E O n) (ey E O (n+1))
 |0=>fun f as H r k=>by simp [ey]at k
 |n+1=>fun f as H r k=>by
  have ih:=rX (E:=E) (O:=O) n
  rw [ey]at k⊢
  cases ho:O f with
  |some g=>simpa [ho]using k
  |none=>
   simp only [ho]at k⊢
   cases he:E f with
   |none=>simp [he]at k
   |some F=>
    simp only [he]at k⊢
    obtain ⟨hl,k⟩:=au k
    rw [hl,cond_true]
    cases h1:aA (ey E O n) n F.body (Fr.of as) H with
    |none=>simp [h1]at k
    |some q=>
     rw [eA (Nat.le_succ n) (dF ih h1)]
     simpa [h1]using k
theorem cQ {E:Env} {O:iq} {n m:Nat} (h:n≤m):AX (ey E O n) (ey E O m):=by
 induction m with
 |zero=>obtain rfl:n=0:=by omega
        exact fun _ _ _ _ k=>k
 |succ m ih=>
  rcases Nat.lt_or_eq_of_le h with h1|h1
  · exact fun f as H r k=>rX m f as H r (ih (by omega) f as H r k)
  · subst h1;exact fun _ _ _ _ k=>k
section
variable(E:Env) (O:iq)
def Ca (f:Nat) (as:List Value) (H:AH) (Q:Value→AH→Prop):Prop:=∃n x H',ey E O n f as H=some (x,H')∧Q x H'
def Wp (c:AC) (fr:Fr) (H:AH) (Q:Ex→Fr→AH→Prop):Prop:=∃n ex bG H',aA (ey E O n) n c fr H=some (ex,bG,H')∧Q ex bG H'
def pf (o:AO) (fr:Fr) (H:AH) (Q:Fr→AH→Prop):Prop:=∃n bG H',iH (ey E O n) o fr H=some (bG,H')∧Q bG H'
def Wo (l:List AO) (fr:Fr) (H:AH) (Q:Fr→AH→Prop):Prop:=∃n bG H',ops (ey E O n) l fr H=some (bG,H')∧Q bG H'
def Wt (l:List AO) (fr:Fr) (H:AH) (Q:List (Fr×AH)→Prop):Prop:=∃n ss,iJ (ey E O n) l fr H=some ss∧Q ss
variable{E O}
theorem Ca.mono {f:Nat} {as:List Value} {H:AH} {Q Q':Value→AH→Prop} (h:Ca E O f as H Q) (k:∀x H',Q x H'→Q' x H'):Ca E O f as H Q':=
 let⟨n,x,H',e,q⟩:=h;⟨n,x,H',e,k _ _ q⟩
theorem Wp.mono {c:AC} {fr:Fr} {H:AH} {Q Q':Ex→Fr→AH→Prop} (h:Wp E O c fr H Q) (k:∀ex bG H',Q ex bG H'→Q' ex bG H'):Wp E O c fr H Q':=
 let⟨n,x,bG,H',e,q⟩:=h;⟨n,x,bG,H',e,k _ _ _ q⟩
theorem mF {n m:Nat} (h:n≤m) {c:AC} {fr:Fr} {H:AH} {r:Ex×Fr×AH} (k:aA (ey E O n) n c fr H=some r):aA (ey E O m) m c fr H=some r:=
 eA h (dF (cQ h) k)
theorem Wp.skip {fr:Fr} {H:AH} {Q:Ex→Fr→AH→Prop} (h:Q .normal fr H):Wp E O .skip fr H Q:=⟨1,_,_,_,rfl,h⟩
theorem Wp.ret {fr:Fr} {H:AH} {Q:Ex→Fr→AH→Prop} (h:Q .ret fr H):Wp E O .ret fr H Q:=⟨1,_,_,_,rfl,h⟩
theorem Wp.exit {i:Nat} {fr:Fr} {H:AH} {Q:Ex→Fr→AH→Prop} (h:Q (.exit i) fr H):Wp E O (.exit i) fr H Q:=⟨1,_,_,_,rfl,h⟩
def Db (k:Fr→AH→Prop) (Q:Ex→Fr→AH→Prop):Ex→Fr→AH→Prop
 | .normal,fr,H=>k fr H
 |ex,fr,H=>Q ex fr H
theorem Wp.seq {a b:AC} {fr:Fr} {H:AH} {Q:Ex→Fr→AH→Prop} (h:Wp E O a fr H (Db (fun bG H'=>Wp E O b bG H' Q) Q)):Wp E O (.seq a b) fr H Q:=by
 obtain ⟨n,ex,iY,H1,e,q⟩:=h
 cases ex with
 |normal=>
  obtain ⟨m,O6,fx,H2,e2,q2⟩:=q
  refine ⟨max n m+1,O6,fx,H2,?_,q2⟩
  simp only [aA]
  rw [dF (cQ (Nat.le_succ _)) (mF (Nat.le_max_left n m) e)]
  exact dF (cQ (Nat.le_succ _)) (mF (Nat.le_max_right n m) e2)
 |exit i=>
  refine ⟨n+1,_,iY,H1,?_,q⟩
  simp only [aA]
  rw [dF (cQ (Nat.le_succ _)) e]
 |ret=>
  refine ⟨n+1,_,iY,H1,?_,q⟩
  simp only [aA]
  rw [dF (cQ (Nat.le_succ _)) e]
theorem Wp.cond {x:X} {a b:AC} {fr:Fr} {H:AH} {Q:Ex→Fr→AH→Prop} {t:Bool} (hx:x.ev fr= .bool t) (h:Wp E O (bif t then a else b) fr H Q):Wp E O (.cond x a b) fr H Q:=by
 obtain ⟨n,ex,iY,H1,e,q⟩:=h
 refine ⟨n+1,ex,iY,H1,?_,q⟩
 simp only [aA,hx]
 cases t<;>exact dF (cQ (Nat.le_succ _)) e
def qn (i:Nat) (Q:Ex→Fr→AH→Prop):Ex→Fr→AH→Prop
 | .exit j,fr,H=>if j=i then Q .normal fr H else Q (.exit j) fr H
 |ex,fr,H=>Q ex fr H
theorem Wp.block {i:Nat} {a:AC} {fr:Fr} {H:AH} {Q:Ex→Fr→AH→Prop} (h:Wp E O a fr H (qn i Q)):Wp E O (.block i a) fr H Q:=by
 obtain ⟨n,ex,iY,H1,e,q⟩:=h
 have e':=dF (cQ (Nat.le_succ n)) e
 cases ex with
 |normal=>exact ⟨n+1,_,iY,H1,by simp only [aA];rw [e'],q⟩
 |ret=>exact ⟨n+1,_,iY,H1,by simp only [aA];rw [e'],q⟩
 |exit j=>
  simp only [qn]at q
  by_cases hj:j=i
  ·rw [if_pos hj]at q
   refine ⟨n+1,_,iY,H1,?_,q⟩
   simp only [aA]
   rw [e']
   simp [nb,hj]
  ·rw [if_neg hj]at q
   refine ⟨n+1,_,iY,H1,?_,q⟩
   simp only [aA]
   rw [e']
   simp [nb,hj]
theorem Wp.QI {a:AC} {fr:Fr} {H:AH} {Q:Ex→Fr→AH→Prop} (h:Wp E O a fr H (Db (fun bG H'=>Wp E O (.loop a) bG H' Q) Q)):Wp E O (.loop a) fr H Q:=by
 obtain ⟨n,ex,iY,H1,e,q⟩:=h
 cases ex with
 |normal=>
  obtain ⟨m,O6,fx,H2,e2,q2⟩:=q
  refine ⟨max n m+1,O6,fx,H2,?_,q2⟩
  simp only [aA]
  rw [dF (cQ (Nat.le_succ _)) (mF (Nat.le_max_left n m) e)]
  exact dF (cQ (Nat.le_succ _)) (mF (Nat.le_max_right n m) e2)
 |exit i=>
  refine ⟨n+1,_,iY,H1,?_,q⟩
  simp only [aA]
  rw [dF (cQ (Nat.le_succ _)) e]
 |ret=>
  refine ⟨n+1,_,iY,H1,?_,q⟩
  simp only [aA]
  rw [dF (cQ (Nat.le_succ _)) e]
theorem Wp.loop {a:AC} {Q:Ex→Fr→AH→Prop} (I:Nat→Fr→AH→Prop) (step:∀k fr H,I k fr H→Wp E O a fr H (Db (fun bG H'=>∃j,j<k∧I j bG H') Q)) (k:Nat) {fr:Fr} {H:AH} (h:I k fr H):Wp E O (.loop a) fr H Q:=by
 induction k using Nat.strongRecOn generalizing fr H with
 |_ k ih=>
  refine Wp.QI ((step k fr H h).mono ?_)
  intro ex bG H' q
  cases ex with
  |normal=>obtain ⟨j,hj,hI⟩:=q;exact ih j hj hI
  |exit i=>exact q
  |ret=>exact q
theorem Wp.bW {l:List AO} {fr:Fr} {H:AH} {Q:Ex→Fr→AH→Prop} (h:Wo E O l fr H (Q .normal)):Wp E O (.bW l) fr H Q:=by
 obtain ⟨n,iY,H1,e,q⟩:=h
 refine ⟨n+1,_,iY,H1,?_,q⟩
 simp only [aA]
 rw [tn (cQ (Nat.le_succ _)) e]
theorem Wo.nil {fr:Fr} {H:AH} {Q:Fr→AH→Prop} (h:Q fr H):Wo E O [] fr H Q:=⟨0,fr,H,rfl,h⟩
theorem Wo.cons {o:AO} {l:List AO} {fr:Fr} {H:AH} {Q:Fr→AH→Prop} (h:pf E O o fr H (fun bG H'=>Wo E O l bG H' Q)):Wo E O (o::l) fr H Q:=by
 obtain ⟨n,iY,H1,e,m,fx,H2,e2,q⟩:=h
 refine ⟨max n m,fx,H2,?_,q⟩
 simp only [ops]
 rw [pB (cQ (Nat.le_max_left n m)) e]
 exact tn (cQ (Nat.le_max_right n m)) e2
theorem pf.val {o:AO} {fr:Fr} {H H':AH} {x:Value} {Q:Fr→AH→Prop} (hw:o.wanted fr=true) (h:aS o.o (X.ev fr) H=some (.v x,H')) (q:Q (fr.aM o.d x) H'):pf E O o fr H Q:=
 ⟨0,_,_,dq.2 ⟨x,rfl,.val hw h⟩,q⟩
theorem pf.off {o:AO} {fr:Fr} {H:AH} {Q:Fr→AH→Prop} (hw:o.wanted fr=false) (q:Q (fr.aM o.d undef) H):pf E O o fr H Q:=
 ⟨0,_,_,dq.2 ⟨undef,rfl,.off hw rfl rfl⟩,q⟩
theorem pf.call {o:AO} {fr:Fr} {H H1:AH} {f:Nat} {as:List Value} {Q:Fr→AH→Prop} (hw:o.wanted fr=true) (h:aS o.o (X.ev fr) H=some (.enter f as,H1)) (q:Ca E O f as H1 (fun x H'=>Q (fr.aM o.d x) H')):pf E O o fr H Q:=by
 obtain ⟨n,x,H',e,q⟩:=q
 exact ⟨n,_,_,dq.2 ⟨x,rfl,.call hw f as H1 h e⟩,q⟩
theorem Wp.bM {l:List AO} {ck:List (Nat×Nat×Nat)} {fr:Fr} {H:AH} {Q:Ex→Fr→AH→Prop}
 (h:Wt E O l fr H (fun ss=>(chain ((fr,H)::ss)=true∧ck.all (oZ l ((fr,H)::ss))=true)∧Q .normal (eM (fr,H) ss).1 (eM (fr,H) ss).2)):Wp E O (.bM l ck) fr H Q:=by
 obtain ⟨n,ss,e,⟨h1,h2⟩,q⟩:=h
 refine ⟨n+1,_,_,_,?_,q⟩
 simp only [aA,uH]
 rw [pC (cQ (Nat.le_succ _)) e]
 simp [h1,h2]
theorem Wt.nil {fr:Fr} {H:AH} {Q:List (Fr×AH)→Prop} (h:Q []):Wt E O [] fr H Q:=⟨0,[],rfl,h⟩
theorem Wt.cons {o:AO} {l:List AO} {fr:Fr} {H:AH} {Q:List (Fr×AH)→Prop} (h:pf E O o fr H (fun bG H'=>Wt E O l bG H' (fun ss=>Q ((bG,H')::ss)))):Wt E O (o::l) fr H Q:=by
 obtain ⟨n,iY,H1,e,m,ss,e2,q⟩:=h
 refine ⟨max n m,_,?_,q⟩
 simp only [iJ]
 rw [pB (cQ (Nat.le_max_left n m)) e]
 simp only
 rw [pC (cQ (Nat.le_max_right n m)) e2]
def xD (r:List RS) (Q:Value→AH→Prop):Ex→Fr→AH→Prop
 | .exit _,_,_=>False
 |_,fr,H=>∃vs,RS.all fr H r=some vs∧Q (oB vs) H
theorem Ca.body {f:Nat} {F:AF} {as:List Value} {H:AH} {Q:Value→AH→Prop} (ho:O f=none) (he:E f=some F) (hl:as.length=F.np) (h:Wp E O F.body (Fr.of as) H (xD F.res Q)):Ca E O f as H Q:=by
 obtain ⟨n,ex,iY,H1,e,q⟩:=h
 cases ex with
 |exit i=>exact q.elim
 |normal=>
  obtain ⟨vs,h1,q⟩:=q
  refine ⟨n+1,_,_,?_,q⟩
  simp only [ey,ho,he]
  rw [nb,decide_eq_true hl,cond_true,e]
  simp [h1]
 |ret=>
  obtain ⟨vs,h1,q⟩:=q
  refine ⟨n+1,_,_,?_,q⟩
  simp only [ey,ho,he]
  rw [nb,decide_eq_true hl,cond_true,e]
  simp [h1]
theorem Ca.uV {f:Nat} {g:List Value→AH→Option (Value×AH)} {as:List Value} {H H':AH} {x:Value} {Q:Value→AH→Prop} (ho:O f=some g) (h:g as H=some (x,H')) (q:Q x H'):Ca E O f as H Q:=
 ⟨1,x,H',by simp [ey,ho,h],q⟩
end
end Go.Proofs.YtppcmpmnglaleaaGreatDoor.A
namespace Go.Proofs.YtppcmpmnglaleaaGreatDoor.A
open Go Go.RowKit
def rY (W:World) (b:Nat):Option nC:=match W.heap[b]? with
 |some (.cells cs _ _)=>some (.cells 1048576 cs.toList)
 |_=>none
def H0 (W:World):AH:=⟨rY W,W.heap.size,W.heap.size,.nil,none⟩
def qo (W:World):bl:=⟨W.heap.size,W.heap.size,fun b=>if b<W.heap.size then some ⟨b,0,0,1⟩else none⟩
theorem xE (W:World) (b:Nat):(H0 W).raw b=rY W b:=rfl
theorem XZ (W:World):∀b,b<(qo W).n0→(qo W).m b=some ⟨b,0,0,1⟩:=fun b hb=>if_pos hb
theorem Ya {W:World} (hT:uK W):Rel W (qo W) (H0 W) W where
 n0:=rfl
 nE:=alR _
 oD:=alR _
 c0:=rfl
 below:=Below.refl _ _
 gg:=fun b hb=>if_pos hb
 iU:=fun b z cs hb hg=>by
  rw [xE]at hg
  unfold rY at hg
  split at hg
  ·rename_i cW e fz hw
   cases hg
   exact ⟨e,fz,by rw [hw]⟩
  ·cases hg
 cells:=fun b l z cs hb hl hg=>by
  have:¬ b<W.heap.size:=Nat.not_lt.2 hb
  simp only [qo,if_neg this]at hl
  cases hl
 maps:=fun b l es hb hl hg=>by
  have:¬ b<W.heap.size:=Nat.not_lt.2 hb
  simp only [qo,if_neg this]at hl
  cases hl
 inj:=fun b1 b2 l1 l2 j6 gC h1 h2 _ _ _=>by
  have:¬ b1<W.heap.size:=Nat.not_lt.2 j6
  simp only [qo,if_neg this]at h1
  cases h1
 mr:=fun b s e=>by cases e
 sV:=hT
theorem L4 (W:World):oE (qo W) (H0 W):=fun b hb=>if_neg (Nat.not_lt.2 hb)
theorem uW {P:Program} {E:Env} {O:iq} {W:World} (hT:uK W) (hm:P.follows .mixedOrders=true) (hE:C9 P E) (hO:y8 P O) {f:Nat} {as:List Value} {as':Array Value} (hv:VL (qo W) as as'.toList)
 (h:Ca E O f as (H0 W) (fun x _=>x= .bool true)):Calls P f as' W fun e w'=>e= .returned (.bool true)∧Below W.heap.size W w':=by
 obtain ⟨n,x,H',e,rfl⟩:=h
 refine ((y9 hm hE hO n f as _ _ _ e).2 W (qo W) W as' (Ya hT) (L4 W) hv).mono ?_
 rintro e w' ⟨cN,v',rfl,hV,R,G⟩
 rw [hV.bool]
 exact ⟨rfl,R.below⟩
def Good (P:Program) (f:Nat) (F:AF):Prop:=∃fn,P.funcs[f]?=some fn∧aq P fn=some F
def xF (P:Program) (g:Nat→Nat) (t:T (Option AF)):Prop:=∀k F,t.get none k=some F→Good P (g k) F
theorem xF.nil {P:Program} {g:Nat→Nat}:xF P g .nil:=fun k F h=>by cases k<;>cases h
theorem xF.node {P:Program} {g:Nat→Nat} {v:Option AF} {l r:T (Option AF)} (h:∀F,v=some F→Good P (g 0) F) (hl:xF P (fun k=>g (2*k+1)) l) (hr:xF P (fun k=>g (2*k+2)) r):xF P g (.node v l r):=by
 intro k F hk
 simp only [T.get,nb,Bool.cond_decide]at hk
 split at hk
 ·rename_i e
  subst e
  exact h F hk
 ·split at hk
  ·have:=hl _ F hk
   simp only at this
   rwa [show 2*(k/2)+1=k by omega]at this
  ·have:=hr _ F hk
   simp only at this
   rwa [show 2*(k/2- 1)+2=k by omega]at this
open Go Go.RowKit
theorem Rel.later {w0 w w':World} {φ:bl} {H:AH} (R:Rel w0 φ H w) (B:Below w.heap.size w w'):Rel w0 φ H w' where
 n0:=R.n0
 nE:=R.nE
 oD:=R.oD
 c0:=R.c0
 below:=⟨B.os.trans R.below.os,B.tape.trans R.below.tape,B.output.trans R.below.output,Nat.le_trans R.below.size B.size,fun k hk=>(B.block k (Nat.lt_of_lt_of_le hk R.below.size)).trans (R.below.block k hk)⟩
 gg:=R.gg
 iU:=fun b z cs hb hg=>by
  obtain ⟨e,fz,hw⟩:=R.iU b z cs hb hg
  exact ⟨e,fz,(B.block b (al1.1 hw).1).trans hw⟩
 cells:=fun b l z cs hb hl hg=>by
  obtain ⟨h1,h2,h3,arr,e,h4,h5,h6,h7⟩:=R.cells b l z cs hb hl hg
  exact ⟨h1,h2,h3,arr,e,(B.block l.c (al1.1 h4).1).trans h4,h5,h6,h7⟩
 maps:=fun b l es hb hl hg=>by
  obtain ⟨h1,es',ck,h4,h5⟩:=R.maps b l es hb hl hg
  exact ⟨h1,es',ck,(B.block l.c (al1.1 h4).1).trans h4,h5⟩
 inj:=R.inj
 sV:=R.sV
 mr:=fun b s e=>by
  obtain ⟨h1,h2,l,h3,h4,h5⟩:=R.mr b s e
  exact ⟨h1,h2,l,h3,h4,h5.pX rfl (fun k hk _=>B.block k hk) fun b' l' a1 a2 a3=>.inl ⟨a1,a2,a3⟩⟩
def He:AH:=⟨fun _=>none,0,0,.nil,none⟩
def isTrue:Option (Value×AH)→Bool
 |some (.bool true,_)=>true
 |_=>false
end Go.Proofs.YtppcmpmnglaleaaGreatDoor.A
namespace Go.Proofs.YtppcmpmnglaleaaGreatDoor.A
open Go Go.RowKit
section
variable{E:Env} {O:iq}
def Hm (E:Env) (O:iq) (r:Option (gM×AH)) (Q:Value→AH→Prop):Prop:=match r with
 |some (.v x,H)=>Q x H
 |some (.enter f as,H)=>Ca E O f as H Q
 |none=>False
theorem Hn (fr:Fr) (H:AH) (Q:Ex→Fr→AH→Prop):Wp E O .skip fr H Q↔Q .normal fr H:=by
 refine ⟨fun⟨n,ex,bG,H',e,q⟩=>?_,Wp.skip⟩
 cases n with
 |zero=>simp [aA]at e
 |succ n=>simp only [aA,alO,alV]at e;obtain ⟨rfl,rfl,rfl⟩:=e;exact q
theorem L5 (fr:Fr) (H:AH) (Q:Ex→Fr→AH→Prop):Wp E O .ret fr H Q↔Q .ret fr H:=by
 refine ⟨fun⟨n,ex,bG,H',e,q⟩=>?_,Wp.ret⟩
 cases n with
 |zero=>simp [aA]at e
 |succ n=>simp only [aA,alO,alV]at e;obtain ⟨rfl,rfl,rfl⟩:=e;exact q
theorem Ho (i:Nat) (fr:Fr) (H:AH) (Q:Ex→Fr→AH→Prop):Wp E O (.exit i) fr H Q↔Q (.exit i) fr H:=by
 refine ⟨fun⟨n,ex,bG,H',e,q⟩=>?_,Wp.exit⟩
 cases n with
 |zero=>simp [aA]at e
 |succ n=>simp only [aA,alO,alV]at e;obtain ⟨rfl,rfl,rfl⟩:=e;exact q
theorem L6 (l:List AO) (fr:Fr) (H:AH) (Q:Ex→Fr→AH→Prop):Wp E O (.bW l) fr H Q↔Wo E O l fr H (Q .normal):=by
 refine ⟨fun⟨n,ex,bG,H',e,q⟩=>?_,Wp.bW⟩
 cases n with
 |zero=>simp [aA]at e
 |succ n=>
  simp only [aA]at e
  cases h:ops (ey E O (n+1)) l fr H with
  |none=>simp [h]at e
  |some r=>
   simp only [h,alO,alV]at e
   obtain ⟨rfl,rfl,rfl⟩:=e
   exact ⟨n+1,_,_,h,q⟩
theorem L7 (a b:AC) (fr:Fr) (H:AH) (Q:Ex→Fr→AH→Prop):Wp E O (.seq a b) fr H Q↔Wp E O a fr H (Db (fun bG H'=>Wp E O b bG H' Q) Q):=by
 refine ⟨fun⟨n,ex,bG,H',e,q⟩=>?_,Wp.seq⟩
 cases n with
 |zero=>simp [aA]at e
 |succ n=>
  simp only [aA]at e
  cases h:aA (ey E O (n+1)) n a fr H with
  |none=>simp [h]at e
  |some r=>
   obtain ⟨Gy,iY,H1⟩:=r
   have h':=eA (Nat.le_succ n) h
   cases Gy with
   |normal=>
    simp only [h]at e
    exact ⟨n+1,_,_,_,h',n+1,_,_,_,eA (Nat.le_succ n) e,q⟩
   |exit i=>
    simp only [h,alO,alV]at e
    obtain ⟨rfl,rfl,rfl⟩:=e
    exact ⟨n+1,_,_,_,h',q⟩
   |ret=>
    simp only [h,alO,alV]at e
    obtain ⟨rfl,rfl,rfl⟩:=e
    exact ⟨n+1,_,_,_,h',q⟩
theorem Dc (i:Nat) (a:AC) (fr:Fr) (H:AH) (Q:Ex→Fr→AH→Prop):Wp E O (.block i a) fr H Q↔Wp E O a fr H (qn i Q):=by
 refine ⟨fun⟨n,ex,bG,H',e,q⟩=>?_,Wp.block⟩
 cases n with
 |zero=>simp [aA]at e
 |succ n=>
  simp only [aA]at e
  cases h:aA (ey E O (n+1)) n a fr H with
  |none=>simp [h]at e
  |some r=>
   obtain ⟨Gy,iY,H1⟩:=r
   have h':=eA (Nat.le_succ n) h
   refine ⟨n+1,Gy,iY,H1,h',?_⟩
   cases Gy with
   |normal=>simp only [h,alO,alV]at e;obtain ⟨rfl,rfl,rfl⟩:=e;exact q
   |ret=>simp only [h,alO,alV]at e;obtain ⟨rfl,rfl,rfl⟩:=e;exact q
   |exit j=>
    simp only [h,nb,Bool.cond_decide]at e
    simp only [qn]
    by_cases hj:j=i
    ·rw [if_pos hj]at e⊢
     simp only [alO,alV]at e;obtain ⟨rfl,rfl,rfl⟩:=e;exact q
    ·rw [if_neg hj]at e⊢
     simp only [alO,alV]at e;obtain ⟨rfl,rfl,rfl⟩:=e;exact q
theorem fE (o:AO) (l:List AO) (fr:Fr) (H:AH) (Q:Fr→AH→Prop):Wo E O (o::l) fr H Q↔pf E O o fr H (fun bG H'=>Wo E O l bG H' Q):=by
 refine ⟨fun⟨n,bG,H',e,q⟩=>?_,Wo.cons⟩
 simp only [ops]at e
 cases h:iH (ey E O n) o fr H with
 |none=>simp [h]at e
 |some r=>
  simp only [h]at e
  exact ⟨n,_,_,h,n,_,_,e,q⟩
theorem eP (o:AO) (fr:Fr) (H:AH) (Q:Fr→AH→Prop) (hw:o.wanted fr=true):pf E O o fr H Q↔Hm E O (aS o.o (X.ev fr) H) (fun x H'=>Q (fr.aM o.d x) H'):=by
 constructor
 ·rintro ⟨n,bG,H',e,q⟩
  obtain ⟨x,rfl,h⟩:=dq.1 e
  cases h with
  |off a _ _=>rw [hw]at a;cases a
  |val a b=>rw [b];exact q
  |call a f as H1 b c=>rw [b];exact ⟨n,x,H',c,q⟩
 ·intro h
  cases hr:aS o.o (X.ev fr) H with
  |none=>rw [hr]at h;exact h.elim
  |some r=>
   obtain ⟨res,H1⟩:=r
   rw [hr]at h
   cases res with
   |v x=>exact pf.val hw hr h
   |enter f as=>exact pf.call hw hr h
theorem zd (o:AO) (fr:Fr) (H:AH) (Q:Fr→AH→Prop) (hw:o.wanted fr=false):pf E O o fr H Q↔Q (fr.aM o.d undef) H:=by
 constructor
 ·rintro ⟨n,bG,H',e,q⟩
  obtain ⟨x,rfl,h⟩:=dq.1 e
  cases h with
  |off _ a b=>subst a;subst b;exact q
  |val a b=>rw [hw]at a;cases a
  |call a f as H1 b c=>rw [hw]at a;cases a
 ·exact fun h=>pf.off hw h
inductive Ko where
 |seq (b:AC)
 |aN (i:Nat)
def Un (E:Env) (O:iq):Ex→List Ko→Fr→AH→(Ex→Fr→AH→Prop)→Prop
 |ex,[],fr,H,Q=>Q ex fr H
 | .normal,.seq b::ks,fr,H,Q=>Wp E O b fr H (fun ex bG H'=>Un E O ex ks bG H' Q)
 | .normal,.aN _::ks,fr,H,Q=>Un E O .normal ks fr H Q
 | .exit j,.seq _::ks,fr,H,Q=>Un E O (.exit j) ks fr H Q
 | .exit j,.aN i::ks,fr,H,Q=>if j=i then Un E O .normal ks fr H Q else Un E O (.exit j) ks fr H Q
 | .ret,_::ks,fr,H,Q=>Un E O .ret ks fr H Q
def Wk (E:Env) (O:iq) (c:AC) (ks:List Ko) (fr:Fr) (H:AH) (Q:Ex→Fr→AH→Prop):Prop:=Wp E O c fr H (fun ex bG H'=>Un E O ex ks bG H' Q)
def Wr (E:Env) (O:iq) (l:List AO) (ks:List Ko) (fr:Fr) (H:AH) (Q:Ex→Fr→AH→Prop):Prop:=Wo E O l fr H (fun bG H'=>Un E O .normal ks bG H' Q)
def ze (l:List AO) (ck:List (Nat×Nat×Nat)) (acc:List (Fr×AH)):Bool:=chain acc.reverse&&ck.all (oZ l acc.reverse)
def Wd (E:Env) (O:iq) (l0:List AO) (ck:List (Nat×Nat×Nat)) (acc:List (Fr×AH)) (l:List AO) (ks:List Ko) (fr:Fr) (H:AH) (Q:Ex→Fr→AH→Prop):Prop:=
 Wt E O l fr H (fun ss=>ze l0 ck (ss.reverse++acc)=true∧Un E O .normal ks (eM (fr,H) ss).1 (eM (fr,H) ss).2 Q)
variable{ks:List Ko} {fr:Fr} {H:AH} {Q:Ex→Fr→AH→Prop}
@[simp]theorem Dd (ex:Ex):Un E O ex [] fr H Q=Q ex fr H:=by cases ex<;>rfl
@[simp]theorem adI (b:AC):Un E O .normal (.seq b::ks) fr H Q=Wk E O b ks fr H Q:=rfl
@[simp]theorem adJ (i:Nat):Un E O .normal (.aN i::ks) fr H Q=Un E O .normal ks fr H Q:=rfl
@[simp]theorem adK (j:Nat) (b:AC):Un E O (.exit j) (.seq b::ks) fr H Q=Un E O (.exit j) ks fr H Q:=rfl
theorem QJ (i j:Nat):Un E O (.exit j) (.aN i::ks) fr H Q=if j=i then Un E O .normal ks fr H Q else Un E O (.exit j) ks fr H Q:=rfl
@[simp]theorem L8 (i:Nat):Un E O (.exit i) (.aN i::ks) fr H Q=Un E O .normal ks fr H Q:=by rw [QJ,if_pos rfl]
@[simp]theorem Yb (k:Ko):Un E O .ret (k::ks) fr H Q=Un E O .ret ks fr H Q:=by cases k<;>rfl
@[simp]theorem Hq:Wk E O .skip ks fr H Q↔Un E O .normal ks fr H Q:=Hn _ _ _
@[simp]theorem L9:Wk E O .ret ks fr H Q↔Un E O .ret ks fr H Q:=L5 _ _ _
@[simp]theorem Hr (i:Nat):Wk E O (.exit i) ks fr H Q↔Un E O (.exit i) ks fr H Q:=Ho _ _ _ _
@[simp]theorem Ma (l:List AO):Wk E O (.bW l) ks fr H Q↔Wr E O l ks fr H Q:=L6 _ _ _ _
@[simp]theorem Mb (a b:AC):Wk E O (.seq a b) ks fr H Q↔Wk E O a (.seq b::ks) fr H Q:=by
 unfold Wk
 rw [L7]
 have e:Db (fun bG H'=>Wp E O b bG H' fun ex bG H'=>Un E O ex ks bG H' Q) (fun ex bG H'=>Un E O ex ks bG H' Q)=fun ex bG H'=>Un E O ex (.seq b::ks) bG H' Q:=by
  funext ex bG H'
  cases ex<;>rfl
 rw [e]
@[simp]theorem De (i:Nat) (a:AC):Wk E O (.block i a) ks fr H Q↔Wk E O a (.aN i::ks) fr H Q:=by
 unfold Wk
 rw [Dc]
 have e:qn i (fun ex bG H'=>Un E O ex ks bG H' Q)=fun ex bG H'=>Un E O ex (.aN i::ks) bG H' Q:=by
  funext ex bG H'
  cases ex<;>rfl
 rw [e]
theorem oJ {x:X} {a b:AC} {c:Bool} {Q:Ex→Fr→AH→Prop} (hx:x.ev fr= .bool c):Wp E O (.cond x a b) fr H Q↔Wp E O (bif c then a else b) fr H Q:=by
 refine ⟨?_,Wp.cond hx⟩
 rintro ⟨n,ex,bG,H',e,q⟩
 cases n with
 |zero=>simp [aA]at e
 |succ n=>
  simp only [aA,hx]at e
  cases c<;>exact ⟨n+1,_,_,_,eA (Nat.le_succ n) e,q⟩
@[simp]theorem Df {x:X} {a b:AC} (hx:x.ev fr= .bool true):Wk E O (.cond x a b) ks fr H Q↔Wk E O a ks fr H Q:=oJ hx
@[simp]theorem Dg {x:X} {a b:AC} (hx:x.ev fr= .bool false):Wk E O (.cond x a b) ks fr H Q↔Wk E O b ks fr H Q:=oJ hx
@[simp]theorem Mc:Wr E O [] ks fr H Q↔Un E O .normal ks fr H Q:=by
 refine ⟨fun⟨n,bG,H',e,q⟩=>?_,fun q=>Wo.nil q⟩
 simp only [ops,alO,alV]at e
 obtain ⟨rfl,rfl⟩:=e
 exact q
def cl.aQ:cl→Bool
 | .call _ _| .callv _ _=>true
 |_=>false
def zf:Option (gM×AH)→Bool
 |some (.v _,_)=>true
 |_=>false
def valOf:Option (gM×AH)→Value
 |some (.v x,_)=>x
 |_=>undef
def eQ (H:AH):Option (gM×AH)→AH
 |some (_,H')=>H'
 |none=>H
@[simp]theorem adL (x:Value) (H:AH):zf (some (.v x,H))=true:=rfl
@[simp]theorem Uz (x:Value) (H:AH):valOf (some (.v x,H))=x:=rfl
@[simp]theorem QK (x:Value) (H H':AH):eQ H (some (.v x,H'))=H':=rfl
theorem pD (r:Option (gM×AH)) (hc:∀f as H',r≠some (.enter f as,H')) (Q:Value→AH→Prop):Hm E O r Q↔zf r=true∧Q (valOf r) (eQ H r):=by
 cases r with
 |none=>simp [Hm,zf]
 |some q=>
  obtain ⟨res,H'⟩:=q
  cases res with
  |v x=>simp [Hm]
  |enter f as=>exact absurd rfl (hc f as H')
theorem pE {p:cl} {ρ:X→Value} (h:p.aQ=false):∀f as H',aS p ρ H≠some (.enter f as,H'):=by
 intro f as H' e
 cases p<;>first
  |(simp [cl.aQ]at h;done)
  |(simp only [aS,Bool.cond_eq_ite]at e
    (repeat' split at e)<;>simp at e)
@[simp]theorem Yc (d:Nat) (p:cl) (l:List AO) (h:p.aQ=false):Wr E O (⟨none,some d,p⟩::l) ks fr H Q↔
  zf (aS p (X.ev fr) H)=true∧Wr E O l ks (fr.put d (valOf (aS p (X.ev fr) H))) (eQ H (aS p (X.ev fr) H)) Q:=by
 unfold Wr
 rw [fE,eP _ _ _ _ rfl,pD _ (pE h)];rfl
@[simp]theorem Yd (p:cl) (l:List AO) (h:p.aQ=false):Wr E O (⟨none,none,p⟩::l) ks fr H Q↔
  zf (aS p (X.ev fr) H)=true∧Wr E O l ks fr (eQ H (aS p (X.ev fr) H)) Q:=by
 unfold Wr
 rw [fE,eP _ _ _ _ rfl,pD _ (pE h)];rfl
@[simp]theorem QL {t:Nat} {b:Bool} (d:Option Nat) (p:cl) (l:List AO) (h:fr.get t= .bool b):Wr E O (⟨some (t,b),d,p⟩::l) ks fr H Q↔Wr E O (⟨none,d,p⟩::l) ks fr H Q:=by
 unfold Wr
 rw [fE,fE,eP _ _ _ _ (by simp [AO.wanted,h]),eP _ _ _ _ rfl]
theorem Mg {t:Nat} {b:Bool} (d:Option Nat) (p:cl) (l:List AO) (h:fr.get t≠ .bool b):Wr E O (⟨some (t,b),d,p⟩::l) ks fr H Q↔Wr E O l ks (fr.aM d undef) H Q:=by
 unfold Wr
 rw [fE,zd]
 unfold AO.wanted
 dsimp only
 cases hq:fr.get t<;>first
  |rfl
  |(rw [hq]at h;simpa using h)
theorem Hs {d:Nat} {f:Nat} {as:List X} {l:List AO} (h:Ca E O f (as.map (X.ev fr)) H (fun x H'=>Wr E O l ks (fr.put d x) H' Q)):Wr E O (⟨none,some d,.call f as⟩::l) ks fr H Q:=by
 unfold Wr
 rw [fE,eP _ _ _ _ rfl]
 exact h
theorem Ht (l:List AO) (ck:List (Nat×Nat×Nat)) (h:Wd E O l ck [(fr,H)] l ks fr H Q):Wk E O (.bM l ck) ks fr H Q:=by
 refine Wp.bM ?_
 obtain ⟨n,ss,e,h1,h2⟩:=h
 unfold ze at h1
 simp only [List.reverse_append,List.reverse_cons,List.reverse_nil,List.nil_append,List.reverse_reverse,List.cons_append,alQ]at h1
 exact ⟨n,ss,e,h1,h2⟩
variable{l0:List AO} {ck:List (Nat×Nat×Nat)} {acc:List (Fr×AH)}
@[simp]theorem Mh:Wd E O l0 ck acc [] ks fr H Q↔ze l0 ck acc=true∧Un E O .normal ks fr H Q:=by
 refine ⟨fun⟨n,ss,e,q⟩=>?_,fun q=>Wt.nil (by simpa [eM]using q)⟩
 simp only [iJ,alO]at e
 subst e
 simpa [eM]using q
theorem gQ (o:AO) (l:List AO) (fr:Fr) (H:AH) (Q:List (Fr×AH)→Prop):Wt E O (o::l) fr H Q↔pf E O o fr H (fun bG H'=>Wt E O l bG H' (fun ss=>Q ((bG,H')::ss))):=by
 refine ⟨fun⟨n,ss,e,q⟩=>?_,Wt.cons⟩
 simp only [iJ]at e
 cases h:iH (ey E O n) o fr H with
 |none=>simp [h]at e
 |some r=>
  simp only [h]at e
  cases h2:iJ (ey E O n) l r.1 r.2 with
  |none=>simp [h2]at e
  |some XO=>
   simp only [h2,alO]at e
   subst e
   exact ⟨n,_,_,h,n,_,h2,q⟩
theorem gT (o:AO) (l:List AO):Wd E O l0 ck acc (o::l) ks fr H Q↔pf E O o fr H (fun bG H'=>Wd E O l0 ck ((bG,H')::acc) l ks bG H' Q):=by
 unfold Wd
 rw [gQ]
 simp only [eM,List.reverse_cons,List.append_assoc,List.singleton_append]
@[simp]theorem Ye (d:Nat) (p:cl) (l:List AO) (h:p.aQ=false):Wd E O l0 ck acc (⟨none,some d,p⟩::l) ks fr H Q↔
  zf (aS p (X.ev fr) H)=true∧Wd E O l0 ck ((fr.put d (valOf (aS p (X.ev fr) H)),eQ H (aS p (X.ev fr) H))::acc) l ks (fr.put d (valOf (aS p (X.ev fr) H))) (eQ H (aS p (X.ev fr) H)) Q:=by
 rw [gT,eP _ _ _ _ rfl,pD _ (pE h)];rfl
@[simp]theorem Yf (p:cl) (l:List AO) (h:p.aQ=false):Wd E O l0 ck acc (⟨none,none,p⟩::l) ks fr H Q↔
  zf (aS p (X.ev fr) H)=true∧Wd E O l0 ck ((fr,eQ H (aS p (X.ev fr) H))::acc) l ks fr (eQ H (aS p (X.ev fr) H)) Q:=by
 rw [gT,eP _ _ _ _ rfl,pD _ (pE h)];rfl
@[simp]theorem QM {t:Nat} {b:Bool} (d:Option Nat) (p:cl) (l:List AO) (h:fr.get t= .bool b):Wd E O l0 ck acc (⟨some (t,b),d,p⟩::l) ks fr H Q↔Wd E O l0 ck acc (⟨none,d,p⟩::l) ks fr H Q:=by
 rw [gT,gT,eP _ _ _ _ (by simp [AO.wanted,h]),eP _ _ _ _ rfl]
theorem Mi {t:Nat} {b:Bool} (d:Option Nat) (p:cl) (l:List AO) (h:fr.get t≠ .bool b):Wd E O l0 ck acc (⟨some (t,b),d,p⟩::l) ks fr H Q↔Wd E O l0 ck ((fr.aM d undef,H)::acc) l ks (fr.aM d undef) H Q:=by
 rw [gT,zd]
 unfold AO.wanted
 dsimp only
 cases hq:fr.get t<;>first
  |rfl
  |(rw [hq]at h;simpa using h)
theorem Hu {d:Nat} {f:Nat} {as:List X} {l:List AO} (h:Ca E O f (as.map (X.ev fr)) H (fun x H'=>Wd E O l0 ck ((fr.put d x,H')::acc) l ks (fr.put d x) H' Q)):Wd E O l0 ck acc (⟨none,some d,.call f as⟩::l) ks fr H Q:=by
 rw [gT,eP _ _ _ _ rfl]
 exact h
theorem Ca.Dh {f:Nat} {F:AF} {as:List Value} {H:AH} {Q:Value→AH→Prop} (ho:O f=none) (he:E f=some F) (hl:as.length=F.np) (h:Wk E O F.body [] (Fr.of as) H (xD F.res Q)):Ca E O f as H Q:=
 Ca.body ho he hl (Wp.mono h fun ex fr H q=>by simpa using q)
def uX (E:Env) (O:iq) (I:Nat→Fr→AH→Prop) (k:Nat) (ks:List Ko) (Q:Ex→Fr→AH→Prop):Ex→Fr→AH→Prop
 | .normal,fr,H=>∃j,j<k∧I j fr H
 | .exit i,fr,H=>Un E O (.exit i) ks fr H Q
 | .ret,fr,H=>Un E O .ret ks fr H Q
@[simp]theorem UA (I:Nat→Fr→AH→Prop) (k:Nat):uX E O I k ks Q .normal fr H=∃j,j<k∧I j fr H:=rfl
@[simp]theorem UB (I:Nat→Fr→AH→Prop) (k i:Nat):uX E O I k ks Q (.exit i) fr H=Un E O (.exit i) ks fr H Q:=rfl
@[simp]theorem UC (I:Nat→Fr→AH→Prop) (k:Nat):uX E O I k ks Q .ret fr H=Un E O .ret ks fr H Q:=rfl
theorem zg {a:AC} (I:Nat→Fr→AH→Prop) (step:∀k fr H,I k fr H→Wk E O a [] fr H (uX E O I k ks Q)) (k:Nat) (h:I k fr H):Wk E O (.loop a) ks fr H Q:=by
 refine Wp.loop I (fun k fr H hI=>?_) k h
 refine (step k fr H hI).mono ?_
 intro ex bG H' q
 rw [Dd]at q
 cases ex<;>exact q
attribute [simp] Fr.bj Fr.dR X.ev oB RS.all RS.get
@[simp]theorem Yg (r:List RS) (Q:Value→AH→Prop):xD r Q .normal fr H=∃vs,RS.all fr H r=some vs∧Q (oB vs) H:=rfl
@[simp]theorem Yh (r:List RS) (Q:Value→AH→Prop):xD r Q .ret fr H=∃vs,RS.all fr H r=some vs∧Q (oB vs) H:=rfl
@[simp]theorem O9 (x:X):(cl.mv x).aQ=false:=rfl
@[simp]theorem Kn (c a b:X):(cl.pick c a b).aQ=false:=rfl
@[simp]theorem Hv (z:List Value):(cl.alloc z).aQ=false:=rfl
@[simp]theorem Mj (x:X):(cl.box x).aQ=false:=rfl
@[simp]theorem Hw (z:List Value) (ps:List (Nat×Nat×X)):(cl.build z ps).aQ=false:=rfl
@[simp]theorem Mk (len sz:Nat) (z:List Value) (ps:List (Nat×Nat×X)):(cl.bsl len sz z ps).aQ=false:=rfl
@[simp]theorem Pa (x:X):(cl.ld x).aQ=false:=rfl
@[simp]theorem Ml (n:Nat) (x:X):(cl.ldn n x).aQ=false:=rfl
@[simp]theorem Pb (n:Nat) (x v:X):(cl.st n x v).aQ=false:=rfl
@[simp]theorem Kq (x:X):(cl.aU x).aQ=false:=rfl
@[simp]theorem Mm (op:BinOp) (x y:X):(cl.bin op x y).aQ=false:=rfl
@[simp]theorem Mn (k:Nat) (neg:Bool) (x y:X):(cl.eqk k neg x y).aQ=false:=rfl
@[simp]theorem Pc (op:UnOp) (x:X):(cl.un op x).aQ=false:=rfl
@[simp]theorem Mo (k:IntKind) (x:X):(cl.jU k x).aQ=false:=rfl
@[simp]theorem Mq (x:X):(cl.Cp x).aQ=false:=rfl
@[simp]theorem Mr (f:Nat) (first cap:List X):(cl.mkf f first cap).aQ=false:=rfl
@[simp]theorem Hz:cl.mkmap.aQ=false:=rfl
@[simp]theorem Kr (sz bytes:Nat) (z:List Value) (x:X):(cl.mksl sz bytes z x).aQ=false:=rfl
@[simp]theorem Pd (sz:Nat) (x:X) (lo hi mx:Option X):(cl.sl sz x lo hi mx).aQ=false:=rfl
@[simp]theorem Pe (off:Nat) (x:X):(cl.fa off x).aQ=false:=rfl
@[simp]theorem Pf (sz:Nat) (x i:X):(cl.ia sz x i).aQ=false:=rfl
@[simp]theorem Ms (len sz:Nat) (x i:X):(cl.oA len sz x i).aQ=false:=rfl
@[simp]theorem Pg (x i:X):(cl.ix x i).aQ=false:=rfl
@[simp]theorem Ks (kk:Nat) (z:Value) (x k:X) (ok:Bool):(cl.look kk z x k ok).aQ=false:=rfl
@[simp]theorem Mu (kk:Nat) (x k v:X):(cl.nu kk x k v).aQ=false:=rfl
@[simp]theorem Mv (x:X) (i:Nat):(cl.ext x i).aQ=false:=rfl
@[simp]theorem Mw (sz bytes:Nat) (s x:X):(cl.app sz bytes s x).aQ=false:=rfl
@[simp]theorem Kt (sz:Nat) (d s:X):(cl.copy sz d s).aQ=false:=rfl
@[simp]theorem Ku (x:X):(cl.lens x).aQ=false:=rfl
@[simp]theorem Kv (x:X):(cl.jn x).aQ=false:=rfl
@[simp]theorem Mx (t:Nat) (x:X):(cl.Lu t x).aQ=false:=rfl
@[simp]theorem My (x:X) (l:List X):(cl.mxl x l).aQ=false:=rfl
@[simp]theorem Mz (x:X) (l:List X):(cl.mnl x l).aQ=false:=rfl
@[simp]theorem MA (neg:Bool) (offs:List (Nat×Nat)) (x y:X):(cl.eqs neg offs x y).aQ=false:=rfl
@[simp]theorem UD (b:Bool):Cn .not (.bool b)=some (.bool !b):=rfl
@[simp]theorem UE (k:IntKind) (n:Int):Cn .neg (.int k n)=some (.int k (k.wrap (0- n))):=rfl
@[simp]theorem QN (k:IntKind) (a b:Int):bq .add (.int k a) (.int k b)=some (.int k (k.wrap (a+b))):=by simp [bq,cd,eX]
@[simp]theorem QO (k:IntKind) (a b:Int):bq .sub (.int k a) (.int k b)=some (.int k (k.wrap (a- b))):=by simp [bq,cd,eX]
@[simp]theorem QP (k:IntKind) (a b:Int):bq .mul (.int k a) (.int k b)=some (.int k (k.wrap (a*b))):=by simp [bq,cd,eX]
@[simp]theorem QQ (k:IntKind) (a b:Int):bq .eql (.int k a) (.int k b)=some (.bool (decide (a=b))):=by simp [bq,cd,eX];rfl
@[simp]theorem QR (k:IntKind) (a b:Int):bq .neq (.int k a) (.int k b)=some (.bool (!decide (a=b))):=by simp [bq,cd,eX];rfl
@[simp]theorem QS (k:IntKind) (a b:Int):bq .lss (.int k a) (.int k b)=some (.bool (decide (a<b))):=by simp [bq,cd,eX]
@[simp]theorem QT (k:IntKind) (a b:Int):bq .leq (.int k a) (.int k b)=some (.bool (decide (a≤b))):=by simp [bq,cd,eX]
@[simp]theorem QU (k:IntKind) (a b:Int):bq .gtr (.int k a) (.int k b)=some (.bool (decide (a>b))):=by simp [bq,cd,eX]
@[simp]theorem QV (k:IntKind) (a b:Int):bq .geq (.int k a) (.int k b)=some (.bool (decide (a≥b))):=by simp [bq,cd,eX]
def ch (a b:ByteArray):Bool:=a.data.toList==b.data.toList
@[simp]theorem QW (a b:ByteArray):bq .eql (.string a) (.string b)=some (.bool (ch a b)):=rfl
@[simp]theorem QX (a b:ByteArray):bq .neq (.string a) (.string b)=some (.bool (!ch a b)):=rfl
theorem gH {a b:ByteArray}:ch a b=true↔a=b:=by
 unfold ch
 constructor
 ·intro h
  have:a.data.toList=b.data.toList:=by simpa using h
  exact ByteArray.ext (Array.toList_inj.1 this)
 ·rintro rfl;simp
def dU (s:ByteArray) (i:Nat):Int:=((s[i]?).getD 0).toNat
theorem Di {x i:X} {ρ:X→Value} {H:AH} {s:ByteArray} {n:Nat} (hx:ρ x= .string s) (hi:ρ i= .int .i64 n) (h:n<s.size):aS (.ix x i) ρ H=some (.v (.int .u8 (dU s n)),H):=by
 simp only [aS,hx,hi]
 rw [if_pos (by omega)]
 simp only [Int.toNat_natCast]
 unfold dU
 have:s[n]?=some s[n]:=getElem?_pos s n h
 rw [this]
 rfl
end
end Go.Proofs.YtppcmpmnglaleaaGreatDoor.A
