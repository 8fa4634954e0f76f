/- Texts that stand one behind the other: AbsB, AbsC, AbsD, AbsE, AbsF, AbsG, AbsH, AbsI, AbsJ, AbsK, AbsL, AbsM. -/
import Derived.Test.YtoijnpfpjpefgaaGreatG6
import Derived.Deep.LoopGhost
import Derived.Orders
/- A text without what this claim does not need: AbsB. -/
set_option linter.unusedVariables false
set_option linter.unusedSimpArgs false
namespace Go.Proofs.YtoijnpfpjpefgaaGreat.A
open Go Go.RowKit
section
variable {P:Program}
def SimF (P:Program) (f:Nat) (as:List Value) (H:AH) (v:Value) (H':AH):Prop :=
 ∀ (w0:World) (φ:Phi) (w:World) (as':Array Value),Rel w0 φ H w → Fresh φ H → VL φ as as'.toList →
  Calls P f as' w fun e w'=>∃ φ' v',e = .returned v' ∧ V φ' v v' ∧ Rel w0 φ' H' w' ∧ Grow φ H w φ' H' w'
def CallOk (P:Program) (call:Cl):Prop:=∀ f as H v H',call f as H = some (v,H') → HasF P f ∧ SimF P f as H v H'
theorem V.bool_back {φ:Phi} {v:Value} {b:Bool} (h:V φ v (.bool b)):v = .bool b:=by
 cases h; rfl
theorem wanted_ok {φ:Phi} {fr:Fr} {a:Act} (F:FrR φ fr a) {opsA:Array Oper} {o:Oper} {g:Option (Nat × Bool)} {d:Option Nat} {p:AOp} (hg:cGuard opsA o.guard = some g) :
  Region.wanted o (yielded opsA a.tmps) = AO.wanted ⟨g,d,p⟩ fr:=by
 unfold Region.wanted AO.wanted
 cases hq:o.guard with
 | none=>rw [hq] at hg; simp [cGuard] at hg; subst hg; rfl
 | some jb =>
  obtain ⟨j,b⟩:=jb
  rw [hq] at hg
  simp only [cGuard] at hg
  cases ht:(opsA[j]?).bind (·.dst) with
  | none=>simp [ht] at hg
  | some t =>
   simp [ht] at hg
   subst hg
   dsimp only
   have hv:=F t
   have hy:yielded opsA a.tmps j = match a.tmps[t]? with | some (.bool b)=>some b | _=>none:=by
    unfold yielded
    rw [ht]
    rfl
   rw [hy]
   cases hfr:fr.get t with
   | bool c =>
    rw [hfr] at hv
    have:=hv.bool
    have h2:a.tmps[t]? = some (.bool c):=by
     cases h3:a.tmps[t]? with
     | none=>simp [h3,undef] at this
     | some u=>simp [h3] at this; rw [this]
    rw [h2]
    simp
   | _ =>
    have:∀ c,a.tmps[t]? ≠ some (.bool c):=by
     intro c hc
     have h2:a.tmps.getD t undef = .bool c:=by simp [hc]
     rw [h2] at hv
     have:=hv.bool_back
     rw [this] at hfr
     cases hfr
    dsimp only
    cases h3:a.tmps[t]? with
    | none=>rfl
    | some u=>cases u <;> first | rfl | exact absurd h3 (this _)
theorem enter_eff {p:AOp} {ρ:X → Value} {H H':AH} {f:Nat} {as:List Value} (h:aop p ρ H = some (.enter f as,H')):knd p = .eff:=by
  cases p <;> first
    | rfl
    | (exfalso
       simp only [aop,Bool.cond_eq_ite] at h
       (repeat' split at h) <;> simp at h)
theorem oneSim {call:Cl} (hcall:CallOk P call) {nt:Nat} {opsA:Array Oper} {i:Nat} {o:Oper} {ao:AO} (hi:opsA[i]? = some o) (hc:cAO P nt opsA o = some ao)
  {w0 w:World} {φ:Phi} {H H':AH} {fr fr':Fr} {a:Act} (F:FrR φ fr a) (R:Rel w0 φ H w) (h00:φ.m H.nx = none) (hfr:knd ao.o = .eff → Fresh φ H) (hs:a.tmps.size = nt) (hd:a.defers = []) (h:aone call ao fr H = some (fr',H'))
  {Q:Exit → Act → World → Prop} {K:Act → World → Prop}
  (hK:∀ φ' v v' w',Rel w0 φ' H' w' → Grow φ H w φ' H' w' → V φ' v v' → fr' = fr.putO o.dst v → FrR φ' fr' (a.put o.dst v') → (a.put o.dst v').tmps.size = nt → (a.put o.dst v').defers = [] → K (a.put o.dst v') w') :
  wpOp P opsA Q i K a w:=by
 unfold wpOp
 simp only [hi]
 unfold cAO at hc
 split at hc
 case h_2=>cases hc
 rename_i p g hp hg
 obtain ⟨hdst,hc⟩:=bif_some hc
 cases hc
 have hdst':∀ n,o.dst = some n → n < a.tmps.size:=by
  intro n hn
  rw [hn] at hdst
  rw [hs]
  simpa [dstOk] using hdst
 have hput:∀ v,(a.put o.dst v).tmps.size = nt:=by
  intro v
  cases hq:o.dst <;> simp [Act.put,hs]
 have hputd:∀ v,(a.put o.dst v).defers = []:=by
  intro v
  cases hq:o.dst <;> simp [Act.put,hd]
 have hw:=wanted_ok F (o:=o) (d:=o.dst) (p:=p) hg
 rw [hw]
 unfold aone at h
 cases hwt:AO.wanted ⟨g,o.dst,p⟩ fr with
 | false =>
  simp only [hwt,cond_false,Option.some.injEq,Prod.mk.injEq] at h
  obtain ⟨rfl,rfl⟩:=h
  simp only [Bool.false_eq_true,if_false]
  exact hK φ undef undef w R (Grow.refl _ _ _) (undefV _) rfl (F.putO hdst' (undefV _)) (hput _) (hputd _)
 | true =>
  simp only [hwt,cond_true] at h
  simp only [if_true]
  left
  unfold Oper.wp
  cases hop:aop p (X.ev fr) H with
  | none=>simp [hop] at h
  | some rr =>
   obtain ⟨res,H1⟩:=rr
   simp only [hop] at h
   cases res with
   | v x =>
    simp only [Option.some.injEq,Prod.mk.injEq] at h
    obtain ⟨rfl,rfl⟩:=h
    obtain ⟨φ',w',nx,e1,R',G,hn⟩:=opSim F R h00 hp hop (fun f as h=>by cases h)
    rw [e1]
    rcases hn with ⟨x',rfl,hv⟩ | ⟨rfl,rfl⟩
    ·rw [Oper.upon_value]
     exact hK φ' x x' w' R' G hv rfl ((F.mono G.le).putO hdst' hv) (hput _) (hputd _)
    ·rw [Oper.upon_skip]
     exact hK φ' undef undef w' R' G (undefV _) rfl ((F.mono G.le).putO hdst' (undefV _)) (hput _) (hputd _)
   | enter f as =>
    simp only at h
    cases hcl:call f as H1 with
    | none=>simp [hcl] at h
    | some vv =>
     obtain ⟨x,H2⟩:=vv
     simp only [hcl,Option.some.injEq,Prod.mk.injEq] at h
     obtain ⟨rfl,rfl⟩:=h
     obtain ⟨hf,hsim⟩:=hcall f as H1 x H2 hcl
     obtain ⟨φ',w',nx,e1,R',G,as',rfl,hn⟩:=opSim F R h00 hp hop (fun f' as' h=>by cases h; exact hf)
     rw [e1,Oper.upon_enter]
     refine (hsim w0 φ' w' as' R' (G.fresh (hfr (enter_eff hop))) hn).mono ?_
     rintro e w2 ⟨φ2,v',rfl,hv,R2,G2⟩
     exact hK φ2 x v' w2 R2 (G.trans G2) hv rfl ((F.mono (G.trans G2).le).putO hdst' hv) (hput _) (hputd _)
def exOf:Ex → Exit
 | .normal=>.normal
 | .exit i=>.exit i
 | .ret=>.ret
def Post (w0:World) (φ:Phi) (w:World) (H:AH) (nt:Nat) (ex:Ex) (fr':Fr) (H':AH) (e:Exit) (a':Act) (w':World):Prop :=
 e = exOf ex ∧ ∃ φ',Rel w0 φ' H' w' ∧ Grow φ H w φ' H' w' ∧ FrR φ' fr' a' ∧ a'.tmps.size = nt ∧ a'.defers = []
theorem opsSim {call:Cl} (hcall:CallOk P call) {nt:Nat} {opsA:Array Oper} {w0:World} {Q:Exit → Act → World → Prop}:∀ (l:List Oper) (aos:List AO) (k:Nat) {w:World} {φ:Phi} {H H':AH} {fr fr':Fr} {a:Act},
  cAOs P nt opsA l = some aos → (∀ j o,l[j]? = some o → opsA[k + j]? = some o) → ops call aos fr H = some (fr',H') → FrR φ fr a → Rel w0 φ H w → Fresh φ H → a.tmps.size = nt → a.defers = [] →
  (∀ φ' a' w',Rel w0 φ' H' w' → Grow φ H w φ' H' w' → FrR φ' fr' a' → a'.tmps.size = nt → a'.defers = [] → Q .normal a' w') → wpOps P opsA Q (List.range' k l.length) a w
 | [],aos,k,w,φ,H,H',fr,fr',a,hc,_,h,F,R,R0,hs,hd,hQ=>by
  simp [cAOs] at hc
  subst hc
  simp only [ops,Option.some.injEq,Prod.mk.injEq] at h
  obtain ⟨rfl,rfl⟩:=h
  exact hQ φ a w R (Grow.refl _ _ _) F hs hd
 | o :: l,aos,k,w,φ,H,H',fr,fr',a,hc,hi,h,F,R,R0,hs,hd,hQ=>by
  simp only [cAOs] at hc
  cases ho:cAO P nt opsA o with
  | none=>simp [ho] at hc
  | some ao =>
   cases hl:cAOs P nt opsA l with
   | none=>simp [ho,hl] at hc
   | some m =>
    simp [ho,hl] at hc
    subst hc
    simp only [ops] at h
    cases h1:aone call ao fr H with
    | none=>simp [h1] at h
    | some r =>
     obtain ⟨fr1,H1⟩:=r
     simp only [h1] at h
     simp only [List.length_cons,List.range'_succ,wpOps_cons]
     refine oneSim hcall (by simpa using hi 0 o (by simp)) ho F R (R0 _ (Nat.le_refl _)) (fun _=>R0) hs hd h1 ?_
     intro φ1 v v' w1 R1 G1 _ _ F1 hs1 hd1
     refine opsSim hcall l m (k + 1) hl (fun j o' hj=>by have:=hi (j + 1) o' (by simpa using hj); rwa [show k + (j + 1) = k + 1 + j by omega] at this) h F1 R1 (G1.fresh R0) hs1 hd1 ?_
     intro φ2 a2 w2 R2 G2 F2 hs2 hd2
     exact hQ φ2 a2 w2 R2 (G1.trans G2) F2 hs2 hd2
def rowsA (l:List AO) (dp:List (List Nat)):List Nat → List (Nat × Nat) → List Row
 | [],_=>[]
 | j :: r,am=>match nth l j,nth dp j with
  | some o,some d=>⟨o,knd o.o,j,d,maskOf am d⟩ :: rowsA l dp r ((j,maskOf am d) :: am)
  | _,_=>[]
theorem rowsK_eq {α:Type} (l:List AO) (dp:List (List Nat)):∀ (ord:List Nat) (am:List (Nat × Nat)) (k:List Row → α),rowsK l dp ord am k = k (rowsA l dp ord am)
 | [],am,k=>rfl
 | j :: r,am,k=>by
  simp only [rowsK,rowsA]
  cases hl:nth l j with
  | none=>rfl
  | some o =>
   cases hd:nth dp j with
   | none=>rfl
   | some d =>
    simp only [force_eq]
    rw [rowsK_eq l dp r]
theorem cDraw_rows {nt id:Nat} {opsA:Array Oper} {ac:AC} (h:cCode P nt (.region id opsA true) = some ac) :
  ∃ l ord,cAOs P nt opsA opsA.toList = some l ∧ rowsOk l.length (rowsA l (opsA.toList.map dps) ord []) = true ∧
   ac = .regd ((rowsA l (opsA.toList.map dps) ord []).map (·.o)) (consD 0 (rowsA l (opsA.toList.map dps) ord [])):=by
 simp only [cCode] at h
 cases hl:cAOs P nt opsA opsA.toList with
 | none=>simp [hl] at h
 | some l =>
  simp only [hl,cDraw,rowsK_eq] at h
  obtain ⟨h1,h2⟩:=bif_some h
  cases h2
  exact ⟨l,_,rfl,h1,rfl⟩
theorem cDraw_regd {nt id:Nat} {opsA:Array Oper} {ac:AC} (h:cCode P nt (.region id opsA true) = some ac):∃ l ck,ac = .regd l ck:=by
 obtain ⟨_,_,_,_,e⟩:=cDraw_rows h
 exact ⟨_,_,e⟩
def DrawOk (P:Program) (call:Cl):Prop:=∀ (nt:Nat) (id:Nat) (opsA:Array Oper) (ac:AC),cCode P nt (.region id opsA true) = some ac → ∀ (l:List AO) (ck:List (Nat × Nat × Nat)),ac = .regd l ck →
 ∀ (w0 w:World) (φ:Phi) (H H':AH) (fr fr':Fr) (a:Act),opsD call l ck fr H = some (fr',H') → FrR φ fr a → Rel w0 φ H w → Fresh φ H → a.tmps.size = nt → a.defers = [] →
  (Code.region id opsA true).wp P (Post w0 φ w H nt .normal fr' H') a w
theorem codeR_mono {call:Cl}:∀ {n m:Nat} {c:AC} {fr:Fr} {H:AH} {r:Ex × Fr × AH},n ≤ m → codeR call n c fr H = some r → codeR call m c fr H = some r:=by
 intro n
 induction n with
 | zero=>intro m c fr H r _ h; simp [codeR] at h
 | succ n ih =>
  intro m c fr H r hm h
  obtain ⟨m,rfl⟩:∃ k,m = k + 1:=⟨m - 1,by omega⟩
  have hm':n ≤ m:=by omega
  cases c with
  | seq a b =>
   simp only [codeR] at h ⊢
   cases h1:codeR call n a fr H with
   | none=>simp [h1] at h
   | some q =>
    rw [ih hm' h1]
    obtain ⟨ex,fr1,H1⟩:=q
    cases ex <;> simp only [h1] at h ⊢ <;> first
     | exact ih hm' h
     | exact h
  | cond x a b =>
   simp only [codeR] at h ⊢
   cases hx:x.ev fr <;> simp only [hx] at h ⊢ <;> first
    | (cases h; done)
    | skip
   rename_i t
   cases t <;> exact ih hm' h
  | block i a =>
   simp only [codeR] at h ⊢
   cases h1:codeR call n a fr H with
   | none=>simp [h1] at h
   | some q =>
    rw [ih hm' h1]
    obtain ⟨ex,fr1,H1⟩:=q
    cases ex <;> simp only [h1] at h ⊢ <;> exact h
  | loop a =>
   simp only [codeR] at h ⊢
   cases h1:codeR call n a fr H with
   | none=>simp [h1] at h
   | some q =>
    rw [ih hm' h1]
    obtain ⟨ex,fr1,H1⟩:=q
    cases ex <;> simp only [h1] at h ⊢ <;> first
     | exact ih hm' h
     | exact h
  | _=>simpa only [codeR] using h
theorem codeSim {call:Cl} (hcall:CallOk P call) (hdraw:DrawOk P call) {nt:Nat} {w0:World}:∀ (m:Nat) (c:Code) (ac:AC) {w:World} {φ:Phi} {H H':AH} {fr fr':Fr} {a:Act} {ex:Ex},
  cCode P nt c = some ac → codeR call m ac fr H = some (ex,fr',H') → FrR φ fr a → Rel w0 φ H w → Fresh φ H → a.tmps.size = nt → a.defers = [] → c.wp P (Post w0 φ w H nt ex fr' H') a w:=by
 intro m
 induction m with
 | zero=>intro c ac w φ H H' fr fr' a ex _ h; simp [codeR] at h
 | succ m ih =>
  intro c ac w φ H H' fr fr' a ex hc h F R R0 hs hd
  cases c with
  | skip =>
   simp [cCode] at hc
   subst hc
   simp only [codeR,Option.some.injEq,Prod.mk.injEq] at h
   obtain ⟨rfl,rfl,rfl⟩:=h
   exact wp_skip ⟨rfl,φ,R,Grow.refl _ _ _,F,hs,hd⟩
  | region id opsA draw =>
   cases draw with
   | false =>
    simp only [cCode] at hc
    cases hl:cAOs P nt opsA opsA.toList with
    | none=>simp [hl] at hc
    | some l =>
     simp [hl] at hc
     subst hc
     simp only [codeR] at h
     cases h1:ops call l fr H with
     | none=>simp [h1] at h
     | some r =>
      obtain ⟨fr1,H1⟩:=r
      simp only [h1,Option.some.injEq,Prod.mk.injEq] at h
      obtain ⟨rfl,rfl,rfl⟩:=h
      refine wp_region ?_
      have:=opsSim (Q:=Post w0 φ w H nt .normal fr1 H1) hcall opsA.toList l 0 hl (fun j o hj=>by simpa using hj) h1 F R R0 hs hd (fun φ' a' w' R' G F' hs' hd'=>⟨rfl,φ',R',G,F',hs',hd'⟩)
      rwa [Array.length_toList,← List.range_eq_range'] at this
   | true =>
    have hc0:=hc
    obtain ⟨l,ck,hacq⟩:=cDraw_regd hc
    rw [hacq] at h
    simp only [codeR] at h
    split at h
    case h_2=>cases h
    rename_i fr1 H1 h1
    simp only [Option.some.injEq,Prod.mk.injEq] at h
    obtain ⟨rfl,rfl,rfl⟩:=h
    exact hdraw nt id opsA _ hc0 _ _ hacq w0 w φ H H1 fr fr1 a h1 F R R0 hs hd
  | seq x y =>
   simp only [cCode] at hc
   cases hx:cCode P nt x with
   | none=>simp [hx] at hc
   | some ax =>
    cases hy:cCode P nt y with
    | none=>simp [hx,hy] at hc
    | some ay =>
     simp [hx,hy] at hc
     subst hc
     simp only [codeR] at h
     refine wp_seq ?_
     cases h1:codeR call m ax fr H with
     | none=>simp [h1] at h
     | some r =>
      obtain ⟨ex1,fr1,H1⟩:=r
      have w1:=ih x ax hx h1 F R R0 hs hd
      cases ex1 with
      | normal =>
       simp only [h1] at h
       refine wp_mono w1 ?_
       rintro e a1 w1 ⟨rfl,φ1,R1,G1,F1,hs1,hd1⟩
       refine wp_mono (ih y ay hy h F1 R1 (G1.fresh R0) hs1 hd1) ?_
       rintro e a2 w2 ⟨he,φ2,R2,G2,F2,hs2,hd2⟩
       exact ⟨he,φ2,R2,G1.trans G2,F2,hs2,hd2⟩
      | exit i =>
       simp only [h1,Option.some.injEq,Prod.mk.injEq] at h
       obtain ⟨rfl,rfl,rfl⟩:=h
       refine wp_mono w1 ?_
       rintro e a1 w1 ⟨rfl,q⟩
       exact ⟨rfl,q⟩
      | ret =>
       simp only [h1,Option.some.injEq,Prod.mk.injEq] at h
       obtain ⟨rfl,rfl,rfl⟩:=h
       refine wp_mono w1 ?_
       rintro e a1 w1 ⟨rfl,q⟩
       exact ⟨rfl,q⟩
  | cond x y z =>
   simp only [cCode] at hc
   split at hc
   case h_2=>cases hc
   rename_i xx ay az hx hy hz
   cases hc
   simp only [codeR] at h
   have hv:=cX_V F hx
   cases hq:xx.ev fr <;> simp [hq] at h
   rename_i b
   rw [hq] at hv
   refine wp_cond hv.bool ?_
   cases b
   ·simp only [Bool.false_eq_true,if_false]
    exact ih z az hz h F R R0 hs hd
   ·simp only [if_true]
    exact ih y ay hy h F R R0 hs hd
  | block i x =>
   simp only [cCode] at hc
   cases hx:cCode P nt x with
   | none=>simp [hx] at hc
   | some ax =>
    simp [hx] at hc
    subst hc
    simp only [codeR] at h
    refine wp_block ?_
    cases h1:codeR call m ax fr H with
    | none=>simp [h1] at h
    | some r =>
     obtain ⟨ex1,fr1,H1⟩:=r
     have w1:=ih x ax hx h1 F R R0 hs hd
     refine wp_mono w1 ?_
     rintro e a1 w3 ⟨rfl,q⟩
     cases ex1 with
     | normal =>
      simp only [h1,Option.some.injEq,Prod.mk.injEq] at h
      obtain ⟨rfl,rfl,rfl⟩:=h
      exact ⟨rfl,q⟩
     | ret =>
      simp only [h1,Option.some.injEq,Prod.mk.injEq] at h
      obtain ⟨rfl,rfl,rfl⟩:=h
      exact ⟨rfl,q⟩
     | exit j =>
      simp only [h1,nb,Bool.cond_decide] at h
      show Exit.inBlock i _ (.exit j) a1 w3
      simp only [Exit.inBlock]
      by_cases hj:j = i
      ·rw [if_pos hj] at h ⊢
       simp only [Option.some.injEq,Prod.mk.injEq] at h
       obtain ⟨rfl,rfl,rfl⟩:=h
       exact ⟨rfl,q⟩
      ·rw [if_neg hj] at h ⊢
       simp only [Option.some.injEq,Prod.mk.injEq] at h
       obtain ⟨rfl,rfl,rfl⟩:=h
       exact ⟨rfl,q⟩
  | loop x =>
   simp only [cCode] at hc
   cases hx:cCode P nt x with
   | none=>simp [hx] at hc
   | some ax =>
    simp [hx] at hc
    subst hc
    refine wp_loop_ghost (fun n a1 w1=>n ≤ m + 1 ∧ ∃ fr1 H1 φ1,codeR call n (.loop ax) fr1 H1 = some (ex,fr',H') ∧ FrR φ1 fr1 a1 ∧ Rel w0 φ1 H1 w1 ∧ Grow φ H w φ1 H1 w1 ∧ a1.tmps.size = nt ∧ a1.defers = []) (m + 1) ⟨Nat.le_refl _,fr,H,φ,h,F,R,Grow.refl _ _ _,hs,hd⟩ ?_
    rintro n a1 w1 ⟨hn,fr1,H1,φ1,h1,F1,R1,G1,hs1,hd1⟩
    cases n with
    | zero=>simp [codeR] at h1
    | succ n =>
     simp only [codeR] at h1
     cases h2:codeR call n ax fr1 H1 with
     | none=>simp [h2] at h1
     | some r =>
      obtain ⟨ex2,fr2,H2⟩:=r
      have mono:codeR call m ax fr1 H1 = some (ex2,fr2,H2):=codeR_mono (by omega) h2
      have w2:=ih x ax hx mono F1 R1 (G1.fresh R0) hs1 hd1
      refine wp_mono w2 ?_
      rintro e a2 w2 ⟨rfl,φ2,R2,G2,F2,hs2,hd2⟩
      cases ex2 with
      | normal =>
       simp only [h2] at h1
       exact ⟨n,by omega,by omega,fr2,H2,φ2,h1,F2,R2,G1.trans G2,hs2,hd2⟩
      | exit j =>
       simp only [h2,Option.some.injEq,Prod.mk.injEq] at h1
       obtain ⟨rfl,rfl,rfl⟩:=h1
       exact ⟨rfl,φ2,R2,G1.trans G2,F2,hs2,hd2⟩
      | ret =>
       simp only [h2,Option.some.injEq,Prod.mk.injEq] at h1
       obtain ⟨rfl,rfl,rfl⟩:=h1
       exact ⟨rfl,φ2,R2,G1.trans G2,F2,hs2,hd2⟩
  | exit i =>
   simp [cCode] at hc
   subst hc
   simp only [codeR,Option.some.injEq,Prod.mk.injEq] at h
   obtain ⟨rfl,rfl,rfl⟩:=h
   exact wp_exit ⟨rfl,φ,R,Grow.refl _ _ _,F,hs,hd⟩
  | ret =>
   simp [cCode] at hc
   subst hc
   simp only [codeR,Option.some.injEq,Prod.mk.injEq] at h
   obtain ⟨rfl,rfl,rfl⟩:=h
   exact wp_ret ⟨rfl,φ,R,Grow.refl _ _ _,F,hs,hd⟩
  | _=>simp [cCode] at hc
end
end Go.Proofs.YtoijnpfpjpefgaaGreat.A
/- A text without what this claim does not need: AbsC. -/
set_option linter.unusedVariables false
set_option linter.unusedSimpArgs false
namespace Go.Proofs.YtoijnpfpjpefgaaGreat.A
open Go
theorem aop_congr {p:AOp} {ρ ρ':X → Value} (h:∀ x ∈ p.xs,ρ x = ρ' x) (H:AH):aop p ρ H = aop p ρ' H:=by
 have ml:∀ (l:List X),(∀ x ∈ l,ρ x = ρ' x) → l.map ρ = l.map ρ':=fun l hl=>List.map_congr_left hl
 have mp:∀ (l:List (Nat × Nat × X)),(∀ x ∈ l.map (fun p=>p.2.2),ρ x = ρ' x) → (l.map fun p=>(p.1,p.2.1,ρ p.2.2)) = l.map fun p=>(p.1,p.2.1,ρ' p.2.2) :=
  fun l hl=>List.map_congr_left fun p hp=>by rw [hl _ (List.mem_map.2 ⟨p,hp,rfl⟩)]
 have mo:∀ (l:Option X),(∀ x ∈ l.toList,ρ x = ρ' x) → l.map ρ = l.map ρ':=fun l hl=>by cases l <;> simp_all
 cases p
 case build z ps=>simp only [aop]; rw [mp ps h]
 case bsl a b c ps=>simp only [aop]; rw [mp ps h]
 case mkf f a b =>
  simp only [aop]
  rw [ml a fun x hx=>h x (by simp [AOp.xs,hx]),ml b fun x hx=>h x (by simp [AOp.xs,hx])]
 case call f as=>simp only [aop]; rw [ml as h]
 case callv x as =>
  simp only [aop]
  rw [ml as fun x hx=>h x (by simp [AOp.xs,hx]),h x (by simp [AOp.xs])]
 case mxl x as =>
  simp only [aop]
  rw [ml as fun x hx=>h x (by simp [AOp.xs,hx]),h x (by simp [AOp.xs])]
 case mnl x as =>
  simp only [aop]
  rw [ml as fun x hx=>h x (by simp [AOp.xs,hx]),h x (by simp [AOp.xs])]
 case sl sz x lo hi mx =>
  simp only [aop]
  rw [h x (by simp [AOp.xs]),mo lo fun x hx=>h x (by simp [AOp.xs] at hx ⊢; simp [hx]),mo hi fun x hx=>h x (by simp [AOp.xs] at hx ⊢; simp [hx]),mo mx fun x hx=>h x (by simp [AOp.xs] at hx ⊢; simp [hx])]
 all_goals
  simp only [AOp.xs,List.mem_cons,List.not_mem_nil,or_false,forall_eq_or_imp,forall_eq,implies_true,false_imp_iff] at h
  simp only [aop,h]
theorem aslice_lo0 {sz:Nat} {H H1:AH} {x:Value} {hi mx:Option Value}:aslice sz H1 x none hi mx = aslice sz H x none hi mx:=by
 cases x <;> try rfl
 rename_i a len cap
 simp only [aslice]
 cases hb:abounds len cap none hi mx with
 | none=>rfl
 | some r =>
  obtain ⟨l,h,m⟩:=r
  have hl:l = 0:=by
   unfold abounds at hb
   simp only [Option.bind_eq_some_iff] at hb
   obtain ⟨_,_,_,_,_,e,e2⟩:=hb
   simp at e e2
   omega
  subst hl
  simp
theorem kind_pure {p:AOp} {ρ:X → Value} {H H':AH} {r:ARes} (hk:knd p = .pure) (h:aop p ρ H = some (r,H')) :
    H' = H ∧ ∀ H1:AH,aop p ρ H1 = some (r,H1):=by
  cases p
  case sl sz x lo hi mx =>
    cases lo with
    | some l=>simp [knd] at hk
    | none =>
      simp only [aop,Option.map_none,Option.map_eq_some_iff] at h ⊢
      obtain ⟨v,hv,e⟩:=h
      cases e
      exact ⟨rfl,fun H1=>⟨v,aslice_lo0.trans hv,rfl⟩⟩
  case eqk k neg x y =>
    simp only [aop,Option.map_eq_some_iff] at h ⊢
    obtain ⟨b,hb,e⟩:=h
    cases e
    exact ⟨rfl,fun H1=>⟨b,hb,rfl⟩⟩
  case eqs neg offs x y =>
    simp only [aop] at h ⊢
    split at h
    · simp only [Option.map_eq_some_iff] at h ⊢
      obtain ⟨b,hb,e⟩:=h
      cases e
      exact ⟨rfl,fun H1=>⟨b,hb,rfl⟩⟩
    · cases h
  all_goals first
    | (simp [knd] at hk; done)
    | (simp only [aop,Bool.cond_eq_ite,Option.map_eq_some_iff] at h ⊢
       (repeat' split at h) <;> simp_all <;> try (obtain ⟨_,_,h1,h2⟩:=h; simp_all))
theorem kind_alloc {p:AOp} {ρ:X → Value} {H H':AH} {r:ARes} (hk:knd p = .alloc) (h:aop p ρ H = some (r,H')) :
  ∃ blk,H' = H.alloc blk ∧ ∀ H1:AH,H1.nx = H.nx → aop p ρ H1 = some (r,H1.alloc blk):=by
 cases p
 case sl sz x lo hi mx=>cases lo <;> simp [knd] at hk
 all_goals first
  | (simp [knd] at hk; done)
  | skip
 case alloc z =>
  simp only [aop,Option.some.injEq,Prod.mk.injEq] at h ⊢
  obtain ⟨rfl,rfl⟩:=h
  exact ⟨_,rfl,fun H1 e=>⟨by rw [e],rfl⟩⟩
 case box x =>
  simp only [aop,Bool.cond_eq_ite] at h ⊢
  split at h
  ·cases h
  ·rename_i ht
   simp only [Option.some.injEq,Prod.mk.injEq] at h
   obtain ⟨rfl,rfl⟩:=h
   exact ⟨_,rfl,fun H1 e=>by rw [if_neg ht,e]⟩
 case bsl len sz z ps =>
  simp only [aop,Option.map_eq_some_iff] at h ⊢
  obtain ⟨c,hc,e⟩:=h
  cases e
  exact ⟨_,rfl,fun H1 e=>⟨c,hc,by rw [e]⟩⟩
 case mkmap =>
  simp only [aop,Option.some.injEq,Prod.mk.injEq] at h ⊢
  obtain ⟨rfl,rfl⟩:=h
  exact ⟨_,rfl,fun H1 e=>⟨by rw [e],rfl⟩⟩
 case mksl sz bytes z x =>
  simp only [aop,Bool.cond_eq_ite] at h ⊢
  split at h
  ·split at h
   ·rename_i hc
    simp only [Option.some.injEq,Prod.mk.injEq] at h
    obtain ⟨rfl,rfl⟩:=h
    exact ⟨_,rfl,fun H1 e=>by rw [if_pos hc,e]⟩
   ·cases h
  ·cases h
theorem cleanL_length {n0:Nat}:∀ {l m:List Value},cleanL n0 l = some m → m.length = l.length
 | [],m,h=>by simp [cleanL] at h; subst h; rfl
 | v :: l,m,h=>by
  simp only [cleanL] at h
  split at h
  ·rename_i x m' hx hm
   cases h
   simp [cleanL_length hm]
  ·cases h
theorem ldn_some {H:AH} {a:Addr} {n:Nat} {vs:List Value} (h:H.ldn a n = some vs):(H.get a.block).isSome = true ∧ vs.length = n:=by
 unfold AH.ldn at h
 split at h
 case h_2=>cases h
 rename_i z c hs hg
 obtain ⟨hb,h⟩:=bif_some h
 simp at hb
 refine ⟨by simp [hg],?_⟩
 simp only [Bool.cond_eq_ite] at h
 split at h
 ·rw [cleanL_length h]; simp; omega
 ·cases h; simp; omega
theorem ldn_same {H H1:AH} {a:Addr} {n:Nat} (hg:H1.get a.block = H.get a.block) (h0:H1.n0 = H.n0):H1.ldn a n = H.ldn a n:=by
 unfold AH.ldn
 rw [hg,h0]
theorem ld_ldn {H:AH} {a:Addr} {v:Value}:H.ld a = some v ↔ H.ldn a 1 = some [v]:=by
 unfold AH.ld AH.ldn
 cases hs:a.spot with
 | some x=>simp
 | none =>
  cases hg:H.get a.block with
  | none=>simp
  | some b =>
   cases b with
   | map es=>simp
   | cells z c =>
    simp only
    cases hc:c[a.off]? with
    | none =>
     have:=List.getElem?_eq_none_iff.1 hc
     have:decide (a.off + 1 ≤ c.length) = false:=by simp; omega
     simp [this]
    | some u =>
     have hlt:=(List.getElem?_eq_some_iff.1 hc).1
     have h1:decide (a.off + 1 ≤ c.length) = true:=by simp; omega
     have h2:List.take 1 (List.drop a.off c) = [u]:=by
      have:=(List.getElem?_eq_some_iff.1 hc).2
      rw [List.drop_eq_getElem_cons hlt,this]
      rfl
     simp only [h1,cond_true,h2]
     cases hd:decide (a.block < H.n0) with
     | false=>simp
     | true =>
      simp only [cond_true,cleanL]
      cases cleanOld H.n0 u <;> simp
theorem kind_load {o:AO} {fr:Fr} {H H':AH} {r:ARes} (hk:knd o.o = .load) (h:aop o.o (X.ev fr) H = some (r,H')) :
  H' = H ∧ ∃ a vs,loadOf o fr H = some (a,vs) ∧ adrOf o fr = some a.block ∧ H.ldn a vs.length = some vs ∧ ∀ H1:AH,H1.ldn a vs.length = some vs → aop o.o (X.ev fr) H1 = some (r,H1):=by
 obtain ⟨g,d,p⟩:=o
 dsimp only at hk h
 unfold loadOf adrOf
 dsimp only
 cases p
 case sl sz x lo hi mx=>cases lo <;> simp [knd] at hk
 all_goals first
  | (simp [knd] at hk; done)
  | skip
 case ld x =>
  simp only [aop] at h ⊢
  split at h
  case h_2=>cases h
  rename_i a ha
  simp only [Option.map_eq_some_iff] at h
  obtain ⟨v,hv,e⟩:=h
  cases e
  have hl:=ld_ldn.1 hv
  refine ⟨rfl,a,[v],?_,rfl,hl,fun H1 h1=>?_⟩
  ·rw [hl]; rfl
  ·rw [ld_ldn.2 h1]; rfl
 case ldn n x =>
  simp only [aop] at h ⊢
  split at h
  case h_2=>cases h
  rename_i a ha
  simp only [Option.map_eq_some_iff] at h
  obtain ⟨vs,hv,e⟩:=h
  cases e
  have hl:=(ldn_some hv).2
  subst hl
  refine ⟨rfl,a,vs,?_,rfl,hv,fun H1 h1=>?_⟩
  ·rw [hv]; rfl
  ·rw [h1]; rfl
theorem st_form {H H':AH} {a:Addr} {vs:List Value} (h:H.st a vs = some H'):(H.get a.block).isSome = true ∧ ∃ z c',H' = H.put a.block (some (.cells z c')) ∧
  ∀ H1:AH,H1.get a.block = H.get a.block → H1.n0 = H.n0 → H1.st a vs = some (H1.put a.block (some (.cells z c'))):=by
 unfold AH.st at h
 split at h
 case h_2=>cases h
 rename_i z c hs hg
 obtain ⟨hb,h⟩:=bif_some h
 cases h
 refine ⟨by simp [hg],z,_,rfl,fun H1 h1 h2=>?_⟩
 unfold AH.st
 rw [h1,h2,hg,hs]
 simp only [hb,cond_true]
theorem kind_st {o:AO} {fr:Fr} {H H':AH} {r:ARes} (hk:knd o.o = .st) (h:aop o.o (X.ev fr) H = some (r,H')) :
  ∃ b blk,adrOf o fr = some b ∧ (H.get b).isSome = true ∧ H' = H.put b blk ∧ ∀ H1:AH,H1.get b = H.get b → H1.n0 = H.n0 → aop o.o (X.ev fr) H1 = some (r,H1.put b blk):=by
 obtain ⟨g,d,p⟩:=o
 dsimp only at hk h
 unfold adrOf
 dsimp only
 cases p
 case sl sz x lo hi mx=>cases lo <;> simp [knd] at hk
 all_goals first
  | (simp [knd] at hk; done)
  | skip
 case st n x v =>
  simp only [aop] at h ⊢
  split at h
  case h_2=>cases h
  rename_i a ha
  obtain ⟨hb,h⟩:=bif_some h
  simp only [Option.map_eq_some_iff] at h
  obtain ⟨H2,h2,e⟩:=h
  cases e
  obtain ⟨hs,z,c',rfl,hall⟩:=st_form h2
  refine ⟨a.block,some (.cells z c'),rfl,hs,rfl,fun H1 e1 e2=>?_⟩
  rw [hb,cond_true,hall H1 e1 e2]
  rfl
theorem zok_none {H:AH} {b sz:Nat} (h:H.get b = none):H.zok b sz = false:=by
 unfold AH.zok; rw [h]
theorem kind_read {o:AO} {fr:Fr} {H H':AH} {r:ARes} (hk:knd o.o = .read) (h:aop o.o (X.ev fr) H = some (r,H')) :
  H' = H ∧ ∀ H1:AH,(∀ b,adrOf o fr = some b → (H.get b).isSome = true → H1.get b = H.get b) → H1.n0 = H.n0 → aop o.o (X.ev fr) H1 = some (r,H1):=by
 obtain ⟨g,d,p⟩:=o
 dsimp only at hk h
 unfold adrOf
 dsimp only
 cases p
 case sl sz x lo hi mx =>
  simp only [aop,Option.map_eq_some_iff] at h ⊢
  obtain ⟨v,hv,e⟩:=h
  cases e
  refine ⟨rfl,fun H1 h1 h2=>⟨v,?_,rfl⟩⟩
  rw [← hv]
  cases hx:x.ev fr <;> try rfl
  rename_i a len cap
  rw [hx] at hv h1
  simp only [aslice] at hv ⊢
  split
  ·rfl
  ·cases a with
   | none=>rfl
   | some a =>
    rename_i l hh m hab
    rw [hab] at hv
    simp only at hv ⊢
    have hz:(a.spot.isNone && (Nat.beq l 0 || H1.zok a.block sz)) = (a.spot.isNone && (Nat.beq l 0 || H.zok a.block sz)) ∨ H.get a.block = none:=by
     cases hsp:a.spot.isNone with
     | false=>left; simp
     | true =>
      cases hg:H.get a.block with
      | none=>exact .inr rfl
      | some b =>
       left
       have:=h1 a.block (by simp [hsp]) (by simp [hg])
       unfold AH.zok
       rw [this]
    rcases hz with hz | hz
    ·rw [hz]
    ·obtain ⟨h3,hv⟩:=bif_some hv
     rw [h3]
     simp only [cond_true]
     split
     ·rfl
     ·rename_i hml
      rw [if_neg hml] at hv
      obtain ⟨h4,hv⟩:=bif_some hv
      rw [zok_none hz,Bool.or_false] at h4
      simp only [Bool.and_eq_true] at h4
      simp [h4.1,h4.2]
 case look kk z x k ok =>
  simp only [aop] at h ⊢
  cases hx:x.ev fr <;> simp only [hx] at h ⊢ <;> try (cases h; done)
  rename_i rr
  cases rr with
  | none =>
   simp only at h ⊢
   obtain ⟨h1,h⟩:=bif_some h
   cases h
   exact ⟨rfl,fun H1 _ _=>by rw [h1]; rfl⟩
  | some q =>
   simp only at h ⊢
   cases hg:H.get q with
   | none=>simp [hg] at h
   | some b =>
    cases b with
    | cells z c=>simp [hg] at h
    | map es =>
     simp only [hg] at h
     obtain ⟨h1,h⟩:=bif_some h
     refine ⟨?_,fun H1 e1 e2=>?_⟩
     ·split at h <;> first | (cases h; rfl) | cases h
     ·have:=e1 q rfl (by simp [hg])
      rw [this,hg,e2]
      simp only [h1,cond_true]
      split at h
      ·cases h; rfl
      ·cases h; rfl
      ·cases h
 all_goals first
  | (simp [knd] at hk; done)
  | skip
theorem same1_eq:∀ {a b:Value},same1 a b = true → a = b:=by
 intro a b h
 cases a <;> cases b <;> simp [same1] at h <;> simp_all
 exact ByteArray.ext h
theorem sameL_eq:∀ {a b:List Value},sameL a b = true → a = b
 | [],[],_=>rfl
 | a :: l,b :: m,h=>by
  simp only [sameL,Bool.and_eq_true] at h
  rw [same1_eq h.1,sameL_eq h.2]
 | [],_ :: _,h=>by simp [sameL] at h
 | _ :: _,[],h=>by simp [sameL] at h
theorem sameAt_eq {H:AH} {a:Addr} {vs:List Value} (h:sameAt H (a,vs) = true):H.ldn a vs.length = some vs:=by
 unfold sameAt at h
 dsimp only at h
 split at h
 ·rename_i m hm
  rw [hm,sameL_eq h]
 ·cases h
theorem sameB_eq {x y:Option Blk} (h:sameB x y = true):x = y:=by
 unfold sameB at h
 split at h
 ·simp only [Bool.and_eq_true,Nat.beq_eq] at h
  rw [h.1,sameL_eq h.2]
 ·rfl
 ·cases h
end Go.Proofs.YtoijnpfpjpefgaaGreat.A
/- A text without what this claim does not need: AbsD. -/
set_option linter.unusedVariables false
set_option linter.unusedSimpArgs false
namespace Go.Proofs.YtoijnpfpjpefgaaGreat.A
open Go
theorem memN_iff {n:Nat}:∀ {l:List Nat},memN n l = true ↔ n ∈ l
 | []=>by simp [memN]
 | x :: l=>by
  simp only [memN,Bool.or_eq_true,nb,decide_eq_true_eq,List.mem_cons]
  rw [memN_iff (l:=l)]
  constructor
  ·rintro (h | h)
   ·exact .inl h.symm
   ·exact .inr h
  ·rintro (h | h)
   ·exact .inl h.symm
   ·exact .inr h
theorem apartM_spec {x y:AO} (h:apartM x y = true):(∀ d,x.d = some d → d ∉ tmpsOf y) ∧ (∀ d,x.d = some d → y.d ≠ some d):=by
 unfold apartM at h
 cases hd:x.d with
 | none=>exact ⟨fun _ h=>(by cases h),fun _ h=>(by cases h)⟩
 | some d =>
  simp only [hd,Bool.and_eq_true,Bool.not_eq_true'] at h
  refine ⟨fun e he=>?_,fun e he=>?_⟩
  ·cases he
   intro hm
   rw [memN_iff.2 hm] at h
   cases h.1
  ·cases he
   intro hy
   rw [hy] at h
   simp at h
theorem Fr.get_putO {f:Fr} {d:Option Nat} {v:Value} {x:Nat}:(f.putO d v).get x = if d = some x then v else f.get x:=by
 cases d with
 | none=>simp [Fr.putO]
 | some k =>
  simp only [Fr.putO,Fr.get_put,Option.some.injEq]
  by_cases h:x = k
  ·simp [h]
  ·rw [if_neg h,if_neg (fun e=>h e.symm)]
inductive One (call:Cl) (o:AO) (fr:Fr) (H:AH) (x:Value) (H':AH):Prop where
 | off (h:o.wanted fr = false) (e:x = undef) (e2:H' = H)
 | val (h:o.wanted fr = true) (e:aop o.o (X.ev fr) H = some (.v x,H'))
 | call (h:o.wanted fr = true) (f:Nat) (as:List Value) (H1:AH) (e:aop o.o (X.ev fr) H = some (.enter f as,H1)) (e2:call f as H1 = some (x,H'))
theorem aone_iff {call:Cl} {o:AO} {fr fr':Fr} {H H':AH}:aone call o fr H = some (fr',H') ↔ ∃ x,fr' = fr.putO o.d x ∧ One call o fr H x H':=by
 unfold aone
 constructor
 ·intro h
  cases hw:o.wanted fr with
  | false =>
   simp only [hw,cond_false,Option.some.injEq,Prod.mk.injEq] at h
   exact ⟨undef,h.1.symm,.off hw rfl h.2.symm⟩
  | true =>
   simp only [hw,cond_true] at h
   cases hop:aop o.o (X.ev fr) H with
   | none=>simp [hop] at h
   | some rr =>
    obtain ⟨res,H1⟩:=rr
    simp only [hop] at h
    cases res with
    | v x =>
     simp only [Option.some.injEq,Prod.mk.injEq] at h
     obtain ⟨rfl,rfl⟩:=h
     exact ⟨x,rfl,.val hw hop⟩
    | enter f as =>
     simp only at h
     cases hc:call f as H1 with
     | none=>simp [hc] at h
     | some r =>
      obtain ⟨x,H2⟩:=r
      simp only [hc,Option.some.injEq,Prod.mk.injEq] at h
      obtain ⟨rfl,rfl⟩:=h
      exact ⟨x,rfl,.call hw f as H1 hop hc⟩
 ·rintro ⟨x,rfl,h⟩
  cases h with
  | off h e e2=>subst e; subst e2; simp [h]
  | val h e=>simp [h,e]
  | call h f as H1 e e2=>simp [h,e,e2]
def Agree (o:AO) (fr fr2:Fr):Prop:=∀ t ∈ tmpsOf o,fr2.get t = fr.get t
theorem Agree.ev {o:AO} {fr fr2:Fr} (h:Agree o fr fr2):∀ x ∈ o.o.xs,X.ev fr2 x = X.ev fr x:=by
 intro x hx
 cases x with
 | t n =>
  exact h n (by
   unfold tmpsOf
   exact List.mem_append_right _ (List.mem_filterMap.2 ⟨.t n,hx,rfl⟩))
 | k v=>rfl
 | f n=>rfl
theorem Agree.wanted {o:AO} {fr fr2:Fr} (h:Agree o fr fr2):o.wanted fr2 = o.wanted fr:=by
 unfold AO.wanted
 cases hg:o.g with
 | none=>rfl
 | some tb =>
  obtain ⟨t,b⟩:=tb
  simp only
  rw [h t (by unfold tmpsOf; rw [hg]; simp)]
theorem Agree.one {call:Cl} {o:AO} {fr fr2:Fr} {H H':AH} {x:Value} (h:Agree o fr fr2) (k:One call o fr H x H'):One call o fr2 H x H':=by
 have he:∀ H,aop o.o (X.ev fr2) H = aop o.o (X.ev fr) H:=fun H=>aop_congr h.ev H
 cases k with
 | off a b c=>exact .off (h.wanted.trans a) b c
 | val a b=>exact .val (h.wanted.trans a) ((he _).trans b)
 | call a f as H1 b c=>exact .call (h.wanted.trans a) f as H1 ((he _).trans b) c
theorem adr_xs {o:AO} {fr fr2:Fr} (h:Agree o fr fr2):adrOf o fr2 = adrOf o fr:=by
 have he:=h.ev
 unfold adrOf
 cases hp:o.o <;> simp only [hp,AOp.xs,List.mem_cons,List.not_mem_nil,or_false,forall_eq_or_imp,forall_eq] at he ⊢
 all_goals (simp only [he])
structure Run (call:Cl) (O:Nat → AO) (n:Nat) (sF:Nat → Fr) (sH:Nat → AH) (anc:Nat → Nat → Prop):Prop where
 step:∀ t,t < n → aone call (O t) (sF t) (sH t) = some (sF (t + 1),sH (t + 1))
 n0:∀ t,t < n → (sH (t + 1)).n0 = (sH t).n0
 nx:∀ t,t < n → (sH t).nx ≤ (sH (t + 1)).nx
 pair:∀ p q,p < q → q < n → anc p q ∨ (apartM (O p) (O q) = true ∧ apartM (O q) (O p) = true ∧ mayFloat (knd (O p).o) (knd (O q).o) = true)
 c0:∀ p q,p < q → q < n → ¬ anc p q → (O p).wanted (sF p) = true → (O q).wanted (sF q) = true → knd (O p).o = .load → knd (O q).o = .eff →
  ∃ x,loadOf (O p) (sF p) (sH p) = some x ∧ sameAt (sH (q + 1)) x = true
 c1:∀ p q,p < q → q < n → ¬ anc p q → (O p).wanted (sF p) = true → (O q).wanted (sF q) = true → knd (O p).o = .alloc → knd (O q).o = .eff →
  (sH (q + 1)).get (sH p).nx = (sH (p + 1)).get (sH p).nx
 c2:∀ p q,p < q → q < n → ¬ anc p q → (O p).wanted (sF p) = true → (O q).wanted (sF q) = true → (knd (O p).o = .load ∨ knd (O p).o = .read ∨ knd (O p).o = .st) → knd (O q).o = .st →
  ∀ b b',adrOf (O p) (sF p) = some b → adrOf (O q) (sF q) = some b' → b ≠ b'
section
variable {call:Cl} {O:Nat → AO} {n:Nat} {sF:Nat → Fr} {sH:Nat → AH} {anc:Nat → Nat → Prop} (R:Run call O n sF sH anc)
include R
theorem Run.n0s (t:Nat) (h:t ≤ n):(sH t).n0 = (sH 0).n0:=by
 induction t with
 | zero=>rfl
 | succ t ih=>exact (R.n0 t (by omega)).trans (ih (by omega))
theorem Run.nxs {t:Nat} (k:Nat) (h:t + k ≤ n):(sH t).nx ≤ (sH (t + k)).nx:=by
 induction k with
 | zero=>exact Nat.le_refl _
 | succ k ih=>exact Nat.le_trans (ih (by omega)) (R.nx (t + k) (by omega))
theorem Run.nxle {t u:Nat} (h:t ≤ u) (hu:u ≤ n):(sH t).nx ≤ (sH u).nx:=by
 have:=R.nxs (t:=t) (u - t) (by omega)
 rwa [show t + (u - t) = u by omega] at this

omit R in
def valD (O:Nat → AO) (sF:Nat → Fr) (t:Nat):Value:=(sF (t + 1)).get ((O t).d.getD 0)
omit R in
def frS (O:Nat → AO) (sF:Nat → Fr) (S:Nat → Bool):Nat → Fr
 | 0=>sF 0
 | t + 1=>bif S t then (frS O sF S t).putO (O t).d (valD O sF t) else frS O sF S t
theorem Run.frame {t:Nat} (ht:t < n) (x:Nat):(sF (t + 1)).get x = if (O t).d = some x then valD O sF t else (sF t).get x:=by
 obtain ⟨v,hf,_⟩:=aone_iff.1 (R.step t ht)
 by_cases h:(O t).d = some x
 ·rw [if_pos h]
  unfold valD
  rw [h]
  rfl
 ·rw [if_neg h,hf,Fr.get_putO,if_neg h]
theorem Run.one {t:Nat} (ht:t < n):∃ x,One call (O t) (sF t) (sH t) x (sH (t + 1)) ∧ ∀ f:Fr,f.putO (O t).d x = f.putO (O t).d (valD O sF t):=by
 obtain ⟨v,hf,h1⟩:=aone_iff.1 (R.step t ht)
 refine ⟨v,h1,fun f=>?_⟩
 cases hd:(O t).d with
 | none=>rfl
 | some k =>
  have:valD O sF t = v:=by
   unfold valD
   rw [hf,hd]
   simp [Fr.putO,Fr.get_put]
  rw [this]
omit R in
theorem frS_eq {S S':Nat → Bool} {x m:Nat} (h:∀ p,p < m → (O p).d = some x → S p = S' p):(frS O sF S m).get x = (frS O sF S' m).get x:=by
 induction m with
 | zero=>rfl
 | succ m ih =>
  have ih:=ih fun p hp=>h p (by omega)
  simp only [frS]
  by_cases hd:(O m).d = some x
  ·have:=h m (by omega) hd
   rw [this]
   cases S' m
   ·exact ih
   ·simp only [cond_true,Fr.get_putO,if_pos hd]
  ·cases S m <;> cases S' m <;> simp only [cond_true,cond_false,Fr.get_putO,if_neg hd] <;> exact ih
omit R in
theorem frS_stop {S : Nat → Bool} {x t m : Nat} (htm : t ≤ m) (h : ∀ p, t ≤ p → p < m → S p = true → (O p).d ≠ some x) : (frS O sF S m).get x = (frS O sF S t).get x := by
  induction m with
  | zero => obtain rfl : t = 0 := by omega
            rfl
  | succ m ih =>
    rcases Nat.lt_or_ge m t with h1 | h1
    · obtain rfl : t = m + 1 := by omega
      rfl
    · have ih := ih h1 fun p hp hp2 => h p hp (by omega)
      simp only [frS]
      cases hS : S m with
      | false => exact ih
      | true => simp only [cond_true, Fr.get_putO, if_neg (h m h1 (by omega) hS)]; exact ih
theorem Run.frS_all {m:Nat} (hm:m ≤ n) (x:Nat):(frS O sF (fun _=>true) m).get x = (sF m).get x:=by
 induction m with
 | zero=>rfl
 | succ m ih =>
  rw [R.frame (by omega),frS,cond_true,Fr.get_putO,ih (by omega)]

omit R in
structure Cls (n:Nat) (anc:Nat → Nat → Prop) (S:Nat → Bool) (t:Nat):Prop where
 lt:t < n
 out:S t = false
 rdy:∀ p,p < t → anc p t → S p = true
 cls:∀ p q,p < q → q < n → S q = true → anc p q → S p = true
variable {S:Nat → Bool} {t:Nat} (C:Cls n anc S t)
include C
theorem Run.before {p:Nat} (hp:p < t) (hS:S p = false):¬ anc p t ∧ apartM (O p) (O t) = true ∧ apartM (O t) (O p) = true ∧ mayFloat (knd (O p).o) (knd (O t).o) = true:=by
 have hn:¬ anc p t:=fun h=>by rw [C.rdy p hp h] at hS; cases hS
 exact ⟨hn,(R.pair p t hp C.lt).resolve_left hn⟩
theorem Run.behind {p:Nat} (hp:t < p) (hpn:p < n) (hS:S p = true):¬ anc t p ∧ apartM (O t) (O p) = true ∧ apartM (O p) (O t) = true ∧ mayFloat (knd (O t).o) (knd (O p).o) = true:=by
 have hn:¬ anc t p:=fun h=>by have:=C.cls t p hp hpn hS h; rw [C.out] at this; cases this
 exact ⟨hn,(R.pair t p hp hpn).resolve_left hn⟩
theorem Run.agree:Agree (O t) (sF t) (frS O sF S n):=by
 intro x hx
 rw [frS_stop (t:=t) (Nat.le_of_lt C.lt),← R.frS_all (Nat.le_of_lt C.lt)]
 ·refine frS_eq fun p hp hd=>?_
  cases hS:S p with
  | true=>rfl
  | false=>exact absurd hx ((apartM_spec (R.before C hp hS).2.1).1 x hd)
 ·intro p hp hpn hS hd
  rcases Nat.lt_or_eq_of_le hp with h | h
  ·exact (apartM_spec (R.behind C h hpn hS).2.2.1).1 x hd hx
  ·subst h; rw [C.out] at hS; cases hS
omit R C in
def ins (S:Nat → Bool) (t:Nat):Nat → Bool:=fun p=>bif Nat.beq p t then true else S p
omit R C in
theorem ins_self:ins S t t = true:=by simp [ins]
omit R C in
theorem ins_ne {p:Nat} (h:p ≠ t):ins S t p = S p:=by
 unfold ins
 rw [nb,decide_eq_false h]; rfl
theorem Run.frS_ins (x:Nat):(frS O sF (ins S t) n).get x = ((frS O sF S n).putO (O t).d (valD O sF t)).get x:=by
 rw [Fr.get_putO]
 by_cases hd:(O t).d = some x
 ·rw [if_pos hd,frS_stop (t:=t + 1) C.lt]
  ·rw [frS,ins_self,cond_true,Fr.get_putO,if_pos hd]
  ·intro p hp hpn hS
   rw [ins_ne (by omega)] at hS
   have:=(apartM_spec (R.behind C (by omega) hpn hS).2.1).2 x hd
   exact this
 ·rw [if_neg hd]
  refine frS_eq fun p hp hdp=>?_
  exact ins_ne (fun e=>hd (e ▸ hdp))
end
end Go.Proofs.YtoijnpfpjpefgaaGreat.A
/- A text without what this claim does not need: AbsE. -/
set_option linter.unusedVariables false
set_option linter.unusedSimpArgs false
namespace Go.Proofs.YtoijnpfpjpefgaaGreat.A
open Go
inductive Tch (O:Nat → AO) (sF:Nat → Fr) (sH:Nat → AH) (t b:Nat):Prop where
 | alloc (w:(O t).wanted (sF t) = true) (k:knd (O t).o = .alloc) (e:b = (sH t).nx)
 | st (w:(O t).wanted (sF t) = true) (k:knd (O t).o = .st) (e:adrOf (O t) (sF t) = some b)
 | eff (w:(O t).wanted (sF t) = true) (k:knd (O t).o = .eff)
open Classical in
noncomputable def gS (O:Nat → AO) (sF:Nat → Fr) (sH:Nat → AH) (S:Nat → Bool):Nat → Nat → Option Blk
 | 0=>(sH 0).raw
 | t + 1=>fun b=>if S t = true ∧ Tch O sF sH t b then (sH (t + 1)).raw b else gS O sF sH S t b
noncomputable def mkH (O:Nat → AO) (sF:Nat → Fr) (sH:Nat → AH) (S:Nat → Bool) (m nx:Nat):AH:=⟨gS O sF sH S m,(sH 0).n0,nx,.nil⟩
section
variable {call:Cl} {O:Nat → AO} {n:Nat} {sF:Nat → Fr} {sH:Nat → AH} {anc:Nat → Nat → Prop}
theorem mkH_raw (S:Nat → Bool) (m nx b:Nat):(mkH O sF sH S m nx).raw b = gS O sF sH S m b:=rfl
theorem mkH_get (S:Nat → Bool) (m nx b:Nat) (h:b < nx):(mkH O sF sH S m nx).get b = gS O sF sH S m b:=by
 rw [AH.get_of (by exact h)]; rfl
theorem gS_eq {S S':Nat → Bool} {b m:Nat} (h:∀ p,p < m → Tch O sF sH p b → S p = S' p):gS O sF sH S m b = gS O sF sH S' m b:=by
 induction m with
 | zero=>rfl
 | succ m ih =>
  have ih:=ih fun p hp=>h p (by omega)
  simp only [gS]
  by_cases hd:Tch O sF sH m b
  ·rw [h m (by omega) hd,ih]
  ·rw [if_neg (fun e=>hd e.2),if_neg (fun e=>hd e.2),ih]
theorem gS_stop {S : Nat → Bool} {b t m : Nat} (htm : t ≤ m) (h : ∀ p, t ≤ p → p < m → S p = true → ¬ Tch O sF sH p b) : gS O sF sH S m b = gS O sF sH S t b := by
  induction m with
  | zero => obtain rfl : t = 0 := by omega
            rfl
  | succ m ih =>
    rcases Nat.lt_or_ge m t with h1 | h1
    · obtain rfl : t = m + 1 := by omega
      rfl
    · have ih := ih h1 fun p hp hp2 => h p hp (by omega)
      simp only [gS]
      rw [if_neg (fun e => h m h1 (by omega) e.1 e.2), ih]
variable (R:Run call O n sF sH anc)
include R
theorem Run.still {t:Nat} (ht:t < n) {b:Nat} (h:¬ Tch O sF sH t b):(sH (t + 1)).raw b = (sH t).raw b:=by
 obtain ⟨x,h1,_⟩:=R.one ht
 cases h1 with
 | off a e e2=>rw [e2]
 | call a f as H1 e e2=>exact absurd (.eff a (enter_eff e)) h
 | val a e =>
  cases hk:knd (O t).o with
  | pure=>rw [(kind_pure hk e).1]
  | load=>rw [(kind_load hk e).1]
  | read=>rw [(kind_read hk e).1]
  | eff=>exact absurd (.eff a hk) h
  | alloc =>
   obtain ⟨blk,e2,_⟩:=kind_alloc hk e
   rw [e2,AH.raw_alloc,if_neg]
   exact fun e3=>h (.alloc a hk e3)
  | st =>
   obtain ⟨c,blk,h2,_,e2,_⟩:=kind_st hk e
   rw [e2,AH.raw_put,if_neg]
   intro e3
   subst e3
   exact h (.st a hk h2)
theorem Run.gS_all {m:Nat} (hm:m ≤ n) (b:Nat):gS O sF sH (fun _=>true) m b = (sH m).raw b:=by
 induction m with
 | zero=>rfl
 | succ m ih =>
  simp only [gS]
  by_cases h:Tch O sF sH m b
  ·rw [if_pos ⟨rfl,h⟩]
  ·rw [if_neg (fun e=>h e.2),ih (by omega),R.still (by omega) h]
theorem Run.alloc_nx {t:Nat} (ht:t < n) (w:(O t).wanted (sF t) = true) (k:knd (O t).o = .alloc):(sH (t + 1)).nx = (sH t).nx + 1:=by
 obtain ⟨x,h1,_⟩:=R.one ht
 cases h1 with
 | off a e e2=>rw [w] at a; cases a
 | call a f as H1 e e2=>rw [enter_eff e] at k; cases k
 | val a e =>
  obtain ⟨blk,e2,_⟩:=kind_alloc k e
  rw [e2]; rfl
structure Dom (O:Nat → AO) (n:Nat) (sF:Nat → Fr) (sH:Nat → AH) (S:Nat → Bool) (Dm:Nat → Prop):Prop where
 dom:∀ b,Dm b → b < (sH 0).nx ∨ ∃ t,t < n ∧ S t = true ∧ (sH t).nx ≤ b ∧ b < (sH (t + 1)).nx
 sts:∀ p,p < n → S p = true → (O p).wanted (sF p) = true → knd (O p).o = .st → ∀ b,adrOf (O p) (sF p) = some b → Dm b
variable {S:Nat → Bool} {Dm:Nat → Prop} (D:Dom O n sF sH S Dm)
include D
theorem Run.noAlloc {p:Nat} (hp:p < n) (hS:S p = false) (w:(O p).wanted (sF p) = true) (k:knd (O p).o = .alloc):¬ Dm (sH p).nx:=by
 intro h
 rcases D.dom _ h with h | ⟨t,ht,hSt,h1,h2⟩
 ·have:=R.nxle (Nat.zero_le p) (by omega); omega
 ·rcases Nat.lt_trichotomy t p with h3 | h3 | h3
  ·have:=R.nxle (show t + 1 ≤ p by omega) (by omega); omega
  ·subst h3; rw [hS] at hSt; cases hSt
  ·have:=R.nxle (show p + 1 ≤ t by omega) (by omega)
   rw [R.alloc_nx hp w k] at this
   omega
variable {t:Nat} (C:Cls n anc S t)
include C
theorem Run.ahead {b:Nat} (hb:Dm b) (h:∀ p,p < t → S p = false → (O p).wanted (sF p) = true → knd (O p).o = .st → knd (O t).o = .st → adrOf (O p) (sF p) ≠ some b):gS O sF sH S t b = (sH t).raw b:=by
 rw [← R.gS_all (Nat.le_of_lt C.lt)]
 refine gS_eq fun p hp ht=>?_
 cases hS:S p with
 | true=>rfl
 | false =>
  exfalso
  obtain ⟨_,_,_,hm⟩:=R.before C hp hS
  have hpn:p < n:=Nat.lt_trans hp C.lt
  cases ht with
  | alloc w k e=>subst e; exact R.noAlloc D hpn hS w k hb
  | st w k e =>
   rw [k] at hm
   cases hk:knd (O t).o <;> rw [hk] at hm <;> first
    | (simp [mayFloat,Knd.floats] at hm; done)
    | exact h p hp hS w k hk e
  | eff w k =>
   rw [k] at hm
   cases hk:knd (O t).o <;> rw [hk] at hm <;> simp [mayFloat,Knd.floats] at hm
theorem Run.load {a:Addr} {vs:List Value} (w:(O t).wanted (sF t) = true) (k:knd (O t).o = .load) (hl:loadOf (O t) (sF t) (sH t) = some (a,vs)) (had:adrOf (O t) (sF t) = some a.block) (hv:(sH t).ldn a vs.length = some vs) (hb:Dm a.block) :
  (mkH O sF sH S n (sH n).nx).ldn a vs.length = some vs:=by
 have hlt:a.block < (sH t).nx:=by
  obtain ⟨x,hx⟩:=Option.isSome_iff_exists.1 (ldn_some hv).1
  exact AH.get_lt hx
 have key:∀ m,t ≤ m → m ≤ n → (mkH O sF sH S m (sH n).nx).ldn a vs.length = some vs:=by
  intro m hm
  induction m with
  | zero =>
   intro hmn
   obtain rfl:t = 0:=by omega
   rw [← hv]
   refine ldn_same ?_ rfl
   rw [mkH_get _ _ _ _ (by have:=R.nxle (Nat.zero_le n) (Nat.le_refl _); omega),AH.get_of hlt]
   rfl
  | succ m ih =>
   intro hmn
   rcases Nat.lt_or_eq_of_le hm with h1 | h1
   ·have ih:=ih (by omega) (by omega)
    have hN:a.block < (sH n).nx:=by have:=R.nxle (Nat.le_of_lt C.lt) (Nat.le_refl _); omega
    by_cases hS:S m = true ∧ Tch O sF sH m a.block
    ·obtain ⟨hS,ht⟩:=hS
     have htm:t < m:=by
      rcases Nat.lt_or_eq_of_le (show t ≤ m by omega) with h2 | h2
      ·exact h2
      ·subst h2; rw [C.out] at hS; cases hS
     obtain ⟨hn,_,_,hmf⟩:=R.behind C htm (by omega) hS
     cases ht with
     | alloc w' k' e =>
      have:=R.nxle (show t ≤ m by omega) (by omega)
      omega
     | st w' k' e=>exact absurd rfl (R.c2 t m htm (by omega) hn w w' (.inl k) k' a.block a.block had e)
     | eff w' k' =>
      obtain ⟨x,e1,e2⟩:=R.c0 t m htm (by omega) hn w w' k k'
      rw [hl] at e1
      cases e1
      have e3:=sameAt_eq e2
      rw [← e3]
      refine ldn_same ?_ (R.n0s (m + 1) (by omega)).symm
      rw [mkH_get _ _ _ _ hN]
      have:a.block < (sH (m + 1)).nx:=by have:=R.nxle (show t ≤ m + 1 by omega) (by omega); omega
      rw [AH.get_of this]
      simp only [gS]
      rw [if_pos ⟨hS,.eff w' k'⟩]
    ·rw [← ih]
     refine ldn_same ?_ rfl
     rw [mkH_get _ _ _ _ hN,mkH_get _ _ _ _ hN]
     simp only [gS]
     rw [if_neg hS]
   ·subst h1
    rw [← hv]
    refine ldn_same ?_ (R.n0s _ (by omega)).symm
    rw [mkH_get _ _ _ _ (by have:=R.nxle (show m + 1 ≤ n by omega) (Nat.le_refl _); omega),AH.get_of hlt]
    exact R.ahead D C hb fun p hp hS w' k' k2=>by rw [k] at k2; cases k2
 exact key n (Nat.le_of_lt C.lt) (Nat.le_refl _)
theorem Run.look {b:Nat} (w:(O t).wanted (sF t) = true) (k:knd (O t).o = .read ∨ knd (O t).o = .st) (had:adrOf (O t) (sF t) = some b) (hs:((sH t).get b).isSome = true) (hb:Dm b) :
  (mkH O sF sH S n (sH n).nx).get b = (sH t).get b:=by
 have hlt:b < (sH t).nx:=by
  obtain ⟨x,hx⟩:=Option.isSome_iff_exists.1 hs
  exact AH.get_lt hx
 rw [mkH_get _ _ _ _ (by have:=R.nxle (Nat.le_of_lt C.lt) (Nat.le_refl _); omega),AH.get_of hlt,gS_stop (t:=t) (Nat.le_of_lt C.lt)]
 ·refine R.ahead D C hb fun p hp hS w' k' k2 e=>?_
  obtain ⟨hn,_⟩:=R.before C hp hS
  exact absurd rfl (R.c2 p t hp C.lt hn w' w (.inr (.inr k')) k2 b b e had)
 ·intro p hp hpn hS ht
  have htp:t < p:=by
   rcases Nat.lt_or_eq_of_le hp with h2 | h2
   ·exact h2
   ·subst h2; rw [C.out] at hS; cases hS
  obtain ⟨hn,_,_,hm⟩:=R.behind C htp hpn hS
  cases ht with
  | alloc w' k' e =>
   have:=R.nxle (show t ≤ p by omega) (by omega)
   omega
  | st w' k' e =>
   exact absurd rfl (R.c2 t p htp hpn hn w w' (.inr k) k' b b had e)
  | eff w' k' =>
   rw [k'] at hm
   rcases k with k | k <;> rw [k] at hm <;> simp [mayFloat,Knd.floats] at hm

omit R D C in
theorem ins_other {b:Nat} (h:¬ Tch O sF sH t b):gS O sF sH (ins S t) n b = gS O sF sH S n b :=
 gS_eq fun p hp ht=>ins_ne (fun e=>h (e ▸ ht))
theorem Run.ins_same {b:Nat} (h:Tch O sF sH t b):gS O sF sH (ins S t) n b = (sH (t + 1)).raw b:=by
 have stop:(∀ p,t < p → p < n → S p = true → ¬ Tch O sF sH p b) → gS O sF sH (ins S t) n b = (sH (t + 1)).raw b:=by
  intro hh
  rw [gS_stop (t:=t + 1) C.lt]
  ·simp only [gS]
   rw [if_pos ⟨ins_self,h⟩]
  ·intro p hp hpn hS
   rw [ins_ne (by omega)] at hS
   exact hh p (by omega) hpn hS
 cases h with
 | eff w k =>
  refine stop fun p hp hpn hS ht=>?_
  obtain ⟨hn,_,_,hm⟩:=R.behind C hp hpn hS
  rw [k] at hm
  cases hk:knd (O p).o <;> rw [hk] at hm <;> simp [mayFloat,Knd.floats] at hm
 | st w k e =>
  refine stop fun p hp hpn hS ht=>?_
  obtain ⟨hn,_,_,hm⟩:=R.behind C hp hpn hS
  cases ht with
  | alloc w' k' e'=>rw [k,k'] at hm; simp [mayFloat,Knd.floats] at hm
  | eff w' k'=>rw [k,k'] at hm; simp [mayFloat,Knd.floats] at hm
  | st w' k' e'=>exact absurd rfl (R.c2 t p hp hpn hn w w' (.inr (.inr k)) k' b b e e')
 | alloc w k e =>
  have key:∀ m,t + 1 ≤ m → m ≤ n → gS O sF sH (ins S t) m b = (sH (t + 1)).raw b:=by
   intro m hm
   induction m with
   | zero=>omega
   | succ m ih =>
    intro hmn
    rcases Nat.lt_or_eq_of_le hm with h1 | h1
    ·have ih:=ih (by omega) (by omega)
     simp only [gS]
     by_cases hS:ins S t m = true ∧ Tch O sF sH m b
     ·rw [if_pos hS]
      obtain ⟨hS,ht⟩:=hS
      rw [ins_ne (by omega)] at hS
      obtain ⟨hn,_,_,_⟩:=R.behind C (show t < m by omega) (by omega) hS
      cases ht with
      | alloc w' k' e' =>
       have h2:=R.nxle (show t + 1 ≤ m by omega) (by omega)
       rw [R.alloc_nx C.lt w k] at h2
       omega
      | st w' k' e' =>
       have:=D.sts m (by omega) hS w' k' b e'
       subst e
       exact absurd this (R.noAlloc D C.lt C.out w k)
      | eff w' k' =>
       have h3:=R.c1 t m (by omega) (by omega) hn w w' k k'
       have h2:=R.alloc_nx C.lt w k
       have h4:=R.nxle (show t + 1 ≤ m + 1 by omega) (by omega)
       rw [AH.get_of (by omega),AH.get_of (by omega)] at h3
       rw [e]
       exact h3
     ·rw [if_neg hS,ih]
    ·have:m = t:=by omega
     subst this
     simp only [gS]
     rw [if_pos ⟨ins_self,.alloc w k e⟩]
  exact key n C.lt (Nat.le_refl _)
end
end Go.Proofs.YtoijnpfpjpefgaaGreat.A
/- A text without what this claim does not need: AbsF. -/
set_option linter.unusedVariables false
set_option linter.unusedSimpArgs false
namespace Go.Proofs.YtoijnpfpjpefgaaGreat.A
open Go
section
variable {call:Cl} {O:Nat → AO} {n:Nat} {sF:Nat → Fr} {sH:Nat → AH} {anc:Nat → Nat → Prop}
structure Step (call:Cl) (O:Nat → AO) (n:Nat) (sF:Nat → Fr) (sH:Nat → AH) (S:Nat → Bool) (Dm:Nat → Prop) (t:Nat) (Hx Hy:AH):Prop where
 run:aone call (O t) (frS O sF S n) Hx = some ((frS O sF S n).putO (O t).d (valD O sF t),Hy)
 pre:∀ b,Dm b → Hx.raw b = gS O sF sH S n b
 n0x:Hx.n0 = (sH 0).n0
 post:∀ b,gS O sF sH (ins S t) n b = Hy.raw b
 n0y:Hy.n0 = (sH 0).n0
 lo:(sH 0).nx ≤ Hx.nx
 hi:Hy.nx ≤ (sH n).nx
 out:¬ Dm Hx.nx
 fresh:knd (O t).o = .eff → ∀ b,Hx.nx ≤ b → ¬ Dm b
 new:∀ b,Hx.nx ≤ b → b < Hy.nx → (sH t).nx ≤ b ∧ b < (sH (t + 1)).nx
variable (R:Run call O n sF sH anc) {S:Nat → Bool} {Dm:Nat → Prop} (D:Dom O n sF sH S Dm) {t:Nat} (C:Cls n anc S t)
include R D
theorem Run.topFree {b:Nat} (h:(sH n).nx ≤ b):¬ Dm b:=by
 intro hb
 rcases D.dom b hb with h1 | ⟨p,hp,_,h1,h2⟩
 ·have:=R.nxle (Nat.zero_le n) (Nat.le_refl _); omega
 ·have:=R.nxle (show p + 1 ≤ n by omega) (Nat.le_refl _); omega
include C
theorem Run.same {x:Value} (hv:∀ f:Fr,f.putO (O t).d x = f.putO (O t).d (valD O sF t)) (hno:∀ b,¬ Tch O sF sH t b)
  (h:One call (O t) (sF t) (mkH O sF sH S n (sH n).nx) x (mkH O sF sH S n (sH n).nx)):Step call O n sF sH S Dm t (mkH O sF sH S n (sH n).nx) (mkH O sF sH S n (sH n).nx) where
 run:=aone_iff.2 ⟨x,(hv _).symm,(R.agree C).one h⟩
 pre:=fun b _=>rfl
 n0x:=rfl
 post:=fun b=>ins_other (hno b)
 n0y:=rfl
 lo:=R.nxle (Nat.zero_le n) (Nat.le_refl _)
 hi:=Nat.le_refl _
 out:=R.topFree D (Nat.le_refl _)
 fresh:=fun _ b hb=>R.topFree D hb
 new:=fun b h1 h2=>by omega
theorem Run.stepAt (hadr:(O t).wanted (sF t) = true → ∀ b,adrOf (O t) (sF t) = some b → Dm b):∃ Hx Hy,Step call O n sF sH S Dm t Hx Hy:=by
 obtain ⟨x,h1,hv⟩:=R.one C.lt
 have hN:=R.nxle (show t + 1 ≤ n from C.lt) (Nat.le_refl _)
 have hN2:=R.nxle (show t ≤ n by have:=C.lt; omega) (Nat.le_refl _)
 have h0:=R.nxle (Nat.zero_le t) (Nat.le_of_lt C.lt)
 have hn0:(mkH O sF sH S n (sH n).nx).n0 = (sH t).n0:=(R.n0s t (Nat.le_of_lt C.lt)).symm
 have effCase:(O t).wanted (sF t) = true → knd (O t).o = .eff → ∃ Hx Hy,Step call O n sF sH S Dm t Hx Hy:=by
  intro w k
  have none_behind:∀ p,t < p → p < n → S p = true → False:=by
   intro p hp hpn hS
   obtain ⟨_,_,_,hm⟩:=R.behind C hp hpn hS
   rw [k] at hm
   cases hk:knd (O p).o <;> rw [hk] at hm <;> simp [mayFloat,Knd.floats] at hm
  have fresh:∀ b,(sH t).nx ≤ b → ¬ Dm b:=by
   intro b hb hd
   rcases D.dom b hd with h2 | ⟨p,hp,hS,h2,h3⟩
   ·omega
   ·rcases Nat.lt_trichotomy p t with h4 | h4 | h4
    ·have:=R.nxle (show p + 1 ≤ t by omega) (Nat.le_of_lt C.lt); omega
    ·subst h4; rw [C.out] at hS; cases hS
    ·exact none_behind p h4 hp hS
  refine ⟨sH t,sH (t + 1),?_,?_,R.n0s t (Nat.le_of_lt C.lt),?_,R.n0s (t + 1) C.lt,h0,hN,fresh _ (Nat.le_refl _),fun _=>fresh,fun b h2 h3=>⟨h2,h3⟩⟩
  ·exact aone_iff.2 ⟨x,(hv _).symm,(R.agree C).one h1⟩
  ·intro b hb
   rw [gS_stop (t:=t) (Nat.le_of_lt C.lt)]
   ·exact (R.ahead D C hb fun p hp hS w' k' k2=>by rw [k] at k2; cases k2).symm
   ·intro p hp hpn hS
    rcases Nat.lt_or_eq_of_le hp with h4 | h4
    ·exact (none_behind p h4 hpn hS).elim
    ·subst h4; rw [C.out] at hS; cases hS
  ·intro b
   exact R.ins_same D C (.eff w k)
 cases h1 with
 | off w e e2 =>
  exact ⟨_,_,R.same D C hv (fun b ht=>by
   have:(O t).wanted (sF t) = true:=by cases ht <;> assumption
   rw [w] at this
   cases this) (.off w e rfl)⟩
 | call w f as H1 e e2=>exact effCase w (enter_eff e)
 | val w e =>
  have quiet:(knd (O t).o ≠ .alloc) → (knd (O t).o ≠ .st) → (knd (O t).o ≠ .eff) → ∀ b,¬ Tch O sF sH t b:=by
   intro h2 h3 h4 b ht
   cases ht with
   | alloc _ k _=>exact h2 k
   | st _ k _=>exact h3 k
   | eff _ k=>exact h4 k
  cases hk:knd (O t).o with
  | eff=>exact effCase w hk
  | pure =>
   exact ⟨_,_,R.same D C hv (quiet (by simp [hk]) (by simp [hk]) (by simp [hk])) (.val w ((kind_pure hk e).2 _))⟩
  | load =>
   obtain ⟨_,a,vs,hl,had,hvs,hall⟩:=kind_load hk e
   exact ⟨_,_,R.same D C hv (quiet (by simp [hk]) (by simp [hk]) (by simp [hk])) (.val w (hall _ (R.load D C w hk hl had hvs (hadr w _ had))))⟩
  | read =>
   obtain ⟨_,hall⟩:=kind_read hk e
   exact ⟨_,_,R.same D C hv (quiet (by simp [hk]) (by simp [hk]) (by simp [hk])) (.val w (hall _ (fun b had hs=>R.look D C w (.inl hk) had hs (hadr w _ had)) hn0))⟩
  | st =>
   obtain ⟨c,blk,had,hs,e2,hall⟩:=kind_st hk e
   have h3:=hall (mkH O sF sH S n (sH n).nx) (R.look D C w (.inr hk) had hs (hadr w _ had)) hn0
   have hone:One call (O t) (sF t) (mkH O sF sH S n (sH n).nx) x ((mkH O sF sH S n (sH n).nx).put c blk):=.val w h3
   refine ⟨_,_,aone_iff.2 ⟨x,(hv _).symm,(R.agree C).one hone⟩,fun b _=>rfl,rfl,fun b=>?_,rfl,R.nxle (Nat.zero_le n) (Nat.le_refl _),Nat.le_refl _,R.topFree D (Nat.le_refl _),fun _ b hb=>R.topFree D hb,fun b h1 h2=>?_⟩
   ·rw [AH.raw_put]
    by_cases hb:b = c
    ·subst hb
     rw [if_pos rfl,R.ins_same D C (.st w hk had),e2,AH.raw_put,if_pos rfl]
    ·rw [if_neg hb,ins_other]
     ·rfl
     ·intro ht
      cases ht with
      | alloc _ k _=>rw [hk] at k; cases k
      | eff _ k=>rw [hk] at k; cases k
      | st _ _ e=>rw [had] at e; cases e; exact hb rfl
   ·have:b < (sH n).nx:=h2
    have:(sH n).nx ≤ b:=h1
    omega
  | alloc =>
   obtain ⟨blk,e2,hall⟩:=kind_alloc hk e
   have h3:=hall (mkH O sF sH S n (sH t).nx) rfl
   have hone:One call (O t) (sF t) (mkH O sF sH S n (sH t).nx) x ((mkH O sF sH S n (sH t).nx).alloc blk):=.val w h3
   have hnx:=R.alloc_nx C.lt w hk
   refine ⟨_,_,aone_iff.2 ⟨x,(hv _).symm,(R.agree C).one hone⟩,fun b _=>rfl,rfl,fun b=>?_,rfl,h0,?_,R.noAlloc D C.lt C.out w hk,fun h=>?_,fun b h1 h2=>?_⟩
   ·rw [AH.raw_alloc]
    by_cases hb:b = (mkH O sF sH S n (sH t).nx).nx
    ·have hb':b = (sH t).nx:=hb
     rw [if_pos hb,R.ins_same D C (.alloc w hk hb'),e2,AH.raw_alloc,if_pos hb']
    ·rw [if_neg hb,ins_other]
     ·rfl
     ·intro ht
      cases ht with
      | alloc _ k e=>exact hb e
      | eff _ k=>rw [hk] at k; cases k
      | st _ k e=>rw [hk] at k; cases k
   ·show (sH t).nx + 1 ≤ _
    omega
   ·rw [hk] at h; cases h
   ·have h1':(sH t).nx ≤ b:=h1
    have h2':b < (sH t).nx + 1:=h2
    omega
end
end Go.Proofs.YtoijnpfpjpefgaaGreat.A
/- A text without what this claim does not need: AbsG. -/
set_option linter.unusedVariables false
set_option linter.unusedSimpArgs false
namespace Go.Proofs.YtoijnpfpjpefgaaGreat.A
open Go
theorem nth_eq {α:Type}:∀ (l:List α) (n:Nat),nth l n = l[n]?
 | [],n=>by simp [nth]
 | x :: l,0=>by simp [nth]
 | x :: l,n + 1=>by simp [nth,nth_eq l n]
theorem opsT_spec {call:Cl}:∀ (l:List AO) (fr:Fr) (H:AH) (ss:List (Fr × AH)),opsT call l fr H = some ss →
  ss.length = l.length ∧ lastS (fr,H) ss = (((fr,H) :: ss)[l.length]?).getD (fr,H) ∧
  ∀ t o,l[t]? = some o → ∃ s s',((fr,H) :: ss)[t]? = some s ∧ ((fr,H) :: ss)[t + 1]? = some s' ∧ aone call o s.1 s.2 = some s'
 | [],fr,H,ss,h=>by
  simp only [opsT,Option.some.injEq] at h
  subst h
  exact ⟨rfl,rfl,fun t o h=>(by simp at h)⟩
 | o :: l,fr,H,ss,h=>by
  simp only [opsT] at h
  cases h1:aone call o fr H with
  | none=>simp [h1] at h
  | some r =>
   obtain ⟨fr',H'⟩:=r
   simp only [h1] at h
   cases h2:opsT call l fr' H' with
   | none=>simp [h2] at h
   | some ss' =>
    simp only [h2,Option.some.injEq] at h
    subst h
    obtain ⟨e1,e2,e3⟩:=opsT_spec l fr' H' ss' h2
    refine ⟨by simp [e1],?_,fun t o' ho=>?_⟩
    ·simp only [lastS,e2,List.length_cons,List.getElem?_cons_succ]
     cases hq:((fr',H') :: ss')[l.length]? with
     | some q=>rfl
     | none =>
      have:=List.getElem?_eq_none_iff.1 hq
      simp only [List.length_cons,e1] at this
      omega
    ·cases t with
     | zero =>
      simp only [List.getElem?_cons_zero,Option.some.injEq] at ho
      subst ho
      exact ⟨_,_,rfl,rfl,h1⟩
     | succ t =>
      obtain ⟨s,s',a1,a2,a3⟩:=e3 t o' (by simpa using ho)
      exact ⟨s,s',by simpa using a1,by simpa using a2,a3⟩
theorem chain_spec:∀ (l:List (Fr × AH)),chain l = true → ∀ t s s',l[t]? = some s → l[t + 1]? = some s' → s'.2.n0 = s.2.n0 ∧ s.2.nx ≤ s'.2.nx
 | [],_,t,s,s',h,_=>by simp at h
 | [a],_,t,s,s',_,h=>by simp at h
 | a :: b :: l,hc,t,s,s',h1,h2=>by
  simp only [chain,Bool.and_eq_true,nb,decide_eq_true_eq,Nat.ble_eq] at hc
  cases t with
  | zero =>
   simp at h1 h2
   subst h1
   subst h2
   exact ⟨hc.1.1.symm,hc.1.2⟩
  | succ t=>exact chain_spec (b :: l) hc.2 t s s' (by simpa using h1) (by simpa using h2)
theorem rowsA_spec {l:List AO} {dp:List (List Nat)}:∀ (ord:List Nat) (am:List (Nat × Nat)) (t:Nat) (r:Row),(rowsA l dp ord am)[t]? = some r →
  l[r.j]? = some r.o ∧ r.k = knd r.o.o ∧ dp[r.j]? = some r.dep ∧
   ∀ i,r.m.testBit i = true → ∃ e ∈ r.dep,e = i ∨ (∃ q < t,∃ r':Row,(rowsA l dp ord am)[q]? = some r' ∧ r'.j = e ∧ r'.m.testBit i = true) ∨ (lookM e am).testBit i = true
 | [],am,t,r,h=>by simp [rowsA] at h
 | j :: ord,am,t,r,h=>by
  simp only [rowsA] at h ⊢
  cases hl:nth l j with
  | none=>simp [hl] at h
  | some o =>
   cases hd:nth dp j with
   | none=>simp [hl,hd] at h
   | some d =>
    simp only [hl,hd] at h ⊢
    cases t with
    | zero =>
     simp only [List.getElem?_cons_zero,Option.some.injEq] at h
     subst h
     refine ⟨by rw [← nth_eq]; exact hl,rfl,by rw [← nth_eq]; exact hd,fun i hi=>?_⟩
     have key:∀ (d:List Nat),(maskOf am d).testBit i = true → ∃ e ∈ d,e = i ∨ (lookM e am).testBit i = true:=by
      intro d
      induction d with
      | nil=>intro h; simp [maskOf] at h
      | cons e d ih =>
       intro h
       simp only [maskOf,Nat.testBit_or,Bool.or_eq_true] at h
       rcases h with h | h | h
       ·obtain ⟨e',h1,h2⟩:=ih h
        exact ⟨e',List.mem_cons_of_mem _ h1,h2⟩
       ·refine ⟨e,List.mem_cons_self,.inl ?_⟩
        rw [Nat.one_shiftLeft,Nat.testBit_two_pow] at h
        simpa using h
       ·exact ⟨e,List.mem_cons_self,.inr h⟩
     obtain ⟨e,h1,h2⟩:=key d hi
     exact ⟨e,h1,h2.imp id .inr⟩
    | succ t =>
     simp only [List.getElem?_cons_succ] at h
     obtain ⟨h1,h2,h3,h4⟩:=rowsA_spec ord _ t r h
     refine ⟨h1,h2,h3,fun i hi=>?_⟩
     obtain ⟨e,he,h5⟩:=h4 i hi
     refine ⟨e,he,?_⟩
     rcases h5 with h5 | ⟨q,hq,r',h6,h7,h8⟩ | h5
     ·exact .inl h5
     ·exact .inr (.inl ⟨q + 1,by omega,r',by simpa using h6,h7,h8⟩)
     ·simp only [lookM,nb,Bool.cond_decide] at h5
      split at h5
      ·rename_i hje
       exact .inr (.inl ⟨0,by omega,_,rfl,hje,h5⟩)
      ·exact .inr (.inr h5)
theorem linOk_spec:∀ (rs:List Row) (done:List Nat),linOk rs done = true → ∀ (t:Nat) (r:Row),rs[t]? = some r →
  (r.j ∉ done ∧ ∀ (q:Nat) (r':Row),q < t → rs[q]? = some r' → r'.j ≠ r.j) ∧ ∀ e ∈ r.dep,e ∈ done ∨ ∃ q < t,∃ r':Row,rs[q]? = some r' ∧ r'.j = e
 | [],_,_,t,r,h=>by simp at h
 | y :: rs,done,h,t,r,hr=>by
  simp only [linOk,Bool.and_eq_true,Bool.not_eq_true',List.all_eq_true] at h
  obtain ⟨⟨h1,h2⟩,h3⟩:=h
  cases t with
  | zero =>
   simp only [List.getElem?_cons_zero,Option.some.injEq] at hr
   subst hr
   refine ⟨⟨fun hm=>?_,fun q _ hq=>by omega⟩,fun e he=>.inl (memN_iff.1 (h2 e he))⟩
   rw [memN_iff.2 hm] at h1
   cases h1
  | succ t =>
   simp only [List.getElem?_cons_succ] at hr
   obtain ⟨⟨h4,h5⟩,h6⟩:=linOk_spec rs _ h3 t r hr
   refine ⟨⟨fun hm=>h4 (List.mem_cons_of_mem _ hm),fun q r' hq hr'=>?_⟩,fun e he=>?_⟩
   ·cases q with
    | zero =>
     simp only [List.getElem?_cons_zero,Option.some.injEq] at hr'
     subst hr'
     exact fun e=>h4 (by rw [← e]; exact List.mem_cons_self)
    | succ q=>exact h5 q r' (by omega) (by simpa using hr')
   ·rcases h6 e he with h7 | ⟨q,hq,r',h8,h9⟩
    ·rcases List.mem_cons.1 h7 with rfl | h7
     ·exact .inr ⟨0,by omega,y,rfl,rfl⟩
     ·exact .inl h7
    ·exact .inr ⟨q + 1,by omega,r',by simpa using h8,h9⟩
theorem pw_spec:∀ (rs:List Row),pw rs = true → ∀ (p q:Nat) (x y:Row),p < q → rs[p]? = some x → rs[q]? = some y → pairB x y = true
 | [],_,p,q,x,y,_,h,_=>by simp at h
 | z :: rs,h,p,q,x,y,hpq,hx,hy=>by
  simp only [pw,Bool.and_eq_true,List.all_eq_true] at h
  cases q with
  | zero=>omega
  | succ q =>
   simp only [List.getElem?_cons_succ] at hy
   cases p with
   | zero =>
    simp only [List.getElem?_cons_zero,Option.some.injEq] at hx
    subst hx
    exact h.1 y (List.mem_of_getElem? hy)
   | succ p=>exact pw_spec rs h.2 p q x y (by omega) (by simpa using hx) hy
theorem conRow_spec {p:Nat} {x:Row}:∀ (rs:List Row) (q0 q:Nat) (y:Row),rs[q]? = some y → ∀ c ∈ con1 p (q0 + q) x y,c ∈ conRow p x q0 rs
 | [],q0,q,y,h,c,_=>by simp at h
 | z :: rs,q0,q,y,h,c,hc=>by
  simp only [conRow]
  cases q with
  | zero =>
   simp only [List.getElem?_cons_zero,Option.some.injEq] at h
   subst h
   exact List.mem_append_left _ (by simpa using hc)
  | succ q =>
   exact List.mem_append_right _ (conRow_spec rs (q0 + 1) q y (by simpa using h) c (by rwa [show q0 + 1 + q = q0 + (q + 1) by omega]))
theorem consD_spec:∀ (rs:List Row) (p0 p q:Nat) (x y:Row),p < q → rs[p]? = some x → rs[q]? = some y → ∀ c ∈ con1 (p0 + p) (p0 + q) x y,c ∈ consD p0 rs
 | [],_,p,q,x,y,_,h,_,_,_=>by simp at h
 | z :: rs,p0,p,q,x,y,hpq,hx,hy,c,hc=>by
  simp only [consD]
  cases q with
  | zero=>omega
  | succ q =>
   simp only [List.getElem?_cons_succ] at hy
   cases p with
   | zero =>
    simp only [List.getElem?_cons_zero,Option.some.injEq] at hx
    subst hx
    exact List.mem_append_left _ (conRow_spec rs (p0 + 1) q y hy c (by rwa [show p0 + 1 + q = p0 + (q + 1) by omega]))
   | succ p =>
    refine List.mem_append_right _ (consD_spec rs (p0 + 1) p q x y (by omega) (by simpa using hx) hy c ?_)
    rwa [show p0 + 1 + p = p0 + (p + 1) by omega,show p0 + 1 + q = p0 + (q + 1) by omega]
theorem upTo_mem {n i:Nat} (h:i < n):i ∈ upTo n:=by
 induction n with
 | zero=>omega
 | succ n ih =>
  simp only [upTo,List.mem_cons]
  by_cases e:i = n
  ·exact .inl e
  ·exact .inr (ih (by omega))
def noRow:Row:=⟨⟨none,none,.mkmap⟩,.pure,0,[],0⟩
def rowAt (rs:List Row) (t:Nat):Row:=(rs[t]?).getD noRow
def ancR (rs:List Row) (p q:Nat):Prop:=(rowAt rs q).m.testBit (rowAt rs p).j = true
theorem rowAt_get {rs:List Row} {t:Nat} (h:t < rs.length):rs[t]? = some (rowAt rs t):=by
 unfold rowAt
 rw [List.getElem?_eq_getElem h]
 rfl
def stF (s0:Fr × AH) (ss:List (Fr × AH)) (t:Nat):Fr:=(((s0 :: ss)[t]?).getD s0).1
def stH (s0:Fr × AH) (ss:List (Fr × AH)) (t:Nat):AH:=(((s0 :: ss)[t]?).getD s0).2
theorem run_of {call:Cl} {rs:List Row} (hk:∀ (t:Nat) (r:Row),rs[t]? = some r → r.k = knd r.o.o) (hpw:pw rs = true) {fr:Fr} {H:AH} {ss:List (Fr × AH)} (hT:opsT call (rs.map (·.o)) fr H = some ss) (hch:chain ((fr,H) :: ss) = true)
  (hck:(consD 0 rs).all (chk1 (rs.map (·.o)) ((fr,H) :: ss)) = true) :
  Run call (fun t=>(rowAt rs t).o) rs.length (stF (fr,H) ss) (stH (fr,H) ss) (ancR rs):=by
 obtain ⟨hlen,_,hst⟩:=opsT_spec _ _ _ _ hT
 have st:∀ t,t < rs.length → ∃ s s',((fr,H) :: ss)[t]? = some s ∧ ((fr,H) :: ss)[t + 1]? = some s' ∧ aone call (rowAt rs t).o s.1 s.2 = some s' :=
  fun t ht=>hst t (rowAt rs t).o (by rw [List.getElem?_map,rowAt_get ht]; rfl)
 have con:∀ p q,p < q → q < rs.length → ∀ c ∈ con1 p q (rowAt rs p) (rowAt rs q),chk1 (rs.map (·.o)) ((fr,H) :: ss) c = true:=by
  intro p q hpq hq c hc
  exact List.all_eq_true.1 hck c (consD_spec rs 0 p q _ _ hpq (rowAt_get (by omega)) (rowAt_get hq) c (by simpa using hc))
 have un:∀ p q k,p < q → q < rs.length → (rowAt rs p).o.wanted (stF (fr,H) ss p) = true → (rowAt rs q).o.wanted (stF (fr,H) ss q) = true → chk1 (rs.map (·.o)) ((fr,H) :: ss) (k,p,q) = true →
   (match k with
    | 0=>match loadOf (rowAt rs p).o (stF (fr,H) ss p) (stH (fr,H) ss p) with | some x=>sameAt (stH (fr,H) ss (q + 1)) x | none=>false
    | 1=>sameB ((stH (fr,H) ss (p + 1)).get (stH (fr,H) ss p).nx) ((stH (fr,H) ss (q + 1)).get (stH (fr,H) ss p).nx)
    | _=>match adrOf (rowAt rs p).o (stF (fr,H) ss p),adrOf (rowAt rs q).o (stF (fr,H) ss q) with | some b,some b'=>!Nat.beq b b' | _,_=>true) = true:=by
  intro p q k hpq hq wp wq h
  obtain ⟨s1,s2,a1,a2,_⟩:=st p (by omega)
  obtain ⟨s3,s4,a3,a4,_⟩:=st q hq
  have e1:(rs.map (·.o))[p]? = some (rowAt rs p).o:=by rw [List.getElem?_map,rowAt_get (by omega)]; rfl
  have e2:(rs.map (·.o))[q]? = some (rowAt rs q).o:=by rw [List.getElem?_map,rowAt_get hq]; rfl
  unfold stF stH at *
  rw [a1,Option.getD_some] at wp
  rw [a3,Option.getD_some] at wq
  unfold chk1 at h
  simp only [nth_eq,e1,e2,a1,a2,a3,a4,wp,wq,Bool.not_true,Bool.false_or] at h
  rw [a1,a2,a3,a4]
  simp only [Option.getD_some]
  exact h
 refine ⟨fun t ht=>?_,fun t ht=>?_,fun t ht=>?_,fun p q hpq hq=>?_,?_,?_,?_⟩
 ·obtain ⟨s,s',h1,h2,h3⟩:=st t ht
  unfold stF stH
  rw [h1,h2]
  exact h3
 ·obtain ⟨s,s',h1,h2,h3⟩:=st t ht
  unfold stH
  rw [h1,h2]
  exact (chain_spec _ hch t s s' h1 h2).1
 ·obtain ⟨s,s',h1,h2,h3⟩:=st t ht
  unfold stH
  rw [h1,h2]
  exact (chain_spec _ hch t s s' h1 h2).2
 ·have:=pw_spec rs hpw p q _ _ hpq (rowAt_get (by omega)) (rowAt_get hq)
  simp only [pairB,Bool.or_eq_true,Bool.and_eq_true] at this
  rw [← hk p _ (rowAt_get (by omega)),← hk q _ (rowAt_get hq)]
  rcases this with h | ⟨⟨h1,h2⟩,h3⟩
  ·exact .inl h
  ·exact .inr ⟨h1,h2,h3⟩
 ·intro p q hpq hq hn wp wq kp kq
  rw [← hk p _ (rowAt_get (by omega))] at kp
  rw [← hk q _ (rowAt_get hq)] at kq
  have:=un p q 0 hpq hq wp wq (con p q hpq hq _ (by
   unfold con1
   rw [show (rowAt rs q).m.testBit (rowAt rs p).j = false from Bool.eq_false_iff.2 hn,kp,kq]
   simp))
  simp only at this
  split at this
  ·rename_i x hx
   exact ⟨x,hx,this⟩
  ·cases this
 ·intro p q hpq hq hn wp wq kp kq
  rw [← hk p _ (rowAt_get (by omega))] at kp
  rw [← hk q _ (rowAt_get hq)] at kq
  have:=un p q 1 hpq hq wp wq (con p q hpq hq _ (by
   unfold con1
   rw [show (rowAt rs q).m.testBit (rowAt rs p).j = false from Bool.eq_false_iff.2 hn,kp,kq]
   simp))
  exact (sameB_eq this).symm
 ·intro p q hpq hq hn wp wq kp kq b b' hb hb'
  rw [← hk p _ (rowAt_get (by omega))] at kp
  rw [← hk q _ (rowAt_get hq)] at kq
  have:=un p q 2 hpq hq wp wq (con p q hpq hq _ (by
   unfold con1
   rw [show (rowAt rs q).m.testBit (rowAt rs p).j = false from Bool.eq_false_iff.2 hn,kq]
   rcases kp with kp | kp | kp <;> rw [kp] <;> simp))
  simp only [hb,hb',nb] at this
  simpa using this
end Go.Proofs.YtoijnpfpjpefgaaGreat.A
/- A text without what this claim does not need: AbsH. -/
set_option linter.unusedVariables false
set_option linter.unusedSimpArgs false
namespace Go.Proofs.YtoijnpfpjpefgaaGreat.A
open Go Go.RowKit
section
variable {P:Program}
theorem Rel.of_raw {w0 w:World} {φ:Phi} {H H1:AH} (R:Rel w0 φ H w) (h:∀ b,φ.m b ≠ none → H1.raw b = H.raw b) (h0:H1.n0 = H.n0) (hx:φ.n0 ≤ H1.nx):Rel w0 φ H1 w where
 n0:=h0.trans R.n0
 le1:=R.le1
 le2:=hx
 c0:=R.c0
 below:=R.below
 oldm:=R.oldm
 oldc:=fun b z cs hb hg=>R.oldc b z cs hb (by rw [← h b (by rw [R.oldm b hb]; simp)]; exact hg)
 cells:=fun b l z cs hb hl hg=>R.cells b l z cs hb hl (by rw [← h b (by rw [hl]; simp)]; exact hg)
 maps:=fun b l es hb hl hg=>R.maps b l es hb hl (by rw [← h b (by rw [hl]; simp)]; exact hg)
 inj:=fun b1 b2 l1 l2 hb1 hb2 h1 h2 s1 s2 hc=>R.inj b1 b2 l1 l2 hb1 hb2 h1 h2 (by rw [← h b1 (by rw [h1]; simp)]; exact s1) (by rw [← h b2 (by rw [h2]; simp)]; exact s2) hc
theorem Grow.comp {φ φ1 φ2:Phi} {H HN Hx Hy:AH} {w w1 w2:World} (h:Grow φ H w φ1 HN w1) (k:Grow φ1 Hx w1 φ2 Hy w2) (h1:H.nx ≤ Hx.nx) (h2:Hy.nx ≤ HN.nx):Grow φ H w φ2 HN w2 where
 le:=Phi.le_trans h.le k.le
 n0:=k.n0.trans h.n0
 c0:=k.c0.trans h.c0
 nx:=h.nx
 new:=fun b l e e2=>by
  cases e1:φ1.m b with
  | none=>exact ⟨Nat.le_trans h1 (k.new b l e1 e2).1,Nat.lt_of_lt_of_le (k.new b l e1 e2).2 h2⟩
  | some l1=>exact h.new b l1 e e1
 size:=Nat.le_trans h.size k.size
 fr:=fun c hc hf=>by
  obtain ⟨e1,f1⟩:=h.fr c hc hf
  obtain ⟨e2,f2⟩:=k.fr c (Nat.lt_of_lt_of_le hc h.size) f1
  exact ⟨e2.trans e1,f2⟩
theorem adr_ptr {φ:Phi} {fr:Fr} {a:Act} (F:FrR φ fr a) {x:X} (h:xok x = true) {d:Addr} (e:x.ev fr = .pointer (some d)):φ.m d.block ≠ none:=by
 cases x with
 | t n =>
  have:=F n
  rw [show fr.get n = .pointer (some d) from e] at this
  obtain ⟨l,_,hl,_⟩:=this.ptr1
  rw [hl]; simp
 | k v=>rw [show v = .pointer (some d) from e] at h; cases h
 | f n=>cases e
theorem adr_map {φ:Phi} {fr:Fr} {a:Act} (F:FrR φ fr a) {x:X} (h:xok x = true) {d:Nat} (e:x.ev fr = .map (some d)):φ.m d ≠ none:=by
 cases x with
 | t n =>
  have:=F n
  rw [show fr.get n = .map (some d) from e] at this
  obtain ⟨l,hl,_⟩:=this.mp1
  rw [hl]; simp
 | k v=>rw [show v = .map (some d) from e] at h; cases h
 | f n=>cases e
theorem adr_sl {φ:Phi} {fr:Fr} {a:Act} (F:FrR φ fr a) {x:X} (h:xok x = true) {d:Addr} {n c:Nat} (e:x.ev fr = .slice (some d) n c) (hs:d.spot = none):φ.m d.block ≠ none:=by
 cases x with
 | t m =>
  have:=F m
  rw [show fr.get m = .slice (some d) n c from e] at this
  rcases this.sl1 with ⟨l,c',_,hl,_⟩ | ⟨h1,_⟩
  ·rw [hl]; simp
  ·rw [hs] at h1; cases h1
 | k v=>rw [show v = .slice (some d) n c from e] at h; cases h
 | f n=>cases e
theorem adr_dm {φ:Phi} {fr:Fr} {a:Act} (F:FrR φ fr a) {o:AO} (h:o.o.xs.all xok = true) {b:Nat} (e:adrOf o fr = some b):φ.m b ≠ none:=by
 unfold adrOf at e
 cases hp:o.o <;> simp only [hp,AOp.xs,List.all_cons,Bool.and_eq_true] at h e <;> (try (cases e; done))
 case st n x v =>
  split at e <;> cases e
  rename_i hx
  exact adr_ptr F h.1 hx
 case ld x =>
  split at e <;> cases e
  rename_i hx
  exact adr_ptr F h.1 hx
 case ldn n x =>
  split at e <;> cases e
  rename_i hx
  exact adr_ptr F h.1 hx
 case look kk z x k ok =>
  split at e <;> cases e
  rename_i hx
  exact adr_map F h.1 hx
 case sl sz x lo hi mx =>
  split at e
  ·rename_i hx
   obtain ⟨hs,e⟩:=bif_some e
   cases e
   exact adr_sl F h.1 hx (by simpa using hs)
  ·cases e
def unD (S:Nat → Bool):Nat → Nat
 | 0=>0
 | m + 1=>unD S m + (bif S m then 0 else 1)
theorem unD_zero {S:Nat → Bool}:∀ {m:Nat},unD S m = 0 → ∀ t,t < m → S t = true
 | 0,_,t,h=>by omega
 | m + 1,h,t,ht=>by
  simp only [unD] at h
  by_cases e:t = m
  ·subst e
   cases hS:S t with
   | true=>rfl
   | false=>rw [hS] at h; simp at h
  ·exact unD_zero (m:=m) (by omega) t (by omega)
theorem unD_le {S S':Nat → Bool}:∀ {m:Nat},(∀ t,t < m → S t = true → S' t = true) → unD S' m ≤ unD S m
 | 0,_=>Nat.le_refl _
 | m + 1,h=>by
  have:=unD_le (S:=S) (S':=S') (m:=m) fun t ht=>h t (by omega)
  simp only [unD]
  cases hS:S m with
  | true=>rw [h m (by omega) hS]; simpa using this
  | false=>cases S' m <;> simp <;> omega
theorem unD_ins {S:Nat → Bool} {t:Nat} (hS:S t = false):∀ {m:Nat},t < m → unD (ins S t) m + 1 ≤ unD S m
 | 0,h=>by omega
 | m + 1,h=>by
  simp only [unD]
  by_cases e:t = m
  ·subst e
   rw [ins_self,hS]
   have:=unD_le (S:=S) (S':=ins S t) (m:=t) fun p _ hp=>by
    by_cases e:p = t
    ·subst e; exact ins_self
    ·rw [ins_ne e]; exact hp
   simp; omega
  ·rw [ins_ne (fun h=>e h.symm)]
   have:=unD_ins hS (m:=m) (by omega)
   omega
theorem unD_all {m:Nat}:unD (fun _=>false) m = m:=by
 induction m with
 | zero=>rfl
 | succ m ih=>simp [unD,ih]
def Sof (rs:List Row) (listed:Array Bool) (t:Nat):Bool:=listed.getD (rowAt rs t).j false
structure InvD (w0 w:World) (φ:Phi) (O:Nat → AO) (n:Nat) (sF:Nat → Fr) (sH:Nat → AH) (nt:Nat) (S:Nat → Bool) (φ1:Phi) (a1:Act) (w1:World):Prop where
 rel:Rel w0 φ1 (mkH O sF sH S n (sH n).nx) w1
 frr:FrR φ1 (frS O sF S n) a1
 size:a1.tmps.size = nt
 defs:a1.defers = []
 dom:Dom O n sF sH S (fun b=>φ1.m b ≠ none)
 grow:Grow φ (sH 0) w φ1 (sH n) w1
theorem stepD {call:Cl} (hcall:CallOk P call) {O:Nat → AO} {n:Nat} {sF:Nat → Fr} {sH:Nat → AH} {anc:Nat → Nat → Prop} (R:Run call O n sF sH anc) {w0 w:World} {φ:Phi} (hb:φ.n0 ≤ (sH 0).nx) {nt:Nat} {S:Nat → Bool} {t:Nat} (C:Cls n anc S t)
  {φ1:Phi} {a1:Act} {w1:World} (I:InvD w0 w φ O n sF sH nt S φ1 a1 w1) {opsA:Array Oper} {j:Nat} {o:Oper} (hj:opsA[j]? = some o) (hc:cAO P nt opsA o = some (O t)) (hx:(O t).o.xs.all xok = true)
  {Q:Exit → Act → World → Prop} {K:Act → World → Prop} (hK:∀ φ2 a2 w2,InvD w0 w φ O n sF sH nt (ins S t) φ2 a2 w2 → K a2 w2):wpOp P opsA Q j K a1 w1:=by
 obtain ⟨Hx,Hy,St⟩:=R.stepAt I.dom C (fun _ b hb=>adr_dm I.frr hx (by rw [adr_xs (R.agree C)]; exact hb))
 have hlo:φ1.n0 ≤ Hx.nx:=by rw [I.grow.n0]; exact Nat.le_trans hb St.lo
 refine oneSim hcall hj hc I.frr (I.rel.of_raw (fun b hb=>St.pre b hb) St.n0x hlo) (Classical.not_not.1 St.out) (fun hk b hb=>Classical.not_not.1 (St.fresh hk b hb)) I.size I.defs St.run ?_
 intro φ2 v v' w2 R2 G2 hv hfr F2 hs2 hd2
 refine hK φ2 _ w2 ⟨?_,?_,hs2,hd2,?_,I.grow.comp G2 St.lo St.hi⟩
 ·refine R2.of_raw (fun b _=>St.post b) St.n0y.symm ?_
  show φ2.n0 ≤ (sH n).nx
  rw [G2.n0,I.grow.n0]
  exact Nat.le_trans hb (R.nxle (Nat.zero_le n) (Nat.le_refl _))
 ·intro x
  rw [R.frS_ins C x]
  exact F2 x
 ·refine ⟨fun b hb=>?_,fun p hp hS w k b had=>?_⟩
  ·by_cases h1:φ1.m b = none
   ·obtain ⟨l,hl⟩:∃ l,φ2.m b = some l:=by
     cases h2:φ2.m b with
     | none=>exact absurd h2 hb
     | some l=>exact ⟨l,rfl⟩
    have h3:=G2.new b l h1 hl
    have h4:=St.new b h3.1 h3.2
    exact .inr ⟨t,C.lt,ins_self,h4.1,h4.2⟩
   ·rcases I.dom.dom b h1 with h | ⟨p,hp,hS,h2,h3⟩
    ·exact .inl h
    ·refine .inr ⟨p,hp,?_,h2,h3⟩
     by_cases e:p = t
     ·subst e; exact ins_self
     ·rw [ins_ne e]; exact hS
  ·have up:∀ b,φ1.m b ≠ none → φ2.m b ≠ none:=by
    intro b h
    cases h1:φ1.m b with
    | none=>exact absurd h1 h
    | some l=>rw [G2.le _ _ h1]; simp
   by_cases e:p = t
   ·subst e
    exact up b (adr_dm I.frr hx (by rw [adr_xs (R.agree C)]; exact had))
   ·rw [ins_ne e] at hS
    exact up b (I.dom.sts p hp hS w k b had)
theorem cAOs_get {nt:Nat} {opsA:Array Oper}:∀ {l:List Oper} {aos:List AO},cAOs P nt opsA l = some aos → aos.length = l.length ∧ ∀ (j:Nat) (o:Oper) (ao:AO),l[j]? = some o → aos[j]? = some ao → cAO P nt opsA o = some ao
 | [],aos,h=>by
  simp [cAOs] at h
  subst h
  exact ⟨rfl,fun j o ao h=>(by simp at h)⟩
 | x :: l,aos,h=>by
  simp only [cAOs] at h
  cases h1:cAO P nt opsA x with
  | none=>simp [h1] at h
  | some y =>
   cases h2:cAOs P nt opsA l with
   | none=>simp [h1,h2] at h
   | some m =>
    simp only [h1,h2,Option.some.injEq] at h
    subst h
    obtain ⟨e1,e2⟩:=cAOs_get h2
    refine ⟨by simp [e1],fun j o ao ho ha=>?_⟩
    cases j with
    | zero =>
     simp at ho ha
     subst ho
     subst ha
     exact h1
    | succ j=>exact e2 j o ao (by simpa using ho) (by simpa using ha)
theorem mem_dps {o:Oper} {i:Nat}:i ∈ dps o ↔ ∃ e ∈ o.after,Region.binds .any e = true ∧ e.on = i:=by
 unfold dps
 rw [List.mem_filterMap]
 constructor
 ·rintro ⟨e,he,h⟩
  cases hb:Region.binds .any e with
  | false=>rw [hb] at h; cases h
  | true=>rw [hb] at h; cases h; exact ⟨e,by simpa using he,hb,rfl⟩
 ·rintro ⟨e,he,hb,rfl⟩
  exact ⟨e,by simpa using he,by rw [hb]; rfl⟩
theorem drawOk (hm:P.follows .mixedOrders = true) {call:Cl} (hcall:CallOk P call):DrawOk P call:=by
 intro nt id opsA ac hc l ck hac w0 w φ H H' fr fr' a h F R R0 hs hd
 obtain ⟨aos,ord,hl,hok,hac'⟩:=cDraw_rows hc
 generalize hrs:rowsA aos (opsA.toList.map dps) ord [] = rs at hok hac'
 rw [hac'] at hac
 cases hac
 simp only [rowsOk,Bool.and_eq_true,nb,decide_eq_true_eq,List.all_eq_true] at hok
 obtain ⟨⟨⟨⟨hxok,hlen⟩,hsur⟩,hlin⟩,hpw⟩:=hok
 obtain ⟨halen,haget⟩:=cAOs_get hl
 have hn:rs.length = opsA.size:=by rw [hlen,halen]; simp
 -- the rows
 have row:∀ t,t < rs.length → ∃ o,opsA[(rowAt rs t).j]? = some o ∧ cAO P nt opsA o = some (rowAt rs t).o ∧ (rowAt rs t).dep = dps o ∧ (rowAt rs t).o.o.xs.all xok = true:=by
  intro t ht
  have hg:=rowAt_get ht
  obtain ⟨h1,h2,h3,_⟩:=rowsA_spec ord [] t (rowAt rs t) (by rw [hrs]; exact hg)
  rw [List.getElem?_map] at h3
  cases ho:opsA.toList[(rowAt rs t).j]? with
  | none=>simp [ho] at h3
  | some o =>
   simp [ho] at h3
   exact ⟨o,by simpa using ho,haget _ o _ ho h1,h3.symm,List.all_eq_true.2 (hxok _ (List.mem_of_getElem? hg))⟩
 have masks:∀ t,t < rs.length → ∀ i,(rowAt rs t).m.testBit i = true → ∃ e ∈ (rowAt rs t).dep,e = i ∨ ∃ q < t,(rowAt rs q).j = e ∧ (rowAt rs q).m.testBit i = true:=by
  intro t ht i hi
  obtain ⟨_,_,_,h4⟩:=rowsA_spec ord [] t (rowAt rs t) (by rw [hrs]; exact rowAt_get ht)
  obtain ⟨e,he,h5⟩:=h4 i hi
  refine ⟨e,he,?_⟩
  rcases h5 with h5 | ⟨q,hq,r',h6,h7,h8⟩ | h5
  ·exact .inl h5
  ·rw [hrs] at h6
   have:rowAt rs q = r':=by unfold rowAt; rw [h6]; rfl
   exact .inr ⟨q,hq,by rw [this]; exact h7,by rw [this]; exact h8⟩
  ·simp [lookM] at h5
 have lin:∀ t,t < rs.length → (∀ q,q < t → (rowAt rs q).j ≠ (rowAt rs t).j) ∧ ∀ e ∈ (rowAt rs t).dep,∃ q < t,(rowAt rs q).j = e:=by
  intro t ht
  obtain ⟨⟨_,h1⟩,h2⟩:=linOk_spec rs [] hlin t _ (rowAt_get ht)
  refine ⟨fun q hq=>h1 q _ hq (rowAt_get (by omega)),fun e he=>?_⟩
  rcases h2 e he with h3 | ⟨q,hq,r',h4,h5⟩
  ·cases h3
  ·exact ⟨q,hq,by unfold rowAt; rw [h4]; exact h5⟩
 have sur:∀ i,i < opsA.size → ∃ t,t < rs.length ∧ (rowAt rs t).j = i:=by
  intro i hi
  have:=memN_iff.1 (hsur i (upTo_mem (by rw [halen]; simpa using hi)))
  obtain ⟨r,hr,e⟩:=List.mem_map.1 this
  obtain ⟨t,ht,e2⟩:=List.mem_iff_getElem.1 hr
  refine ⟨t,ht,?_⟩
  unfold rowAt
  rw [List.getElem?_eq_getElem ht,Option.getD_some,e2]
  exact e
 have jlt:∀ t,t < rs.length → (rowAt rs t).j < opsA.size:=by
  intro t ht
  obtain ⟨o,ho,_⟩:=row t ht
  exact (Array.getElem?_eq_some_iff.1 ho).1
 -- the canonical run
 unfold opsD at h
 cases hT:opsT call (rs.map (·.o)) fr H with
 | none=>simp [hT] at h
 | some ss =>
  simp only [hT] at h
  obtain ⟨hck,h⟩:=bif_some h
  simp only [Bool.and_eq_true] at hck
  have Rn:=run_of (fun t r hr=>(rowsA_spec ord [] t r (by rw [hrs]; exact hr)).2.1) hpw hT hck.1 hck.2
  have hlast:=(opsT_spec _ _ _ _ hT).2.1
  rw [List.length_map] at hlast
  simp only [Option.some.injEq] at h
  rw [hlast] at h
  have hFn:stF (fr,H) ss rs.length = fr':=by unfold stF; rw [h]
  have hHn:stH (fr,H) ss rs.length = H':=by unfold stH; rw [h]
  have hF0:stF (fr,H) ss 0 = fr:=rfl
  have hH0:stH (fr,H) ss 0 = H:=rfl
  generalize stF (fr,H) ss = sF at *
  generalize stH (fr,H) ss = sH at *
  -- all orders
  have main:∀ (fuel:Nat) (listed:Array Bool) (φ1:Phi) (a1:Act) (w1:World),listed.size = opsA.size → unD (Sof rs listed) rs.length ≤ fuel →
    (∀ (j:Nat) (o:Oper),opsA[j]? = some o → listed.getD j false = true → ∀ e ∈ dps o,listed.getD e false = true) →
    InvD w0 w φ (fun t=>(rowAt rs t).o) rs.length sF sH nt (Sof rs listed) φ1 a1 w1 →
    wpAny P .any opsA (Post w0 φ w H nt .normal fr' H') fuel listed a1 w1:=by
   have fin:∀ (listed:Array Bool) (φ1:Phi) (a1:Act) (w1:World),(∀ t,t < rs.length → Sof rs listed t = true) →
     InvD w0 w φ (fun t=>(rowAt rs t).o) rs.length sF sH nt (Sof rs listed) φ1 a1 w1 → Post w0 φ w H nt .normal fr' H' .normal a1 w1:=by
    intro listed φ1 a1 w1 hall I
    refine ⟨rfl,φ1,?_,?_,?_,I.size,I.defs⟩
    ·rw [← hHn]
     refine I.rel.of_raw (fun b _=>?_) (by rw [Rn.n0s _ (Nat.le_refl _)]; rfl) ?_
     ·rw [mkH_raw,← Rn.gS_all (Nat.le_refl _)]
      exact gS_eq fun p hp _=>(hall p hp).symm
     ·rw [I.grow.n0]
      exact Nat.le_trans R.le2 (by rw [← hH0]; exact Rn.nxle (Nat.zero_le _) (Nat.le_refl _))
    ·rw [← hHn,← hH0]; exact I.grow
    ·intro x
     rw [← hFn,← Rn.frS_all (Nat.le_refl _)]
     rw [frS_eq (S:=fun _=>true) (S':=Sof rs listed) fun p hp _=>(hall p hp).symm]
     exact I.frr x
   intro fuel
   induction fuel with
   | zero =>
    intro listed φ1 a1 w1 hsz hun hcd I
    have hall:=unD_zero (Nat.le_zero.1 hun)
    refine ⟨?_,fin listed φ1 a1 w1 hall I⟩
    rw [List.eq_nil_iff_forall_not_mem]
    intro i hi
    obtain ⟨h0,o,ho,_⟩:=mem_ready.1 hi
    obtain ⟨t,ht,rfl⟩:=sur i (Array.getElem?_eq_some_iff.1 ho).1
    have h1:=hall t ht
    unfold Sof at h1
    have hlt:(rowAt rs t).j < listed.size:=by rw [hsz]; exact jlt t ht
    simp [hlt] at h0 h1
    rw [h0] at h1
    cases h1
   | succ fuel ih =>
    intro listed φ1 a1 w1 hsz hun hcd I
    refine ⟨fun hr=>?_,fun i hi=>?_⟩
    ·refine fin listed φ1 a1 w1 ?_ I
     intro t
     induction t using Nat.strongRecOn with
     | _ t iht =>
      intro ht
      cases hS:Sof rs listed t with
      | true=>rfl
      | false =>
       exfalso
       obtain ⟨o,ho,_,hdep,_⟩:=row t ht
       have:(rowAt rs t).j ∈ Region.ready .any opsA listed:=by
        refine mem_ready.2 ⟨?_,o,ho,fun e he hb=>?_⟩
        ·have hlt:(rowAt rs t).j < listed.size:=by rw [hsz]; exact jlt t ht
         unfold Sof at hS
         simp [hlt] at hS ⊢
         exact hS
        ·obtain ⟨q,hq,e2⟩:=(lin t ht).2 e.on (by rw [hdep]; exact mem_dps.2 ⟨e,he,hb,rfl⟩)
         have:=iht q hq (by omega)
         unfold Sof at this
         rw [e2] at this
         exact this
       rw [hr] at this
       cases this
    ·obtain ⟨h0,o',ho',hdeps⟩:=mem_ready.1 hi
     obtain ⟨t,ht,rfl⟩:=sur i (Array.getElem?_eq_some_iff.1 ho').1
     obtain ⟨o,ho,hcao,hdep,hx⟩:=row t ht
     rw [ho] at ho'
     cases ho'
     have hlt:(rowAt rs t).j < listed.size:=by rw [hsz]; exact jlt t ht
     have hSt:Sof rs listed t = false:=by
      unfold Sof
      simp [hlt] at h0 ⊢
      exact h0
     have closed:∀ q,q < rs.length → (∀ e ∈ (rowAt rs q).dep,listed.getD e false = true) → ∀ i,(rowAt rs q).m.testBit i = true → listed.getD i false = true:=by
      intro q
      induction q using Nat.strongRecOn with
      | _ q ihq =>
       intro hq hdq i hi
       obtain ⟨e,he,h5⟩:=masks q hq i hi
       rcases h5 with rfl | ⟨p,hp,h6,h7⟩
       ·exact hdq _ he
       ·refine ihq p hp (by omega) (fun e' he'=>?_) i h7
        obtain ⟨op,hop,_,hdp,_⟩:=row p (by omega)
        exact hcd _ op hop (by rw [h6]; exact hdq e he) e' (by rw [← hdp]; exact he')
     have C:Cls rs.length (ancR rs) (Sof rs listed) t:=by
      refine ⟨ht,hSt,fun p hp ha=>?_,fun p q hpq hq hSq ha=>?_⟩
      ·refine closed t ht (fun e he=>?_) _ ha
       rw [hdep] at he
       obtain ⟨ed,h1,h2,rfl⟩:=mem_dps.1 he
       exact hdeps ed h1 h2
      ·refine closed q hq (fun e he=>?_) _ ha
       obtain ⟨oq,hoq,_,hdq,_⟩:=row q hq
       exact hcd _ oq hoq hSq e (by rw [← hdq]; exact he)
     have hSof:∀ p,p < rs.length → Sof rs (listed.setIfInBounds (rowAt rs t).j true) p = ins (Sof rs listed) t p:=by
      intro p hp
      unfold Sof
      by_cases e:p = t
      ·subst e
       rw [ins_self]
       simp [hlt]
      ·rw [ins_ne e]
       refine getD_set_ne false ?_
       rcases Nat.lt_or_gt_of_ne e with h1 | h1
       ·exact fun h2=>(lin t ht).1 p h1 h2.symm
       ·exact (lin p hp).1 t h1
     refine stepD (O:=fun t=>(rowAt rs t).o) hcall Rn (by rw [hH0]; exact R.le2) C I ho hcao hx ?_
     intro φ2 a2 w2 I2
     refine ih _ φ2 a2 w2 (by simp [hsz]) ?_ ?_ ?_
     ·have h1:=unD_ins hSt ht
      have h2:unD (Sof rs (listed.setIfInBounds (rowAt rs t).j true)) rs.length ≤ unD (ins (Sof rs listed) t) rs.length :=
       unD_le fun p hp h=>by rw [hSof p hp]; exact h
      omega
     ·intro j oj hoj hj e he
      by_cases ej:(rowAt rs t).j = j
      ·subst ej
       rw [ho] at hoj
       cases hoj
       obtain ⟨ed,h1,h2,rfl⟩:=mem_dps.1 he
       exact getD_set_true (hdeps ed h1 h2)
      ·rw [getD_set_ne false ej] at hj
       exact getD_set_true (hcd j oj hoj hj e he)
     ·have eF:∀ x,(frS (fun t=>(rowAt rs t).o) sF (Sof rs (listed.setIfInBounds (rowAt rs t).j true)) rs.length).get x = (frS (fun t=>(rowAt rs t).o) sF (ins (Sof rs listed) t) rs.length).get x :=
       fun x=>frS_eq fun p hp _=>hSof p hp
      refine ⟨I2.rel.of_raw (fun b _=>gS_eq fun p hp _=>hSof p hp) rfl I2.rel.le2,fun x=>by rw [eF]; exact I2.frr x,I2.size,I2.defs,⟨fun b hb=>?_,fun p hp hS=>?_⟩,I2.grow⟩
      ·rcases I2.dom.dom b hb with h1 | ⟨p,hp,hS,h2⟩
       ·exact .inl h1
       ·exact .inr ⟨p,hp,by rw [hSof p hp]; exact hS,h2⟩
      ·rw [hSof p hp] at hS
       exact I2.dom.sts p hp hS
  refine wp_region_any hm ?_
  have hS0:∀ t,Sof rs (Array.replicate opsA.size false) t = false:=by
   intro t
   unfold Sof
   by_cases h:(rowAt rs t).j < opsA.size <;> simp [h]
  refine main opsA.size _ φ a _ (by simp) ?_ ?_ ?_
  ·rw [← hn]
   have:unD (Sof rs (Array.replicate opsA.size false)) rs.length ≤ unD (fun _=>false) rs.length:=unD_le fun p _ h=>by cases h
   rw [unD_all] at this
   rwa [hn] at this ⊢
  ·intro j o _ h
   exfalso
   by_cases h2:j < opsA.size <;> simp [h2] at h
  ·have R':Rel w0 φ H { w with drawn:=w.drawn + 1 }:=R.drew rfl rfl rfl rfl
   refine ⟨R'.of_raw (fun b _=>?_) (by show (sH 0).n0 = _; rw [hH0]) ?_,fun x=>?_,hs,hd,⟨fun b hb=>.inl ?_,fun p hp hS=>?_⟩,?_⟩
   ·rw [mkH_raw,gS_stop (t:=0) (Nat.zero_le _)]
    ·show (sH 0).raw b = _; rw [hH0]
    ·intro p _ _ h; rw [hS0] at h; cases h
   ·refine Nat.le_trans R.le2 ?_
    rw [← hH0]
    exact Rn.nxle (Nat.zero_le _) (Nat.le_refl _)
   ·rw [frS_stop (t:=0) (Nat.zero_le _)]
    ·show V φ ((sF 0).get x) _; rw [hF0]; exact F x
    ·intro p _ _ h; rw [hS0] at h; cases h
   ·rw [hH0]
    rcases Nat.lt_or_ge b H.nx with h1 | h1
    ·exact h1
    ·exact absurd (R0 b h1) hb
   ·rw [hS0] at hS; cases hS
   ·have G:Grow φ H w φ H { w with drawn:=w.drawn + 1 }:=Grow.of_heap rfl
    rw [hH0]
    refine ⟨G.le,G.n0,G.c0,?_,fun b l h1 h2=>(by rw [h1] at h2; cases h2),G.size,G.fr⟩
    rw [← hH0]
    exact Rn.nxle (Nat.zero_le _) (Nat.le_refl _)
end
end Go.Proofs.YtoijnpfpjpefgaaGreat.A
/- A text without what this claim does not need: AbsI. -/
set_option linter.unusedVariables false
set_option linter.unusedSimpArgs false
namespace Go.Proofs.YtoijnpfpjpefgaaGreat.A
open Go Go.RowKit
section
variable {P:Program}
def resOne (tmps:Array Value):ResultVar → Sem Value
 | .tmp t=>pure (tmps.getD t undef)
 | .cell a t=>do loadVar t (← asAddr (tmps.getD a undef))
theorem results_list (fn:Func) (tmps:Array Value):results fn tmps = (do
  let vs ← fn.results.toList.mapM (resOne tmps)
  pure (if h:vs.toArray.size = 1 then vs.toArray[0] else .tuple vs.toArray)):=by
 have e:results fn tmps = (do
  let vs ← fn.results.mapM (resOne tmps)
  pure (if h:vs.size = 1 then vs[0] else .tuple vs)):=rfl
 rw [e,Array.mapM_eq_mapM_toList]
 simp
theorem res_sim {w0 w:World} {φ:Phi} {H:AH} {fr:Fr} {a:Act} (F:FrR φ fr a) (R:Rel w0 φ H w):∀ (l:List ResultVar) (m:List RS) (vs:List Value),cRes P l = some m → RS.all fr H m = some vs →
  ∃ vs',(l.mapM (resOne a.tmps)).run P w = .ok vs' w ∧ VL φ vs vs'
 | [],m,vs,hc,h=>by
  simp [cRes] at hc
  subst hc
  simp [RS.all] at h
  subst h
  exact ⟨[],by simp,.nil⟩
 | .tmp t :: l,m,vs,hc,h=>by
  simp only [cRes,Option.map_eq_some_iff] at hc
  obtain ⟨m',hm,rfl⟩:=hc
  simp only [RS.all,RS.get] at h
  cases hr:RS.all fr H m' with
  | none=>simp [hr] at h
  | some us =>
   simp only [hr,Option.some.injEq] at h
   subst h
   obtain ⟨vs',h1,h2⟩:=res_sim F R l m' us hm hr
   refine ⟨a.tmps.getD t undef :: vs',?_,.cons (F t) h2⟩
   simp [List.mapM_cons,resOne,h1]
 | .cell t ty :: l,m,vs,hc,h=>by
  simp only [cRes] at hc
  split at hc
  ·rename_i n m' hag hsz hm
   cases hc
   simp only [RS.all,RS.get] at h
   cases hq:fr.get t <;> simp [hq] at h
   rename_i p
   cases p <;> simp at h
   rename_i ad
   cases hld:H.ldn ad n with
   | none=>simp [hld] at h
   | some ws =>
    cases hr:RS.all fr H m' with
    | none=>simp [hld,hr] at h
    | some us =>
     simp [hld,hr] at h
     subst h
     obtain ⟨vs',h1,h2⟩:=res_sim F R l m' us hm hr
     have hv:=F t
     rw [hq] at hv
     obtain ⟨a',ws',e1,e2,e3,e4,e5⟩:=ok_ldn R hv hld
     have h4:=run_loadCells_list (P:=P) w a' ws' e5
     rw [e2] at h4
     refine ⟨.agg ws'.toArray :: vs',?_,.cons (.agg (by simpa using e3) (by simpa using e4)) h2⟩
     have e1':a.tmps.getD t undef = .pointer (some a'):=e1
     simp only [List.mapM_cons,resOne,e1']
     simp [asAddr,loadVar,run_tagg hag,run_tsize hsz,h4,h1]
  ·rename_i n m' hag hsz hm
   cases hc
   simp only [RS.all,RS.get] at h
   cases hq:fr.get t <;> simp [hq] at h
   rename_i p
   cases p <;> simp at h
   rename_i ad
   cases hld:H.ld ad with
   | none=>simp [hld] at h
   | some v =>
    cases hr:RS.all fr H m' with
    | none=>simp [hld,hr] at h
    | some us =>
     simp [hld,hr] at h
     subst h
     obtain ⟨vs',h1,h2⟩:=res_sim F R l m' us hm hr
     have hv:=F t
     rw [hq] at hv
     obtain ⟨a',v',e1,e2,e3⟩:=ok_ld R hv hld
     refine ⟨v' :: vs',?_,.cons e3 h2⟩
     have e1':a.tmps.getD t undef = .pointer (some a'):=e1
     simp only [List.mapM_cons,resOne,e1']
     simp [asAddr,loadVar,run_tagg hag,e2,h1]
  ·cases hc
theorem results_sim {w0 w:World} {φ:Phi} {H:AH} {fr:Fr} {a:Act} (F:FrR φ fr a) (R:Rel w0 φ H w) {fn:Func} {m:List RS} {vs:List Value} (hc:cRes P fn.results.toList = some m) (h:RS.all fr H m = some vs) :
  ∃ v',(results fn a.tmps).run P w = .ok v' w ∧ V φ (outOf vs) v':=by
 obtain ⟨vs',h1,h2⟩:=res_sim F R _ _ _ hc h
 rw [results_list]
 simp only [Sem.run_bind,h1,Result.andThen_ok,Sem.run_pure]
 cases h2 with
 | nil=>exact ⟨_,rfl,.tuple .nil⟩
 | cons x y =>
  cases y with
  | nil=>exact ⟨_,rfl,x⟩
  | cons y z =>
   refine ⟨_,rfl,?_⟩
   simp only [List.size_toArray,List.length_cons]
   rw [dif_neg (by omega)]
   exact .tuple (.cons x (.cons y z))
theorem Fr.get_ofFrom:∀ (l:List Value) (i:Nat) (f:Fr) (t:Nat),(Fr.ofFrom i l f).get t = if i ≤ t ∧ t < i + l.length then l.getD (t - i) undef else f.get t
 | [],i,f,t=>by
  simp only [Fr.ofFrom,List.length_nil]
  rw [if_neg (by omega)]
 | v :: l,i,f,t=>by
  simp only [Fr.ofFrom,List.length_cons]
  rw [Fr.get_ofFrom l,Fr.get_put]
  by_cases h1:t = i
  ·subst h1
   rw [if_neg (by omega),if_pos rfl,if_pos (by omega)]
   simp
  ·by_cases h2:i + 1 ≤ t ∧ t < i + 1 + l.length
   ·rw [if_pos h2,if_pos (by omega)]
    obtain ⟨k,hk⟩:∃ k,t - i = k + 1:=⟨t - i - 1,by omega⟩
    rw [hk,show t - (i + 1) = k by omega]
    simp
   ·rw [if_neg h2,if_neg h1,if_neg (by omega)]
theorem Fr.get_nil (t:Nat):(⟨.nil⟩:Fr).get t = undef:=by
 unfold Fr.get
 cases t <;> rfl
theorem Fr.get_of (l:List Value) (t:Nat):(Fr.of l).get t = l.getD t undef:=by
 unfold Fr.of
 rw [Fr.get_ofFrom,Fr.get_nil]
 split
 ·rfl
 ·rename_i h
  simp only [List.getD_eq_getElem?_getD]
  rw [List.getElem?_eq_none (by omega)]
  rfl
theorem getD_params {φ:Phi} {as:List Value} {as':Array Value} (k:Nat) (h:VL φ as as'.toList) (t:Nat):V φ ((Fr.of as).get t) ((as' ++ Array.replicate k undef).getD t undef):=by
 rw [Fr.get_of]
 have hl:=h.length
 simp only [List.getD_eq_getElem?_getD]
 cases ht:as[t]? with
 | some v =>
  obtain ⟨v',e,hv⟩:=h.get t v ht
  have hlt:t < as'.size:=by
   have:=(List.getElem?_eq_some_iff.1 e).1
   simpa using this
  have e2:(as' ++ Array.replicate k undef).getD t undef = v':=by
   rw [Array.getD_eq_getD_getElem?,Array.getElem?_append_left hlt]
   simp only [Array.getElem?_toList] at e
   rw [e]
   rfl
  rw [e2]
  exact hv
 | none =>
  have hge:=List.getElem?_eq_none_iff.1 ht
  have e2:(as' ++ Array.replicate k undef).getD t undef = undef:=by
   rw [Array.getD_eq_getD_getElem?,Array.getElem?_append_right (by rw [← Array.length_toList,← hl]; exact hge)]
   rw [Array.getElem?_replicate]
   split <;> rfl
  rw [e2]
  exact undefV _
def EnvOk (P:Program) (E:Env):Prop:=∀ f F,E f = some F → ∃ fn,P.funcs[f]? = some fn ∧ cFunc P fn = some F
abbrev Orc:=Nat → Option (List Value → AH → Option (Value × AH))
def OrcOk (P:Program) (O:Orc):Prop:=∀ f g,O f = some g → ∀ as H v H',g as H = some (v,H') → HasF P f ∧ SimF P f as H v H'
theorem runF_ok (hm:P.follows .mixedOrders = true) {E:Env} {O:Orc} (hE:EnvOk P E) (hO:OrcOk P O):∀ n,CallOk P (runF E O n)
 | 0=>fun f as H v H' h=>by simp [runF] at h
 | n + 1=>fun f as H v H' h=>by
  have ih:=runF_ok hm hE hO n
  simp only [runF] at h
  cases ho:O f with
  | some g =>
   simp only [ho] at h
   exact hO f g ho as H v H' h
  | none =>
   simp only [ho] at h
   cases he:E f with
   | none=>simp [he] at h
   | some F =>
    simp only [he] at h
    obtain ⟨hlen,h⟩:=bif_some h
    obtain ⟨fn,hf,hc⟩:=hE f F he
    unfold cFunc at hc
    cases hb:fn.body with
    | none=>simp [hb] at hc
    | some c =>
     simp only [hb] at hc
     split at hc
     case h_2=>cases hc
     rename_i x r hx hr
     split at hc
     case isTrue=>cases hc
     rename_i hname
     cases hc
     simp only [Bool.or_eq_true,not_or,Bool.not_eq_true,decide_eq_false_iff_not,Nat.not_lt] at hname
     refine ⟨⟨fn,hf,by rw [hb]; rfl,hname.1⟩,?_⟩
     intro w0 φ w as' R R0 hv
     refine calls_of_wp hf hb ?_
     have hsz:as'.size = fn.params.size + fn.nfree:=by
      have:=hv.length
      rw [nb] at hlen
      simp at hlen this
      omega
     cases hcode:codeR (runF E O n) n x (Fr.of as) H with
     | none=>simp [hcode] at h
     | some q =>
      obtain ⟨ex,fr,H1⟩:=q
      have hw:=codeSim ih (drawOk hm ih) n c x (w0:=w0) (w:=w) (φ:=φ) (a:={ tmps:=as' ++ Array.replicate (fn.ntmps - as'.size) undef,defers:=[] }) hx hcode (fun t=>getD_params _ hv t) R R0 (by simp; omega) rfl
      refine wp_mono hw ?_
      rintro e a2 w2 ⟨rfl,φ2,R2,G2,F2,hs2,hd2⟩
      cases ex with
      | exit i=>simp [hcode] at h
      | normal =>
       simp only [hcode] at h
       cases hra:RS.all fr H1 r with
       | none=>simp [hra] at h
       | some vs =>
        simp only [hra,Option.some.injEq,Prod.mk.injEq] at h
        obtain ⟨rfl,rfl⟩:=h
        obtain ⟨v',h1,h2⟩:=results_sim F2 R2 hr hra
        exact ⟨hd2,v',h1,φ2,v',rfl,h2,R2,G2⟩
      | ret =>
       simp only [hcode] at h
       cases hra:RS.all fr H1 r with
       | none=>simp [hra] at h
       | some vs =>
        simp only [hra,Option.some.injEq,Prod.mk.injEq] at h
        obtain ⟨rfl,rfl⟩:=h
        obtain ⟨v',h1,h2⟩:=results_sim F2 R2 hr hra
        exact ⟨hd2,v',h1,φ2,v',rfl,h2,R2,G2⟩
end
end Go.Proofs.YtoijnpfpjpefgaaGreat.A
/- A text without what this claim does not need: AbsJ. -/
set_option linter.unusedVariables false
set_option linter.unusedSimpArgs false
namespace Go.Proofs.YtoijnpfpjpefgaaGreat.A
open Go
def ClLe (c d:Cl):Prop:=∀ f as H r,c f as H = some r → d f as H = some r
theorem aone_le {c d:Cl} (h:ClLe c d) {o:AO} {fr:Fr} {H:AH} {r:Fr × AH} (k:aone c o fr H = some r):aone d o fr H = some r:=by
 obtain ⟨fr',H'⟩:=r
 obtain ⟨x,e,k⟩:=aone_iff.1 k
 refine aone_iff.2 ⟨x,e,?_⟩
 cases k with
 | off a b c=>exact .off a b c
 | val a b=>exact .val a b
 | call a f as H1 b c=>exact .call a f as H1 b (h _ _ _ _ c)
theorem ops_le {c d:Cl} (h:ClLe c d):∀ {l:List AO} {fr:Fr} {H:AH} {r:Fr × AH},ops c l fr H = some r → ops d l fr H = some r
 | [],fr,H,r,k=>k
 | o :: l,fr,H,r,k=>by
  simp only [ops] at k ⊢
  cases h1:aone c o fr H with
  | none=>simp [h1] at k
  | some q =>
   rw [aone_le h h1]
   simp only [h1] at k
   exact ops_le h k
theorem opsT_le {c d:Cl} (h:ClLe c d):∀ {l:List AO} {fr:Fr} {H:AH} {r:List (Fr × AH)},opsT c l fr H = some r → opsT d l fr H = some r
 | [],fr,H,r,k=>k
 | o :: l,fr,H,r,k=>by
  simp only [opsT] at k ⊢
  cases h1:aone c o fr H with
  | none=>simp [h1] at k
  | some q =>
   rw [aone_le h h1]
   simp only [h1] at k ⊢
   cases h2:opsT c l q.1 q.2 with
   | none=>simp [h2] at k
   | some ss=>rw [opsT_le h h2]; simpa [h2] using k
theorem codeR_le {c d:Cl} (h:ClLe c d):∀ {n:Nat} {a:AC} {fr:Fr} {H:AH} {r:Ex × Fr × AH},codeR c n a fr H = some r → codeR d n a fr H = some r:=by
 intro n
 induction n with
 | zero=>intro a fr H r k; simp [codeR] at k
 | succ n ih =>
  intro a fr H r k
  cases a with
  | reg l =>
   simp only [codeR] at k ⊢
   cases h1:ops c l fr H with
   | none=>simp [h1] at k
   | some q=>rw [ops_le h h1]; simpa [h1] using k
  | regd l ck =>
   simp only [codeR,opsD] at k ⊢
   cases h1:opsT c l fr H with
   | none=>simp [h1] at k
   | some q=>rw [opsT_le h h1]; simpa [h1] using k
  | seq a b =>
   simp only [codeR] at k ⊢
   cases h1:codeR c n a fr H with
   | none=>simp [h1] at k
   | some q =>
    rw [ih h1]
    obtain ⟨ex,fr1,H1⟩:=q
    cases ex <;> simp only [h1] at k ⊢ <;> first
     | exact ih k
     | exact k
  | cond x a b =>
   simp only [codeR] at k ⊢
   cases hx:x.ev fr <;> simp only [hx] at k ⊢ <;> first
    | (cases k; done)
    | skip
   rename_i t
   cases t <;> exact ih k
  | block i a =>
   simp only [codeR] at k ⊢
   cases h1:codeR c n a fr H with
   | none=>simp [h1] at k
   | some q =>
    rw [ih h1]
    obtain ⟨ex,fr1,H1⟩:=q
    cases ex <;> simp only [h1] at k ⊢ <;> exact k
  | loop a =>
   simp only [codeR] at k ⊢
   cases h1:codeR c n a fr H with
   | none=>simp [h1] at k
   | some q =>
    rw [ih h1]
    obtain ⟨ex,fr1,H1⟩:=q
    cases ex <;> simp only [h1] at k ⊢ <;> first
     | exact ih k
     | exact k
  | _=>simpa only [codeR] using k
theorem runF_succ {E:Env} {O:Orc}:∀ n,ClLe (runF E O n) (runF E O (n + 1))
 | 0=>fun f as H r k=>by simp [runF] at k
 | n + 1=>fun f as H r k=>by
  have ih:=runF_succ (E:=E) (O:=O) n
  rw [runF] at k ⊢
  cases ho:O f with
  | some g=>simpa [ho] using k
  | none =>
   simp only [ho] at k ⊢
   cases he:E f with
   | none=>simp [he] at k
   | some F =>
    simp only [he] at k ⊢
    obtain ⟨hl,k⟩:=bif_some k
    rw [hl,cond_true]
    cases h1:codeR (runF E O n) n F.body (Fr.of as) H with
    | none=>simp [h1] at k
    | some q =>
     rw [codeR_mono (Nat.le_succ n) (codeR_le ih h1)]
     simpa [h1] using k
theorem runF_le {E : Env} {O : Orc} {n m : Nat} (h : n ≤ m) : ClLe (runF E O n) (runF E O m) := by
  induction m with
  | zero => obtain rfl : n = 0 := by omega
            exact fun _ _ _ _ k => k
  | succ m ih =>
    rcases Nat.lt_or_eq_of_le h with h1 | h1
    · exact fun f as H r k => runF_succ m f as H r (ih (by omega) f as H r k)
    · subst h1; exact fun _ _ _ _ k => k
section
variable (E:Env) (O:Orc)
def Ca (f:Nat) (as:List Value) (H:AH) (Q:Value → AH → Prop):Prop:=∃ n x H',runF E O n f as H = some (x,H') ∧ Q x H'
def Wp (c:AC) (fr:Fr) (H:AH) (Q:Ex → Fr → AH → Prop):Prop:=∃ n ex fr' H',codeR (runF E O n) n c fr H = some (ex,fr',H') ∧ Q ex fr' H'
def Wo1 (o:AO) (fr:Fr) (H:AH) (Q:Fr → AH → Prop):Prop:=∃ n fr' H',aone (runF E O n) o fr H = some (fr',H') ∧ Q fr' H'
def Wo (l:List AO) (fr:Fr) (H:AH) (Q:Fr → AH → Prop):Prop:=∃ n fr' H',ops (runF E O n) l fr H = some (fr',H') ∧ Q fr' H'
def Wt (l:List AO) (fr:Fr) (H:AH) (Q:List (Fr × AH) → Prop):Prop:=∃ n ss,opsT (runF E O n) l fr H = some ss ∧ Q ss
variable {E O}
theorem Ca.mono {f:Nat} {as:List Value} {H:AH} {Q Q':Value → AH → Prop} (h:Ca E O f as H Q) (k:∀ x H',Q x H' → Q' x H'):Ca E O f as H Q' :=
 let ⟨n,x,H',e,q⟩:=h; ⟨n,x,H',e,k _ _ q⟩
theorem Wp.mono {c:AC} {fr:Fr} {H:AH} {Q Q':Ex → Fr → AH → Prop} (h:Wp E O c fr H Q) (k:∀ ex fr' H',Q ex fr' H' → Q' ex fr' H'):Wp E O c fr H Q' :=
 let ⟨n,x,fr',H',e,q⟩:=h; ⟨n,x,fr',H',e,k _ _ _ q⟩
theorem codeR_up {n m:Nat} (h:n ≤ m) {c:AC} {fr:Fr} {H:AH} {r:Ex × Fr × AH} (k:codeR (runF E O n) n c fr H = some r):codeR (runF E O m) m c fr H = some r :=
 codeR_mono h (codeR_le (runF_le h) k)
theorem Wp.skip {fr:Fr} {H:AH} {Q:Ex → Fr → AH → Prop} (h:Q .normal fr H):Wp E O .skip fr H Q:=⟨1,_,_,_,rfl,h⟩
theorem Wp.ret {fr:Fr} {H:AH} {Q:Ex → Fr → AH → Prop} (h:Q .ret fr H):Wp E O .ret fr H Q:=⟨1,_,_,_,rfl,h⟩
theorem Wp.exit {i:Nat} {fr:Fr} {H:AH} {Q:Ex → Fr → AH → Prop} (h:Q (.exit i) fr H):Wp E O (.exit i) fr H Q:=⟨1,_,_,_,rfl,h⟩
def seqQ (k:Fr → AH → Prop) (Q:Ex → Fr → AH → Prop):Ex → Fr → AH → Prop
 | .normal,fr,H=>k fr H
 | ex,fr,H=>Q ex fr H
theorem Wp.seq {a b:AC} {fr:Fr} {H:AH} {Q:Ex → Fr → AH → Prop} (h:Wp E O a fr H (seqQ (fun fr' H'=>Wp E O b fr' H' Q) Q)):Wp E O (.seq a b) fr H Q:=by
 obtain ⟨n,ex,fr1,H1,e,q⟩:=h
 cases ex with
 | normal =>
  obtain ⟨m,ex2,fr2,H2,e2,q2⟩:=q
  refine ⟨max n m + 1,ex2,fr2,H2,?_,q2⟩
  simp only [codeR]
  rw [codeR_le (runF_le (Nat.le_succ _)) (codeR_up (Nat.le_max_left n m) e)]
  exact codeR_le (runF_le (Nat.le_succ _)) (codeR_up (Nat.le_max_right n m) e2)
 | exit i =>
  refine ⟨n + 1,_,fr1,H1,?_,q⟩
  simp only [codeR]
  rw [codeR_le (runF_le (Nat.le_succ _)) e]
 | ret =>
  refine ⟨n + 1,_,fr1,H1,?_,q⟩
  simp only [codeR]
  rw [codeR_le (runF_le (Nat.le_succ _)) e]
theorem Wp.cond {x:X} {a b:AC} {fr:Fr} {H:AH} {Q:Ex → Fr → AH → Prop} {t:Bool} (hx:x.ev fr = .bool t) (h:Wp E O (bif t then a else b) fr H Q):Wp E O (.cond x a b) fr H Q:=by
 obtain ⟨n,ex,fr1,H1,e,q⟩:=h
 refine ⟨n + 1,ex,fr1,H1,?_,q⟩
 simp only [codeR,hx]
 cases t <;> exact codeR_le (runF_le (Nat.le_succ _)) e
def blockQ (i:Nat) (Q:Ex → Fr → AH → Prop):Ex → Fr → AH → Prop
 | .exit j,fr,H=>if j = i then Q .normal fr H else Q (.exit j) fr H
 | ex,fr,H=>Q ex fr H
theorem Wp.block {i:Nat} {a:AC} {fr:Fr} {H:AH} {Q:Ex → Fr → AH → Prop} (h:Wp E O a fr H (blockQ i Q)):Wp E O (.block i a) fr H Q:=by
 obtain ⟨n,ex,fr1,H1,e,q⟩:=h
 have e':=codeR_le (runF_le (Nat.le_succ n)) e
 cases ex with
 | normal=>exact ⟨n + 1,_,fr1,H1,by simp only [codeR]; rw [e'],q⟩
 | ret=>exact ⟨n + 1,_,fr1,H1,by simp only [codeR]; rw [e'],q⟩
 | exit j =>
  simp only [blockQ] at q
  by_cases hj:j = i
  ·rw [if_pos hj] at q
   refine ⟨n + 1,_,fr1,H1,?_,q⟩
   simp only [codeR]
   rw [e']
   simp [nb,hj]
  ·rw [if_neg hj] at q
   refine ⟨n + 1,_,fr1,H1,?_,q⟩
   simp only [codeR]
   rw [e']
   simp [nb,hj]
theorem Wp.loop1 {a:AC} {fr:Fr} {H:AH} {Q:Ex → Fr → AH → Prop} (h:Wp E O a fr H (seqQ (fun fr' H'=>Wp E O (.loop a) fr' H' Q) Q)):Wp E O (.loop a) fr H Q:=by
 obtain ⟨n,ex,fr1,H1,e,q⟩:=h
 cases ex with
 | normal =>
  obtain ⟨m,ex2,fr2,H2,e2,q2⟩:=q
  refine ⟨max n m + 1,ex2,fr2,H2,?_,q2⟩
  simp only [codeR]
  rw [codeR_le (runF_le (Nat.le_succ _)) (codeR_up (Nat.le_max_left n m) e)]
  exact codeR_le (runF_le (Nat.le_succ _)) (codeR_up (Nat.le_max_right n m) e2)
 | exit i =>
  refine ⟨n + 1,_,fr1,H1,?_,q⟩
  simp only [codeR]
  rw [codeR_le (runF_le (Nat.le_succ _)) e]
 | ret =>
  refine ⟨n + 1,_,fr1,H1,?_,q⟩
  simp only [codeR]
  rw [codeR_le (runF_le (Nat.le_succ _)) e]
theorem Wp.loop {a:AC} {Q:Ex → Fr → AH → Prop} (I:Nat → Fr → AH → Prop) (step:∀ k fr H,I k fr H → Wp E O a fr H (seqQ (fun fr' H'=>∃ j,j < k ∧ I j fr' H') Q)) (k:Nat) {fr:Fr} {H:AH} (h:I k fr H):Wp E O (.loop a) fr H Q:=by
 induction k using Nat.strongRecOn generalizing fr H with
 | _ k ih =>
  refine Wp.loop1 ((step k fr H h).mono ?_)
  intro ex fr' H' q
  cases ex with
  | normal=>obtain ⟨j,hj,hI⟩:=q; exact ih j hj hI
  | exit i=>exact q
  | ret=>exact q
theorem Wp.reg {l:List AO} {fr:Fr} {H:AH} {Q:Ex → Fr → AH → Prop} (h:Wo E O l fr H (Q .normal)):Wp E O (.reg l) fr H Q:=by
 obtain ⟨n,fr1,H1,e,q⟩:=h
 refine ⟨n + 1,_,fr1,H1,?_,q⟩
 simp only [codeR]
 rw [ops_le (runF_le (Nat.le_succ _)) e]
theorem Wo.nil {fr:Fr} {H:AH} {Q:Fr → AH → Prop} (h:Q fr H):Wo E O [] fr H Q:=⟨0,fr,H,rfl,h⟩
theorem Wo.cons {o:AO} {l:List AO} {fr:Fr} {H:AH} {Q:Fr → AH → Prop} (h:Wo1 E O o fr H (fun fr' H'=>Wo E O l fr' H' Q)):Wo E O (o :: l) fr H Q:=by
 obtain ⟨n,fr1,H1,e,m,fr2,H2,e2,q⟩:=h
 refine ⟨max n m,fr2,H2,?_,q⟩
 simp only [ops]
 rw [aone_le (runF_le (Nat.le_max_left n m)) e]
 exact ops_le (runF_le (Nat.le_max_right n m)) e2
theorem Wo1.val {o:AO} {fr:Fr} {H H':AH} {x:Value} {Q:Fr → AH → Prop} (hw:o.wanted fr = true) (h:aop o.o (X.ev fr) H = some (.v x,H')) (q:Q (fr.putO o.d x) H'):Wo1 E O o fr H Q :=
 ⟨0,_,_,aone_iff.2 ⟨x,rfl,.val hw h⟩,q⟩
theorem Wo1.off {o:AO} {fr:Fr} {H:AH} {Q:Fr → AH → Prop} (hw:o.wanted fr = false) (q:Q (fr.putO o.d undef) H):Wo1 E O o fr H Q :=
 ⟨0,_,_,aone_iff.2 ⟨undef,rfl,.off hw rfl rfl⟩,q⟩
theorem Wo1.call {o:AO} {fr:Fr} {H H1:AH} {f:Nat} {as:List Value} {Q:Fr → AH → Prop} (hw:o.wanted fr = true) (h:aop o.o (X.ev fr) H = some (.enter f as,H1)) (q:Ca E O f as H1 (fun x H'=>Q (fr.putO o.d x) H')):Wo1 E O o fr H Q:=by
 obtain ⟨n,x,H',e,q⟩:=q
 exact ⟨n,_,_,aone_iff.2 ⟨x,rfl,.call hw f as H1 h e⟩,q⟩
theorem Wp.regd {l:List AO} {ck:List (Nat × Nat × Nat)} {fr:Fr} {H:AH} {Q:Ex → Fr → AH → Prop}
  (h:Wt E O l fr H (fun ss=>(chain ((fr,H) :: ss) = true ∧ ck.all (chk1 l ((fr,H) :: ss)) = true) ∧ Q .normal (lastS (fr,H) ss).1 (lastS (fr,H) ss).2)):Wp E O (.regd l ck) fr H Q:=by
 obtain ⟨n,ss,e,⟨h1,h2⟩,q⟩:=h
 refine ⟨n + 1,_,_,_,?_,q⟩
 simp only [codeR,opsD]
 rw [opsT_le (runF_le (Nat.le_succ _)) e]
 simp [h1,h2]
theorem Wt.nil {fr:Fr} {H:AH} {Q:List (Fr × AH) → Prop} (h:Q []):Wt E O [] fr H Q:=⟨0,[],rfl,h⟩
theorem Wt.cons {o:AO} {l:List AO} {fr:Fr} {H:AH} {Q:List (Fr × AH) → Prop} (h:Wo1 E O o fr H (fun fr' H'=>Wt E O l fr' H' (fun ss=>Q ((fr',H') :: ss)))):Wt E O (o :: l) fr H Q:=by
 obtain ⟨n,fr1,H1,e,m,ss,e2,q⟩:=h
 refine ⟨max n m,_,?_,q⟩
 simp only [opsT]
 rw [aone_le (runF_le (Nat.le_max_left n m)) e]
 simp only
 rw [opsT_le (runF_le (Nat.le_max_right n m)) e2]
def retQ (r:List RS) (Q:Value → AH → Prop):Ex → Fr → AH → Prop
 | .exit _,_,_=>False
 | _,fr,H=>∃ vs,RS.all fr H r = some vs ∧ Q (outOf vs) H
theorem Ca.body {f:Nat} {F:AF} {as:List Value} {H:AH} {Q:Value → AH → Prop} (ho:O f = none) (he:E f = some F) (hl:as.length = F.np) (h:Wp E O F.body (Fr.of as) H (retQ F.res Q)):Ca E O f as H Q:=by
 obtain ⟨n,ex,fr1,H1,e,q⟩:=h
 cases ex with
 | exit i=>exact q.elim
 | normal =>
  obtain ⟨vs,h1,q⟩:=q
  refine ⟨n + 1,_,_,?_,q⟩
  simp only [runF,ho,he]
  rw [nb,decide_eq_true hl,cond_true,e]
  simp [h1]
 | ret =>
  obtain ⟨vs,h1,q⟩:=q
  refine ⟨n + 1,_,_,?_,q⟩
  simp only [runF,ho,he]
  rw [nb,decide_eq_true hl,cond_true,e]
  simp [h1]
theorem Ca.orc {f:Nat} {g:List Value → AH → Option (Value × AH)} {as:List Value} {H H':AH} {x:Value} {Q:Value → AH → Prop} (ho:O f = some g) (h:g as H = some (x,H')) (q:Q x H'):Ca E O f as H Q :=
 ⟨1,x,H',by simp [runF,ho,h],q⟩
end
end Go.Proofs.YtoijnpfpjpefgaaGreat.A
/- A text without what this claim does not need: AbsK. -/
set_option linter.unusedVariables false
set_option linter.unusedSimpArgs false
namespace Go.Proofs.YtoijnpfpjpefgaaGreat.A
open Go Go.RowKit
def memOf (W:World) (b:Nat):Option Blk:=match W.heap[b]? with
 | some (.cells cs _ _)=>some (.cells 1048576 cs.toList)
 | _=>none
def H0 (W:World):AH:=⟨memOf W,W.heap.size,W.heap.size,.nil⟩
def phi0 (W:World):Phi:=⟨W.heap.size,W.heap.size,fun b=>if b < W.heap.size then some ⟨b,0,0,1⟩ else none⟩
theorem H0_raw (W:World) (b:Nat):(H0 W).raw b = memOf W b:=rfl
theorem rel0 (W:World):Rel W (phi0 W) (H0 W) W where
 n0:=rfl
 le1:=Nat.le_refl _
 le2:=Nat.le_refl _
 c0:=rfl
 below:=Below.refl _ _
 oldm:=fun b hb=>if_pos hb
 oldc:=fun b z cs hb hg=>by
  rw [H0_raw] at hg
  unfold memOf at hg
  split at hg
  ·rename_i cs' e fz hw
   cases hg
   exact ⟨e,fz,by rw [hw]⟩
  ·cases hg
 cells:=fun b l z cs hb hl hg=>by
  have:¬ b < W.heap.size:=Nat.not_lt.2 hb
  simp only [phi0,if_neg this] at hl
  cases hl
 maps:=fun b l es hb hl hg=>by
  have:¬ b < W.heap.size:=Nat.not_lt.2 hb
  simp only [phi0,if_neg this] at hl
  cases hl
 inj:=fun b1 b2 l1 l2 hb1 hb2 h1 h2 _ _ _=>by
  have:¬ b1 < W.heap.size:=Nat.not_lt.2 hb1
  simp only [phi0,if_neg this] at h1
  cases h1
theorem fresh0 (W:World):Fresh (phi0 W) (H0 W):=fun b hb=>if_neg (Nat.not_lt.2 hb)
theorem calls_of_ca {P:Program} {E:Env} {O:Orc} (hm:P.follows .mixedOrders = true) (hE:EnvOk P E) (hO:OrcOk P O) {f:Nat} {as:List Value} {as':Array Value} {W:World} (hv:VL (phi0 W) as as'.toList)
  (h:Ca E O f as (H0 W) (fun x _=>x = .bool true)):Calls P f as' W fun e w'=>e = .returned (.bool true) ∧ Below W.heap.size W w':=by
 obtain ⟨n,x,H',e,rfl⟩:=h
 refine ((runF_ok hm hE hO n f as _ _ _ e).2 W (phi0 W) W as' (rel0 W) (fresh0 W) hv).mono ?_
 rintro e w' ⟨φ',v',rfl,hV,R,G⟩
 rw [hV.bool]
 exact ⟨rfl,R.below⟩
def Good (P:Program) (f:Nat) (F:AF):Prop:=∃ fn,P.funcs[f]? = some fn ∧ cFunc P fn = some F
def EtOk (P:Program) (g:Nat → Nat) (t:T (Option AF)):Prop:=∀ k F,t.get none k = some F → Good P (g k) F
theorem EtOk.nil {P:Program} {g:Nat → Nat}:EtOk P g .nil:=fun k F h=>by cases k <;> cases h
theorem EtOk.node {P:Program} {g:Nat → Nat} {v:Option AF} {l r:T (Option AF)} (h:∀ F,v = some F → Good P (g 0) F) (hl:EtOk P (fun k=>g (2 * k + 1)) l) (hr:EtOk P (fun k=>g (2 * k + 2)) r):EtOk P g (.node v l r):=by
 intro k F hk
 simp only [T.get,nb,Bool.cond_decide] at hk
 split at hk
 ·rename_i e
  subst e
  exact h F hk
 ·split at hk
  ·have:=hl _ F hk
   simp only at this
   rwa [show 2 * (k / 2) + 1 = k by omega] at this
  ·have:=hr _ F hk
   simp only at this
   rwa [show 2 * (k / 2 - 1) + 2 = k by omega] at this
end Go.Proofs.YtoijnpfpjpefgaaGreat.A
/- A text without what this claim does not need: AbsL. -/
set_option linter.unusedVariables false
set_option linter.unusedSimpArgs false
namespace Go.Proofs.YtoijnpfpjpefgaaGreat.A
open Go Go.RowKit
theorem Rel.later {w0 w w':World} {φ:Phi} {H:AH} (R:Rel w0 φ H w) (B:Below w.heap.size w w'):Rel w0 φ H w' where
 n0:=R.n0
 le1:=R.le1
 le2:=R.le2
 c0:=R.c0
 below:=⟨B.os.trans R.below.os,B.tape.trans R.below.tape,B.output.trans R.below.output,Nat.le_trans R.below.size B.size,fun k hk=>(B.block k (Nat.lt_of_lt_of_le hk R.below.size)).trans (R.below.block k hk)⟩
 oldm:=R.oldm
 oldc:=fun b z cs hb hg=>by
  obtain ⟨e,fz,hw⟩:=R.oldc b z cs hb hg
  exact ⟨e,fz,(B.block b (Array.getElem?_eq_some_iff.1 hw).1).trans hw⟩
 cells:=fun b l z cs hb hl hg=>by
  obtain ⟨h1,h2,h3,arr,e,h4,h5,h6⟩:=R.cells b l z cs hb hl hg
  exact ⟨h1,h2,h3,arr,e,(B.block l.c (Array.getElem?_eq_some_iff.1 h4).1).trans h4,h5,h6⟩
 maps:=fun b l es hb hl hg=>by
  obtain ⟨h1,es',ck,h4,h5⟩:=R.maps b l es hb hl hg
  exact ⟨h1,es',ck,(B.block l.c (Array.getElem?_eq_some_iff.1 h4).1).trans h4,h5⟩
 inj:=R.inj
def He:AH:=⟨fun _=>none,0,0,.nil⟩
def isTrue:Option (Value × AH) → Bool
 | some (.bool true,_)=>true
 | _=>false
theorem closed_sim {P:Program} {E:Env} {O:Orc} (hm:P.follows .mixedOrders = true) (hE:EnvOk P E) (hO:OrcOk P O) {n f:Nat} (h:isTrue (runF E O n f [] He) = true) (H:AH):HasF P f ∧ SimF P f [] H (.bool true) H:=by
 unfold isTrue at h
 split at h
 case h_2=>cases h
 rename_i H' e
 obtain ⟨h1,h2⟩:=runF_ok hm hE hO n f [] He (.bool true) H' e
 refine ⟨h1,?_⟩
 intro w0 φ w as' R R0 hv
 have Re:Rel w ⟨0,w.heap.size,fun _=>none⟩ He w:=⟨rfl,Nat.zero_le _,Nat.le_refl _,rfl,Below.refl _ _,fun b hb=>absurd hb (Nat.not_lt_zero _),fun b z cs hb=>absurd hb (Nat.not_lt_zero _),
  fun b l z cs _ hl=>(by cases hl),fun b l es _ hl=>(by cases hl),fun b1 b2 l1 l2 _ _ hl=>(by cases hl)⟩
 have hv':VL ⟨0,w.heap.size,fun _=>none⟩ [] as'.toList:=by
  have:=hv.length
  have e:as'.toList = []:=List.eq_nil_of_length_eq_zero this.symm
  rw [e]
  exact .nil
 refine (h2 w _ w as' Re (fun _ _=>rfl) hv').mono ?_
 rintro e w' ⟨φ',v',rfl,hV,R',G⟩
 rw [hV.bool]
 refine ⟨φ,_,rfl,.same rfl,R.later R'.below,Phi.le_refl _,rfl,rfl,Nat.le_refl _,fun b l h k=>(by rw [h] at k; cases k),R'.below.size,fun c hc hf=>⟨R'.below.block c hc,hf⟩⟩
def orc1 (f:Nat):Orc:=fun g=>bif Nat.beq g f then some (fun as H=>match as with | []=>some (.bool true,H) | _=>none) else none
theorem orc1_ok {P:Program} {E:Env} (hm:P.follows .mixedOrders = true) (hE:EnvOk P E) {n f:Nat} (h:isTrue (runF E (fun _=>none) n f [] He) = true):OrcOk P (orc1 f):=by
 intro g k hk as H v H' hv
 by_cases e:g = f
 case neg=>simp [orc1,nb,e] at hk
 subst e
 simp only [orc1,nb,decide_true,cond_true,Option.some.injEq] at hk
 subst hk
 cases as with
 | nil =>
  simp only [Option.some.injEq,Prod.mk.injEq] at hv
  obtain ⟨rfl,rfl⟩:=hv
  exact closed_sim hm hE (fun f g h=>by cases h) h H
 | cons a l=>simp at hv
end Go.Proofs.YtoijnpfpjpefgaaGreat.A
/- A text without what this claim does not need: AbsM. -/
set_option linter.unusedVariables false
set_option linter.unusedSimpArgs false
namespace Go.Proofs.YtoijnpfpjpefgaaGreat.A
open Go Go.RowKit
section
variable {E:Env} {O:Orc}
def resQ (E:Env) (O:Orc) (r:Option (ARes × AH)) (Q:Value → AH → Prop):Prop:=match r with
 | some (.v x,H)=>Q x H
 | some (.enter f as,H)=>Ca E O f as H Q
 | none=>False
theorem Wp_skip (fr:Fr) (H:AH) (Q:Ex → Fr → AH → Prop):Wp E O .skip fr H Q ↔ Q .normal fr H:=by
 refine ⟨fun ⟨n,ex,fr',H',e,q⟩=>?_,Wp.skip⟩
 cases n with
 | zero=>simp [codeR] at e
 | succ n=>simp only [codeR,Option.some.injEq,Prod.mk.injEq] at e; obtain ⟨rfl,rfl,rfl⟩:=e; exact q
theorem Wp_ret (fr:Fr) (H:AH) (Q:Ex → Fr → AH → Prop):Wp E O .ret fr H Q ↔ Q .ret fr H:=by
 refine ⟨fun ⟨n,ex,fr',H',e,q⟩=>?_,Wp.ret⟩
 cases n with
 | zero=>simp [codeR] at e
 | succ n=>simp only [codeR,Option.some.injEq,Prod.mk.injEq] at e; obtain ⟨rfl,rfl,rfl⟩:=e; exact q
theorem Wp_exit (i:Nat) (fr:Fr) (H:AH) (Q:Ex → Fr → AH → Prop):Wp E O (.exit i) fr H Q ↔ Q (.exit i) fr H:=by
 refine ⟨fun ⟨n,ex,fr',H',e,q⟩=>?_,Wp.exit⟩
 cases n with
 | zero=>simp [codeR] at e
 | succ n=>simp only [codeR,Option.some.injEq,Prod.mk.injEq] at e; obtain ⟨rfl,rfl,rfl⟩:=e; exact q
theorem Wp_reg (l:List AO) (fr:Fr) (H:AH) (Q:Ex → Fr → AH → Prop):Wp E O (.reg l) fr H Q ↔ Wo E O l fr H (Q .normal):=by
 refine ⟨fun ⟨n,ex,fr',H',e,q⟩=>?_,Wp.reg⟩
 cases n with
 | zero=>simp [codeR] at e
 | succ n =>
  simp only [codeR] at e
  cases h:ops (runF E O (n + 1)) l fr H with
  | none=>simp [h] at e
  | some r =>
   simp only [h,Option.some.injEq,Prod.mk.injEq] at e
   obtain ⟨rfl,rfl,rfl⟩:=e
   exact ⟨n + 1,_,_,h,q⟩
theorem Wp_seq (a b:AC) (fr:Fr) (H:AH) (Q:Ex → Fr → AH → Prop):Wp E O (.seq a b) fr H Q ↔ Wp E O a fr H (seqQ (fun fr' H'=>Wp E O b fr' H' Q) Q):=by
 refine ⟨fun ⟨n,ex,fr',H',e,q⟩=>?_,Wp.seq⟩
 cases n with
 | zero=>simp [codeR] at e
 | succ n =>
  simp only [codeR] at e
  cases h:codeR (runF E O (n + 1)) n a fr H with
  | none=>simp [h] at e
  | some r =>
   obtain ⟨ex1,fr1,H1⟩:=r
   have h':=codeR_mono (Nat.le_succ n) h
   cases ex1 with
   | normal =>
    simp only [h] at e
    exact ⟨n + 1,_,_,_,h',n + 1,_,_,_,codeR_mono (Nat.le_succ n) e,q⟩
   | exit i =>
    simp only [h,Option.some.injEq,Prod.mk.injEq] at e
    obtain ⟨rfl,rfl,rfl⟩:=e
    exact ⟨n + 1,_,_,_,h',q⟩
   | ret =>
    simp only [h,Option.some.injEq,Prod.mk.injEq] at e
    obtain ⟨rfl,rfl,rfl⟩:=e
    exact ⟨n + 1,_,_,_,h',q⟩
theorem Wp_block (i:Nat) (a:AC) (fr:Fr) (H:AH) (Q:Ex → Fr → AH → Prop):Wp E O (.block i a) fr H Q ↔ Wp E O a fr H (blockQ i Q):=by
 refine ⟨fun ⟨n,ex,fr',H',e,q⟩=>?_,Wp.block⟩
 cases n with
 | zero=>simp [codeR] at e
 | succ n =>
  simp only [codeR] at e
  cases h:codeR (runF E O (n + 1)) n a fr H with
  | none=>simp [h] at e
  | some r =>
   obtain ⟨ex1,fr1,H1⟩:=r
   have h':=codeR_mono (Nat.le_succ n) h
   refine ⟨n + 1,ex1,fr1,H1,h',?_⟩
   cases ex1 with
   | normal=>simp only [h,Option.some.injEq,Prod.mk.injEq] at e; obtain ⟨rfl,rfl,rfl⟩:=e; exact q
   | ret=>simp only [h,Option.some.injEq,Prod.mk.injEq] at e; obtain ⟨rfl,rfl,rfl⟩:=e; exact q
   | exit j =>
    simp only [h,nb,Bool.cond_decide] at e
    simp only [blockQ]
    by_cases hj:j = i
    ·rw [if_pos hj] at e ⊢
     simp only [Option.some.injEq,Prod.mk.injEq] at e; obtain ⟨rfl,rfl,rfl⟩:=e; exact q
    ·rw [if_neg hj] at e ⊢
     simp only [Option.some.injEq,Prod.mk.injEq] at e; obtain ⟨rfl,rfl,rfl⟩:=e; exact q
theorem Wo_cons1 (o:AO) (l:List AO) (fr:Fr) (H:AH) (Q:Fr → AH → Prop):Wo E O (o :: l) fr H Q ↔ Wo1 E O o fr H (fun fr' H'=>Wo E O l fr' H' Q):=by
 refine ⟨fun ⟨n,fr',H',e,q⟩=>?_,Wo.cons⟩
 simp only [ops] at e
 cases h:aone (runF E O n) o fr H with
 | none=>simp [h] at e
 | some r =>
  simp only [h] at e
  exact ⟨n,_,_,h,n,_,_,e,q⟩
theorem Wo1_on (o:AO) (fr:Fr) (H:AH) (Q:Fr → AH → Prop) (hw:o.wanted fr = true):Wo1 E O o fr H Q ↔ resQ E O (aop o.o (X.ev fr) H) (fun x H'=>Q (fr.putO o.d x) H'):=by
 constructor
 ·rintro ⟨n,fr',H',e,q⟩
  obtain ⟨x,rfl,h⟩:=aone_iff.1 e
  cases h with
  | off a _ _=>rw [hw] at a; cases a
  | val a b=>rw [b]; exact q
  | call a f as H1 b c=>rw [b]; exact ⟨n,x,H',c,q⟩
 ·intro h
  cases hr:aop o.o (X.ev fr) H with
  | none=>rw [hr] at h; exact h.elim
  | some r =>
   obtain ⟨res,H1⟩:=r
   rw [hr] at h
   cases res with
   | v x=>exact Wo1.val hw hr h
   | enter f as=>exact Wo1.call hw hr h
theorem Wo1_off (o:AO) (fr:Fr) (H:AH) (Q:Fr → AH → Prop) (hw:o.wanted fr = false):Wo1 E O o fr H Q ↔ Q (fr.putO o.d undef) H:=by
 constructor
 ·rintro ⟨n,fr',H',e,q⟩
  obtain ⟨x,rfl,h⟩:=aone_iff.1 e
  cases h with
  | off _ a b=>subst a; subst b; exact q
  | val a b=>rw [hw] at a; cases a
  | call a f as H1 b c=>rw [hw] at a; cases a
 ·exact fun h=>Wo1.off hw h
inductive Ko where
 | seq (b:AC)
 | blk (i:Nat)
def Un (E:Env) (O:Orc):Ex → List Ko → Fr → AH → (Ex → Fr → AH → Prop) → Prop
 | ex,[],fr,H,Q=>Q ex fr H
 | .normal,.seq b :: ks,fr,H,Q=>Wp E O b fr H (fun ex fr' H'=>Un E O ex ks fr' H' Q)
 | .normal,.blk _ :: ks,fr,H,Q=>Un E O .normal ks fr H Q
 | .exit j,.seq _ :: ks,fr,H,Q=>Un E O (.exit j) ks fr H Q
 | .exit j,.blk i :: ks,fr,H,Q=>if j = i then Un E O .normal ks fr H Q else Un E O (.exit j) ks fr H Q
 | .ret,_ :: ks,fr,H,Q=>Un E O .ret ks fr H Q
def Wk (E:Env) (O:Orc) (c:AC) (ks:List Ko) (fr:Fr) (H:AH) (Q:Ex → Fr → AH → Prop):Prop:=Wp E O c fr H (fun ex fr' H'=>Un E O ex ks fr' H' Q)
def Wr (E:Env) (O:Orc) (l:List AO) (ks:List Ko) (fr:Fr) (H:AH) (Q:Ex → Fr → AH → Prop):Prop:=Wo E O l fr H (fun fr' H'=>Un E O .normal ks fr' H' Q)
def okD (l:List AO) (ck:List (Nat × Nat × Nat)) (acc:List (Fr × AH)):Bool:=chain acc.reverse && ck.all (chk1 l acc.reverse)
def Wd (E:Env) (O:Orc) (l0:List AO) (ck:List (Nat × Nat × Nat)) (acc:List (Fr × AH)) (l:List AO) (ks:List Ko) (fr:Fr) (H:AH) (Q:Ex → Fr → AH → Prop):Prop :=
 Wt E O l fr H (fun ss=>okD l0 ck (ss.reverse ++ acc) = true ∧ Un E O .normal ks (lastS (fr,H) ss).1 (lastS (fr,H) ss).2 Q)
variable {ks:List Ko} {fr:Fr} {H:AH} {Q:Ex → Fr → AH → Prop}
@[simp] theorem Un_nil (ex:Ex):Un E O ex [] fr H Q = Q ex fr H:=by cases ex <;> rfl
@[simp] theorem Un_ns (b:AC):Un E O .normal (.seq b :: ks) fr H Q = Wk E O b ks fr H Q:=rfl
@[simp] theorem Un_nb (i:Nat):Un E O .normal (.blk i :: ks) fr H Q = Un E O .normal ks fr H Q:=rfl
@[simp] theorem Un_es (j:Nat) (b:AC):Un E O (.exit j) (.seq b :: ks) fr H Q = Un E O (.exit j) ks fr H Q:=rfl
theorem Un_eb (i j:Nat):Un E O (.exit j) (.blk i :: ks) fr H Q = if j = i then Un E O .normal ks fr H Q else Un E O (.exit j) ks fr H Q:=rfl
@[simp] theorem Un_eb1 (i:Nat):Un E O (.exit i) (.blk i :: ks) fr H Q = Un E O .normal ks fr H Q:=by rw [Un_eb,if_pos rfl]
@[simp] theorem Un_r (k:Ko):Un E O .ret (k :: ks) fr H Q = Un E O .ret ks fr H Q:=by cases k <;> rfl
@[simp] theorem Wk_skip:Wk E O .skip ks fr H Q ↔ Un E O .normal ks fr H Q:=Wp_skip _ _ _
@[simp] theorem Wk_ret:Wk E O .ret ks fr H Q ↔ Un E O .ret ks fr H Q:=Wp_ret _ _ _
@[simp] theorem Wk_exit (i:Nat):Wk E O (.exit i) ks fr H Q ↔ Un E O (.exit i) ks fr H Q:=Wp_exit _ _ _ _
@[simp] theorem Wk_reg (l:List AO):Wk E O (.reg l) ks fr H Q ↔ Wr E O l ks fr H Q:=Wp_reg _ _ _ _
@[simp] theorem Wk_seq (a b:AC):Wk E O (.seq a b) ks fr H Q ↔ Wk E O a (.seq b :: ks) fr H Q:=by
 unfold Wk
 rw [Wp_seq]
 have e:seqQ (fun fr' H'=>Wp E O b fr' H' fun ex fr' H'=>Un E O ex ks fr' H' Q) (fun ex fr' H'=>Un E O ex ks fr' H' Q) = fun ex fr' H'=>Un E O ex (.seq b :: ks) fr' H' Q:=by
  funext ex fr' H'
  cases ex <;> rfl
 rw [e]
@[simp] theorem Wk_block (i:Nat) (a:AC):Wk E O (.block i a) ks fr H Q ↔ Wk E O a (.blk i :: ks) fr H Q:=by
 unfold Wk
 rw [Wp_block]
 have e:blockQ i (fun ex fr' H'=>Un E O ex ks fr' H' Q) = fun ex fr' H'=>Un E O ex (.blk i :: ks) fr' H' Q:=by
  funext ex fr' H'
  cases ex <;> rfl
 rw [e]
theorem Wp_cond_iff {x:X} {a b:AC} {c:Bool} {Q:Ex → Fr → AH → Prop} (hx:x.ev fr = .bool c):Wp E O (.cond x a b) fr H Q ↔ Wp E O (bif c then a else b) fr H Q:=by
 refine ⟨?_,Wp.cond hx⟩
 rintro ⟨n,ex,fr',H',e,q⟩
 cases n with
 | zero=>simp [codeR] at e
 | succ n =>
  simp only [codeR,hx] at e
  cases c <;> exact ⟨n + 1,_,_,_,codeR_mono (Nat.le_succ n) e,q⟩
@[simp] theorem Wk_condT {x:X} {a b:AC} (hx:x.ev fr = .bool true):Wk E O (.cond x a b) ks fr H Q ↔ Wk E O a ks fr H Q:=Wp_cond_iff hx
@[simp] theorem Wk_condF {x:X} {a b:AC} (hx:x.ev fr = .bool false):Wk E O (.cond x a b) ks fr H Q ↔ Wk E O b ks fr H Q:=Wp_cond_iff hx
@[simp] theorem Wr_nil:Wr E O [] ks fr H Q ↔ Un E O .normal ks fr H Q:=by
 refine ⟨fun ⟨n,fr',H',e,q⟩=>?_,fun q=>Wo.nil q⟩
 simp only [ops,Option.some.injEq,Prod.mk.injEq] at e
 obtain ⟨rfl,rfl⟩:=e
 exact q
def AOp.isCall:AOp → Bool
 | .call _ _ | .callv _ _=>true
 | _=>false
def isV:Option (ARes × AH) → Bool
 | some (.v _,_)=>true
 | _=>false
def valOf:Option (ARes × AH) → Value
 | some (.v x,_)=>x
 | _=>undef
def heapOf (H:AH):Option (ARes × AH) → AH
 | some (_,H')=>H'
 | none=>H
@[simp] theorem isV_v (x:Value) (H:AH):isV (some (.v x,H)) = true:=rfl
@[simp] theorem valOf_v (x:Value) (H:AH):valOf (some (.v x,H)) = x:=rfl
@[simp] theorem heapOf_v (x:Value) (H H':AH):heapOf H (some (.v x,H')) = H':=rfl
theorem res_iff (r:Option (ARes × AH)) (hc:∀ f as H',r ≠ some (.enter f as,H')) (Q:Value → AH → Prop):resQ E O r Q ↔ isV r = true ∧ Q (valOf r) (heapOf H r):=by
 cases r with
 | none=>simp [resQ,isV]
 | some q =>
  obtain ⟨res,H'⟩:=q
  cases res with
  | v x=>simp [resQ]
  | enter f as=>exact absurd rfl (hc f as H')
theorem notCall {p:AOp} {ρ:X → Value} (h:p.isCall = false):∀ f as H',aop p ρ H ≠ some (.enter f as,H'):=by
  intro f as H' e
  cases p <;> first
    | (simp [AOp.isCall] at h; done)
    | (simp only [aop,Bool.cond_eq_ite] at e
       (repeat' split at e) <;> simp at e)
@[simp] theorem Wr_o (d:Nat) (p:AOp) (l:List AO) (h:p.isCall = false):Wr E O (⟨none,some d,p⟩ :: l) ks fr H Q ↔
  isV (aop p (X.ev fr) H) = true ∧ Wr E O l ks (fr.put d (valOf (aop p (X.ev fr) H))) (heapOf H (aop p (X.ev fr) H)) Q:=by
 unfold Wr
 rw [Wo_cons1,Wo1_on _ _ _ _ rfl,res_iff _ (notCall h)]; rfl
@[simp] theorem Wr_s (p:AOp) (l:List AO) (h:p.isCall = false):Wr E O (⟨none,none,p⟩ :: l) ks fr H Q ↔
  isV (aop p (X.ev fr) H) = true ∧ Wr E O l ks fr (heapOf H (aop p (X.ev fr) H)) Q:=by
 unfold Wr
 rw [Wo_cons1,Wo1_on _ _ _ _ rfl,res_iff _ (notCall h)]; rfl
@[simp] theorem Wr_on {t:Nat} {b:Bool} (d:Option Nat) (p:AOp) (l:List AO) (h:fr.get t = .bool b):Wr E O (⟨some (t,b),d,p⟩ :: l) ks fr H Q ↔ Wr E O (⟨none,d,p⟩ :: l) ks fr H Q:=by
 unfold Wr
 rw [Wo_cons1,Wo_cons1,Wo1_on _ _ _ _ (by simp [AO.wanted,h]),Wo1_on _ _ _ _ rfl]
theorem Wr_off {t:Nat} {b:Bool} (d:Option Nat) (p:AOp) (l:List AO) (h:fr.get t ≠ .bool b):Wr E O (⟨some (t,b),d,p⟩ :: l) ks fr H Q ↔ Wr E O l ks (fr.putO d undef) H Q:=by
 unfold Wr
 rw [Wo_cons1,Wo1_off]
 unfold AO.wanted
 dsimp only
 cases hq:fr.get t <;> first
  | rfl
  | (rw [hq] at h; simpa using h)
@[simp] theorem Wr_offT {t:Nat} (d:Nat) (p:AOp) (l:List AO) (h:fr.get t = .bool false):Wr E O (⟨some (t,true),some d,p⟩ :: l) ks fr H Q ↔ Wr E O l ks (fr.put d undef) H Q :=
 Wr_off _ _ _ (by rw [h]; simp)
@[simp] theorem Wr_offF {t:Nat} (d:Nat) (p:AOp) (l:List AO) (h:fr.get t = .bool true):Wr E O (⟨some (t,false),some d,p⟩ :: l) ks fr H Q ↔ Wr E O l ks (fr.put d undef) H Q :=
 Wr_off _ _ _ (by rw [h]; simp)
theorem Wr_call {d:Nat} {f:Nat} {as:List X} {l:List AO} (h:Ca E O f (as.map (X.ev fr)) H (fun x H'=>Wr E O l ks (fr.put d x) H' Q)):Wr E O (⟨none,some d,.call f as⟩ :: l) ks fr H Q:=by
 unfold Wr
 rw [Wo_cons1,Wo1_on _ _ _ _ rfl]
 exact h
theorem Wk_regd (l:List AO) (ck:List (Nat × Nat × Nat)) (h:Wd E O l ck [(fr,H)] l ks fr H Q):Wk E O (.regd l ck) ks fr H Q:=by
 refine Wp.regd ?_
 obtain ⟨n,ss,e,h1,h2⟩:=h
 unfold okD at h1
 simp only [List.reverse_append,List.reverse_cons,List.reverse_nil,List.nil_append,List.reverse_reverse,List.cons_append,Bool.and_eq_true] at h1
 exact ⟨n,ss,e,h1,h2⟩
variable {l0:List AO} {ck:List (Nat × Nat × Nat)} {acc:List (Fr × AH)}
@[simp] theorem Wd_nil:Wd E O l0 ck acc [] ks fr H Q ↔ okD l0 ck acc = true ∧ Un E O .normal ks fr H Q:=by
 refine ⟨fun ⟨n,ss,e,q⟩=>?_,fun q=>Wt.nil (by simpa [lastS] using q)⟩
 simp only [opsT,Option.some.injEq] at e
 subst e
 simpa [lastS] using q
theorem Wt_cons1 (o:AO) (l:List AO) (fr:Fr) (H:AH) (Q:List (Fr × AH) → Prop):Wt E O (o :: l) fr H Q ↔ Wo1 E O o fr H (fun fr' H'=>Wt E O l fr' H' (fun ss=>Q ((fr',H') :: ss))):=by
 refine ⟨fun ⟨n,ss,e,q⟩=>?_,Wt.cons⟩
 simp only [opsT] at e
 cases h:aone (runF E O n) o fr H with
 | none=>simp [h] at e
 | some r =>
  simp only [h] at e
  cases h2:opsT (runF E O n) l r.1 r.2 with
  | none=>simp [h2] at e
  | some ss' =>
   simp only [h2,Option.some.injEq] at e
   subst e
   exact ⟨n,_,_,h,n,_,h2,q⟩
theorem Wd_cons1 (o:AO) (l:List AO):Wd E O l0 ck acc (o :: l) ks fr H Q ↔ Wo1 E O o fr H (fun fr' H'=>Wd E O l0 ck ((fr',H') :: acc) l ks fr' H' Q):=by
 unfold Wd
 rw [Wt_cons1]
 simp only [lastS,List.reverse_cons,List.append_assoc,List.singleton_append]
@[simp] theorem Wd_o (d:Nat) (p:AOp) (l:List AO) (h:p.isCall = false):Wd E O l0 ck acc (⟨none,some d,p⟩ :: l) ks fr H Q ↔
  isV (aop p (X.ev fr) H) = true ∧ Wd E O l0 ck ((fr.put d (valOf (aop p (X.ev fr) H)),heapOf H (aop p (X.ev fr) H)) :: acc) l ks (fr.put d (valOf (aop p (X.ev fr) H))) (heapOf H (aop p (X.ev fr) H)) Q:=by
 rw [Wd_cons1,Wo1_on _ _ _ _ rfl,res_iff _ (notCall h)]; rfl
@[simp] theorem Wd_s (p:AOp) (l:List AO) (h:p.isCall = false):Wd E O l0 ck acc (⟨none,none,p⟩ :: l) ks fr H Q ↔
  isV (aop p (X.ev fr) H) = true ∧ Wd E O l0 ck ((fr,heapOf H (aop p (X.ev fr) H)) :: acc) l ks fr (heapOf H (aop p (X.ev fr) H)) Q:=by
 rw [Wd_cons1,Wo1_on _ _ _ _ rfl,res_iff _ (notCall h)]; rfl
@[simp] theorem Wd_on {t:Nat} {b:Bool} (d:Option Nat) (p:AOp) (l:List AO) (h:fr.get t = .bool b):Wd E O l0 ck acc (⟨some (t,b),d,p⟩ :: l) ks fr H Q ↔ Wd E O l0 ck acc (⟨none,d,p⟩ :: l) ks fr H Q:=by
 rw [Wd_cons1,Wd_cons1,Wo1_on _ _ _ _ (by simp [AO.wanted,h]),Wo1_on _ _ _ _ rfl]
theorem Wd_off {t:Nat} {b:Bool} (d:Option Nat) (p:AOp) (l:List AO) (h:fr.get t ≠ .bool b):Wd E O l0 ck acc (⟨some (t,b),d,p⟩ :: l) ks fr H Q ↔ Wd E O l0 ck ((fr.putO d undef,H) :: acc) l ks (fr.putO d undef) H Q:=by
 rw [Wd_cons1,Wo1_off]
 unfold AO.wanted
 dsimp only
 cases hq:fr.get t <;> first
  | rfl
  | (rw [hq] at h; simpa using h)
@[simp] theorem Wd_offT {t:Nat} (d:Nat) (p:AOp) (l:List AO) (h:fr.get t = .bool false):Wd E O l0 ck acc (⟨some (t,true),some d,p⟩ :: l) ks fr H Q ↔ Wd E O l0 ck ((fr.put d undef,H) :: acc) l ks (fr.put d undef) H Q :=
 Wd_off _ _ _ (by rw [h]; simp)
@[simp] theorem Wd_offF {t:Nat} (d:Nat) (p:AOp) (l:List AO) (h:fr.get t = .bool true):Wd E O l0 ck acc (⟨some (t,false),some d,p⟩ :: l) ks fr H Q ↔ Wd E O l0 ck ((fr.put d undef,H) :: acc) l ks (fr.put d undef) H Q :=
 Wd_off _ _ _ (by rw [h]; simp)
theorem Wd_call {d:Nat} {f:Nat} {as:List X} {l:List AO} (h:Ca E O f (as.map (X.ev fr)) H (fun x H'=>Wd E O l0 ck ((fr.put d x,H') :: acc) l ks (fr.put d x) H' Q)):Wd E O l0 ck acc (⟨none,some d,.call f as⟩ :: l) ks fr H Q:=by
 rw [Wd_cons1,Wo1_on _ _ _ _ rfl]
 exact h
theorem Ca.bodyK {f:Nat} {F:AF} {as:List Value} {H:AH} {Q:Value → AH → Prop} (ho:O f = none) (he:E f = some F) (hl:as.length = F.np) (h:Wk E O F.body [] (Fr.of as) H (retQ F.res Q)):Ca E O f as H Q :=
 Ca.body ho he hl (Wp.mono h fun ex fr H q=>by simpa using q)
def loopQ (E:Env) (O:Orc) (I:Nat → Fr → AH → Prop) (k:Nat) (ks:List Ko) (Q:Ex → Fr → AH → Prop):Ex → Fr → AH → Prop
 | .normal,fr,H=>∃ j,j < k ∧ I j fr H
 | .exit i,fr,H=>Un E O (.exit i) ks fr H Q
 | .ret,fr,H=>Un E O .ret ks fr H Q
@[simp] theorem loopQ_n (I:Nat → Fr → AH → Prop) (k:Nat):loopQ E O I k ks Q .normal fr H = ∃ j,j < k ∧ I j fr H:=rfl
@[simp] theorem loopQ_e (I:Nat → Fr → AH → Prop) (k i:Nat):loopQ E O I k ks Q (.exit i) fr H = Un E O (.exit i) ks fr H Q:=rfl
@[simp] theorem loopQ_r (I:Nat → Fr → AH → Prop) (k:Nat):loopQ E O I k ks Q .ret fr H = Un E O .ret ks fr H Q:=rfl
theorem Wk_loop {a:AC} (I:Nat → Fr → AH → Prop) (step:∀ k fr H,I k fr H → Wk E O a [] fr H (loopQ E O I k ks Q)) (k:Nat) (h:I k fr H):Wk E O (.loop a) ks fr H Q:=by
 refine Wp.loop I (fun k fr H hI=>?_) k h
 refine (step k fr H hI).mono ?_
 intro ex fr' H' q
 rw [Un_nil] at q
 cases ex <;> exact q
attribute [simp] Fr.get_put Fr.get_of X.ev outOf RS.all RS.get
@[simp] theorem retQ_n (r:List RS) (Q:Value → AH → Prop):retQ r Q .normal fr H = ∃ vs,RS.all fr H r = some vs ∧ Q (outOf vs) H:=rfl
@[simp] theorem retQ_r (r:List RS) (Q:Value → AH → Prop):retQ r Q .ret fr H = ∃ vs,RS.all fr H r = some vs ∧ Q (outOf vs) H:=rfl
@[simp] theorem isCall_mv (x:X):(AOp.mv x).isCall = false:=rfl
@[simp] theorem isCall_pick (c a b:X):(AOp.pick c a b).isCall = false:=rfl
@[simp] theorem isCall_alloc (z:List Value):(AOp.alloc z).isCall = false:=rfl
@[simp] theorem isCall_box (x:X):(AOp.box x).isCall = false:=rfl
@[simp] theorem isCall_build (z:List Value) (ps:List (Nat × Nat × X)):(AOp.build z ps).isCall = false:=rfl
@[simp] theorem isCall_bsl (len sz:Nat) (z:List Value) (ps:List (Nat × Nat × X)):(AOp.bsl len sz z ps).isCall = false:=rfl
@[simp] theorem isCall_ld (x:X):(AOp.ld x).isCall = false:=rfl
@[simp] theorem isCall_ldn (n:Nat) (x:X):(AOp.ldn n x).isCall = false:=rfl
@[simp] theorem isCall_st (n:Nat) (x v:X):(AOp.st n x v).isCall = false:=rfl
@[simp] theorem isCall_nilc (x:X):(AOp.nilc x).isCall = false:=rfl
@[simp] theorem isCall_bin (op:BinOp) (x y:X):(AOp.bin op x y).isCall = false:=rfl
@[simp] theorem isCall_eqk (k:Nat) (neg:Bool) (x y:X):(AOp.eqk k neg x y).isCall = false:=rfl
@[simp] theorem isCall_un (op:UnOp) (x:X):(AOp.un op x).isCall = false:=rfl
@[simp] theorem isCall_cvi (k:IntKind) (x:X):(AOp.cvi k x).isCall = false:=rfl
@[simp] theorem isCall_cvs (x:X):(AOp.cvs x).isCall = false:=rfl
@[simp] theorem isCall_mkf (f:Nat) (first cap:List X):(AOp.mkf f first cap).isCall = false:=rfl
@[simp] theorem isCall_mkmap:AOp.mkmap.isCall = false:=rfl
@[simp] theorem isCall_mksl (sz bytes:Nat) (z:List Value) (x:X):(AOp.mksl sz bytes z x).isCall = false:=rfl
@[simp] theorem isCall_sl (sz:Nat) (x:X) (lo hi mx:Option X):(AOp.sl sz x lo hi mx).isCall = false:=rfl
@[simp] theorem isCall_fa (off:Nat) (x:X):(AOp.fa off x).isCall = false:=rfl
@[simp] theorem isCall_ia (sz:Nat) (x i:X):(AOp.ia sz x i).isCall = false:=rfl
@[simp] theorem isCall_iaa (len sz:Nat) (x i:X):(AOp.iaa len sz x i).isCall = false:=rfl
@[simp] theorem isCall_ix (x i:X):(AOp.ix x i).isCall = false:=rfl
@[simp] theorem isCall_look (kk:Nat) (z:Value) (x k:X) (ok:Bool):(AOp.look kk z x k ok).isCall = false:=rfl
@[simp] theorem isCall_mup (kk:Nat) (x k v:X):(AOp.mup kk x k v).isCall = false:=rfl
@[simp] theorem isCall_ext (x:X) (i:Nat):(AOp.ext x i).isCall = false:=rfl
@[simp] theorem isCall_app (sz bytes:Nat) (s x:X):(AOp.app sz bytes s x).isCall = false:=rfl
@[simp] theorem isCall_copy (sz:Nat) (d s:X):(AOp.copy sz d s).isCall = false:=rfl
@[simp] theorem isCall_lens (x:X):(AOp.lens x).isCall = false:=rfl
@[simp] theorem isCall_lenl (x:X):(AOp.lenl x).isCall = false:=rfl
@[simp] theorem isCall_mki (t:Nat) (x:X):(AOp.mki t x).isCall = false:=rfl
@[simp] theorem isCall_mxl (x:X) (l:List X):(AOp.mxl x l).isCall = false:=rfl
@[simp] theorem isCall_mnl (x:X) (l:List X):(AOp.mnl x l).isCall = false:=rfl
@[simp] theorem isCall_eqs (neg:Bool) (offs:List (Nat × Nat)) (x y:X):(AOp.eqs neg offs x y).isCall = false:=rfl
@[simp] theorem aun_not (b:Bool):aun .not (.bool b) = some (.bool !b):=rfl
@[simp] theorem aun_neg (k:IntKind) (n:Int):aun .neg (.int k n) = some (.int k (k.wrap (0 - n))):=rfl
@[simp] theorem abin_add (k:IntKind) (a b:Int):abin .add (.int k a) (.int k b) = some (.int k (k.wrap (a + b))):=by simp [abin,intbin,ibin]
@[simp] theorem abin_sub (k:IntKind) (a b:Int):abin .sub (.int k a) (.int k b) = some (.int k (k.wrap (a - b))):=by simp [abin,intbin,ibin]
@[simp] theorem abin_mul (k:IntKind) (a b:Int):abin .mul (.int k a) (.int k b) = some (.int k (k.wrap (a * b))):=by simp [abin,intbin,ibin]
@[simp] theorem abin_eql (k:IntKind) (a b:Int):abin .eql (.int k a) (.int k b) = some (.bool (decide (a = b))):=by simp [abin,intbin,ibin]; rfl
@[simp] theorem abin_neq (k:IntKind) (a b:Int):abin .neq (.int k a) (.int k b) = some (.bool (!decide (a = b))):=by simp [abin,intbin,ibin]; rfl
@[simp] theorem abin_lss (k:IntKind) (a b:Int):abin .lss (.int k a) (.int k b) = some (.bool (decide (a < b))):=by simp [abin,intbin,ibin]
@[simp] theorem abin_leq (k:IntKind) (a b:Int):abin .leq (.int k a) (.int k b) = some (.bool (decide (a ≤ b))):=by simp [abin,intbin,ibin]
@[simp] theorem abin_gtr (k:IntKind) (a b:Int):abin .gtr (.int k a) (.int k b) = some (.bool (decide (a > b))):=by simp [abin,intbin,ibin]
@[simp] theorem abin_geq (k:IntKind) (a b:Int):abin .geq (.int k a) (.int k b) = some (.bool (decide (a ≥ b))):=by simp [abin,intbin,ibin]
def strEq (a b:ByteArray):Bool:=a.data.toList == b.data.toList
@[simp] theorem abin_seq (a b:ByteArray):abin .eql (.string a) (.string b) = some (.bool (strEq a b)):=rfl
@[simp] theorem abin_sne (a b:ByteArray):abin .neq (.string a) (.string b) = some (.bool (!strEq a b)):=rfl
theorem strEq_iff {a b:ByteArray}:strEq a b = true ↔ a = b:=by
 unfold strEq
 constructor
 ·intro h
  have:a.data.toList = b.data.toList:=by simpa using h
  exact ByteArray.ext (Array.toList_inj.1 this)
 ·rintro rfl; simp
def byteAt (s:ByteArray) (i:Nat):Int:=((s[i]?).getD 0).toNat
theorem aop_ix {x i:X} {ρ:X → Value} {H:AH} {s:ByteArray} {n:Nat} (hx:ρ x = .string s) (hi:ρ i = .int .i64 n) (h:n < s.size):aop (.ix x i) ρ H = some (.v (.int .u8 (byteAt s n)),H):=by
 simp only [aop,hx,hi]
 rw [if_pos (by omega)]
 simp only [Int.toNat_natCast]
 unfold byteAt
 have:s[n]? = some s[n]:=getElem?_pos s n h
 rw [this]
 rfl
end
end Go.Proofs.YtoijnpfpjpefgaaGreat.A
