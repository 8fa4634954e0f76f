/- Code and calls: the model follows the machine. Regions that draw their order: AbsC. -/
import Derived.Test.YtoijnpfpjpefgaaGreatAbsA
import Derived.Deep.LoopGhost
import Derived.Orders
set_option linter.unusedVariables false
set_option linter.unusedSimpArgs false
namespace Go.Proofs.YtoijnpfpjpefgaaGreat.A
open Go Go.RowKit
section
variable {P : Program}

/-- What a call of the machine says of the model's call. -/
def SimF (P : Program) (f : Nat) (as : List Value) (H : AH) (v : Value) (H' : AH) : Prop :=
  ∀ (w0 : World) (φ : Phi) (w : World) (as' : Array Value), Rel w0 φ H w → Fresh φ H → VL φ as as'.toList →
    Calls P f as' w fun e w' => ∃ φ' v', e = .returned v' ∧ V φ' v v' ∧ Rel w0 φ' H' w' ∧ Grow φ H w φ' H' w'
def CallOk (P : Program) (call : Cl) : Prop := ∀ f as H v H', call f as H = some (v, H') → HasF P f ∧ SimF P f as H v H'

theorem V.bool_back {φ : Phi} {v : Value} {b : Bool} (h : V φ v (.bool b)) : v = .bool b := by
  cases h; rfl
theorem wanted_ok {φ : Phi} {fr : Fr} {a : Act} (F : FrR φ fr a) {opsA : Array Oper} {o : Oper} {g : Option (Nat × Bool)} {d : Option Nat} {p : AOp} (hg : cGuard opsA o.guard = some g) :
    Region.wanted o (yielded opsA a.tmps) = AO.wanted ⟨g, d, p⟩ fr := by
  unfold Region.wanted AO.wanted
  cases hq : o.guard with
  | none => rw [hq] at hg; simp [cGuard] at hg; subst hg; rfl
  | some jb =>
    obtain ⟨j, b⟩ := jb
    rw [hq] at hg
    simp only [cGuard] at hg
    cases ht : (opsA[j]?).bind (·.dst) with
    | none => simp [ht] at hg
    | some t =>
      simp [ht] at hg
      subst hg
      dsimp only
      have hv := F t
      have hy : yielded opsA a.tmps j = match a.tmps[t]? with | some (.bool b) => some b | _ => none := by
        unfold yielded
        rw [ht]
        rfl
      rw [hy]
      cases hfr : fr.get t with
      | bool c =>
        rw [hfr] at hv
        have := hv.bool
        have h2 : a.tmps[t]? = some (.bool c) := by
          cases h3 : a.tmps[t]? with
          | none => simp [h3, undef] at this
          | some u => simp [h3] at this; rw [this]
        rw [h2]
        simp
      | _ =>
        have : ∀ c, a.tmps[t]? ≠ some (.bool c) := by
          intro c hc
          have h2 : a.tmps.getD t undef = .bool c := by simp [hc]
          rw [h2] at hv
          have := hv.bool_back
          rw [this] at hfr
          cases hfr
        dsimp only
        cases h3 : a.tmps[t]? with
        | none => rfl
        | some u => cases u <;> first | rfl | exact absurd h3 (this _)

theorem enter_eff {p : AOp} {ρ : X → Value} {H H' : AH} {f : Nat} {as : List Value} (h : aop p ρ H = some (.enter f as, H')) : knd p = .eff := by
  cases p <;> first
    | rfl
    | (exfalso
       simp only [aop, Bool.cond_eq_ite] at h
       (repeat' split at h) <;> simp at h)
theorem oneSim {call : Cl} (hcall : CallOk P call) {nt : Nat} {opsA : Array Oper} {i : Nat} {o : Oper} {ao : AO} (hi : opsA[i]? = some o) (hc : cAO P nt opsA o = some ao)
    {w0 w : World} {φ : Phi} {H H' : AH} {fr fr' : Fr} {a : Act} (F : FrR φ fr a) (R : Rel w0 φ H w) (h00 : φ.m H.nx = none) (hfr : knd ao.o = .eff → Fresh φ H) (hs : a.tmps.size = nt) (hd : a.defers = []) (h : aone call ao fr H = some (fr', H'))
    {Q : Exit → Act → World → Prop} {K : Act → World → Prop}
    (hK : ∀ φ' v v' w', Rel w0 φ' H' w' → Grow φ H w φ' H' w' → V φ' v v' → fr' = fr.putO o.dst v → FrR φ' fr' (a.put o.dst v') → (a.put o.dst v').tmps.size = nt → (a.put o.dst v').defers = [] → K (a.put o.dst v') w') :
    wpOp P opsA Q i K a w := by
  unfold wpOp
  simp only [hi]
  unfold cAO at hc
  split at hc
  case h_2 => cases hc
  rename_i p g hp hg
  obtain ⟨hdst, hc⟩ := bif_some hc
  cases hc
  have hdst' : ∀ n, o.dst = some n → n < a.tmps.size := by
    intro n hn
    rw [hn] at hdst
    rw [hs]
    simpa [dstOk] using hdst
  have hput : ∀ v, (a.put o.dst v).tmps.size = nt := by
    intro v
    cases hq : o.dst <;> simp [Act.put, hs]
  have hputd : ∀ v, (a.put o.dst v).defers = [] := by
    intro v
    cases hq : o.dst <;> simp [Act.put, hd]
  have hw := wanted_ok F (o := o) (d := o.dst) (p := p) hg
  rw [hw]
  unfold aone at h
  cases hwt : AO.wanted ⟨g, o.dst, p⟩ fr with
  | false =>
    simp only [hwt, cond_false, Option.some.injEq, Prod.mk.injEq] at h
    obtain ⟨rfl, rfl⟩ := h
    simp only [Bool.false_eq_true, if_false]
    exact hK φ undef undef w R (Grow.refl _ _ _) (undefV _) rfl (F.putO hdst' (undefV _)) (hput _) (hputd _)
  | true =>
    simp only [hwt, cond_true] at h
    simp only [if_true]
    left
    unfold Oper.wp
    cases hop : aop p (X.ev fr) H with
    | none => simp [hop] at h
    | some rr =>
      obtain ⟨res, H1⟩ := rr
      simp only [hop] at h
      cases res with
      | v x =>
        simp only [Option.some.injEq, Prod.mk.injEq] at h
        obtain ⟨rfl, rfl⟩ := h
        obtain ⟨φ', w', nx, e1, R', G, hn⟩ := opSim F R h00 hp hop (fun f as h => by cases h)
        rw [e1]
        rcases hn with ⟨x', rfl, hv⟩ | ⟨rfl, rfl⟩
        · rw [Oper.upon_value]
          exact hK φ' x x' w' R' G hv rfl ((F.mono G.le).putO hdst' hv) (hput _) (hputd _)
        · rw [Oper.upon_skip]
          exact hK φ' undef undef w' R' G (undefV _) rfl ((F.mono G.le).putO hdst' (undefV _)) (hput _) (hputd _)
      | enter f as =>
        simp only at h
        cases hcl : call f as H1 with
        | none => simp [hcl] at h
        | some vv =>
          obtain ⟨x, H2⟩ := vv
          simp only [hcl, Option.some.injEq, Prod.mk.injEq] at h
          obtain ⟨rfl, rfl⟩ := h
          obtain ⟨hf, hsim⟩ := hcall f as H1 x H2 hcl
          obtain ⟨φ', w', nx, e1, R', G, as', rfl, hn⟩ := opSim F R h00 hp hop (fun f' as' h => by cases h; exact hf)
          rw [e1, Oper.upon_enter]
          refine (hsim w0 φ' w' as' R' (G.fresh (hfr (enter_eff hop))) hn).mono ?_
          rintro e w2 ⟨φ2, v', rfl, hv, R2, G2⟩
          exact hK φ2 x v' w2 R2 (G.trans G2) hv rfl ((F.mono (G.trans G2).le).putO hdst' hv) (hput _) (hputd _)

def exOf : Ex → Exit
  | .normal => .normal
  | .exit i => .exit i
  | .ret => .ret
/-- What stands behind a piece of code. -/
def Post (w0 : World) (φ : Phi) (w : World) (H : AH) (nt : Nat) (ex : Ex) (fr' : Fr) (H' : AH) (e : Exit) (a' : Act) (w' : World) : Prop :=
  e = exOf ex ∧ ∃ φ', Rel w0 φ' H' w' ∧ Grow φ H w φ' H' w' ∧ FrR φ' fr' a' ∧ a'.tmps.size = nt ∧ a'.defers = []

theorem opsSim {call : Cl} (hcall : CallOk P call) {nt : Nat} {opsA : Array Oper} {w0 : World} {Q : Exit → Act → World → Prop} : ∀ (l : List Oper) (aos : List AO) (k : Nat) {w : World} {φ : Phi} {H H' : AH} {fr fr' : Fr} {a : Act},
    cAOs P nt opsA l = some aos → (∀ j o, l[j]? = some o → opsA[k + j]? = some o) → ops call aos fr H = some (fr', H') → FrR φ fr a → Rel w0 φ H w → Fresh φ H → a.tmps.size = nt → a.defers = [] →
    (∀ φ' a' w', Rel w0 φ' H' w' → Grow φ H w φ' H' w' → FrR φ' fr' a' → a'.tmps.size = nt → a'.defers = [] → Q .normal a' w') → wpOps P opsA Q (List.range' k l.length) a w
  | [], aos, k, w, φ, H, H', fr, fr', a, hc, _, h, F, R, R0, hs, hd, hQ => by
    simp [cAOs] at hc
    subst hc
    simp only [ops, Option.some.injEq, Prod.mk.injEq] at h
    obtain ⟨rfl, rfl⟩ := h
    exact hQ φ a w R (Grow.refl _ _ _) F hs hd
  | o :: l, aos, k, w, φ, H, H', fr, fr', a, hc, hi, h, F, R, R0, hs, hd, hQ => by
    simp only [cAOs] at hc
    cases ho : cAO P nt opsA o with
    | none => simp [ho] at hc
    | some ao =>
      cases hl : cAOs P nt opsA l with
      | none => simp [ho, hl] at hc
      | some m =>
        simp [ho, hl] at hc
        subst hc
        simp only [ops] at h
        cases h1 : aone call ao fr H with
        | none => simp [h1] at h
        | some r =>
          obtain ⟨fr1, H1⟩ := r
          simp only [h1] at h
          simp only [List.length_cons, List.range'_succ, wpOps_cons]
          refine oneSim hcall (by simpa using hi 0 o (by simp)) ho F R (R0 _ (Nat.le_refl _)) (fun _ => R0) hs hd h1 ?_
          intro φ1 v v' w1 R1 G1 _ _ F1 hs1 hd1
          refine opsSim hcall l m (k + 1) hl (fun j o' hj => by have := hi (j + 1) o' (by simpa using hj); rwa [show k + (j + 1) = k + 1 + j by omega] at this) h F1 R1 (G1.fresh R0) hs1 hd1 ?_
          intro φ2 a2 w2 R2 G2 F2 hs2 hd2
          exact hQ φ2 a2 w2 R2 (G1.trans G2) F2 hs2 hd2

/-- The rows of a region that draws. -/
def rowsA (l : List AO) (dp : List (List Nat)) : List Nat → List (Nat × Nat) → List Row
  | [], _ => []
  | j :: r, am => match nth l j, nth dp j with
    | some o, some d => ⟨o, knd o.o, j, d, maskOf am d⟩ :: rowsA l dp r ((j, maskOf am d) :: am)
    | _, _ => []
theorem rowsK_eq {α : Type} (l : List AO) (dp : List (List Nat)) : ∀ (ord : List Nat) (am : List (Nat × Nat)) (k : List Row → α), rowsK l dp ord am k = k (rowsA l dp ord am)
  | [], am, k => rfl
  | j :: r, am, k => by
    simp only [rowsK, rowsA]
    cases hl : nth l j with
    | none => rfl
    | some o =>
      cases hd : nth dp j with
      | none => rfl
      | some d =>
        simp only [force_eq]
        rw [rowsK_eq l dp r]
theorem cDraw_rows {nt id : Nat} {opsA : Array Oper} {ac : AC} (h : cCode P nt (.region id opsA true) = some ac) :
    ∃ l ord, cAOs P nt opsA opsA.toList = some l ∧ rowsOk l.length (rowsA l (opsA.toList.map dps) ord []) = true ∧
      ac = .regd ((rowsA l (opsA.toList.map dps) ord []).map (·.o)) (consD 0 (rowsA l (opsA.toList.map dps) ord [])) := by
  simp only [cCode] at h
  cases hl : cAOs P nt opsA opsA.toList with
  | none => simp [hl] at h
  | some l =>
    simp only [hl, cDraw, rowsK_eq] at h
    obtain ⟨h1, h2⟩ := bif_some h
    cases h2
    exact ⟨l, _, rfl, h1, rfl⟩
theorem cDraw_regd {nt id : Nat} {opsA : Array Oper} {ac : AC} (h : cCode P nt (.region id opsA true) = some ac) : ∃ l ck, ac = .regd l ck := by
  obtain ⟨_, _, _, _, e⟩ := cDraw_rows h
  exact ⟨_, _, e⟩

/-- A region that draws its order. -/
def DrawOk (P : Program) (call : Cl) : Prop := ∀ (nt : Nat) (id : Nat) (opsA : Array Oper) (ac : AC), cCode P nt (.region id opsA true) = some ac → ∀ (l : List AO) (ck : List (Nat × Nat × Nat)), ac = .regd l ck →
  ∀ (w0 w : World) (φ : Phi) (H H' : AH) (fr fr' : Fr) (a : Act), opsD call l ck fr H = some (fr', H') → FrR φ fr a → Rel w0 φ H w → Fresh φ H → a.tmps.size = nt → a.defers = [] →
    (Code.region id opsA true).wp P (Post w0 φ w H nt .normal fr' H') a w

theorem codeR_mono {call : Cl} : ∀ {n m : Nat} {c : AC} {fr : Fr} {H : AH} {r : Ex × Fr × AH}, n ≤ m → codeR call n c fr H = some r → codeR call m c fr H = some r := by
  intro n
  induction n with
  | zero => intro m c fr H r _ h; simp [codeR] at h
  | succ n ih =>
    intro m c fr H r hm h
    obtain ⟨m, rfl⟩ : ∃ k, m = k + 1 := ⟨m - 1, by omega⟩
    have hm' : n ≤ m := by omega
    cases c with
    | seq a b =>
      simp only [codeR] at h ⊢
      cases h1 : codeR call n a fr H with
      | none => simp [h1] at h
      | some q =>
        rw [ih hm' h1]
        obtain ⟨ex, fr1, H1⟩ := q
        cases ex <;> simp only [h1] at h ⊢ <;> first
          | exact ih hm' h
          | exact h
    | cond x a b =>
      simp only [codeR] at h ⊢
      cases hx : x.ev fr <;> simp only [hx] at h ⊢ <;> first
        | (cases h; done)
        | skip
      rename_i t
      cases t <;> exact ih hm' h
    | block i a =>
      simp only [codeR] at h ⊢
      cases h1 : codeR call n a fr H with
      | none => simp [h1] at h
      | some q =>
        rw [ih hm' h1]
        obtain ⟨ex, fr1, H1⟩ := q
        cases ex <;> simp only [h1] at h ⊢ <;> exact h
    | loop a =>
      simp only [codeR] at h ⊢
      cases h1 : codeR call n a fr H with
      | none => simp [h1] at h
      | some q =>
        rw [ih hm' h1]
        obtain ⟨ex, fr1, H1⟩ := q
        cases ex <;> simp only [h1] at h ⊢ <;> first
          | exact ih hm' h
          | exact h
    | _ => simpa only [codeR] using h
theorem codeSim {call : Cl} (hcall : CallOk P call) (hdraw : DrawOk P call) {nt : Nat} {w0 : World} : ∀ (m : Nat) (c : Code) (ac : AC) {w : World} {φ : Phi} {H H' : AH} {fr fr' : Fr} {a : Act} {ex : Ex},
    cCode P nt c = some ac → codeR call m ac fr H = some (ex, fr', H') → FrR φ fr a → Rel w0 φ H w → Fresh φ H → a.tmps.size = nt → a.defers = [] → c.wp P (Post w0 φ w H nt ex fr' H') a w := by
  intro m
  induction m with
  | zero => intro c ac w φ H H' fr fr' a ex _ h; simp [codeR] at h
  | succ m ih =>
    intro c ac w φ H H' fr fr' a ex hc h F R R0 hs hd
    cases c with
    | skip =>
      simp [cCode] at hc
      subst hc
      simp only [codeR, Option.some.injEq, Prod.mk.injEq] at h
      obtain ⟨rfl, rfl, rfl⟩ := h
      exact wp_skip ⟨rfl, φ, R, Grow.refl _ _ _, F, hs, hd⟩
    | region id opsA draw =>
      cases draw with
      | false =>
        simp only [cCode] at hc
        cases hl : cAOs P nt opsA opsA.toList with
        | none => simp [hl] at hc
        | some l =>
          simp [hl] at hc
          subst hc
          simp only [codeR] at h
          cases h1 : ops call l fr H with
          | none => simp [h1] at h
          | some r =>
            obtain ⟨fr1, H1⟩ := r
            simp only [h1, Option.some.injEq, Prod.mk.injEq] at h
            obtain ⟨rfl, rfl, rfl⟩ := h
            refine wp_region ?_
            have := opsSim (Q := Post w0 φ w H nt .normal fr1 H1) hcall opsA.toList l 0 hl (fun j o hj => by simpa using hj) h1 F R R0 hs hd (fun φ' a' w' R' G F' hs' hd' => ⟨rfl, φ', R', G, F', hs', hd'⟩)
            rwa [Array.length_toList, ← List.range_eq_range'] at this
      | true =>
        have hc0 := hc
        obtain ⟨l, ck, hacq⟩ := cDraw_regd hc
        rw [hacq] at h
        simp only [codeR] at h
        split at h
        case h_2 => cases h
        rename_i fr1 H1 h1
        simp only [Option.some.injEq, Prod.mk.injEq] at h
        obtain ⟨rfl, rfl, rfl⟩ := h
        exact hdraw nt id opsA _ hc0 _ _ hacq w0 w φ H H1 fr fr1 a h1 F R R0 hs hd
    | seq x y =>
      simp only [cCode] at hc
      cases hx : cCode P nt x with
      | none => simp [hx] at hc
      | some ax =>
        cases hy : cCode P nt y with
        | none => simp [hx, hy] at hc
        | some ay =>
          simp [hx, hy] at hc
          subst hc
          simp only [codeR] at h
          refine wp_seq ?_
          cases h1 : codeR call m ax fr H with
          | none => simp [h1] at h
          | some r =>
            obtain ⟨ex1, fr1, H1⟩ := r
            have w1 := ih x ax hx h1 F R R0 hs hd
            cases ex1 with
            | normal =>
              simp only [h1] at h
              refine wp_mono w1 ?_
              rintro e a1 w1 ⟨rfl, φ1, R1, G1, F1, hs1, hd1⟩
              refine wp_mono (ih y ay hy h F1 R1 (G1.fresh R0) hs1 hd1) ?_
              rintro e a2 w2 ⟨he, φ2, R2, G2, F2, hs2, hd2⟩
              exact ⟨he, φ2, R2, G1.trans G2, F2, hs2, hd2⟩
            | exit i =>
              simp only [h1, Option.some.injEq, Prod.mk.injEq] at h
              obtain ⟨rfl, rfl, rfl⟩ := h
              refine wp_mono w1 ?_
              rintro e a1 w1 ⟨rfl, q⟩
              exact ⟨rfl, q⟩
            | ret =>
              simp only [h1, Option.some.injEq, Prod.mk.injEq] at h
              obtain ⟨rfl, rfl, rfl⟩ := h
              refine wp_mono w1 ?_
              rintro e a1 w1 ⟨rfl, q⟩
              exact ⟨rfl, q⟩
    | cond x y z =>
      simp only [cCode] at hc
      split at hc
      case h_2 => cases hc
      rename_i xx ay az hx hy hz
      cases hc
      simp only [codeR] at h
      have hv := cX_V F hx
      cases hq : xx.ev fr <;> simp [hq] at h
      rename_i b
      rw [hq] at hv
      refine wp_cond hv.bool ?_
      cases b
      · simp only [Bool.false_eq_true, if_false]
        exact ih z az hz h F R R0 hs hd
      · simp only [if_true]
        exact ih y ay hy h F R R0 hs hd
    | block i x =>
      simp only [cCode] at hc
      cases hx : cCode P nt x with
      | none => simp [hx] at hc
      | some ax =>
        simp [hx] at hc
        subst hc
        simp only [codeR] at h
        refine wp_block ?_
        cases h1 : codeR call m ax fr H with
        | none => simp [h1] at h
        | some r =>
          obtain ⟨ex1, fr1, H1⟩ := r
          have w1 := ih x ax hx h1 F R R0 hs hd
          refine wp_mono w1 ?_
          rintro e a1 w3 ⟨rfl, q⟩
          cases ex1 with
          | normal =>
            simp only [h1, Option.some.injEq, Prod.mk.injEq] at h
            obtain ⟨rfl, rfl, rfl⟩ := h
            exact ⟨rfl, q⟩
          | ret =>
            simp only [h1, Option.some.injEq, Prod.mk.injEq] at h
            obtain ⟨rfl, rfl, rfl⟩ := h
            exact ⟨rfl, q⟩
          | exit j =>
            simp only [h1, nb, Bool.cond_decide] at h
            show Exit.inBlock i _ (.exit j) a1 w3
            simp only [Exit.inBlock]
            by_cases hj : j = i
            · rw [if_pos hj] at h ⊢
              simp only [Option.some.injEq, Prod.mk.injEq] at h
              obtain ⟨rfl, rfl, rfl⟩ := h
              exact ⟨rfl, q⟩
            · rw [if_neg hj] at h ⊢
              simp only [Option.some.injEq, Prod.mk.injEq] at h
              obtain ⟨rfl, rfl, rfl⟩ := h
              exact ⟨rfl, q⟩
    | loop x =>
      simp only [cCode] at hc
      cases hx : cCode P nt x with
      | none => simp [hx] at hc
      | some ax =>
        simp [hx] at hc
        subst hc
        refine wp_loop_ghost (fun n a1 w1 => n ≤ m + 1 ∧ ∃ fr1 H1 φ1, codeR call n (.loop ax) fr1 H1 = some (ex, fr', H') ∧ FrR φ1 fr1 a1 ∧ Rel w0 φ1 H1 w1 ∧ Grow φ H w φ1 H1 w1 ∧ a1.tmps.size = nt ∧ a1.defers = []) (m + 1) ⟨Nat.le_refl _, fr, H, φ, h, F, R, Grow.refl _ _ _, hs, hd⟩ ?_
        rintro n a1 w1 ⟨hn, fr1, H1, φ1, h1, F1, R1, G1, hs1, hd1⟩
        cases n with
        | zero => simp [codeR] at h1
        | succ n =>
          simp only [codeR] at h1
          cases h2 : codeR call n ax fr1 H1 with
          | none => simp [h2] at h1
          | some r =>
            obtain ⟨ex2, fr2, H2⟩ := r
            have mono : codeR call m ax fr1 H1 = some (ex2, fr2, H2) := codeR_mono (by omega) h2
            have w2 := ih x ax hx mono F1 R1 (G1.fresh R0) hs1 hd1
            refine wp_mono w2 ?_
            rintro e a2 w2 ⟨rfl, φ2, R2, G2, F2, hs2, hd2⟩
            cases ex2 with
            | normal =>
              simp only [h2] at h1
              exact ⟨n, by omega, by omega, fr2, H2, φ2, h1, F2, R2, G1.trans G2, hs2, hd2⟩
            | exit j =>
              simp only [h2, Option.some.injEq, Prod.mk.injEq] at h1
              obtain ⟨rfl, rfl, rfl⟩ := h1
              exact ⟨rfl, φ2, R2, G1.trans G2, F2, hs2, hd2⟩
            | ret =>
              simp only [h2, Option.some.injEq, Prod.mk.injEq] at h1
              obtain ⟨rfl, rfl, rfl⟩ := h1
              exact ⟨rfl, φ2, R2, G1.trans G2, F2, hs2, hd2⟩
    | exit i =>
      simp [cCode] at hc
      subst hc
      simp only [codeR, Option.some.injEq, Prod.mk.injEq] at h
      obtain ⟨rfl, rfl, rfl⟩ := h
      exact wp_exit ⟨rfl, φ, R, Grow.refl _ _ _, F, hs, hd⟩
    | ret =>
      simp [cCode] at hc
      subst hc
      simp only [codeR, Option.some.injEq, Prod.mk.injEq] at h
      obtain ⟨rfl, rfl, rfl⟩ := h
      exact wp_ret ⟨rfl, φ, R, Grow.refl _ _ _, F, hs, hd⟩
    | _ => simp [cCode] at hc
end
end Go.Proofs.YtoijnpfpjpefgaaGreat.A
