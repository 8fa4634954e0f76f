/- The calculus as rules for simp. -/
import Derived.Test.YtoijnpfpjpefgaaGreatAbsL
set_option linter.unusedVariables false
set_option linter.unusedSimpArgs false
namespace Go.Proofs.YtoijnpfpjpefgaaGreat.A
open Go Go.RowKit
section
variable {E : Env} {O : Orc}
def resQ (E : Env) (O : Orc) (r : Option (ARes × AH)) (Q : Value → AH → Prop) : Prop := match r with
  | some (.v x, H) => Q x H
  | some (.enter f as, H) => Ca E O f as H Q
  | none => False
theorem Wp_skip (fr : Fr) (H : AH) (Q : Ex → Fr → AH → Prop) : Wp E O .skip fr H Q ↔ Q .normal fr H := by
  refine ⟨fun ⟨n, ex, fr', H', e, q⟩ => ?_, Wp.skip⟩
  cases n with
  | zero => simp [codeR] at e
  | succ n => simp only [codeR, Option.some.injEq, Prod.mk.injEq] at e; obtain ⟨rfl, rfl, rfl⟩ := e; exact q
theorem Wp_ret (fr : Fr) (H : AH) (Q : Ex → Fr → AH → Prop) : Wp E O .ret fr H Q ↔ Q .ret fr H := by
  refine ⟨fun ⟨n, ex, fr', H', e, q⟩ => ?_, Wp.ret⟩
  cases n with
  | zero => simp [codeR] at e
  | succ n => simp only [codeR, Option.some.injEq, Prod.mk.injEq] at e; obtain ⟨rfl, rfl, rfl⟩ := e; exact q
theorem Wp_exit (i : Nat) (fr : Fr) (H : AH) (Q : Ex → Fr → AH → Prop) : Wp E O (.exit i) fr H Q ↔ Q (.exit i) fr H := by
  refine ⟨fun ⟨n, ex, fr', H', e, q⟩ => ?_, Wp.exit⟩
  cases n with
  | zero => simp [codeR] at e
  | succ n => simp only [codeR, Option.some.injEq, Prod.mk.injEq] at e; obtain ⟨rfl, rfl, rfl⟩ := e; exact q
theorem Wp_reg (l : List AO) (fr : Fr) (H : AH) (Q : Ex → Fr → AH → Prop) : Wp E O (.reg l) fr H Q ↔ Wo E O l fr H (Q .normal) := by
  refine ⟨fun ⟨n, ex, fr', H', e, q⟩ => ?_, Wp.reg⟩
  cases n with
  | zero => simp [codeR] at e
  | succ n =>
    simp only [codeR] at e
    cases h : ops (runF E O (n + 1)) l fr H with
    | none => simp [h] at e
    | some r =>
      simp only [h, Option.some.injEq, Prod.mk.injEq] at e
      obtain ⟨rfl, rfl, rfl⟩ := e
      exact ⟨n + 1, _, _, h, q⟩
theorem Wp_seq (a b : AC) (fr : Fr) (H : AH) (Q : Ex → Fr → AH → Prop) : Wp E O (.seq a b) fr H Q ↔ Wp E O a fr H (seqQ (fun fr' H' => Wp E O b fr' H' Q) Q) := by
  refine ⟨fun ⟨n, ex, fr', H', e, q⟩ => ?_, Wp.seq⟩
  cases n with
  | zero => simp [codeR] at e
  | succ n =>
    simp only [codeR] at e
    cases h : codeR (runF E O (n + 1)) n a fr H with
    | none => simp [h] at e
    | some r =>
      obtain ⟨ex1, fr1, H1⟩ := r
      have h' := codeR_mono (Nat.le_succ n) h
      cases ex1 with
      | normal =>
        simp only [h] at e
        exact ⟨n + 1, _, _, _, h', n + 1, _, _, _, codeR_mono (Nat.le_succ n) e, q⟩
      | exit i =>
        simp only [h, Option.some.injEq, Prod.mk.injEq] at e
        obtain ⟨rfl, rfl, rfl⟩ := e
        exact ⟨n + 1, _, _, _, h', q⟩
      | ret =>
        simp only [h, Option.some.injEq, Prod.mk.injEq] at e
        obtain ⟨rfl, rfl, rfl⟩ := e
        exact ⟨n + 1, _, _, _, h', q⟩
theorem Wp_block (i : Nat) (a : AC) (fr : Fr) (H : AH) (Q : Ex → Fr → AH → Prop) : Wp E O (.block i a) fr H Q ↔ Wp E O a fr H (blockQ i Q) := by
  refine ⟨fun ⟨n, ex, fr', H', e, q⟩ => ?_, Wp.block⟩
  cases n with
  | zero => simp [codeR] at e
  | succ n =>
    simp only [codeR] at e
    cases h : codeR (runF E O (n + 1)) n a fr H with
    | none => simp [h] at e
    | some r =>
      obtain ⟨ex1, fr1, H1⟩ := r
      have h' := codeR_mono (Nat.le_succ n) h
      refine ⟨n + 1, ex1, fr1, H1, h', ?_⟩
      cases ex1 with
      | normal => simp only [h, Option.some.injEq, Prod.mk.injEq] at e; obtain ⟨rfl, rfl, rfl⟩ := e; exact q
      | ret => simp only [h, Option.some.injEq, Prod.mk.injEq] at e; obtain ⟨rfl, rfl, rfl⟩ := e; exact q
      | exit j =>
        simp only [h, nb, Bool.cond_decide] at e
        simp only [blockQ]
        by_cases hj : j = i
        · rw [if_pos hj] at e ⊢
          simp only [Option.some.injEq, Prod.mk.injEq] at e; obtain ⟨rfl, rfl, rfl⟩ := e; exact q
        · rw [if_neg hj] at e ⊢
          simp only [Option.some.injEq, Prod.mk.injEq] at e; obtain ⟨rfl, rfl, rfl⟩ := e; exact q
theorem Wo_nil (fr : Fr) (H : AH) (Q : Fr → AH → Prop) : Wo E O [] fr H Q ↔ Q fr H := by
  refine ⟨fun ⟨n, fr', H', e, q⟩ => ?_, Wo.nil⟩
  simp only [ops, Option.some.injEq, Prod.mk.injEq] at e
  obtain ⟨rfl, rfl⟩ := e
  exact q
theorem Wo_cons1 (o : AO) (l : List AO) (fr : Fr) (H : AH) (Q : Fr → AH → Prop) : Wo E O (o :: l) fr H Q ↔ Wo1 E O o fr H (fun fr' H' => Wo E O l fr' H' Q) := by
  refine ⟨fun ⟨n, fr', H', e, q⟩ => ?_, Wo.cons⟩
  simp only [ops] at e
  cases h : aone (runF E O n) o fr H with
  | none => simp [h] at e
  | some r =>
    simp only [h] at e
    exact ⟨n, _, _, h, n, _, _, e, q⟩
theorem Wo1_on (o : AO) (fr : Fr) (H : AH) (Q : Fr → AH → Prop) (hw : o.wanted fr = true) : Wo1 E O o fr H Q ↔ resQ E O (aop o.o (X.ev fr) H) (fun x H' => Q (fr.putO o.d x) H') := by
  constructor
  · rintro ⟨n, fr', H', e, q⟩
    obtain ⟨x, rfl, h⟩ := aone_iff.1 e
    cases h with
    | off a _ _ => rw [hw] at a; cases a
    | val a b => rw [b]; exact q
    | call a f as H1 b c => rw [b]; exact ⟨n, x, H', c, q⟩
  · intro h
    cases hr : aop o.o (X.ev fr) H with
    | none => rw [hr] at h; exact h.elim
    | some r =>
      obtain ⟨res, H1⟩ := r
      rw [hr] at h
      cases res with
      | v x => exact Wo1.val hw hr h
      | enter f as => exact Wo1.call hw hr h
theorem Wo1_off (o : AO) (fr : Fr) (H : AH) (Q : Fr → AH → Prop) (hw : o.wanted fr = false) : Wo1 E O o fr H Q ↔ Q (fr.putO o.d undef) H := by
  constructor
  · rintro ⟨n, fr', H', e, q⟩
    obtain ⟨x, rfl, h⟩ := aone_iff.1 e
    cases h with
    | off _ a b => subst a; subst b; exact q
    | val a b => rw [hw] at a; cases a
    | call a f as H1 b c => rw [hw] at a; cases a
  · exact fun h => Wo1.off hw h

/-! ### With the rest of the code as data -/
inductive Ko where
  | seq (b : AC)
  | blk (i : Nat)
def Un (E : Env) (O : Orc) : Ex → List Ko → Fr → AH → (Ex → Fr → AH → Prop) → Prop
  | ex, [], fr, H, Q => Q ex fr H
  | .normal, .seq b :: ks, fr, H, Q => Wp E O b fr H (fun ex fr' H' => Un E O ex ks fr' H' Q)
  | .normal, .blk _ :: ks, fr, H, Q => Un E O .normal ks fr H Q
  | .exit j, .seq _ :: ks, fr, H, Q => Un E O (.exit j) ks fr H Q
  | .exit j, .blk i :: ks, fr, H, Q => if j = i then Un E O .normal ks fr H Q else Un E O (.exit j) ks fr H Q
  | .ret, _ :: ks, fr, H, Q => Un E O .ret ks fr H Q
def Wk (E : Env) (O : Orc) (c : AC) (ks : List Ko) (fr : Fr) (H : AH) (Q : Ex → Fr → AH → Prop) : Prop := Wp E O c fr H (fun ex fr' H' => Un E O ex ks fr' H' Q)
def Wr (E : Env) (O : Orc) (l : List AO) (ks : List Ko) (fr : Fr) (H : AH) (Q : Ex → Fr → AH → Prop) : Prop := Wo E O l fr H (fun fr' H' => Un E O .normal ks fr' H' Q)
def okD (l : List AO) (ck : List (Nat × Nat × Nat)) (acc : List (Fr × AH)) : Bool := chain acc.reverse && ck.all (chk1 l acc.reverse)
/-- The rest of a region that draws its order; the states so far, the last first. -/
def Wd (E : Env) (O : Orc) (l0 : List AO) (ck : List (Nat × Nat × Nat)) (acc : List (Fr × AH)) (l : List AO) (ks : List Ko) (fr : Fr) (H : AH) (Q : Ex → Fr → AH → Prop) : Prop :=
  Wt E O l fr H (fun ss => okD l0 ck (ss.reverse ++ acc) = true ∧ Un E O .normal ks (lastS (fr, H) ss).1 (lastS (fr, H) ss).2 Q)
variable {ks : List Ko} {fr : Fr} {H : AH} {Q : Ex → Fr → AH → Prop}
@[simp] theorem Un_nil (ex : Ex) : Un E O ex [] fr H Q = Q ex fr H := by cases ex <;> rfl
@[simp] theorem Un_ns (b : AC) : Un E O .normal (.seq b :: ks) fr H Q = Wk E O b ks fr H Q := rfl
@[simp] theorem Un_nb (i : Nat) : Un E O .normal (.blk i :: ks) fr H Q = Un E O .normal ks fr H Q := rfl
@[simp] theorem Un_es (j : Nat) (b : AC) : Un E O (.exit j) (.seq b :: ks) fr H Q = Un E O (.exit j) ks fr H Q := rfl
theorem Un_eb (i j : Nat) : Un E O (.exit j) (.blk i :: ks) fr H Q = if j = i then Un E O .normal ks fr H Q else Un E O (.exit j) ks fr H Q := rfl
@[simp] theorem Un_eb1 (i : Nat) : Un E O (.exit i) (.blk i :: ks) fr H Q = Un E O .normal ks fr H Q := by rw [Un_eb, if_pos rfl]
@[simp] theorem Un_eb0 (i j : Nat) (h : j ≠ i) : Un E O (.exit j) (.blk i :: ks) fr H Q = Un E O (.exit j) ks fr H Q := by rw [Un_eb, if_neg h]
@[simp] theorem Un_r (k : Ko) : Un E O .ret (k :: ks) fr H Q = Un E O .ret ks fr H Q := by cases k <;> rfl
@[simp] theorem Wk_skip : Wk E O .skip ks fr H Q ↔ Un E O .normal ks fr H Q := Wp_skip _ _ _
@[simp] theorem Wk_ret : Wk E O .ret ks fr H Q ↔ Un E O .ret ks fr H Q := Wp_ret _ _ _
@[simp] theorem Wk_exit (i : Nat) : Wk E O (.exit i) ks fr H Q ↔ Un E O (.exit i) ks fr H Q := Wp_exit _ _ _ _
@[simp] theorem Wk_reg (l : List AO) : Wk E O (.reg l) ks fr H Q ↔ Wr E O l ks fr H Q := Wp_reg _ _ _ _
@[simp] theorem Wk_seq (a b : AC) : Wk E O (.seq a b) ks fr H Q ↔ Wk E O a (.seq b :: ks) fr H Q := by
  unfold Wk
  rw [Wp_seq]
  have e : seqQ (fun fr' H' => Wp E O b fr' H' fun ex fr' H' => Un E O ex ks fr' H' Q) (fun ex fr' H' => Un E O ex ks fr' H' Q) = fun ex fr' H' => Un E O ex (.seq b :: ks) fr' H' Q := by
    funext ex fr' H'
    cases ex <;> rfl
  rw [e]
@[simp] theorem Wk_block (i : Nat) (a : AC) : Wk E O (.block i a) ks fr H Q ↔ Wk E O a (.blk i :: ks) fr H Q := by
  unfold Wk
  rw [Wp_block]
  have e : blockQ i (fun ex fr' H' => Un E O ex ks fr' H' Q) = fun ex fr' H' => Un E O ex (.blk i :: ks) fr' H' Q := by
    funext ex fr' H'
    cases ex <;> rfl
  rw [e]
theorem Wk_cond {x : X} {a b : AC} {c : Bool} (hx : x.ev fr = .bool c) (h : c = true → Wk E O a ks fr H Q) (k : c = false → Wk E O b ks fr H Q) : Wk E O (.cond x a b) ks fr H Q := by
  refine Wp.cond hx ?_
  cases c
  · exact k rfl
  · exact h rfl
theorem Wp_cond_iff {x : X} {a b : AC} {c : Bool} {Q : Ex → Fr → AH → Prop} (hx : x.ev fr = .bool c) : Wp E O (.cond x a b) fr H Q ↔ Wp E O (bif c then a else b) fr H Q := by
  refine ⟨?_, Wp.cond hx⟩
  rintro ⟨n, ex, fr', H', e, q⟩
  cases n with
  | zero => simp [codeR] at e
  | succ n =>
    simp only [codeR, hx] at e
    cases c <;> exact ⟨n + 1, _, _, _, codeR_mono (Nat.le_succ n) e, q⟩
@[simp] theorem Wk_condT {x : X} {a b : AC} (hx : x.ev fr = .bool true) : Wk E O (.cond x a b) ks fr H Q ↔ Wk E O a ks fr H Q := Wp_cond_iff hx
@[simp] theorem Wk_condF {x : X} {a b : AC} (hx : x.ev fr = .bool false) : Wk E O (.cond x a b) ks fr H Q ↔ Wk E O b ks fr H Q := Wp_cond_iff hx
@[simp] theorem Wr_nil : Wr E O [] ks fr H Q ↔ Un E O .normal ks fr H Q := by
  refine ⟨fun ⟨n, fr', H', e, q⟩ => ?_, fun q => Wo.nil q⟩
  simp only [ops, Option.some.injEq, Prod.mk.injEq] at e
  obtain ⟨rfl, rfl⟩ := e
  exact q
def AOp.isCall : AOp → Bool
  | .call _ _ | .callv _ _ => true
  | _ => false
def isV : Option (ARes × AH) → Bool
  | some (.v _, _) => true
  | _ => false
def valOf : Option (ARes × AH) → Value
  | some (.v x, _) => x
  | _ => undef
def heapOf (H : AH) : Option (ARes × AH) → AH
  | some (_, H') => H'
  | none => H
@[simp] theorem isV_v (x : Value) (H : AH) : isV (some (.v x, H)) = true := rfl
@[simp] theorem valOf_v (x : Value) (H : AH) : valOf (some (.v x, H)) = x := rfl
@[simp] theorem heapOf_v (x : Value) (H H' : AH) : heapOf H (some (.v x, H')) = H' := rfl
theorem res_iff (r : Option (ARes × AH)) (hc : ∀ f as H', r ≠ some (.enter f as, H')) (Q : Value → AH → Prop) : resQ E O r Q ↔ isV r = true ∧ Q (valOf r) (heapOf H r) := by
  cases r with
  | none => simp [resQ, isV]
  | some q =>
    obtain ⟨res, H'⟩ := q
    cases res with
    | v x => simp [resQ]
    | enter f as => exact absurd rfl (hc f as H')
theorem notCall {p : AOp} {ρ : X → Value} (h : p.isCall = false) : ∀ f as H', aop p ρ H ≠ some (.enter f as, H') := by
  intro f as H' e
  cases p <;> first
    | (simp [AOp.isCall] at h; done)
    | (simp only [aop, Bool.cond_eq_ite] at e
       (repeat' split at e) <;> simp at e)
@[simp] theorem Wr_o (d : Nat) (p : AOp) (l : List AO) (h : p.isCall = false) : Wr E O (⟨none, some d, p⟩ :: l) ks fr H Q ↔
    isV (aop p (X.ev fr) H) = true ∧ Wr E O l ks (fr.put d (valOf (aop p (X.ev fr) H))) (heapOf H (aop p (X.ev fr) H)) Q := by
  unfold Wr
  rw [Wo_cons1, Wo1_on _ _ _ _ rfl, res_iff _ (notCall h)]; rfl
@[simp] theorem Wr_s (p : AOp) (l : List AO) (h : p.isCall = false) : Wr E O (⟨none, none, p⟩ :: l) ks fr H Q ↔
    isV (aop p (X.ev fr) H) = true ∧ Wr E O l ks fr (heapOf H (aop p (X.ev fr) H)) Q := by
  unfold Wr
  rw [Wo_cons1, Wo1_on _ _ _ _ rfl, res_iff _ (notCall h)]; rfl
@[simp] theorem Wr_on {t : Nat} {b : Bool} (d : Option Nat) (p : AOp) (l : List AO) (h : fr.get t = .bool b) : Wr E O (⟨some (t, b), d, p⟩ :: l) ks fr H Q ↔ Wr E O (⟨none, d, p⟩ :: l) ks fr H Q := by
  unfold Wr
  rw [Wo_cons1, Wo_cons1, Wo1_on _ _ _ _ (by simp [AO.wanted, h]), Wo1_on _ _ _ _ rfl]
theorem Wr_off {t : Nat} {b : Bool} (d : Option Nat) (p : AOp) (l : List AO) (h : fr.get t ≠ .bool b) : Wr E O (⟨some (t, b), d, p⟩ :: l) ks fr H Q ↔ Wr E O l ks (fr.putO d undef) H Q := by
  unfold Wr
  rw [Wo_cons1, Wo1_off]
  unfold AO.wanted
  dsimp only
  cases hq : fr.get t <;> first
    | rfl
    | (rw [hq] at h; simpa using h)
@[simp] theorem Wr_offT {t : Nat} (d : Nat) (p : AOp) (l : List AO) (h : fr.get t = .bool false) : Wr E O (⟨some (t, true), some d, p⟩ :: l) ks fr H Q ↔ Wr E O l ks (fr.put d undef) H Q :=
  Wr_off _ _ _ (by rw [h]; simp)
@[simp] theorem Wr_offF {t : Nat} (d : Nat) (p : AOp) (l : List AO) (h : fr.get t = .bool true) : Wr E O (⟨some (t, false), some d, p⟩ :: l) ks fr H Q ↔ Wr E O l ks (fr.put d undef) H Q :=
  Wr_off _ _ _ (by rw [h]; simp)
@[simp] theorem Wr_offU {t : Nat} {b : Bool} (d : Nat) (p : AOp) (l : List AO) (h : fr.get t = undef) : Wr E O (⟨some (t, b), some d, p⟩ :: l) ks fr H Q ↔ Wr E O l ks (fr.put d undef) H Q :=
  Wr_off _ _ _ (by rw [h]; simp [undef])
theorem Wr_call {d : Nat} {f : Nat} {as : List X} {l : List AO} (h : Ca E O f (as.map (X.ev fr)) H (fun x H' => Wr E O l ks (fr.put d x) H' Q)) : Wr E O (⟨none, some d, .call f as⟩ :: l) ks fr H Q := by
  unfold Wr
  rw [Wo_cons1, Wo1_on _ _ _ _ rfl]
  exact h
theorem Wr_scall {f : Nat} {as : List X} {l : List AO} (h : Ca E O f (as.map (X.ev fr)) H (fun x H' => Wr E O l ks fr H' Q)) : Wr E O (⟨none, none, .call f as⟩ :: l) ks fr H Q := by
  unfold Wr
  rw [Wo_cons1, Wo1_on _ _ _ _ rfl]
  exact h
/-! ### Regions that draw -/
theorem Wk_regd (l : List AO) (ck : List (Nat × Nat × Nat)) (h : Wd E O l ck [(fr, H)] l ks fr H Q) : Wk E O (.regd l ck) ks fr H Q := by
  refine Wp.regd ?_
  obtain ⟨n, ss, e, h1, h2⟩ := h
  unfold okD at h1
  simp only [List.reverse_append, List.reverse_cons, List.reverse_nil, List.nil_append, List.reverse_reverse, List.cons_append, Bool.and_eq_true] at h1
  exact ⟨n, ss, e, h1, h2⟩
variable {l0 : List AO} {ck : List (Nat × Nat × Nat)} {acc : List (Fr × AH)}
@[simp] theorem Wd_nil : Wd E O l0 ck acc [] ks fr H Q ↔ okD l0 ck acc = true ∧ Un E O .normal ks fr H Q := by
  refine ⟨fun ⟨n, ss, e, q⟩ => ?_, fun q => Wt.nil (by simpa [lastS] using q)⟩
  simp only [opsT, Option.some.injEq] at e
  subst e
  simpa [lastS] using q
theorem Wt_cons1 (o : AO) (l : List AO) (fr : Fr) (H : AH) (Q : List (Fr × AH) → Prop) : Wt E O (o :: l) fr H Q ↔ Wo1 E O o fr H (fun fr' H' => Wt E O l fr' H' (fun ss => Q ((fr', H') :: ss))) := by
  refine ⟨fun ⟨n, ss, e, q⟩ => ?_, Wt.cons⟩
  simp only [opsT] at e
  cases h : aone (runF E O n) o fr H with
  | none => simp [h] at e
  | some r =>
    simp only [h] at e
    cases h2 : opsT (runF E O n) l r.1 r.2 with
    | none => simp [h2] at e
    | some ss' =>
      simp only [h2, Option.some.injEq] at e
      subst e
      exact ⟨n, _, _, h, n, _, h2, q⟩
theorem Wd_cons1 (o : AO) (l : List AO) : Wd E O l0 ck acc (o :: l) ks fr H Q ↔ Wo1 E O o fr H (fun fr' H' => Wd E O l0 ck ((fr', H') :: acc) l ks fr' H' Q) := by
  unfold Wd
  rw [Wt_cons1]
  simp only [lastS, List.reverse_cons, List.append_assoc, List.singleton_append]
@[simp] theorem Wd_o (d : Nat) (p : AOp) (l : List AO) (h : p.isCall = false) : Wd E O l0 ck acc (⟨none, some d, p⟩ :: l) ks fr H Q ↔
    isV (aop p (X.ev fr) H) = true ∧ Wd E O l0 ck ((fr.put d (valOf (aop p (X.ev fr) H)), heapOf H (aop p (X.ev fr) H)) :: acc) l ks (fr.put d (valOf (aop p (X.ev fr) H))) (heapOf H (aop p (X.ev fr) H)) Q := by
  rw [Wd_cons1, Wo1_on _ _ _ _ rfl, res_iff _ (notCall h)]; rfl
@[simp] theorem Wd_s (p : AOp) (l : List AO) (h : p.isCall = false) : Wd E O l0 ck acc (⟨none, none, p⟩ :: l) ks fr H Q ↔
    isV (aop p (X.ev fr) H) = true ∧ Wd E O l0 ck ((fr, heapOf H (aop p (X.ev fr) H)) :: acc) l ks fr (heapOf H (aop p (X.ev fr) H)) Q := by
  rw [Wd_cons1, Wo1_on _ _ _ _ rfl, res_iff _ (notCall h)]; rfl
@[simp] theorem Wd_on {t : Nat} {b : Bool} (d : Option Nat) (p : AOp) (l : List AO) (h : fr.get t = .bool b) : Wd E O l0 ck acc (⟨some (t, b), d, p⟩ :: l) ks fr H Q ↔ Wd E O l0 ck acc (⟨none, d, p⟩ :: l) ks fr H Q := by
  rw [Wd_cons1, Wd_cons1, Wo1_on _ _ _ _ (by simp [AO.wanted, h]), Wo1_on _ _ _ _ rfl]
theorem Wd_off {t : Nat} {b : Bool} (d : Option Nat) (p : AOp) (l : List AO) (h : fr.get t ≠ .bool b) : Wd E O l0 ck acc (⟨some (t, b), d, p⟩ :: l) ks fr H Q ↔ Wd E O l0 ck ((fr.putO d undef, H) :: acc) l ks (fr.putO d undef) H Q := by
  rw [Wd_cons1, Wo1_off]
  unfold AO.wanted
  dsimp only
  cases hq : fr.get t <;> first
    | rfl
    | (rw [hq] at h; simpa using h)
@[simp] theorem Wd_offT {t : Nat} (d : Nat) (p : AOp) (l : List AO) (h : fr.get t = .bool false) : Wd E O l0 ck acc (⟨some (t, true), some d, p⟩ :: l) ks fr H Q ↔ Wd E O l0 ck ((fr.put d undef, H) :: acc) l ks (fr.put d undef) H Q :=
  Wd_off _ _ _ (by rw [h]; simp)
@[simp] theorem Wd_offF {t : Nat} (d : Nat) (p : AOp) (l : List AO) (h : fr.get t = .bool true) : Wd E O l0 ck acc (⟨some (t, false), some d, p⟩ :: l) ks fr H Q ↔ Wd E O l0 ck ((fr.put d undef, H) :: acc) l ks (fr.put d undef) H Q :=
  Wd_off _ _ _ (by rw [h]; simp)
@[simp] theorem Wd_offU {t : Nat} {b : Bool} (d : Nat) (p : AOp) (l : List AO) (h : fr.get t = undef) : Wd E O l0 ck acc (⟨some (t, b), some d, p⟩ :: l) ks fr H Q ↔ Wd E O l0 ck ((fr.put d undef, H) :: acc) l ks (fr.put d undef) H Q :=
  Wd_off _ _ _ (by rw [h]; simp [undef])
theorem Wd_call {d : Nat} {f : Nat} {as : List X} {l : List AO} (h : Ca E O f (as.map (X.ev fr)) H (fun x H' => Wd E O l0 ck ((fr.put d x, H') :: acc) l ks (fr.put d x) H' Q)) : Wd E O l0 ck acc (⟨none, some d, .call f as⟩ :: l) ks fr H Q := by
  rw [Wd_cons1, Wo1_on _ _ _ _ rfl]
  exact h
/-! ### Functions and loops -/
theorem Ca.bodyK {f : Nat} {F : AF} {as : List Value} {H : AH} {Q : Value → AH → Prop} (ho : O f = none) (he : E f = some F) (hl : as.length = F.np) (h : Wk E O F.body [] (Fr.of as) H (retQ F.res Q)) : Ca E O f as H Q :=
  Ca.body ho he hl (Wp.mono h fun ex fr H q => by simpa using q)
/-- What must hold behind a loop's body. -/
def loopQ (E : Env) (O : Orc) (I : Nat → Fr → AH → Prop) (k : Nat) (ks : List Ko) (Q : Ex → Fr → AH → Prop) : Ex → Fr → AH → Prop
  | .normal, fr, H => ∃ j, j < k ∧ I j fr H
  | .exit i, fr, H => Un E O (.exit i) ks fr H Q
  | .ret, fr, H => Un E O .ret ks fr H Q
@[simp] theorem loopQ_n (I : Nat → Fr → AH → Prop) (k : Nat) : loopQ E O I k ks Q .normal fr H = ∃ j, j < k ∧ I j fr H := rfl
@[simp] theorem loopQ_e (I : Nat → Fr → AH → Prop) (k i : Nat) : loopQ E O I k ks Q (.exit i) fr H = Un E O (.exit i) ks fr H Q := rfl
@[simp] theorem loopQ_r (I : Nat → Fr → AH → Prop) (k : Nat) : loopQ E O I k ks Q .ret fr H = Un E O .ret ks fr H Q := rfl
theorem Wk_loop {a : AC} (I : Nat → Fr → AH → Prop) (step : ∀ k fr H, I k fr H → Wk E O a [] fr H (loopQ E O I k ks Q)) (k : Nat) (h : I k fr H) : Wk E O (.loop a) ks fr H Q := by
  refine Wp.loop I (fun k fr H hI => ?_) k h
  refine (step k fr H hI).mono ?_
  intro ex fr' H' q
  rw [Un_nil] at q
  cases ex <;> exact q
attribute [simp] Fr.get_put Fr.get_of X.ev outOf RS.all RS.get
@[simp] theorem retQ_n (r : List RS) (Q : Value → AH → Prop) : retQ r Q .normal fr H = ∃ vs, RS.all fr H r = some vs ∧ Q (outOf vs) H := rfl
@[simp] theorem retQ_r (r : List RS) (Q : Value → AH → Prop) : retQ r Q .ret fr H = ∃ vs, RS.all fr H r = some vs ∧ Q (outOf vs) H := rfl
@[simp] theorem isCall_mv (x : X) : (AOp.mv x).isCall = false := rfl
@[simp] theorem isCall_pick (c a b : X) : (AOp.pick c a b).isCall = false := rfl
@[simp] theorem isCall_alloc (z : List Value) : (AOp.alloc z).isCall = false := rfl
@[simp] theorem isCall_box (x : X) : (AOp.box x).isCall = false := rfl
@[simp] theorem isCall_build (z : List Value) (ps : List (Nat × Nat × X)) : (AOp.build z ps).isCall = false := rfl
@[simp] theorem isCall_bsl (len sz : Nat) (z : List Value) (ps : List (Nat × Nat × X)) : (AOp.bsl len sz z ps).isCall = false := rfl
@[simp] theorem isCall_ld (x : X) : (AOp.ld x).isCall = false := rfl
@[simp] theorem isCall_ldn (n : Nat) (x : X) : (AOp.ldn n x).isCall = false := rfl
@[simp] theorem isCall_st (n : Nat) (x v : X) : (AOp.st n x v).isCall = false := rfl
@[simp] theorem isCall_nilc (x : X) : (AOp.nilc x).isCall = false := rfl
@[simp] theorem isCall_bin (op : BinOp) (x y : X) : (AOp.bin op x y).isCall = false := rfl
@[simp] theorem isCall_eqk (k : Nat) (neg : Bool) (x y : X) : (AOp.eqk k neg x y).isCall = false := rfl
@[simp] theorem isCall_un (op : UnOp) (x : X) : (AOp.un op x).isCall = false := rfl
@[simp] theorem isCall_cvi (k : IntKind) (x : X) : (AOp.cvi k x).isCall = false := rfl
@[simp] theorem isCall_cvs (x : X) : (AOp.cvs x).isCall = false := rfl
@[simp] theorem isCall_mkf (f : Nat) (first cap : List X) : (AOp.mkf f first cap).isCall = false := rfl
@[simp] theorem isCall_mkmap : AOp.mkmap.isCall = false := rfl
@[simp] theorem isCall_mksl (sz bytes : Nat) (z : List Value) (x : X) : (AOp.mksl sz bytes z x).isCall = false := rfl
@[simp] theorem isCall_sl (sz : Nat) (x : X) (lo hi mx : Option X) : (AOp.sl sz x lo hi mx).isCall = false := rfl
@[simp] theorem isCall_fa (off : Nat) (x : X) : (AOp.fa off x).isCall = false := rfl
@[simp] theorem isCall_ia (sz : Nat) (x i : X) : (AOp.ia sz x i).isCall = false := rfl
@[simp] theorem isCall_iaa (len sz : Nat) (x i : X) : (AOp.iaa len sz x i).isCall = false := rfl
@[simp] theorem isCall_ix (x i : X) : (AOp.ix x i).isCall = false := rfl
@[simp] theorem isCall_look (kk : Nat) (z : Value) (x k : X) (ok : Bool) : (AOp.look kk z x k ok).isCall = false := rfl
@[simp] theorem isCall_mup (kk : Nat) (x k v : X) : (AOp.mup kk x k v).isCall = false := rfl
@[simp] theorem isCall_ext (x : X) (i : Nat) : (AOp.ext x i).isCall = false := rfl
@[simp] theorem isCall_app (sz bytes : Nat) (s x : X) : (AOp.app sz bytes s x).isCall = false := rfl
@[simp] theorem isCall_copy (sz : Nat) (d s : X) : (AOp.copy sz d s).isCall = false := rfl
@[simp] theorem isCall_lens (x : X) : (AOp.lens x).isCall = false := rfl
@[simp] theorem isCall_lenl (x : X) : (AOp.lenl x).isCall = false := rfl
@[simp] theorem isCall_mki (t : Nat) (x : X) : (AOp.mki t x).isCall = false := rfl
@[simp] theorem isCall_mxl (x : X) (l : List X) : (AOp.mxl x l).isCall = false := rfl
@[simp] theorem isCall_mnl (x : X) (l : List X) : (AOp.mnl x l).isCall = false := rfl
@[simp] theorem isCall_eqs (neg : Bool) (offs : List (Nat × Nat)) (x y : X) : (AOp.eqs neg offs x y).isCall = false := rfl

/-! ### Operators on whole numbers -/
@[simp] theorem aun_not (b : Bool) : aun .not (.bool b) = some (.bool !b) := rfl
@[simp] theorem aun_neg (k : IntKind) (n : Int) : aun .neg (.int k n) = some (.int k (k.wrap (0 - n))) := rfl
@[simp] theorem abin_add (k : IntKind) (a b : Int) : abin .add (.int k a) (.int k b) = some (.int k (k.wrap (a + b))) := by simp [abin, intbin, ibin]
@[simp] theorem abin_sub (k : IntKind) (a b : Int) : abin .sub (.int k a) (.int k b) = some (.int k (k.wrap (a - b))) := by simp [abin, intbin, ibin]
@[simp] theorem abin_mul (k : IntKind) (a b : Int) : abin .mul (.int k a) (.int k b) = some (.int k (k.wrap (a * b))) := by simp [abin, intbin, ibin]
@[simp] theorem abin_eql (k : IntKind) (a b : Int) : abin .eql (.int k a) (.int k b) = some (.bool (decide (a = b))) := by simp [abin, intbin, ibin]; rfl
@[simp] theorem abin_neq (k : IntKind) (a b : Int) : abin .neq (.int k a) (.int k b) = some (.bool (!decide (a = b))) := by simp [abin, intbin, ibin]; rfl
@[simp] theorem abin_lss (k : IntKind) (a b : Int) : abin .lss (.int k a) (.int k b) = some (.bool (decide (a < b))) := by simp [abin, intbin, ibin]
@[simp] theorem abin_leq (k : IntKind) (a b : Int) : abin .leq (.int k a) (.int k b) = some (.bool (decide (a ≤ b))) := by simp [abin, intbin, ibin]
@[simp] theorem abin_gtr (k : IntKind) (a b : Int) : abin .gtr (.int k a) (.int k b) = some (.bool (decide (a > b))) := by simp [abin, intbin, ibin]
@[simp] theorem abin_geq (k : IntKind) (a b : Int) : abin .geq (.int k a) (.int k b) = some (.bool (decide (a ≥ b))) := by simp [abin, intbin, ibin]
/-! ### Texts -/
def strEq (a b : ByteArray) : Bool := a.data.toList == b.data.toList
@[simp] theorem abin_seq (a b : ByteArray) : abin .eql (.string a) (.string b) = some (.bool (strEq a b)) := rfl
@[simp] theorem abin_sne (a b : ByteArray) : abin .neq (.string a) (.string b) = some (.bool (!strEq a b)) := rfl
theorem strEq_iff {a b : ByteArray} : strEq a b = true ↔ a = b := by
  unfold strEq
  constructor
  · intro h
    have : a.data.toList = b.data.toList := by simpa using h
    exact ByteArray.ext (Array.toList_inj.1 this)
  · rintro rfl; simp
def byteAt (s : ByteArray) (i : Nat) : Int := ((s[i]?).getD 0).toNat
theorem aop_ix {x i : X} {ρ : X → Value} {H : AH} {s : ByteArray} {n : Nat} (hx : ρ x = .string s) (hi : ρ i = .int .i64 n) (h : n < s.size) : aop (.ix x i) ρ H = some (.v (.int .u8 (byteAt s n)), H) := by
  simp only [aop, hx, hi]
  rw [if_pos (by omega)]
  simp only [Int.toNat_natCast]
  unfold byteAt
  have : s[n]? = some s[n] := getElem?_pos s n h
  rw [this]
  rfl
end
end Go.Proofs.YtoijnpfpjpefgaaGreat.A
