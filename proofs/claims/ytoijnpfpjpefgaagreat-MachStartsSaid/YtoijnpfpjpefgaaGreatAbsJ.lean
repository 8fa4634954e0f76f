/- A calculus for the machine: what code comes to, without the counts. -/
import Derived.Test.YtoijnpfpjpefgaaGreatAbsI
set_option linter.unusedVariables false
set_option linter.unusedSimpArgs false
namespace Go.Proofs.YtoijnpfpjpefgaaGreat.A
open Go

/-! ### More fuel -/
def ClLe (c d : Cl) : Prop := ∀ f as H r, c f as H = some r → d f as H = some r
theorem aone_le {c d : Cl} (h : ClLe c d) {o : AO} {fr : Fr} {H : AH} {r : Fr × AH} (k : aone c o fr H = some r) : aone d o fr H = some r := by
  obtain ⟨fr', H'⟩ := r
  obtain ⟨x, e, k⟩ := aone_iff.1 k
  refine aone_iff.2 ⟨x, e, ?_⟩
  cases k with
  | off a b c => exact .off a b c
  | val a b => exact .val a b
  | call a f as H1 b c => exact .call a f as H1 b (h _ _ _ _ c)
theorem ops_le {c d : Cl} (h : ClLe c d) : ∀ {l : List AO} {fr : Fr} {H : AH} {r : Fr × AH}, ops c l fr H = some r → ops d l fr H = some r
  | [], fr, H, r, k => k
  | o :: l, fr, H, r, k => by
    simp only [ops] at k ⊢
    cases h1 : aone c o fr H with
    | none => simp [h1] at k
    | some q =>
      rw [aone_le h h1]
      simp only [h1] at k
      exact ops_le h k
theorem opsT_le {c d : Cl} (h : ClLe c d) : ∀ {l : List AO} {fr : Fr} {H : AH} {r : List (Fr × AH)}, opsT c l fr H = some r → opsT d l fr H = some r
  | [], fr, H, r, k => k
  | o :: l, fr, H, r, k => by
    simp only [opsT] at k ⊢
    cases h1 : aone c o fr H with
    | none => simp [h1] at k
    | some q =>
      rw [aone_le h h1]
      simp only [h1] at k ⊢
      cases h2 : opsT c l q.1 q.2 with
      | none => simp [h2] at k
      | some ss => rw [opsT_le h h2]; simpa [h2] using k
theorem codeR_le {c d : Cl} (h : ClLe c d) : ∀ {n : Nat} {a : AC} {fr : Fr} {H : AH} {r : Ex × Fr × AH}, codeR c n a fr H = some r → codeR d n a fr H = some r := by
  intro n
  induction n with
  | zero => intro a fr H r k; simp [codeR] at k
  | succ n ih =>
    intro a fr H r k
    cases a with
    | reg l =>
      simp only [codeR] at k ⊢
      cases h1 : ops c l fr H with
      | none => simp [h1] at k
      | some q => rw [ops_le h h1]; simpa [h1] using k
    | regd l ck =>
      simp only [codeR, opsD] at k ⊢
      cases h1 : opsT c l fr H with
      | none => simp [h1] at k
      | some q => rw [opsT_le h h1]; simpa [h1] using k
    | seq a b =>
      simp only [codeR] at k ⊢
      cases h1 : codeR c n a fr H with
      | none => simp [h1] at k
      | some q =>
        rw [ih h1]
        obtain ⟨ex, fr1, H1⟩ := q
        cases ex <;> simp only [h1] at k ⊢ <;> first
          | exact ih k
          | exact k
    | cond x a b =>
      simp only [codeR] at k ⊢
      cases hx : x.ev fr <;> simp only [hx] at k ⊢ <;> first
        | (cases k; done)
        | skip
      rename_i t
      cases t <;> exact ih k
    | block i a =>
      simp only [codeR] at k ⊢
      cases h1 : codeR c n a fr H with
      | none => simp [h1] at k
      | some q =>
        rw [ih h1]
        obtain ⟨ex, fr1, H1⟩ := q
        cases ex <;> simp only [h1] at k ⊢ <;> exact k
    | loop a =>
      simp only [codeR] at k ⊢
      cases h1 : codeR c n a fr H with
      | none => simp [h1] at k
      | some q =>
        rw [ih h1]
        obtain ⟨ex, fr1, H1⟩ := q
        cases ex <;> simp only [h1] at k ⊢ <;> first
          | exact ih k
          | exact k
    | _ => simpa only [codeR] using k
theorem runF_succ {E : Env} {O : Orc} : ∀ n, ClLe (runF E O n) (runF E O (n + 1))
  | 0 => fun f as H r k => by simp [runF] at k
  | n + 1 => fun f as H r k => by
    have ih := runF_succ (E := E) (O := O) n
    rw [runF] at k ⊢
    cases ho : O f with
    | some g => simpa [ho] using k
    | none =>
      simp only [ho] at k ⊢
      cases he : E f with
      | none => simp [he] at k
      | some F =>
        simp only [he] at k ⊢
        obtain ⟨hl, k⟩ := bif_some k
        rw [hl, cond_true]
        cases h1 : codeR (runF E O n) n F.body (Fr.of as) H with
        | none => simp [h1] at k
        | some q =>
          rw [codeR_mono (Nat.le_succ n) (codeR_le ih h1)]
          simpa [h1] using k
theorem runF_le {E : Env} {O : Orc} {n m : Nat} (h : n ≤ m) : ClLe (runF E O n) (runF E O m) := by
  induction m with
  | zero => obtain rfl : n = 0 := by omega
            exact fun _ _ _ _ k => k
  | succ m ih =>
    rcases Nat.lt_or_eq_of_le h with h1 | h1
    · exact fun f as H r k => runF_succ m f as H r (ih (by omega) f as H r k)
    · subst h1; exact fun _ _ _ _ k => k

section
variable (E : Env) (O : Orc)
/-- A call comes back, and this holds behind it. -/
def Ca (f : Nat) (as : List Value) (H : AH) (Q : Value → AH → Prop) : Prop := ∃ n x H', runF E O n f as H = some (x, H') ∧ Q x H'
/-- Code comes to an end, and this holds behind it. -/
def Wp (c : AC) (fr : Fr) (H : AH) (Q : Ex → Fr → AH → Prop) : Prop := ∃ n ex fr' H', codeR (runF E O n) n c fr H = some (ex, fr', H') ∧ Q ex fr' H'
def Wo1 (o : AO) (fr : Fr) (H : AH) (Q : Fr → AH → Prop) : Prop := ∃ n fr' H', aone (runF E O n) o fr H = some (fr', H') ∧ Q fr' H'
def Wo (l : List AO) (fr : Fr) (H : AH) (Q : Fr → AH → Prop) : Prop := ∃ n fr' H', ops (runF E O n) l fr H = some (fr', H') ∧ Q fr' H'
/-- The states behind each operation. -/
def Wt (l : List AO) (fr : Fr) (H : AH) (Q : List (Fr × AH) → Prop) : Prop := ∃ n ss, opsT (runF E O n) l fr H = some ss ∧ Q ss
variable {E O}
theorem Ca.mono {f : Nat} {as : List Value} {H : AH} {Q Q' : Value → AH → Prop} (h : Ca E O f as H Q) (k : ∀ x H', Q x H' → Q' x H') : Ca E O f as H Q' :=
  let ⟨n, x, H', e, q⟩ := h; ⟨n, x, H', e, k _ _ q⟩
theorem Wp.mono {c : AC} {fr : Fr} {H : AH} {Q Q' : Ex → Fr → AH → Prop} (h : Wp E O c fr H Q) (k : ∀ ex fr' H', Q ex fr' H' → Q' ex fr' H') : Wp E O c fr H Q' :=
  let ⟨n, x, fr', H', e, q⟩ := h; ⟨n, x, fr', H', e, k _ _ _ q⟩
theorem codeR_up {n m : Nat} (h : n ≤ m) {c : AC} {fr : Fr} {H : AH} {r : Ex × Fr × AH} (k : codeR (runF E O n) n c fr H = some r) : codeR (runF E O m) m c fr H = some r :=
  codeR_mono h (codeR_le (runF_le h) k)
theorem Wp.skip {fr : Fr} {H : AH} {Q : Ex → Fr → AH → Prop} (h : Q .normal fr H) : Wp E O .skip fr H Q := ⟨1, _, _, _, rfl, h⟩
theorem Wp.ret {fr : Fr} {H : AH} {Q : Ex → Fr → AH → Prop} (h : Q .ret fr H) : Wp E O .ret fr H Q := ⟨1, _, _, _, rfl, h⟩
theorem Wp.exit {i : Nat} {fr : Fr} {H : AH} {Q : Ex → Fr → AH → Prop} (h : Q (.exit i) fr H) : Wp E O (.exit i) fr H Q := ⟨1, _, _, _, rfl, h⟩
def seqQ (k : Fr → AH → Prop) (Q : Ex → Fr → AH → Prop) : Ex → Fr → AH → Prop
  | .normal, fr, H => k fr H
  | ex, fr, H => Q ex fr H
theorem Wp.seq {a b : AC} {fr : Fr} {H : AH} {Q : Ex → Fr → AH → Prop} (h : Wp E O a fr H (seqQ (fun fr' H' => Wp E O b fr' H' Q) Q)) : Wp E O (.seq a b) fr H Q := by
  obtain ⟨n, ex, fr1, H1, e, q⟩ := h
  cases ex with
  | normal =>
    obtain ⟨m, ex2, fr2, H2, e2, q2⟩ := q
    refine ⟨max n m + 1, ex2, fr2, H2, ?_, q2⟩
    simp only [codeR]
    rw [codeR_le (runF_le (Nat.le_succ _)) (codeR_up (Nat.le_max_left n m) e)]
    exact codeR_le (runF_le (Nat.le_succ _)) (codeR_up (Nat.le_max_right n m) e2)
  | exit i =>
    refine ⟨n + 1, _, fr1, H1, ?_, q⟩
    simp only [codeR]
    rw [codeR_le (runF_le (Nat.le_succ _)) e]
  | ret =>
    refine ⟨n + 1, _, fr1, H1, ?_, q⟩
    simp only [codeR]
    rw [codeR_le (runF_le (Nat.le_succ _)) e]
theorem Wp.cond {x : X} {a b : AC} {fr : Fr} {H : AH} {Q : Ex → Fr → AH → Prop} {t : Bool} (hx : x.ev fr = .bool t) (h : Wp E O (bif t then a else b) fr H Q) : Wp E O (.cond x a b) fr H Q := by
  obtain ⟨n, ex, fr1, H1, e, q⟩ := h
  refine ⟨n + 1, ex, fr1, H1, ?_, q⟩
  simp only [codeR, hx]
  cases t <;> exact codeR_le (runF_le (Nat.le_succ _)) e
def blockQ (i : Nat) (Q : Ex → Fr → AH → Prop) : Ex → Fr → AH → Prop
  | .exit j, fr, H => if j = i then Q .normal fr H else Q (.exit j) fr H
  | ex, fr, H => Q ex fr H
theorem Wp.block {i : Nat} {a : AC} {fr : Fr} {H : AH} {Q : Ex → Fr → AH → Prop} (h : Wp E O a fr H (blockQ i Q)) : Wp E O (.block i a) fr H Q := by
  obtain ⟨n, ex, fr1, H1, e, q⟩ := h
  have e' := codeR_le (runF_le (Nat.le_succ n)) e
  cases ex with
  | normal => exact ⟨n + 1, _, fr1, H1, by simp only [codeR]; rw [e'], q⟩
  | ret => exact ⟨n + 1, _, fr1, H1, by simp only [codeR]; rw [e'], q⟩
  | exit j =>
    simp only [blockQ] at q
    by_cases hj : j = i
    · rw [if_pos hj] at q
      refine ⟨n + 1, _, fr1, H1, ?_, q⟩
      simp only [codeR]
      rw [e']
      simp [nb, hj]
    · rw [if_neg hj] at q
      refine ⟨n + 1, _, fr1, H1, ?_, q⟩
      simp only [codeR]
      rw [e']
      simp [nb, hj]
theorem Wp.loop1 {a : AC} {fr : Fr} {H : AH} {Q : Ex → Fr → AH → Prop} (h : Wp E O a fr H (seqQ (fun fr' H' => Wp E O (.loop a) fr' H' Q) Q)) : Wp E O (.loop a) fr H Q := by
  obtain ⟨n, ex, fr1, H1, e, q⟩ := h
  cases ex with
  | normal =>
    obtain ⟨m, ex2, fr2, H2, e2, q2⟩ := q
    refine ⟨max n m + 1, ex2, fr2, H2, ?_, q2⟩
    simp only [codeR]
    rw [codeR_le (runF_le (Nat.le_succ _)) (codeR_up (Nat.le_max_left n m) e)]
    exact codeR_le (runF_le (Nat.le_succ _)) (codeR_up (Nat.le_max_right n m) e2)
  | exit i =>
    refine ⟨n + 1, _, fr1, H1, ?_, q⟩
    simp only [codeR]
    rw [codeR_le (runF_le (Nat.le_succ _)) e]
  | ret =>
    refine ⟨n + 1, _, fr1, H1, ?_, q⟩
    simp only [codeR]
    rw [codeR_le (runF_le (Nat.le_succ _)) e]
/-- A loop that counts down something. -/
theorem Wp.loop {a : AC} {Q : Ex → Fr → AH → Prop} (I : Nat → Fr → AH → Prop) (step : ∀ k fr H, I k fr H → Wp E O a fr H (seqQ (fun fr' H' => ∃ j, j < k ∧ I j fr' H') Q)) (k : Nat) {fr : Fr} {H : AH} (h : I k fr H) : Wp E O (.loop a) fr H Q := by
  induction k using Nat.strongRecOn generalizing fr H with
  | _ k ih =>
    refine Wp.loop1 ((step k fr H h).mono ?_)
    intro ex fr' H' q
    cases ex with
    | normal => obtain ⟨j, hj, hI⟩ := q; exact ih j hj hI
    | exit i => exact q
    | ret => exact q
theorem Wp.reg {l : List AO} {fr : Fr} {H : AH} {Q : Ex → Fr → AH → Prop} (h : Wo E O l fr H (Q .normal)) : Wp E O (.reg l) fr H Q := by
  obtain ⟨n, fr1, H1, e, q⟩ := h
  refine ⟨n + 1, _, fr1, H1, ?_, q⟩
  simp only [codeR]
  rw [ops_le (runF_le (Nat.le_succ _)) e]
theorem Wo.nil {fr : Fr} {H : AH} {Q : Fr → AH → Prop} (h : Q fr H) : Wo E O [] fr H Q := ⟨0, fr, H, rfl, h⟩
theorem Wo.cons {o : AO} {l : List AO} {fr : Fr} {H : AH} {Q : Fr → AH → Prop} (h : Wo1 E O o fr H (fun fr' H' => Wo E O l fr' H' Q)) : Wo E O (o :: l) fr H Q := by
  obtain ⟨n, fr1, H1, e, m, fr2, H2, e2, q⟩ := h
  refine ⟨max n m, fr2, H2, ?_, q⟩
  simp only [ops]
  rw [aone_le (runF_le (Nat.le_max_left n m)) e]
  exact ops_le (runF_le (Nat.le_max_right n m)) e2
theorem Wo1.val {o : AO} {fr : Fr} {H H' : AH} {x : Value} {Q : Fr → AH → Prop} (hw : o.wanted fr = true) (h : aop o.o (X.ev fr) H = some (.v x, H')) (q : Q (fr.putO o.d x) H') : Wo1 E O o fr H Q :=
  ⟨0, _, _, aone_iff.2 ⟨x, rfl, .val hw h⟩, q⟩
theorem Wo1.off {o : AO} {fr : Fr} {H : AH} {Q : Fr → AH → Prop} (hw : o.wanted fr = false) (q : Q (fr.putO o.d undef) H) : Wo1 E O o fr H Q :=
  ⟨0, _, _, aone_iff.2 ⟨undef, rfl, .off hw rfl rfl⟩, q⟩
theorem Wo1.call {o : AO} {fr : Fr} {H H1 : AH} {f : Nat} {as : List Value} {Q : Fr → AH → Prop} (hw : o.wanted fr = true) (h : aop o.o (X.ev fr) H = some (.enter f as, H1)) (q : Ca E O f as H1 (fun x H' => Q (fr.putO o.d x) H')) : Wo1 E O o fr H Q := by
  obtain ⟨n, x, H', e, q⟩ := q
  exact ⟨n, _, _, aone_iff.2 ⟨x, rfl, .call hw f as H1 h e⟩, q⟩
theorem Wp.regd {l : List AO} {ck : List (Nat × Nat × Nat)} {fr : Fr} {H : AH} {Q : Ex → Fr → AH → Prop}
    (h : Wt E O l fr H (fun ss => (chain ((fr, H) :: ss) = true ∧ ck.all (chk1 l ((fr, H) :: ss)) = true) ∧ Q .normal (lastS (fr, H) ss).1 (lastS (fr, H) ss).2)) : Wp E O (.regd l ck) fr H Q := by
  obtain ⟨n, ss, e, ⟨h1, h2⟩, q⟩ := h
  refine ⟨n + 1, _, _, _, ?_, q⟩
  simp only [codeR, opsD]
  rw [opsT_le (runF_le (Nat.le_succ _)) e]
  simp [h1, h2]
theorem Wt.nil {fr : Fr} {H : AH} {Q : List (Fr × AH) → Prop} (h : Q []) : Wt E O [] fr H Q := ⟨0, [], rfl, h⟩
theorem Wt.cons {o : AO} {l : List AO} {fr : Fr} {H : AH} {Q : List (Fr × AH) → Prop} (h : Wo1 E O o fr H (fun fr' H' => Wt E O l fr' H' (fun ss => Q ((fr', H') :: ss)))) : Wt E O (o :: l) fr H Q := by
  obtain ⟨n, fr1, H1, e, m, ss, e2, q⟩ := h
  refine ⟨max n m, _, ?_, q⟩
  simp only [opsT]
  rw [aone_le (runF_le (Nat.le_max_left n m)) e]
  simp only
  rw [opsT_le (runF_le (Nat.le_max_right n m)) e2]
/-- A function's body. -/
def retQ (r : List RS) (Q : Value → AH → Prop) : Ex → Fr → AH → Prop
  | .exit _, _, _ => False
  | _, fr, H => ∃ vs, RS.all fr H r = some vs ∧ Q (outOf vs) H
theorem Ca.body {f : Nat} {F : AF} {as : List Value} {H : AH} {Q : Value → AH → Prop} (ho : O f = none) (he : E f = some F) (hl : as.length = F.np) (h : Wp E O F.body (Fr.of as) H (retQ F.res Q)) : Ca E O f as H Q := by
  obtain ⟨n, ex, fr1, H1, e, q⟩ := h
  cases ex with
  | exit i => exact q.elim
  | normal =>
    obtain ⟨vs, h1, q⟩ := q
    refine ⟨n + 1, _, _, ?_, q⟩
    simp only [runF, ho, he]
    rw [nb, decide_eq_true hl, cond_true, e]
    simp [h1]
  | ret =>
    obtain ⟨vs, h1, q⟩ := q
    refine ⟨n + 1, _, _, ?_, q⟩
    simp only [runF, ho, he]
    rw [nb, decide_eq_true hl, cond_true, e]
    simp [h1]
theorem Ca.orc {f : Nat} {g : List Value → AH → Option (Value × AH)} {as : List Value} {H H' : AH} {x : Value} {Q : Value → AH → Prop} (ho : O f = some g) (h : g as H = some (x, H')) (q : Q x H') : Ca E O f as H Q :=
  ⟨1, x, H', by simp [runF, ho, h], q⟩
end
end Go.Proofs.YtoijnpfpjpefgaaGreat.A
