/- Regions that draw their order: any order gives what the canonical one gives (the machine alone). -/
import Derived.Test.YtoijnpfpjpefgaaGreatAbsC
set_option linter.unusedVariables false
set_option linter.unusedSimpArgs false
namespace Go.Proofs.YtoijnpfpjpefgaaGreat.A
open Go

theorem memN_iff {n : Nat} : ∀ {l : List Nat}, memN n l = true ↔ n ∈ l
  | [] => by simp [memN]
  | x :: l => by
    simp only [memN, Bool.or_eq_true, nb, decide_eq_true_eq, List.mem_cons]
    rw [memN_iff (l := l)]
    constructor
    · rintro (h | h)
      · exact .inl h.symm
      · exact .inr h
    · rintro (h | h)
      · exact .inl h.symm
      · exact .inr h
theorem apartM_spec {x y : AO} (h : apartM x y = true) : (∀ d, x.d = some d → d ∉ tmpsOf y) ∧ (∀ d, x.d = some d → y.d ≠ some d) := by
  unfold apartM at h
  cases hd : x.d with
  | none => exact ⟨fun _ h => (by cases h), fun _ h => (by cases h)⟩
  | some d =>
    simp only [hd, Bool.and_eq_true, Bool.not_eq_true'] at h
    refine ⟨fun e he => ?_, fun e he => ?_⟩
    · cases he
      intro hm
      rw [memN_iff.2 hm] at h
      cases h.1
    · cases he
      intro hy
      rw [hy] at h
      simp at h
theorem Fr.get_putO {f : Fr} {d : Option Nat} {v : Value} {x : Nat} : (f.putO d v).get x = if d = some x then v else f.get x := by
  cases d with
  | none => simp [Fr.putO]
  | some k =>
    simp only [Fr.putO, Fr.get_put, Option.some.injEq]
    by_cases h : x = k
    · simp [h]
    · rw [if_neg h, if_neg (fun e => h e.symm)]

/-- What a step is. -/
inductive One (call : Cl) (o : AO) (fr : Fr) (H : AH) (x : Value) (H' : AH) : Prop where
  | off (h : o.wanted fr = false) (e : x = undef) (e2 : H' = H)
  | val (h : o.wanted fr = true) (e : aop o.o (X.ev fr) H = some (.v x, H'))
  | call (h : o.wanted fr = true) (f : Nat) (as : List Value) (H1 : AH) (e : aop o.o (X.ev fr) H = some (.enter f as, H1)) (e2 : call f as H1 = some (x, H'))
theorem aone_iff {call : Cl} {o : AO} {fr fr' : Fr} {H H' : AH} : aone call o fr H = some (fr', H') ↔ ∃ x, fr' = fr.putO o.d x ∧ One call o fr H x H' := by
  unfold aone
  constructor
  · intro h
    cases hw : o.wanted fr with
    | false =>
      simp only [hw, cond_false, Option.some.injEq, Prod.mk.injEq] at h
      exact ⟨undef, h.1.symm, .off hw rfl h.2.symm⟩
    | true =>
      simp only [hw, cond_true] at h
      cases hop : aop o.o (X.ev fr) H with
      | none => simp [hop] at h
      | some rr =>
        obtain ⟨res, H1⟩ := rr
        simp only [hop] at h
        cases res with
        | v x =>
          simp only [Option.some.injEq, Prod.mk.injEq] at h
          obtain ⟨rfl, rfl⟩ := h
          exact ⟨x, rfl, .val hw hop⟩
        | enter f as =>
          simp only at h
          cases hc : call f as H1 with
          | none => simp [hc] at h
          | some r =>
            obtain ⟨x, H2⟩ := r
            simp only [hc, Option.some.injEq, Prod.mk.injEq] at h
            obtain ⟨rfl, rfl⟩ := h
            exact ⟨x, rfl, .call hw f as H1 hop hc⟩
  · rintro ⟨x, rfl, h⟩
    cases h with
    | off h e e2 => subst e; subst e2; simp [h]
    | val h e => simp [h, e]
    | call h f as H1 e e2 => simp [h, e, e2]

/-- Two frames that agree at what an operation looks at. -/
def Agree (o : AO) (fr fr2 : Fr) : Prop := ∀ t ∈ tmpsOf o, fr2.get t = fr.get t
theorem Agree.ev {o : AO} {fr fr2 : Fr} (h : Agree o fr fr2) : ∀ x ∈ o.o.xs, X.ev fr2 x = X.ev fr x := by
  intro x hx
  cases x with
  | t n =>
    exact h n (by
      unfold tmpsOf
      exact List.mem_append_right _ (List.mem_filterMap.2 ⟨.t n, hx, rfl⟩))
  | k v => rfl
  | f n => rfl
theorem Agree.wanted {o : AO} {fr fr2 : Fr} (h : Agree o fr fr2) : o.wanted fr2 = o.wanted fr := by
  unfold AO.wanted
  cases hg : o.g with
  | none => rfl
  | some tb =>
    obtain ⟨t, b⟩ := tb
    simp only
    rw [h t (by unfold tmpsOf; rw [hg]; simp)]
theorem Agree.one {call : Cl} {o : AO} {fr fr2 : Fr} {H H' : AH} {x : Value} (h : Agree o fr fr2) (k : One call o fr H x H') : One call o fr2 H x H' := by
  have he : ∀ H, aop o.o (X.ev fr2) H = aop o.o (X.ev fr) H := fun H => aop_congr h.ev H
  cases k with
  | off a b c => exact .off (h.wanted.trans a) b c
  | val a b => exact .val (h.wanted.trans a) ((he _).trans b)
  | call a f as H1 b c => exact .call (h.wanted.trans a) f as H1 ((he _).trans b) c
theorem adr_xs {o : AO} {fr fr2 : Fr} (h : Agree o fr fr2) : adrOf o fr2 = adrOf o fr := by
  have he := h.ev
  unfold adrOf
  cases hp : o.o <;> simp only [hp, AOp.xs, List.mem_cons, List.not_mem_nil, or_false, forall_eq_or_imp, forall_eq] at he ⊢
  all_goals (simp only [he])

structure Run (call : Cl) (O : Nat → AO) (n : Nat) (sF : Nat → Fr) (sH : Nat → AH) (anc : Nat → Nat → Prop) : Prop where
  step : ∀ t, t < n → aone call (O t) (sF t) (sH t) = some (sF (t + 1), sH (t + 1))
  n0 : ∀ t, t < n → (sH (t + 1)).n0 = (sH t).n0
  nx : ∀ t, t < n → (sH t).nx ≤ (sH (t + 1)).nx
  pair : ∀ p q, p < q → q < n → anc p q ∨ (apartM (O p) (O q) = true ∧ apartM (O q) (O p) = true ∧ mayFloat (knd (O p).o) (knd (O q).o) = true)
  c0 : ∀ p q, p < q → q < n → ¬ anc p q → (O p).wanted (sF p) = true → (O q).wanted (sF q) = true → knd (O p).o = .load → knd (O q).o = .eff →
    ∃ x, loadOf (O p) (sF p) (sH p) = some x ∧ sameAt (sH (q + 1)) x = true
  c1 : ∀ p q, p < q → q < n → ¬ anc p q → (O p).wanted (sF p) = true → (O q).wanted (sF q) = true → knd (O p).o = .alloc → knd (O q).o = .eff →
    (sH (q + 1)).get (sH p).nx = (sH (p + 1)).get (sH p).nx
  c2 : ∀ p q, p < q → q < n → ¬ anc p q → (O p).wanted (sF p) = true → (O q).wanted (sF q) = true → (knd (O p).o = .load ∨ knd (O p).o = .read ∨ knd (O p).o = .st) → knd (O q).o = .st →
    ∀ b b', adrOf (O p) (sF p) = some b → adrOf (O q) (sF q) = some b' → b ≠ b'

section
variable {call : Cl} {O : Nat → AO} {n : Nat} {sF : Nat → Fr} {sH : Nat → AH} {anc : Nat → Nat → Prop} (R : Run call O n sF sH anc)
include R
theorem Run.n0s (t : Nat) (h : t ≤ n) : (sH t).n0 = (sH 0).n0 := by
  induction t with
  | zero => rfl
  | succ t ih => exact (R.n0 t (by omega)).trans (ih (by omega))
theorem Run.nxs {t : Nat} (k : Nat) (h : t + k ≤ n) : (sH t).nx ≤ (sH (t + k)).nx := by
  induction k with
  | zero => exact Nat.le_refl _
  | succ k ih => exact Nat.le_trans (ih (by omega)) (R.nx (t + k) (by omega))
theorem Run.nxle {t u : Nat} (h : t ≤ u) (hu : u ≤ n) : (sH t).nx ≤ (sH u).nx := by
  have := R.nxs (t := t) (u - t) (by omega)
  rwa [show t + (u - t) = u by omega] at this

omit R in
/-- What the canonical run writes at each place. -/
def valD (O : Nat → AO) (sF : Nat → Fr) (t : Nat) : Value := (sF (t + 1)).get ((O t).d.getD 0)
omit R in
def frS (O : Nat → AO) (sF : Nat → Fr) (S : Nat → Bool) : Nat → Fr
  | 0 => sF 0
  | t + 1 => bif S t then (frS O sF S t).putO (O t).d (valD O sF t) else frS O sF S t
theorem Run.frame {t : Nat} (ht : t < n) (x : Nat) : (sF (t + 1)).get x = if (O t).d = some x then valD O sF t else (sF t).get x := by
  obtain ⟨v, hf, _⟩ := aone_iff.1 (R.step t ht)
  by_cases h : (O t).d = some x
  · rw [if_pos h]
    unfold valD
    rw [h]
    rfl
  · rw [if_neg h, hf, Fr.get_putO, if_neg h]
theorem Run.one {t : Nat} (ht : t < n) : ∃ x, One call (O t) (sF t) (sH t) x (sH (t + 1)) ∧ ∀ f : Fr, f.putO (O t).d x = f.putO (O t).d (valD O sF t) := by
  obtain ⟨v, hf, h1⟩ := aone_iff.1 (R.step t ht)
  refine ⟨v, h1, fun f => ?_⟩
  cases hd : (O t).d with
  | none => rfl
  | some k =>
    have : valD O sF t = v := by
      unfold valD
      rw [hf, hd]
      simp [Fr.putO, Fr.get_put]
    rw [this]
omit R in
theorem frS_eq {S S' : Nat → Bool} {x m : Nat} (h : ∀ p, p < m → (O p).d = some x → S p = S' p) : (frS O sF S m).get x = (frS O sF S' m).get x := by
  induction m with
  | zero => rfl
  | succ m ih =>
    have ih := ih fun p hp => h p (by omega)
    simp only [frS]
    by_cases hd : (O m).d = some x
    · have := h m (by omega) hd
      rw [this]
      cases S' m
      · exact ih
      · simp only [cond_true, Fr.get_putO, if_pos hd]
    · cases S m <;> cases S' m <;> simp only [cond_true, cond_false, Fr.get_putO, if_neg hd] <;> exact ih
omit R in
theorem frS_stop {S : Nat → Bool} {x t m : Nat} (htm : t ≤ m) (h : ∀ p, t ≤ p → p < m → S p = true → (O p).d ≠ some x) : (frS O sF S m).get x = (frS O sF S t).get x := by
  induction m with
  | zero => obtain rfl : t = 0 := by omega
            rfl
  | succ m ih =>
    rcases Nat.lt_or_ge m t with h1 | h1
    · obtain rfl : t = m + 1 := by omega
      rfl
    · have ih := ih h1 fun p hp hp2 => h p hp (by omega)
      simp only [frS]
      cases hS : S m with
      | false => exact ih
      | true => simp only [cond_true, Fr.get_putO, if_neg (h m h1 (by omega) hS)]; exact ih
theorem Run.frS_all {m : Nat} (hm : m ≤ n) (x : Nat) : (frS O sF (fun _ => true) m).get x = (sF m).get x := by
  induction m with
  | zero => rfl
  | succ m ih =>
    rw [R.frame (by omega), frS, cond_true, Fr.get_putO, ih (by omega)]

omit R in
structure Cls (n : Nat) (anc : Nat → Nat → Prop) (S : Nat → Bool) (t : Nat) : Prop where
  lt : t < n
  out : S t = false
  rdy : ∀ p, p < t → anc p t → S p = true
  cls : ∀ p q, p < q → q < n → S q = true → anc p q → S p = true

variable {S : Nat → Bool} {t : Nat} (C : Cls n anc S t)
include C
theorem Run.before {p : Nat} (hp : p < t) (hS : S p = false) : ¬ anc p t ∧ apartM (O p) (O t) = true ∧ apartM (O t) (O p) = true ∧ mayFloat (knd (O p).o) (knd (O t).o) = true := by
  have hn : ¬ anc p t := fun h => by rw [C.rdy p hp h] at hS; cases hS
  exact ⟨hn, (R.pair p t hp C.lt).resolve_left hn⟩
theorem Run.behind {p : Nat} (hp : t < p) (hpn : p < n) (hS : S p = true) : ¬ anc t p ∧ apartM (O t) (O p) = true ∧ apartM (O p) (O t) = true ∧ mayFloat (knd (O t).o) (knd (O p).o) = true := by
  have hn : ¬ anc t p := fun h => by have := C.cls t p hp hpn hS h; rw [C.out] at this; cases this
  exact ⟨hn, (R.pair t p hp hpn).resolve_left hn⟩
theorem Run.agree : Agree (O t) (sF t) (frS O sF S n) := by
  intro x hx
  rw [frS_stop (t := t) (Nat.le_of_lt C.lt), ← R.frS_all (Nat.le_of_lt C.lt)]
  · refine frS_eq fun p hp hd => ?_
    cases hS : S p with
    | true => rfl
    | false => exact absurd hx ((apartM_spec (R.before C hp hS).2.1).1 x hd)
  · intro p hp hpn hS hd
    rcases Nat.lt_or_eq_of_le hp with h | h
    · exact (apartM_spec (R.behind C h hpn hS).2.2.1).1 x hd hx
    · subst h; rw [C.out] at hS; cases hS
omit R C in
def ins (S : Nat → Bool) (t : Nat) : Nat → Bool := fun p => bif Nat.beq p t then true else S p
omit R C in
theorem ins_self : ins S t t = true := by simp [ins]
omit R C in
theorem ins_ne {p : Nat} (h : p ≠ t) : ins S t p = S p := by
  unfold ins
  rw [nb, decide_eq_false h]; rfl
theorem Run.frS_ins (x : Nat) : (frS O sF (ins S t) n).get x = ((frS O sF S n).putO (O t).d (valD O sF t)).get x := by
  rw [Fr.get_putO]
  by_cases hd : (O t).d = some x
  · rw [if_pos hd, frS_stop (t := t + 1) C.lt]
    · rw [frS, ins_self, cond_true, Fr.get_putO, if_pos hd]
    · intro p hp hpn hS
      rw [ins_ne (by omega)] at hS
      have := (apartM_spec (R.behind C (by omega) hpn hS).2.1).2 x hd
      exact this
  · rw [if_neg hd]
    refine frS_eq fun p hp hdp => ?_
    exact ins_ne (fun e => hd (e ▸ hdp))
end
end Go.Proofs.YtoijnpfpjpefgaaGreat.A
