/- Regions that draw their order: the heaps of other orders (the machine alone). -/
import Derived.Test.YtoijnpfpjpefgaaGreatAbsD
set_option linter.unusedVariables false
set_option linter.unusedSimpArgs false
namespace Go.Proofs.YtoijnpfpjpefgaaGreat.A
open Go

/-- Does the canonical run's step t write the block b? -/
inductive Tch (O : Nat → AO) (sF : Nat → Fr) (sH : Nat → AH) (t b : Nat) : Prop where
  | alloc (w : (O t).wanted (sF t) = true) (k : knd (O t).o = .alloc) (e : b = (sH t).nx)
  | st (w : (O t).wanted (sF t) = true) (k : knd (O t).o = .st) (e : adrOf (O t) (sF t) = some b)
  | eff (w : (O t).wanted (sF t) = true) (k : knd (O t).o = .eff)
open Classical in
noncomputable def gS (O : Nat → AO) (sF : Nat → Fr) (sH : Nat → AH) (S : Nat → Bool) : Nat → Nat → Option Blk
  | 0 => (sH 0).raw
  | t + 1 => fun b => if S t = true ∧ Tch O sF sH t b then (sH (t + 1)).raw b else gS O sF sH S t b
noncomputable def mkH (O : Nat → AO) (sF : Nat → Fr) (sH : Nat → AH) (S : Nat → Bool) (m nx : Nat) : AH := ⟨gS O sF sH S m, (sH 0).n0, nx, .nil⟩
section
variable {call : Cl} {O : Nat → AO} {n : Nat} {sF : Nat → Fr} {sH : Nat → AH} {anc : Nat → Nat → Prop}
theorem mkH_raw (S : Nat → Bool) (m nx b : Nat) : (mkH O sF sH S m nx).raw b = gS O sF sH S m b := rfl
theorem mkH_get (S : Nat → Bool) (m nx b : Nat) (h : b < nx) : (mkH O sF sH S m nx).get b = gS O sF sH S m b := by
  rw [AH.get_of (by exact h)]; rfl
theorem gS_eq {S S' : Nat → Bool} {b m : Nat} (h : ∀ p, p < m → Tch O sF sH p b → S p = S' p) : gS O sF sH S m b = gS O sF sH S' m b := by
  induction m with
  | zero => rfl
  | succ m ih =>
    have ih := ih fun p hp => h p (by omega)
    simp only [gS]
    by_cases hd : Tch O sF sH m b
    · rw [h m (by omega) hd, ih]
    · rw [if_neg (fun e => hd e.2), if_neg (fun e => hd e.2), ih]
theorem gS_stop {S : Nat → Bool} {b t m : Nat} (htm : t ≤ m) (h : ∀ p, t ≤ p → p < m → S p = true → ¬ Tch O sF sH p b) : gS O sF sH S m b = gS O sF sH S t b := by
  induction m with
  | zero => obtain rfl : t = 0 := by omega
            rfl
  | succ m ih =>
    rcases Nat.lt_or_ge m t with h1 | h1
    · obtain rfl : t = m + 1 := by omega
      rfl
    · have ih := ih h1 fun p hp hp2 => h p hp (by omega)
      simp only [gS]
      rw [if_neg (fun e => h m h1 (by omega) e.1 e.2), ih]
variable (R : Run call O n sF sH anc)
include R
theorem Run.still {t : Nat} (ht : t < n) {b : Nat} (h : ¬ Tch O sF sH t b) : (sH (t + 1)).raw b = (sH t).raw b := by
  obtain ⟨x, h1, _⟩ := R.one ht
  cases h1 with
  | off a e e2 => rw [e2]
  | call a f as H1 e e2 => exact absurd (.eff a (enter_eff e)) h
  | val a e =>
    cases hk : knd (O t).o with
    | pure => rw [(kind_pure hk e).1]
    | load => rw [(kind_load hk e).1]
    | read => rw [(kind_read hk e).1]
    | eff => exact absurd (.eff a hk) h
    | alloc =>
      obtain ⟨blk, e2, _⟩ := kind_alloc hk e
      rw [e2, AH.raw_alloc, if_neg]
      exact fun e3 => h (.alloc a hk e3)
    | st =>
      obtain ⟨c, blk, h2, _, e2, _⟩ := kind_st hk e
      rw [e2, AH.raw_put, if_neg]
      intro e3
      subst e3
      exact h (.st a hk h2)
theorem Run.gS_all {m : Nat} (hm : m ≤ n) (b : Nat) : gS O sF sH (fun _ => true) m b = (sH m).raw b := by
  induction m with
  | zero => rfl
  | succ m ih =>
    simp only [gS]
    by_cases h : Tch O sF sH m b
    · rw [if_pos ⟨rfl, h⟩]
    · rw [if_neg (fun e => h e.2), ih (by omega), R.still (by omega) h]
theorem Run.alloc_nx {t : Nat} (ht : t < n) (w : (O t).wanted (sF t) = true) (k : knd (O t).o = .alloc) : (sH (t + 1)).nx = (sH t).nx + 1 := by
  obtain ⟨x, h1, _⟩ := R.one ht
  cases h1 with
  | off a e e2 => rw [w] at a; cases a
  | call a f as H1 e e2 => rw [enter_eff e] at k; cases k
  | val a e =>
    obtain ⟨blk, e2, _⟩ := kind_alloc k e
    rw [e2]; rfl

/-- What the mapping must say of the blocks. -/
structure Dom (O : Nat → AO) (n : Nat) (sF : Nat → Fr) (sH : Nat → AH) (S : Nat → Bool) (Dm : Nat → Prop) : Prop where
  dom : ∀ b, Dm b → b < (sH 0).nx ∨ ∃ t, t < n ∧ S t = true ∧ (sH t).nx ≤ b ∧ b < (sH (t + 1)).nx
  sts : ∀ p, p < n → S p = true → (O p).wanted (sF p) = true → knd (O p).o = .st → ∀ b, adrOf (O p) (sF p) = some b → Dm b
variable {S : Nat → Bool} {Dm : Nat → Prop} (D : Dom O n sF sH S Dm)
include D
theorem Run.noAlloc {p : Nat} (hp : p < n) (hS : S p = false) (w : (O p).wanted (sF p) = true) (k : knd (O p).o = .alloc) : ¬ Dm (sH p).nx := by
  intro h
  rcases D.dom _ h with h | ⟨t, ht, hSt, h1, h2⟩
  · have := R.nxle (Nat.zero_le p) (by omega); omega
  · rcases Nat.lt_trichotomy t p with h3 | h3 | h3
    · have := R.nxle (show t + 1 ≤ p by omega) (by omega); omega
    · subst h3; rw [hS] at hSt; cases hSt
    · have := R.nxle (show p + 1 ≤ t by omega) (by omega)
      rw [R.alloc_nx hp w k] at this
      omega
variable {t : Nat} (C : Cls n anc S t)
include C
/-- Ahead of t: a block of the mapping that t looks at stands as in the canonical run. -/
theorem Run.ahead {b : Nat} (hb : Dm b) (h : ∀ p, p < t → S p = false → (O p).wanted (sF p) = true → knd (O p).o = .st → knd (O t).o = .st → adrOf (O p) (sF p) ≠ some b) : gS O sF sH S t b = (sH t).raw b := by
  rw [← R.gS_all (Nat.le_of_lt C.lt)]
  refine gS_eq fun p hp ht => ?_
  cases hS : S p with
  | true => rfl
  | false =>
    exfalso
    obtain ⟨_, _, _, hm⟩ := R.before C hp hS
    have hpn : p < n := Nat.lt_trans hp C.lt
    cases ht with
    | alloc w k e => subst e; exact R.noAlloc D hpn hS w k hb
    | st w k e =>
      rw [k] at hm
      cases hk : knd (O t).o <;> rw [hk] at hm <;> first
        | (simp [mayFloat, Knd.floats] at hm; done)
        | exact h p hp hS w k hk e
    | eff w k =>
      rw [k] at hm
      cases hk : knd (O t).o <;> rw [hk] at hm <;> simp [mayFloat, Knd.floats] at hm
/-- A load. -/
theorem Run.load {a : Addr} {vs : List Value} (w : (O t).wanted (sF t) = true) (k : knd (O t).o = .load) (hl : loadOf (O t) (sF t) (sH t) = some (a, vs)) (had : adrOf (O t) (sF t) = some a.block) (hv : (sH t).ldn a vs.length = some vs) (hb : Dm a.block) :
    (mkH O sF sH S n (sH n).nx).ldn a vs.length = some vs := by
  have hlt : a.block < (sH t).nx := by
    obtain ⟨x, hx⟩ := Option.isSome_iff_exists.1 (ldn_some hv).1
    exact AH.get_lt hx
  have key : ∀ m, t ≤ m → m ≤ n → (mkH O sF sH S m (sH n).nx).ldn a vs.length = some vs := by
    intro m hm
    induction m with
    | zero =>
      intro hmn
      obtain rfl : t = 0 := by omega
      rw [← hv]
      refine ldn_same ?_ rfl
      rw [mkH_get _ _ _ _ (by have := R.nxle (Nat.zero_le n) (Nat.le_refl _); omega), AH.get_of hlt]
      rfl
    | succ m ih =>
      intro hmn
      rcases Nat.lt_or_eq_of_le hm with h1 | h1
      · have ih := ih (by omega) (by omega)
        have hN : a.block < (sH n).nx := by have := R.nxle (Nat.le_of_lt C.lt) (Nat.le_refl _); omega
        by_cases hS : S m = true ∧ Tch O sF sH m a.block
        · obtain ⟨hS, ht⟩ := hS
          have htm : t < m := by
            rcases Nat.lt_or_eq_of_le (show t ≤ m by omega) with h2 | h2
            · exact h2
            · subst h2; rw [C.out] at hS; cases hS
          obtain ⟨hn, _, _, hmf⟩ := R.behind C htm (by omega) hS
          cases ht with
          | alloc w' k' e =>
            have := R.nxle (show t ≤ m by omega) (by omega)
            omega
          | st w' k' e => exact absurd rfl (R.c2 t m htm (by omega) hn w w' (.inl k) k' a.block a.block had e)
          | eff w' k' =>
            obtain ⟨x, e1, e2⟩ := R.c0 t m htm (by omega) hn w w' k k'
            rw [hl] at e1
            cases e1
            have e3 := sameAt_eq e2
            rw [← e3]
            refine ldn_same ?_ (R.n0s (m + 1) (by omega)).symm
            rw [mkH_get _ _ _ _ hN]
            have : a.block < (sH (m + 1)).nx := by have := R.nxle (show t ≤ m + 1 by omega) (by omega); omega
            rw [AH.get_of this]
            simp only [gS]
            rw [if_pos ⟨hS, .eff w' k'⟩]
        · rw [← ih]
          refine ldn_same ?_ rfl
          rw [mkH_get _ _ _ _ hN, mkH_get _ _ _ _ hN]
          simp only [gS]
          rw [if_neg hS]
      · subst h1
        rw [← hv]
        refine ldn_same ?_ (R.n0s _ (by omega)).symm
        rw [mkH_get _ _ _ _ (by have := R.nxle (show m + 1 ≤ n by omega) (Nat.le_refl _); omega), AH.get_of hlt]
        exact R.ahead D C hb fun p hp hS w' k' k2 => by rw [k] at k2; cases k2
  exact key n (Nat.le_of_lt C.lt) (Nat.le_refl _)
/-- A block that a read or a store looks at. -/
theorem Run.look {b : Nat} (w : (O t).wanted (sF t) = true) (k : knd (O t).o = .read ∨ knd (O t).o = .st) (had : adrOf (O t) (sF t) = some b) (hs : ((sH t).get b).isSome = true) (hb : Dm b) :
    (mkH O sF sH S n (sH n).nx).get b = (sH t).get b := by
  have hlt : b < (sH t).nx := by
    obtain ⟨x, hx⟩ := Option.isSome_iff_exists.1 hs
    exact AH.get_lt hx
  rw [mkH_get _ _ _ _ (by have := R.nxle (Nat.le_of_lt C.lt) (Nat.le_refl _); omega), AH.get_of hlt, gS_stop (t := t) (Nat.le_of_lt C.lt)]
  · refine R.ahead D C hb fun p hp hS w' k' k2 e => ?_
    obtain ⟨hn, _⟩ := R.before C hp hS
    exact absurd rfl (R.c2 p t hp C.lt hn w' w (.inr (.inr k')) k2 b b e had)
  · intro p hp hpn hS ht
    have htp : t < p := by
      rcases Nat.lt_or_eq_of_le hp with h2 | h2
      · exact h2
      · subst h2; rw [C.out] at hS; cases hS
    obtain ⟨hn, _, _, hm⟩ := R.behind C htp hpn hS
    cases ht with
    | alloc w' k' e =>
      have := R.nxle (show t ≤ p by omega) (by omega)
      omega
    | st w' k' e =>
      exact absurd rfl (R.c2 t p htp hpn hn w w' (.inr k) k' b b had e)
    | eff w' k' =>
      rw [k'] at hm
      rcases k with k | k <;> rw [k] at hm <;> simp [mayFloat, Knd.floats] at hm

omit R D C in
theorem ins_other {b : Nat} (h : ¬ Tch O sF sH t b) : gS O sF sH (ins S t) n b = gS O sF sH S n b :=
  gS_eq fun p hp ht => ins_ne (fun e => h (e ▸ ht))
theorem Run.ins_same {b : Nat} (h : Tch O sF sH t b) : gS O sF sH (ins S t) n b = (sH (t + 1)).raw b := by
  have stop : (∀ p, t < p → p < n → S p = true → ¬ Tch O sF sH p b) → gS O sF sH (ins S t) n b = (sH (t + 1)).raw b := by
    intro hh
    rw [gS_stop (t := t + 1) C.lt]
    · simp only [gS]
      rw [if_pos ⟨ins_self, h⟩]
    · intro p hp hpn hS
      rw [ins_ne (by omega)] at hS
      exact hh p (by omega) hpn hS
  cases h with
  | eff w k =>
    refine stop fun p hp hpn hS ht => ?_
    obtain ⟨hn, _, _, hm⟩ := R.behind C hp hpn hS
    rw [k] at hm
    cases hk : knd (O p).o <;> rw [hk] at hm <;> simp [mayFloat, Knd.floats] at hm
  | st w k e =>
    refine stop fun p hp hpn hS ht => ?_
    obtain ⟨hn, _, _, hm⟩ := R.behind C hp hpn hS
    cases ht with
    | alloc w' k' e' => rw [k, k'] at hm; simp [mayFloat, Knd.floats] at hm
    | eff w' k' => rw [k, k'] at hm; simp [mayFloat, Knd.floats] at hm
    | st w' k' e' => exact absurd rfl (R.c2 t p hp hpn hn w w' (.inr (.inr k)) k' b b e e')
  | alloc w k e =>
    have key : ∀ m, t + 1 ≤ m → m ≤ n → gS O sF sH (ins S t) m b = (sH (t + 1)).raw b := by
      intro m hm
      induction m with
      | zero => omega
      | succ m ih =>
        intro hmn
        rcases Nat.lt_or_eq_of_le hm with h1 | h1
        · have ih := ih (by omega) (by omega)
          simp only [gS]
          by_cases hS : ins S t m = true ∧ Tch O sF sH m b
          · rw [if_pos hS]
            obtain ⟨hS, ht⟩ := hS
            rw [ins_ne (by omega)] at hS
            obtain ⟨hn, _, _, _⟩ := R.behind C (show t < m by omega) (by omega) hS
            cases ht with
            | alloc w' k' e' =>
              have h2 := R.nxle (show t + 1 ≤ m by omega) (by omega)
              rw [R.alloc_nx C.lt w k] at h2
              omega
            | st w' k' e' =>
              have := D.sts m (by omega) hS w' k' b e'
              subst e
              exact absurd this (R.noAlloc D C.lt C.out w k)
            | eff w' k' =>
              have h3 := R.c1 t m (by omega) (by omega) hn w w' k k'
              have h2 := R.alloc_nx C.lt w k
              have h4 := R.nxle (show t + 1 ≤ m + 1 by omega) (by omega)
              rw [AH.get_of (by omega), AH.get_of (by omega)] at h3
              rw [e]
              exact h3
          · rw [if_neg hS, ih]
        · have : m = t := by omega
          subst this
          simp only [gS]
          rw [if_pos ⟨ins_self, .alloc w k e⟩]
    exact key n C.lt (Nat.le_refl _)
end
end Go.Proofs.YtoijnpfpjpefgaaGreat.A
