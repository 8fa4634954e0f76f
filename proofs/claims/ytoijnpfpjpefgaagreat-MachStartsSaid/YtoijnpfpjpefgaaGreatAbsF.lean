/- Regions that draw their order: one step of another order (the machine alone). -/
import Derived.Test.YtoijnpfpjpefgaaGreatAbsE
set_option linter.unusedVariables false
set_option linter.unusedSimpArgs false
namespace Go.Proofs.YtoijnpfpjpefgaaGreat.A
open Go
section
variable {call : Cl} {O : Nat → AO} {n : Nat} {sF : Nat → Fr} {sH : Nat → AH} {anc : Nat → Nat → Prop}
/-- The heap at which a step of another order is taken, and the one behind it. -/
structure Step (call : Cl) (O : Nat → AO) (n : Nat) (sF : Nat → Fr) (sH : Nat → AH) (S : Nat → Bool) (Dm : Nat → Prop) (t : Nat) (Hx Hy : AH) : Prop where
  run : aone call (O t) (frS O sF S n) Hx = some ((frS O sF S n).putO (O t).d (valD O sF t), Hy)
  pre : ∀ b, Dm b → Hx.raw b = gS O sF sH S n b
  n0x : Hx.n0 = (sH 0).n0
  post : ∀ b, gS O sF sH (ins S t) n b = Hy.raw b
  n0y : Hy.n0 = (sH 0).n0
  lo : (sH 0).nx ≤ Hx.nx
  hi : Hy.nx ≤ (sH n).nx
  out : ¬ Dm Hx.nx
  fresh : knd (O t).o = .eff → ∀ b, Hx.nx ≤ b → ¬ Dm b
  new : ∀ b, Hx.nx ≤ b → b < Hy.nx → (sH t).nx ≤ b ∧ b < (sH (t + 1)).nx
variable (R : Run call O n sF sH anc) {S : Nat → Bool} {Dm : Nat → Prop} (D : Dom O n sF sH S Dm) {t : Nat} (C : Cls n anc S t)
include R D
theorem Run.topFree {b : Nat} (h : (sH n).nx ≤ b) : ¬ Dm b := by
  intro hb
  rcases D.dom b hb with h1 | ⟨p, hp, _, h1, h2⟩
  · have := R.nxle (Nat.zero_le n) (Nat.le_refl _); omega
  · have := R.nxle (show p + 1 ≤ n by omega) (Nat.le_refl _); omega
include C
theorem Run.same {x : Value} (hv : ∀ f : Fr, f.putO (O t).d x = f.putO (O t).d (valD O sF t)) (hno : ∀ b, ¬ Tch O sF sH t b)
    (h : One call (O t) (sF t) (mkH O sF sH S n (sH n).nx) x (mkH O sF sH S n (sH n).nx)) : Step call O n sF sH S Dm t (mkH O sF sH S n (sH n).nx) (mkH O sF sH S n (sH n).nx) where
  run := aone_iff.2 ⟨x, (hv _).symm, (R.agree C).one h⟩
  pre := fun b _ => rfl
  n0x := rfl
  post := fun b => ins_other (hno b)
  n0y := rfl
  lo := R.nxle (Nat.zero_le n) (Nat.le_refl _)
  hi := Nat.le_refl _
  out := R.topFree D (Nat.le_refl _)
  fresh := fun _ b hb => R.topFree D hb
  new := fun b h1 h2 => by omega
theorem Run.stepAt (hadr : (O t).wanted (sF t) = true → ∀ b, adrOf (O t) (sF t) = some b → Dm b) : ∃ Hx Hy, Step call O n sF sH S Dm t Hx Hy := by
  obtain ⟨x, h1, hv⟩ := R.one C.lt
  have hN := R.nxle (show t + 1 ≤ n from C.lt) (Nat.le_refl _)
  have hN2 := R.nxle (show t ≤ n by have := C.lt; omega) (Nat.le_refl _)
  have h0 := R.nxle (Nat.zero_le t) (Nat.le_of_lt C.lt)
  have hn0 : (mkH O sF sH S n (sH n).nx).n0 = (sH t).n0 := (R.n0s t (Nat.le_of_lt C.lt)).symm
  have effCase : (O t).wanted (sF t) = true → knd (O t).o = .eff → ∃ Hx Hy, Step call O n sF sH S Dm t Hx Hy := by
    intro w k
    have none_behind : ∀ p, t < p → p < n → S p = true → False := by
      intro p hp hpn hS
      obtain ⟨_, _, _, hm⟩ := R.behind C hp hpn hS
      rw [k] at hm
      cases hk : knd (O p).o <;> rw [hk] at hm <;> simp [mayFloat, Knd.floats] at hm
    have fresh : ∀ b, (sH t).nx ≤ b → ¬ Dm b := by
      intro b hb hd
      rcases D.dom b hd with h2 | ⟨p, hp, hS, h2, h3⟩
      · omega
      · rcases Nat.lt_trichotomy p t with h4 | h4 | h4
        · have := R.nxle (show p + 1 ≤ t by omega) (Nat.le_of_lt C.lt); omega
        · subst h4; rw [C.out] at hS; cases hS
        · exact none_behind p h4 hp hS
    refine ⟨sH t, sH (t + 1), ?_, ?_, R.n0s t (Nat.le_of_lt C.lt), ?_, R.n0s (t + 1) C.lt, h0, hN, fresh _ (Nat.le_refl _), fun _ => fresh, fun b h2 h3 => ⟨h2, h3⟩⟩
    · exact aone_iff.2 ⟨x, (hv _).symm, (R.agree C).one h1⟩
    · intro b hb
      rw [gS_stop (t := t) (Nat.le_of_lt C.lt)]
      · exact (R.ahead D C hb fun p hp hS w' k' k2 => by rw [k] at k2; cases k2).symm
      · intro p hp hpn hS
        rcases Nat.lt_or_eq_of_le hp with h4 | h4
        · exact (none_behind p h4 hpn hS).elim
        · subst h4; rw [C.out] at hS; cases hS
    · intro b
      exact R.ins_same D C (.eff w k)
  cases h1 with
  | off w e e2 =>
    exact ⟨_, _, R.same D C hv (fun b ht => by
      have : (O t).wanted (sF t) = true := by cases ht <;> assumption
      rw [w] at this
      cases this) (.off w e rfl)⟩
  | call w f as H1 e e2 => exact effCase w (enter_eff e)
  | val w e =>
    have quiet : (knd (O t).o ≠ .alloc) → (knd (O t).o ≠ .st) → (knd (O t).o ≠ .eff) → ∀ b, ¬ Tch O sF sH t b := by
      intro h2 h3 h4 b ht
      cases ht with
      | alloc _ k _ => exact h2 k
      | st _ k _ => exact h3 k
      | eff _ k => exact h4 k
    cases hk : knd (O t).o with
    | eff => exact effCase w hk
    | pure =>
      exact ⟨_, _, R.same D C hv (quiet (by simp [hk]) (by simp [hk]) (by simp [hk])) (.val w ((kind_pure hk e).2 _))⟩
    | load =>
      obtain ⟨_, a, vs, hl, had, hvs, hall⟩ := kind_load hk e
      exact ⟨_, _, R.same D C hv (quiet (by simp [hk]) (by simp [hk]) (by simp [hk])) (.val w (hall _ (R.load D C w hk hl had hvs (hadr w _ had))))⟩
    | read =>
      obtain ⟨_, hall⟩ := kind_read hk e
      exact ⟨_, _, R.same D C hv (quiet (by simp [hk]) (by simp [hk]) (by simp [hk])) (.val w (hall _ (fun b had hs => R.look D C w (.inl hk) had hs (hadr w _ had)) hn0))⟩
    | st =>
      obtain ⟨c, blk, had, hs, e2, hall⟩ := kind_st hk e
      have h3 := hall (mkH O sF sH S n (sH n).nx) (R.look D C w (.inr hk) had hs (hadr w _ had)) hn0
      have hone : One call (O t) (sF t) (mkH O sF sH S n (sH n).nx) x ((mkH O sF sH S n (sH n).nx).put c blk) := .val w h3
      refine ⟨_, _, aone_iff.2 ⟨x, (hv _).symm, (R.agree C).one hone⟩, fun b _ => rfl, rfl, fun b => ?_, rfl, R.nxle (Nat.zero_le n) (Nat.le_refl _), Nat.le_refl _, R.topFree D (Nat.le_refl _), fun _ b hb => R.topFree D hb, fun b h1 h2 => ?_⟩
      · rw [AH.raw_put]
        by_cases hb : b = c
        · subst hb
          rw [if_pos rfl, R.ins_same D C (.st w hk had), e2, AH.raw_put, if_pos rfl]
        · rw [if_neg hb, ins_other]
          · rfl
          · intro ht
            cases ht with
            | alloc _ k _ => rw [hk] at k; cases k
            | eff _ k => rw [hk] at k; cases k
            | st _ _ e => rw [had] at e; cases e; exact hb rfl
      · have : b < (sH n).nx := h2
        have : (sH n).nx ≤ b := h1
        omega
    | alloc =>
      obtain ⟨blk, e2, hall⟩ := kind_alloc hk e
      have h3 := hall (mkH O sF sH S n (sH t).nx) rfl
      have hone : One call (O t) (sF t) (mkH O sF sH S n (sH t).nx) x ((mkH O sF sH S n (sH t).nx).alloc blk) := .val w h3
      have hnx := R.alloc_nx C.lt w hk
      refine ⟨_, _, aone_iff.2 ⟨x, (hv _).symm, (R.agree C).one hone⟩, fun b _ => rfl, rfl, fun b => ?_, rfl, h0, ?_, R.noAlloc D C.lt C.out w hk, fun h => ?_, fun b h1 h2 => ?_⟩
      · rw [AH.raw_alloc]
        by_cases hb : b = (mkH O sF sH S n (sH t).nx).nx
        · have hb' : b = (sH t).nx := hb
          rw [if_pos hb, R.ins_same D C (.alloc w hk hb'), e2, AH.raw_alloc, if_pos hb']
        · rw [if_neg hb, ins_other]
          · rfl
          · intro ht
            cases ht with
            | alloc _ k e => exact hb e
            | eff _ k => rw [hk] at k; cases k
            | st _ k e => rw [hk] at k; cases k
      · show (sH t).nx + 1 ≤ _
        omega
      · rw [hk] at h; cases h
      · have h1' : (sH t).nx ≤ b := h1
        have h2' : b < (sH t).nx + 1 := h2
        omega
end
end Go.Proofs.YtoijnpfpjpefgaaGreat.A
