/- A closed call told once for all heaps. -/
import Derived.Test.YtoijnpfpjpefgaaGreatAbsK
set_option linter.unusedVariables false
set_option linter.unusedSimpArgs false
namespace Go.Proofs.YtoijnpfpjpefgaaGreat.A
open Go Go.RowKit
theorem Rel.later {w0 w w' : World} {φ : Phi} {H : AH} (R : Rel w0 φ H w) (B : Below w.heap.size w w') : Rel w0 φ H w' where
  n0 := R.n0
  le1 := R.le1
  le2 := R.le2
  c0 := R.c0
  below := ⟨B.os.trans R.below.os, B.tape.trans R.below.tape, B.output.trans R.below.output, Nat.le_trans R.below.size B.size, fun k hk => (B.block k (Nat.lt_of_lt_of_le hk R.below.size)).trans (R.below.block k hk)⟩
  oldm := R.oldm
  oldc := fun b z cs hb hg => by
    obtain ⟨e, fz, hw⟩ := R.oldc b z cs hb hg
    exact ⟨e, fz, (B.block b (Array.getElem?_eq_some_iff.1 hw).1).trans hw⟩
  cells := fun b l z cs hb hl hg => by
    obtain ⟨h1, h2, h3, arr, e, h4, h5, h6⟩ := R.cells b l z cs hb hl hg
    exact ⟨h1, h2, h3, arr, e, (B.block l.c (Array.getElem?_eq_some_iff.1 h4).1).trans h4, h5, h6⟩
  maps := fun b l es hb hl hg => by
    obtain ⟨h1, es', ck, h4, h5⟩ := R.maps b l es hb hl hg
    exact ⟨h1, es', ck, (B.block l.c (Array.getElem?_eq_some_iff.1 h4).1).trans h4, h5⟩
  inj := R.inj
def He : AH := ⟨fun _ => none, 0, 0, .nil⟩
def isTrue : Option (Value × AH) → Bool
  | some (.bool true, _) => true
  | _ => false
theorem closed_sim {P : Program} {E : Env} {O : Orc} (hm : P.follows .mixedOrders = true) (hE : EnvOk P E) (hO : OrcOk P O) {n f : Nat} (h : isTrue (runF E O n f [] He) = true) (H : AH) : HasF P f ∧ SimF P f [] H (.bool true) H := by
  unfold isTrue at h
  split at h
  case h_2 => cases h
  rename_i H' e
  obtain ⟨h1, h2⟩ := runF_ok hm hE hO n f [] He (.bool true) H' e
  refine ⟨h1, ?_⟩
  intro w0 φ w as' R R0 hv
  have Re : Rel w ⟨0, w.heap.size, fun _ => none⟩ He w := ⟨rfl, Nat.zero_le _, Nat.le_refl _, rfl, Below.refl _ _, fun b hb => absurd hb (Nat.not_lt_zero _), fun b z cs hb => absurd hb (Nat.not_lt_zero _),
    fun b l z cs _ hl => (by cases hl), fun b l es _ hl => (by cases hl), fun b1 b2 l1 l2 _ _ hl => (by cases hl)⟩
  have hv' : VL ⟨0, w.heap.size, fun _ => none⟩ [] as'.toList := by
    have := hv.length
    have e : as'.toList = [] := List.eq_nil_of_length_eq_zero this.symm
    rw [e]
    exact .nil
  refine (h2 w _ w as' Re (fun _ _ => rfl) hv').mono ?_
  rintro e w' ⟨φ', v', rfl, hV, R', G⟩
  rw [hV.bool]
  refine ⟨φ, _, rfl, .same rfl, R.later R'.below, Phi.le_refl _, rfl, rfl, Nat.le_refl _, fun b l h k => (by rw [h] at k; cases k), R'.below.size, fun c hc hf => ⟨R'.below.block c hc, hf⟩⟩
/-- The oracle of a closed call that answers true. -/
def orc1 (f : Nat) : Orc := fun g => bif Nat.beq g f then some (fun as H => match as with | [] => some (.bool true, H) | _ => none) else none
theorem orc1_ok {P : Program} {E : Env} (hm : P.follows .mixedOrders = true) (hE : EnvOk P E) {n f : Nat} (h : isTrue (runF E (fun _ => none) n f [] He) = true) : OrcOk P (orc1 f) := by
  intro g k hk as H v H' hv
  by_cases e : g = f
  case neg => simp [orc1, nb, e] at hk
  subst e
  simp only [orc1, nb, decide_true, cond_true, Option.some.injEq] at hk
  subst hk
  cases as with
  | nil =>
    simp only [Option.some.injEq, Prod.mk.injEq] at hv
    obtain ⟨rfl, rfl⟩ := hv
    exact closed_sim hm hE (fun f g h => by cases h) h H
  | cons a l => simp at hv
end Go.Proofs.YtoijnpfpjpefgaaGreat.A
