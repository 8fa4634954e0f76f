/- From the machine to the model's calls: the heap at the beginning. -/
import Derived.Test.YtoijnpfpjpefgaaGreatAbsJ
set_option linter.unusedVariables false
set_option linter.unusedSimpArgs false
namespace Go.Proofs.YtoijnpfpjpefgaaGreat.A
open Go Go.RowKit
/-- The memory that a call finds. -/
def memOf (W : World) (b : Nat) : Option Blk := match W.heap[b]? with
  | some (.cells cs _ _) => some (.cells 1048576 cs.toList)
  | _ => none
def H0 (W : World) : AH := ⟨memOf W, W.heap.size, W.heap.size, .nil⟩
def phi0 (W : World) : Phi := ⟨W.heap.size, W.heap.size, fun b => if b < W.heap.size then some ⟨b, 0, 0, 1⟩ else none⟩
theorem H0_raw (W : World) (b : Nat) : (H0 W).raw b = memOf W b := rfl
theorem rel0 (W : World) : Rel W (phi0 W) (H0 W) W where
  n0 := rfl
  le1 := Nat.le_refl _
  le2 := Nat.le_refl _
  c0 := rfl
  below := Below.refl _ _
  oldm := fun b hb => if_pos hb
  oldc := fun b z cs hb hg => by
    rw [H0_raw] at hg
    unfold memOf at hg
    split at hg
    · rename_i cs' e fz hw
      cases hg
      exact ⟨e, fz, by rw [hw]⟩
    · cases hg
  cells := fun b l z cs hb hl hg => by
    have : ¬ b < W.heap.size := Nat.not_lt.2 hb
    simp only [phi0, if_neg this] at hl
    cases hl
  maps := fun b l es hb hl hg => by
    have : ¬ b < W.heap.size := Nat.not_lt.2 hb
    simp only [phi0, if_neg this] at hl
    cases hl
  inj := fun b1 b2 l1 l2 hb1 hb2 h1 h2 _ _ _ => by
    have : ¬ b1 < W.heap.size := Nat.not_lt.2 hb1
    simp only [phi0, if_neg this] at h1
    cases h1
theorem fresh0 (W : World) : Fresh (phi0 W) (H0 W) := fun b hb => if_neg (Nat.not_lt.2 hb)
theorem calls_of_ca {P : Program} {E : Env} {O : Orc} (hm : P.follows .mixedOrders = true) (hE : EnvOk P E) (hO : OrcOk P O) {f : Nat} {as : List Value} {as' : Array Value} {W : World} (hv : VL (phi0 W) as as'.toList)
    (h : Ca E O f as (H0 W) (fun x _ => x = .bool true)) : Calls P f as' W fun e w' => e = .returned (.bool true) ∧ Below W.heap.size W w' := by
  obtain ⟨n, x, H', e, rfl⟩ := h
  refine ((runF_ok hm hE hO n f as _ _ _ e).2 W (phi0 W) W as' (rel0 W) (fresh0 W) hv).mono ?_
  rintro e w' ⟨φ', v', rfl, hV, R, G⟩
  rw [hV.bool]
  exact ⟨rfl, R.below⟩

/-! ### Codes by number -/
def Good (P : Program) (f : Nat) (F : AF) : Prop := ∃ fn, P.funcs[f]? = some fn ∧ cFunc P fn = some F
def EtOk (P : Program) (g : Nat → Nat) (t : T (Option AF)) : Prop := ∀ k F, t.get none k = some F → Good P (g k) F
theorem EtOk.nil {P : Program} {g : Nat → Nat} : EtOk P g .nil := fun k F h => by cases k <;> cases h
theorem EtOk.node {P : Program} {g : Nat → Nat} {v : Option AF} {l r : T (Option AF)} (h : ∀ F, v = some F → Good P (g 0) F) (hl : EtOk P (fun k => g (2 * k + 1)) l) (hr : EtOk P (fun k => g (2 * k + 2)) r) : EtOk P g (.node v l r) := by
  intro k F hk
  simp only [T.get, nb, Bool.cond_decide] at hk
  split at hk
  · rename_i e
    subst e
    exact h F hk
  · split at hk
    · have := hl _ F hk
      simp only at this
      rwa [show 2 * (k / 2) + 1 = k by omega] at this
    · have := hr _ F hk
      simp only at this
      rwa [show 2 * (k / 2 - 1) + 2 = k by omega] at this
end Go.Proofs.YtoijnpfpjpefgaaGreat.A
