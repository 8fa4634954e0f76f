/- Specs: the program's names, headings. -/
import Derived.Test.YtoijnpfpjpefgaaGreatS14
import Derived.Test.YtoijnpfpjpefgaaGreatAbsP
set_option linter.unusedVariables false
set_option linter.unusedSimpArgs false
set_option maxRecDepth 10000
namespace Go.Proofs.YtoijnpfpjpefgaaGreat.A
open Go
theorem inName_ca (c : Int) (H : AH) : Ca E O 133 [.int .u8 c] H (fun x H' => x = .bool (nameByte c) ∧ H' = H) := by
  refine Ca.bodyV (F := a133) rfl rfl rfl ?_
  simp (maxSteps := 4000000) -implicitDefEqProofs +contextual [-X.ev, a133]
  simp [br, nameByte, isLetter, isDigit]
  by_cases h1 : 97 ≤ c <;> by_cases h2 : c ≤ 122 <;> by_cases h3 : 48 ≤ c <;> by_cases h4 : c ≤ 57 <;> simp [*] <;> omega
theorem nameByte_letter {c : Int} (h : isLetter c = true) : nameByte c = true := by simp [nameByte, h]
theorem strEq_nil {s : ByteArray} : strEq s ⟨#[]⟩ = decide (s.size = 0) := by
  rw [Bool.eq_iff_iff, strEq_iff]
  constructor
  · rintro rfl; rfl
  · intro h; simp at h; exact h
theorem isName_ca (s : ByteArray) (hsz : s.size < 2 ^ 60) (H : AH) : Ca E O 118 [.string s] H (fun x H' => x = .bool (isName s) ∧ H' = H) := by
  refine Ca.bodyV (F := a118) rfl rfl rfl ?_
  by_cases h1 : s.size = 0
  · simp (maxSteps := 4000000) -implicitDefEqProofs +contextual [-X.ev, a118, strEq_nil, h1, isName]
  have h1' : 0 < s.size := by omega
  have ix0 : ixV (.string s) (.int .i64 0) = some (.int .u8 (byteAt s 0)) := ixV_p (n := 0) h1'
  have ltr : isLetter (byteAt s 0) = (decide (97 ≤ byteAt s 0) && decide (byteAt s 0 ≤ 122)) := rfl
  obtain ⟨b0, ltr0⟩ : ∃ b, byteAt s 0 = b := ⟨_, rfl⟩
  rw [ltr0] at ix0 ltr
  simp (maxSteps := 4000000) -implicitDefEqProofs +contextual [-X.ev, a118, strEq_nil, h1, ix0]
  refine br_i (fun q => ?_) (fun q => br_i (fun q1 => ?_) (fun q1 => br_i (fun q2 => ?_) (fun q2 => ?_)))
  · have : ¬ s.size ≤ 12 := by omega
    simp [isName, this]
  · have q1' : ¬ 97 ≤ b0 := by omega
    simp [isName, ltr0, ltr, q1']
  · have q2' : ¬ b0 ≤ 122 := by omega
    simp [isName, ltr0, ltr, q2']
  refine Vk_loop (fun k fr H' => H' = H ∧ ∃ i : Nat, i + k = s.size ∧ fr.get 0 = .string s ∧ fr.get 3 = .int .i64 i ∧ ∀ j, j < i → nameByte (byteAt s j) = true) ?_ s.size ⟨rfl, 0, by simp, by simp, by simp, fun j hj => by omega⟩
  rintro k fr H' ⟨rfl, i, hi, f0, f3, hall⟩
  by_cases h : i < s.size
  · have ixi : ixV (.string s) (.int .i64 i) = some (.int .u8 (byteAt s i)) := ixV_p h
    simp (maxSteps := 4000000) -implicitDefEqProofs +contextual [-X.ev, f0, f3, h, ixi]
    apply Vx_callM
    · (simp -implicitDefEqProofs [-X.ev]; rfl)
    refine (inName_ca (byteAt s i) H').mono ?_
    rintro x H1 ⟨rfl, rfl⟩
    cases h5 : nameByte (byteAt s i) with
    | true =>
      simp (maxSteps := 4000000) -implicitDefEqProofs +contextual [-X.ev, f0, f3]
      rw [wrap_in ⟨by omega, by omega⟩]
      refine ⟨k - 1, by omega, i + 1, by omega, by simp, fun j hj => ?_⟩
      by_cases e : j = i
      · subst e; exact h5
      · exact hall j (by omega)
    | false =>
      simp (maxSteps := 4000000) -implicitDefEqProofs +contextual [-X.ev]
      simp [isName]
      intro _ _ _ _
      exact ⟨i, h, h5⟩
  · have hall' : ((List.range s.size).all fun i => nameByte (byteAt s i)) = true := by simpa using fun j hj => hall j (by omega)
    have z1 : 1 ≤ s.size := by omega
    have z2 : s.size ≤ 12 := by omega
    have z3 : isLetter (byteAt s 0) = true := by rw [ltr0, ltr]; simp; omega
    have e : isName s = !isTaken s := by simp [isName, hall', z1, z2, z3]
    simp (maxSteps := 4000000) -implicitDefEqProofs +contextual [-X.ev, f0, f3, h, e, isTaken]
end Go.Proofs.YtoijnpfpjpefgaaGreat.A
