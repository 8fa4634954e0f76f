/- Specs: names. -/
import Derived.Test.YtoijnpfpjpefgaaGreatS1
set_option linter.unusedVariables false
set_option linter.unusedSimpArgs false
namespace Go.Proofs.YtoijnpfpjpefgaaGreat.A
open Go
def isLetter (c : Int) : Bool := decide (97 ≤ c) && decide (c ≤ 122)
def isDigit (c : Int) : Bool := decide (48 ≤ c) && decide (c ≤ 57)
theorem letter_ca (c : Int) (H : AH) : Ca E O 121 [.int .u8 c] H (fun x H' => x = .bool (isLetter c) ∧ H' = H) := by
  refine Ca.bodyK (F := a121) rfl rfl rfl ?_
  by_cases h : 97 ≤ c
  · simp -implicitDefEqProofs [a121, aop, isLetter, h]
  · simp -implicitDefEqProofs [a121, aop, isLetter, h]
theorem digit_ca (c : Int) (H : AH) : Ca E O 123 [.int .u8 c] H (fun x H' => x = .bool (isDigit c) ∧ H' = H) := by
  refine Ca.bodyK (F := a123) rfl rfl rfl ?_
  by_cases h : 48 ≤ c
  · simp -implicitDefEqProofs [a123, aop, isDigit, h]
  · simp -implicitDefEqProofs [a123, aop, isDigit, h]
def isTaken (s : ByteArray) : Bool := strEq s ⟨#[119, 105, 100, 116, 104]⟩ || (strEq s ⟨#[118, 97, 114]⟩ || (strEq s ⟨#[105, 102]⟩ || (strEq s ⟨#[101, 108, 115, 101]⟩ || (strEq s ⟨#[119, 104, 105, 108, 101]⟩ || (strEq s ⟨#[111, 117, 116]⟩ || (strEq s ⟨#[112, 105, 99, 107]⟩ || (strEq s ⟨#[110, 101, 101, 100]⟩ || (strEq s ⟨#[109, 117, 115, 116]⟩ || (strEq s ⟨#[108, 101, 118, 101, 108]⟩ || (strEq s ⟨#[115, 101, 101, 115]⟩))))))))))
theorem Taken_ca (s : ByteArray) (H : AH) : Ca E O 122 [.string s] H (fun x H' => x = .bool (isTaken s) ∧ H' = H) := by
  refine Ca.bodyK (F := a122) rfl rfl rfl ?_
  cases h0 : strEq s ⟨#[119, 105, 100, 116, 104]⟩ with
  | true => simp -implicitDefEqProofs [a122, aop, isTaken, h0]
  | false =>
    cases h1 : strEq s ⟨#[118, 97, 114]⟩ with
    | true => simp -implicitDefEqProofs [a122, aop, isTaken, h0, h1]
    | false =>
      cases h2 : strEq s ⟨#[105, 102]⟩ with
      | true => simp -implicitDefEqProofs [a122, aop, isTaken, h0, h1, h2]
      | false =>
        cases h3 : strEq s ⟨#[101, 108, 115, 101]⟩ with
        | true => simp -implicitDefEqProofs [a122, aop, isTaken, h0, h1, h2, h3]
        | false =>
          cases h4 : strEq s ⟨#[119, 104, 105, 108, 101]⟩ with
          | true => simp -implicitDefEqProofs [a122, aop, isTaken, h0, h1, h2, h3, h4]
          | false =>
            cases h5 : strEq s ⟨#[111, 117, 116]⟩ with
            | true => simp -implicitDefEqProofs [a122, aop, isTaken, h0, h1, h2, h3, h4, h5]
            | false =>
              cases h6 : strEq s ⟨#[112, 105, 99, 107]⟩ with
              | true => simp -implicitDefEqProofs [a122, aop, isTaken, h0, h1, h2, h3, h4, h5, h6]
              | false =>
                cases h7 : strEq s ⟨#[110, 101, 101, 100]⟩ with
                | true => simp -implicitDefEqProofs [a122, aop, isTaken, h0, h1, h2, h3, h4, h5, h6, h7]
                | false =>
                  cases h8 : strEq s ⟨#[109, 117, 115, 116]⟩ with
                  | true => simp -implicitDefEqProofs [a122, aop, isTaken, h0, h1, h2, h3, h4, h5, h6, h7, h8]
                  | false =>
                    cases h9 : strEq s ⟨#[108, 101, 118, 101, 108]⟩ with
                    | true => simp -implicitDefEqProofs [a122, aop, isTaken, h0, h1, h2, h3, h4, h5, h6, h7, h8, h9]
                    | false =>
                      cases h10 : strEq s ⟨#[115, 101, 101, 115]⟩ with
                      | true => simp -implicitDefEqProofs [a122, aop, isTaken, h0, h1, h2, h3, h4, h5, h6, h7, h8, h9, h10]
                      | false =>
                        simp -implicitDefEqProofs [a122, aop, isTaken, h0, h1, h2, h3, h4, h5, h6, h7, h8, h9, h10]
def nameByte (c : Int) : Bool := isLetter c || (isDigit c || decide (c = 95))
def isName (s : ByteArray) : Bool := decide (1 ≤ s.size) && (decide (s.size ≤ 12) && (isLetter (byteAt s 0) && (!isTaken s && (List.range s.size).all fun i => nameByte (byteAt s i))))
theorem Name_ca (s : ByteArray) (hsz : s.size < 2 ^ 60) (H : AH) : Ca E O 105 [.string s] H (fun x H' => x = .bool (isName s) ∧ H' = H) := by
  refine Ca.bodyK (F := a105) rfl rfl rfl ?_
  by_cases h1 : 1 ≤ s.size
  case neg =>
    have h1' : s.size = 0 := by omega
    simp -implicitDefEqProofs [a105, aop, isName, h1']
  have h1' : ¬ s.size = 0 := by omega
  have h1'' : ¬ (s.size : Int) < 1 := by omega
  by_cases h2 : s.size ≤ 12
  case neg =>
    have h2' : 12 < s.size := by omega
    have h2'' : (12 : Int) < s.size := by omega
    simp -implicitDefEqProofs [a105, aop, isName, h1', h1'', h1, h2, h2', h2'']
  have h2' : ¬ 12 < s.size := by omega
  have h2'' : ¬ (12 : Int) < s.size := by omega
  have ix0 : s[0]? = some s[0] := getElem?_pos s 0 (by omega)
  have ix0' : ((s[0].toNat : Nat) : Int) = byteAt s 0 := by unfold byteAt; rw [ix0]; rfl
  simp -implicitDefEqProofs [a105, aop, h1', h1'', h1, h2, h2', h2'', ix0]
  rw [ix0']
  refine Wr_call ?_
  simp -implicitDefEqProofs
  refine (letter_ca _ H).mono ?_
  rintro x H' ⟨rfl, rfl⟩
  cases h3 : isLetter (byteAt s 0) with
  | false => simp -implicitDefEqProofs [aop, isName, h1', h1, h2, h3]
  | true =>
    simp -implicitDefEqProofs [aop, h3]
    refine Wr_call ?_
    simp -implicitDefEqProofs
    refine (Taken_ca s H').mono ?_
    rintro x H'' ⟨rfl, rfl⟩
    cases h4 : isTaken s with
    | true => simp -implicitDefEqProofs [aop, isName, h1', h1, h2, h3, h4]
    | false =>
      simp -implicitDefEqProofs [aop, h3, h4]
      refine Wk_loop (fun k fr H' => H' = H'' ∧ ∃ i : Nat, i + k = s.size ∧ fr.get 0 = .string s ∧ fr.get 3 = .int .i64 i ∧ ∀ j, j < i → nameByte (byteAt s j) = true) ?_ s.size ⟨rfl, 0, by simp, by simp, by simp, fun j hj => by omega⟩
      rintro k fr H' ⟨rfl, i, hi, f0, f3, hall⟩
      by_cases h : i < s.size
      · have ixi : s[i]? = some s[i] := getElem?_pos s i h
        have ixi' : ((s[i].toNat : Nat) : Int) = byteAt s i := by unfold byteAt; rw [ixi]; rfl
        simp -implicitDefEqProofs [aop, f0, f3, h, ixi]
        rw [ixi']
        refine Wr_call ?_
        simp -implicitDefEqProofs
        refine (letter_ca _ H').mono ?_
        rintro x H1 ⟨rfl, rfl⟩
        cases h5 : isLetter (byteAt s i) with
        | true =>
          simp -implicitDefEqProofs [aop, f0, f3, h, ixi, h5]
          rw [wrap_in ⟨by omega, by omega⟩]
          refine ⟨k - 1, by omega, i + 1, by omega, by simp, fun j hj => ?_⟩
          by_cases e : j = i
          · subst e; simp [nameByte, h5]
          · exact hall j (by omega)
        | false =>
          simp -implicitDefEqProofs [aop, f0, f3, h, ixi, h5]
          rw [ixi']
          refine Wr_call ?_
          simp -implicitDefEqProofs
          refine (digit_ca _ H1).mono ?_
          rintro x H2 ⟨rfl, rfl⟩
          cases h6 : isDigit (byteAt s i) with
          | true =>
            simp -implicitDefEqProofs [aop, f0, f3, h, ixi, h5, h6]
            rw [wrap_in ⟨by omega, by omega⟩]
            refine ⟨k - 1, by omega, i + 1, by omega, by simp, fun j hj => ?_⟩
            by_cases e : j = i
            · subst e; simp [nameByte, h6]
            · exact hall j (by omega)
          | false =>
            simp -implicitDefEqProofs [aop, f0, f3, h, ixi, h5, h6]
            rw [ixi']
            by_cases h7 : byteAt s i = 95
            · simp -implicitDefEqProofs [aop, f0, f3, h, ixi, h5, h6, h7]
              rw [wrap_in ⟨by omega, by omega⟩]
              refine ⟨k - 1, by omega, i + 1, by omega, by simp, fun j hj => ?_⟩
              by_cases e : j = i
              · subst e; simp [nameByte, h7]
              · exact hall j (by omega)
            · simp -implicitDefEqProofs [aop, f0, f3, h, ixi, h5, h6, h7]
              have : nameByte (byteAt s i) = false := by simp [nameByte, h5, h6, h7]
              simp [isName, h1, h2, h3, h4]
              exact ⟨i, h, this⟩
      · simp -implicitDefEqProofs [aop, f0, f3, h]
        simp [isName, h1, h2, h3, h4]
        exact fun j hj => hall j (by omega)
end Go.Proofs.YtoijnpfpjpefgaaGreat.A
