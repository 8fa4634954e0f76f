/- Specs: words, cells. -/
import Derived.Test.YtoijnpfpjpefgaaGreatAwake
import Derived.Test.YtoijnpfpjpefgaaGreatAbsN
set_option linter.unusedVariables false
set_option linter.unusedSimpArgs false
namespace Go.Proofs.YtoijnpfpjpefgaaGreat.A
open Go
def isWidth (w : Int) : Bool := decide (1 ≤ w) && decide (w ≤ 8)
theorem Width_ca (w : Int) (H : AH) : Ca E O 104 [.int .i64 w] H (fun x H' => x = .bool (isWidth w) ∧ H' = H) := by
  refine Ca.bodyK (F := a104) rfl rfl rfl ?_
  by_cases h : 1 ≤ w
  · simp -implicitDefEqProofs [a104, aop, isWidth, h]
  · simp -implicitDefEqProofs [a104, aop, isWidth, h]
theorem two_pow_le {n : Nat} (h : n ≤ 60) : (2 : Int) ^ n ≤ 2 ^ 60 := by
  have : (2 : Nat) ^ n ≤ 2 ^ 60 := Nat.pow_le_pow_right (by omega) h
  exact_mod_cast this
theorem two_pow_pos (n : Nat) : (1 : Int) ≤ 2 ^ n := by
  have : 1 ≤ (2 : Nat) ^ n := Nat.one_le_two_pow
  exact_mod_cast this
theorem Pow_ca (n : Nat) (hn : n ≤ 60) (H : AH) : Ca E O 113 [.int .i64 n] H (fun x H' => x = .int .i64 (2 ^ n) ∧ H' = H) := by
  refine Ca.bodyK (F := a113) rfl rfl rfl ?_
  simp -implicitDefEqProofs [a113, aop]
  refine Wk_loop (fun k fr H' => H' = H ∧ ∃ i : Nat, i + k = n ∧ fr.get 0 = .int .i64 n ∧ fr.get 3 = .int .i64 (2 ^ i) ∧ fr.get 4 = .int .i64 i) ?_ n ⟨rfl, 0, by simp, by simp, by simp, by simp⟩
  rintro k fr H' ⟨rfl, i, hi, h0, h3, h4⟩
  by_cases h : i < n
  · have hp := two_pow_le (n := i + 1) (by omega)
    have hq := two_pow_pos i
    have he : (2 : Int) ^ (i + 1) = 2 * 2 ^ i := by rw [Int.pow_succ, Int.mul_comm]
    simp -implicitDefEqProofs [aop, h0, h3, h4, h]
    rw [wrap_in (n := 2 * 2 ^ i) ⟨by omega, by omega⟩, wrap_in (n := (i : Int) + 1) ⟨by omega, by omega⟩]
    exact ⟨k - 1, by omega, i + 1, by omega, he.symm, by simp⟩
  · simp -implicitDefEqProofs [aop, h0, h3, h4, h]
    rw [show i = n by omega]
def isWord (w a : Int) : Bool := isWidth w && (decide (0 ≤ a) && decide (a < 2 ^ w.toNat))
theorem Word_ca (w a : Int) (H : AH) : Ca E O 91 [.int .i64 w, .int .i64 a] H (fun x H' => x = .bool (isWord w a) ∧ H' = H) := by
  refine Ca.bodyK (F := a91) rfl rfl rfl ?_
  simp -implicitDefEqProofs [a91, aop]
  refine Wr_call ((Width_ca w H).mono ?_)
  rintro x H' ⟨rfl, rfl⟩
  cases h1 : isWidth w with
  | false => simp -implicitDefEqProofs [aop, h1, isWord]
  | true =>
    by_cases h2 : 0 ≤ a
    · simp -implicitDefEqProofs [aop, h1, h2]
      have hw : 1 ≤ w ∧ w ≤ 8 := by simpa [isWidth] using h1
      have := Pow_ca w.toNat (by omega) H'
      rw [show ((w.toNat : Nat) : Int) = w by omega] at this
      refine Wr_call ?_
      simp -implicitDefEqProofs
      refine this.mono ?_
      rintro x H'' ⟨rfl, rfl⟩
      simp -implicitDefEqProofs [aop, h1, h2, isWord]
    · simp -implicitDefEqProofs [aop, h1, h2, isWord]
theorem One_ca (b : Bool) (H : AH) : Ca E O 99 [.bool b] H (fun x H' => x = .int .i64 (if b = true then 1 else 0) ∧ H' = H) := by
  refine Ca.bodyK (F := a99) rfl rfl rfl ?_
  cases b <;> simp -implicitDefEqProofs [a99, aop]
theorem Words_ca (w : Int) (v : Value) (l : List Int) (H : AH) (hl : Ints H v l) (hsz : l.length < 2 ^ 60) :
    Ca E O 62 [.int .i64 w, v] H (fun x H' => x = .bool (l.all (isWord w)) ∧ H' = H) := by
  refine Ca.bodyK (F := a62) rfl rfl rfl ?_
  simp -implicitDefEqProofs [a62, aop]
  obtain ⟨a, c, hv⟩ := hl.len
  refine Wk_loop (fun k fr H' => H' = H ∧ ∃ i : Nat, i + k = l.length ∧ fr.get 0 = .int .i64 w ∧ fr.get 1 = v ∧ fr.get 5 = .int .i64 i ∧ ∀ x ∈ l.take i, isWord w x = true) ?_ l.length ⟨rfl, 0, by simp, by simp, by simp, by simp, by simp⟩
  rintro k fr H' ⟨rfl, i, hi, h0, h1, h5, hall⟩
  by_cases h : i < l.length
  · obtain ⟨n, hn⟩ : ∃ n, l[i]? = some n := ⟨_, List.getElem?_eq_getElem h⟩
    obtain ⟨b, o, c', hv', hld⟩ := hl.at hn
    rw [hv'] at h1
    simp -implicitDefEqProofs [aop, h0, h1, h5, h, hld]
    refine Wr_call ?_
    simp -implicitDefEqProofs [h0]
    refine (Word_ca w n H').mono ?_
    rintro x H'' ⟨rfl, rfl⟩
    cases hw : isWord w n with
    | true =>
      simp -implicitDefEqProofs [aop, h0, h1, h5, hw]
      rw [wrap_in ⟨by omega, by omega⟩]
      refine ⟨k - 1, by omega, i + 1, by omega, hv'.symm, by simp, ?_⟩
      rw [List.take_add_one, hn]
      intro x hx
      rcases List.mem_append.1 hx with hx | hx
      · exact hall x hx
      · simp at hx; subst hx; exact hw
    | false =>
      simp -implicitDefEqProofs [aop, h0, h1, h5, hw]
      exact ⟨n, List.mem_of_getElem? hn, hw⟩
  · rw [hv] at h1
    simp -implicitDefEqProofs [aop, h0, h1, h5, h]
    rw [List.take_of_length_le (by omega)] at hall
    exact hall
end Go.Proofs.YtoijnpfpjpefgaaGreat.A
