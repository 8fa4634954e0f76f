/- Specs: depths of programs. -/
import Derived.Test.YtoijnpfpjpefgaaGreatS9
set_option linter.unusedVariables false
set_option linter.unusedSimpArgs false
namespace Go.Proofs.YtoijnpfpjpefgaaGreat.A
open Go
mutual
def depthSt : Stm → Int → Int
  | .mk _ _ _ thn els, n => max (max n (1 + depthS thn 0)) (1 + depthS els 0)
def depthS : List Stm → Int → Int
  | [], n => n
  | s :: ss, n => depthS ss (depthSt s n)
end
theorem depthS_foldl : ∀ (l : List Stm) (n : Int), depthS l n = l.foldl (fun n e => depthSt e n) n
  | [], n => rfl
  | e :: es, n => by simp [depthS, depthS_foldl es]
theorem depthS_bound : ∀ l, ∀ k, 0 ≤ k → k ≤ depthS l k ∧ depthS l k ≤ max k (nodesS l) := stm_rec fun l ih => by
  induction l with
  | nil => intro k hk; rw [depthS, nodesS]; omega
  | cons s ss ihl =>
    obtain ⟨op, n, args, thn, els⟩ := s
    intro k hk
    obtain ⟨t, u⟩ := ih op n args thn els (by simp)
    have t := t 0 (by omega)
    have u := u 0 (by omega)
    have t2 := (leftSts_eq thn).1
    have u2 := (leftSts_eq els).1
    have v2 := (leftSts_eq ss).1
    have a0 := nodesL_pos args
    rw [depthS, nodesS, nodesSt, depthSt]
    have w := ihl (fun op n args thn els h => ih op n args thn els (by simp [h])) (max (max k (1 + depthS thn 0)) (1 + depthS els 0)) (by omega)
    omega
theorem nodesS_mem {l : List Stm} {op n : Int} {args : List Exp} {thn els : List Stm} (h : Stm.mk op n args thn els ∈ l) : 1 + nodesS thn ≤ nodesS l ∧ 1 + nodesS els ≤ nodesS l ∧ 1 + nodesL args ≤ nodesS l := by
  induction l with
  | nil => cases h
  | cons s ss ih =>
    rw [nodesS]
    have v2 := (leftSts_eq ss).1
    rcases List.mem_cons.1 h with h | h
    · rw [← h, nodesSt]
      have t2 := (leftSts_eq thn).1
      have u2 := (leftSts_eq els).1
      have a0 := nodesL_pos args
      omega
    · have := ih h
      obtain ⟨op', n', args', thn', els'⟩ := s
      rw [nodesSt]
      have t2 := (leftSts_eq thn').1
      have u2 := (leftSts_eq els').1
      have a0 := nodesL_pos args'
      omega
theorem PDepth_ca : ∀ (N : Nat) (l : List Stm) (v : Value) (rows : List (List Value)) (H : AH), SizeOf.sizeOf l < N → H.n0 ≤ H.nx → l.length < 2 ^ 60 → Rows H 5 v rows → StL H rows l → nodesS l < 2 ^ 60 →
    Ca E O 80 [v] H (fun x H' => x = .int .i64 (depthS l 0) ∧ Ext H H') := by
  intro N
  induction N with
  | zero => intro l v rows H h; omega
  | succ N ih =>
    intro l v rows H hN hw hlen hr hl hm
    refine Ca.bodyK (F := a80) rfl rfl rfl ?_
    obtain ⟨a0, c0, hv⟩ := hr.len
    rw [hl.length] at hv
    simp -implicitDefEqProofs [a80, aop]
    refine Wk_loop (fun k fr H' => Ext H H' ∧ ∃ i : Nat, i + k = l.length ∧ fr.get 0 = v ∧ fr.get 4 = .int .i64 i ∧ fr.get 3 = .int .i64 (depthS (l.take i) 0)) ?_ l.length ⟨Ext.refl _, 0, by simp, by simp, by simp, by simp [depthS]⟩
    rintro k fr H1 ⟨X1, i, hi, f0, f4, f3⟩
    by_cases h : i < l.length
    · obtain ⟨⟨op, n, args, thn, els⟩, hy⟩ : ∃ y, l[i]? = some y := ⟨_, List.getElem?_eq_getElem h⟩
      have hs := size_thn hy
      have hn := nodesS_mem (List.mem_of_getElem? hy)
      obtain ⟨b, o, c, va, vt, ve, ra, rt, re, hv', _, _, _, e2, e3, e4, i1, i2, i3, i4, i5, g1, g2, g3, g4, g5, g6⟩ := StL.row (hr.ext X1) (hl.ext X1) hy
      obtain ⟨a4, c4, hve⟩ := g5.len
      have hw1 := X1.wf hw
      rw [hv'] at f0
      simp -implicitDefEqProofs [aop, f0, f4, f3, h]
      refine Wk_regd _ _ ?_
      simp -implicitDefEqProofs [aop, f0, f4, f3, h, e3, e4]
      refine Wd_call ?_
      simp -implicitDefEqProofs
      refine (ih thn vt rt H1 (by omega) hw1 i4 g3 g4 (by omega)).mono ?_
      rintro x H2 ⟨rfl, X2⟩
      have bt := depthS_bound thn 0 (by omega)
      have be := depthS_bound els 0 (by omega)
      simp -implicitDefEqProofs [aop]
      rw [wrap_in (n := 1 + depthS thn 0) ⟨by omega, by omega⟩]
      refine Wd_call ?_
      simp -implicitDefEqProofs
      refine (ih els ve re H2 (by omega) (X2.wf hw1) i5 (g5.ext X2) (g6.ext X2) (by omega)).mono ?_
      rintro x H3 ⟨rfl, X3⟩
      have e4n := ld_ldn.1 e4
      have e4n2 := X2.ldn e4n
      rw [hve] at e4n e4n2
      simp -implicitDefEqProofs [aop, mxA, okD, chain, chk1, nth, AO.wanted, loadOf, sameAt, sameL, same1, e4n, e4n2, X2.n0, X3.n0, X2.nx, X3.nx, f0, f4]
      rw [wrap_in (n := 1 + depthS els 0) ⟨by omega, by omega⟩, wrap_in (n := (i : Int) + 1) ⟨by omega, by omega⟩]
      have e5 : depthS (l.take (i + 1)) 0 = max (max (depthS (l.take i) 0) (1 + depthS thn 0)) (1 + depthS els 0) := by
        rw [List.take_add_one, hy]
        simp [depthS_foldl, List.foldl_append, depthSt]
      refine ⟨k - 1, by omega, X1.trans (X2.trans X3), i + 1, by omega, hv'.symm, by simp, ?_⟩
      rw [e5]
      split <;> split <;> omega
    · rw [hv] at f0
      simp -implicitDefEqProofs [aop, f0, f4, f3, h]
      rw [List.take_of_length_le (by omega)]
      exact ⟨rfl, X1⟩
end Go.Proofs.YtoijnpfpjpefgaaGreat.A
