/- Specs: how many nodes of a program fit. -/
import Derived.Test.YtoijnpfpjpefgaaGreatS7
set_option linter.unusedVariables false
set_option linter.unusedSimpArgs false
namespace Go.Proofs.YtoijnpfpjpefgaaGreat.A
open Go
theorem leftSts_step {l : List Stm} {i : Nat} {s : Stm} (h : l[i]? = some s) (m : Int) (hm : 0 < m) : leftSts (l.drop i) m = leftSts (l.drop (i + 1)) (leftSt s m) := by
  obtain ⟨hlt, e⟩ := List.getElem?_eq_some_iff.1 h
  rw [List.drop_eq_getElem_cons hlt, leftSts, if_pos hm, e]
theorem leftL_step {l : List Exp} {i : Nat} {s : Exp} (h : l[i]? = some s) (m : Int) : leftL (l.drop i) m = leftL (l.drop (i + 1)) (leftE s m) := by
  obtain ⟨hlt, e⟩ := List.getElem?_eq_some_iff.1 h
  rw [List.drop_eq_getElem_cons hlt, leftL, e]
theorem left_ca : ∀ (N : Nat) (l : List Stm) (v : Value) (rows : List (List Value)) (H : AH) (m : Int), SizeOf.sizeOf l < N → H.n0 ≤ H.nx → l.length < 2 ^ 60 → Rows H 5 v rows → StL H rows l → 0 ≤ m → m ≤ 1000001 →
    Ca E O 36 [v, .int .i64 m] H (fun x H' => (x = .int .i64 (leftSts l m) ∧ Ext H H') ∧ 0 ≤ leftSts l m ∧ leftSts l m ≤ m) := by
  intro N
  induction N with
  | zero => intro l v rows H m h; omega
  | succ N ih =>
    intro l v rows H m hN hw hlen hr hl hm0 hm1
    refine Ca.bodyK (F := a36) rfl rfl rfl ?_
    obtain ⟨a0, c0, hv⟩ := hr.len
    rw [hl.length] at hv
    simp -implicitDefEqProofs [a36, aop]
    refine Wk_loop (fun k fr H' => Ext H H' ∧ ∃ (i : Nat) (cur : Int), i + k = l.length ∧ fr.get 0 = v ∧ fr.get 5 = .int .i64 i ∧ fr.get 1 = .int .i64 cur ∧ 0 ≤ cur ∧ cur ≤ m ∧ leftSts l m = leftSts (l.drop i) cur) ?_ l.length ⟨Ext.refl _, 0, m, by simp, by simp, by simp, by simp, hm0, Int.le_refl _, by simp⟩
    rintro k fr H1 ⟨X1, i, cur, hi, f0, f5, f1, b0, b1, hcur⟩
    have fin : ∀ q : Prop, (leftSts l m = cur → q) → (leftSts (l.drop i) cur = cur) → q := fun q h1 h2 => h1 (hcur.trans h2)
    by_cases h : i < l.length
    · by_cases hp : 0 < cur
      · obtain ⟨⟨op, n, args, thn, els⟩, hy⟩ : ∃ y, l[i]? = some y := ⟨_, List.getElem?_eq_getElem h⟩
        have hs := size_thn hy
        obtain ⟨b, o, c, va, vt, ve, ra, rt, re, hv', _, _, _, e2, e3, e4, i1, i2, i3, i4, i5, g1, g2, g3, g4, g5, g6⟩ := StL.row (hr.ext X1) (hl.ext X1) hy
        obtain ⟨a3, c3, hva⟩ := g1.len
        rw [g2.length] at hva
        have f0v := f0
        rw [hv'] at f0
        simp -implicitDefEqProofs [aop, f0, f5, f1, h, hp]
        rw [wrap_in (n := cur - 1) ⟨by omega, by omega⟩]
        refine Wk_loop (fun k2 fr2 H2 => Ext H1 H2 ∧ ∃ (j : Nat) (cu : Int), j + k2 = args.length ∧ fr2.get 0 = .slice (some ⟨b, o, none⟩) l.length c ∧ fr2.get 5 = .int .i64 i ∧ fr2.get 1 = .int .i64 cu ∧ fr2.get 6 = .int .i64 j ∧ 0 ≤ cu ∧ cu ≤ cur - 1 ∧ leftL args (cur - 1) = leftL (args.drop j) cu) ?_ args.length ⟨Ext.refl _, 0, cur - 1, by simp, by simp [f0], by simp [f5], by simp, by simp, by omega, by omega, by simp⟩
        rintro k2 fr2 H2 ⟨X2, j, cu, hj, p0, p5, p1, p6, q0, q1, hcu⟩
        have e2' := X2.ld e2
        have e3' := X2.ld e3
        have e4' := X2.ld e4
        have hw2 := (X1.trans X2).wf hw
        by_cases h2 : j < args.length
        · obtain ⟨y, hy2⟩ : ∃ y, args[j]? = some y := ⟨_, List.getElem?_eq_getElem h2⟩
          obtain ⟨r, hr1, hey⟩ := g2.at hy2
          obtain ⟨b2, o2, c2, hv2, hldn⟩ := (g1.ext X2).at hr1
          rw [g2.length] at hv2
          rw [hv2] at e2'
          simp -implicitDefEqProofs [aop, p0, p5, p1, p6, h, h2, e2', hldn]
          refine Wr_call ?_
          simp -implicitDefEqProofs [p1]
          refine (Left_ca _ y r H2 cu (Nat.lt_succ_self _) hw2 (hey.ext X2) ⟨by omega, by omega⟩).mono ?_
          rintro x H3 ⟨rfl, X3⟩
          have hle := leftE_le _ y cu (Nat.lt_succ_self _)
          simp -implicitDefEqProofs [aop, p0, p5, p1, p6]
          rw [wrap_in (n := (j : Int) + 1) ⟨by omega, by omega⟩]
          refine ⟨k2 - 1, by omega, X2.trans X3, j + 1, by omega, by simp, by omega, by omega, ?_⟩
          rw [hcu, leftL_step hy2]
        · rw [hva] at e2'
          have hj' : j = args.length := by omega
          rw [hj', List.drop_length, leftL] at hcu
          simp -implicitDefEqProofs [aop, p0, p5, p1, p6, h, h2, e2', e3', e4']
          refine Wr_call ?_
          simp -implicitDefEqProofs [p1]
          refine (ih thn vt rt H2 cu (by omega) hw2 i4 (g3.ext X2) (g4.ext X2) q0 (by omega)).mono ?_
          rintro x H3 ⟨⟨rfl, X3⟩, r0, r1⟩
          have e4'' := X3.ld e4'
          simp -implicitDefEqProofs [aop, p0, p5, p1, p6, h, e4'']
          refine Wr_call ?_
          simp -implicitDefEqProofs
          refine (ih els ve re H3 _ (by omega) (X3.wf hw2) i5 (g5.ext (X2.trans X3)) (g6.ext (X2.trans X3)) r0 (by omega)).mono ?_
          rintro x H4 ⟨⟨rfl, X4⟩, s0, s1⟩
          simp -implicitDefEqProofs [aop, p0, p5, p1, p6]
          rw [wrap_in (n := (i : Int) + 1) ⟨by omega, by omega⟩]
          refine ⟨k - 1, by omega, X1.trans (X2.trans (X3.trans X4)), i + 1, by omega, hv'.symm, by simp, s0, by omega, ?_⟩
          rw [hcur, leftSts_step hy cur hp, leftSt, hcu]
      · have hv2 := hv
        rw [hv] at f0
        simp -implicitDefEqProofs [aop, f0, f5, f1, h, hp]
        have hc0 : leftSts (l.drop i) cur = cur := by
          rw [List.drop_eq_getElem_cons h, leftSts, if_neg hp]
        exact ⟨⟨(hcur.trans hc0).symm, X1⟩, by rw [hcur, hc0]; exact b0, by rw [hcur, hc0]; exact b1⟩
    · rw [hv] at f0
      simp -implicitDefEqProofs [aop, f0, f5, f1, h]
      have hc0 : leftSts (l.drop i) cur = cur := by
        rw [List.drop_of_length_le (by omega), leftSts]
      exact ⟨⟨(hcur.trans hc0).symm, X1⟩, by rw [hcur, hc0]; exact b0, by rw [hcur, hc0]; exact b1⟩
end Go.Proofs.YtoijnpfpjpefgaaGreat.A
