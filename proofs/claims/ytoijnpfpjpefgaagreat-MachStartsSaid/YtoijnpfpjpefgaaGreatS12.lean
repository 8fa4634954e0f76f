/- Specs: the rows of programs; programs. -/
import Derived.Test.YtoijnpfpjpefgaaGreatS11
set_option linter.unusedVariables false
set_option linter.unusedSimpArgs false
namespace Go.Proofs.YtoijnpfpjpefgaaGreat.A
open Go
mutual
def rowSt (w : Int) (V : List Vr) : Stm → Bool
  | .mk op n args thn els => headOk V op n args.length thn.length els.length && (rowsS w V thn && (rowsS w V els && args.all (isExp w V 1)))
def rowsS (w : Int) (V : List Vr) : List Stm → Bool
  | [] => true
  | s :: ss => rowSt w V s && rowsS w V ss
end
theorem rowsS_all {w : Int} {V : List Vr} : ∀ {es : List Stm}, rowsS w V es = true ↔ ∀ e ∈ es, rowSt w V e = true
  | [] => by simp [rowsS]
  | e :: es => by simp [rowsS, rowsS_all (es := es)]
theorem rowsS_no {w : Int} {V : List Vr} {es : List Stm} {e : Stm} (h : e ∈ es) (k : rowSt w V e = false) : rowsS w V es = false := by
  rw [Bool.eq_false_iff]
  intro q
  rw [rowsS_all.1 q e h] at k
  cases k
theorem rows_ca {w : Int} {v : Value} {V : List Vr} (hV : V.length < 2 ^ 60) : ∀ (N : Nat) (l : List Stm) (vl : Value) (rows : List (List Value)) (H : AH), SizeOf.sizeOf l < N → H.n0 ≤ H.nx → Vars H v V → l.length < 2 ^ 60 → Rows H 5 vl rows → StL H rows l →
    Ca E O 81 [.int .i64 w, v, vl] H (fun x H' => x = .bool (rowsS w V l) ∧ Ext H H') := by
  intro N
  induction N with
  | zero => intro l vl rows H h; omega
  | succ N ih =>
    intro l vl rows H hN hw hv hlen hr hl
    refine Ca.bodyK (F := a81) rfl rfl rfl ?_
    obtain ⟨a0, c0, hvl⟩ := hr.len
    rw [hl.length] at hvl
    simp -implicitDefEqProofs [a81, aop]
    refine Wk_loop (fun k fr H' => Ext H H' ∧ ∃ i : Nat, i + k = l.length ∧ fr.get 0 = .int .i64 w ∧ fr.get 1 = v ∧ fr.get 2 = vl ∧ fr.get 7 = .int .i64 i ∧ ∀ e ∈ l.take i, rowSt w V e = true) ?_ l.length ⟨Ext.refl _, 0, by simp, by simp, by simp, by simp, by simp, by simp⟩
    rintro k fr H1 ⟨X1, i, hi, f0, f1, f2, f7, hall⟩
    by_cases h : i < l.length
    case neg =>
      rw [hvl] at f2
      simp -implicitDefEqProofs [aop, f2, f7, h]
      rw [List.take_of_length_le (by omega)] at hall
      exact ⟨rowsS_all.2 hall, X1⟩
    obtain ⟨⟨op, n, args, thn, els⟩, hy⟩ : ∃ y, l[i]? = some y := ⟨_, List.getElem?_eq_getElem h⟩
    have hs := size_thn hy
    have hmem := List.mem_of_getElem? hy
    obtain ⟨b, o, c, va, vt, ve, ra, rt, re, hv', hldn, _, _, e2, e3, e4, i1, i2, i3, i4, i5, g1, g2, g3, g4, g5, g6⟩ := StL.row (hr.ext X1) (hl.ext X1) hy
    have hw1 := X1.wf hw
    have hv1 := hv.ext X1
    rw [hv'] at f2
    simp -implicitDefEqProofs [aop, f0, f1, f2, f7, h, hldn]
    refine Wr_call ?_
    simp -implicitDefEqProofs [f1]
    refine (head_ca hw1 hv1 hV g1 g3 g5 (by rw [g2.length]; exact i3)).mono ?_
    rintro x H2 ⟨rfl, X2⟩
    rw [g2.length, g4.length, g6.length]
    cases q1 : headOk V op n args.length thn.length els.length with
    | false =>
      simp -implicitDefEqProofs [aop, q1]
      exact ⟨rowsS_no hmem (by simp [rowSt, q1]), X1.trans X2⟩
    | true =>
      simp -implicitDefEqProofs [aop, f0, f1, f2, f7, h, q1, X2.ld e3]
      refine Wr_call ?_
      simp -implicitDefEqProofs
      refine (ih thn vt rt H2 (by omega) (X2.wf hw1) (hv1.ext X2) i4 (g3.ext X2) (g4.ext X2)).mono ?_
      rintro x H3 ⟨rfl, X3⟩
      have X13 := X2.trans X3
      cases q2 : rowsS w V thn with
      | false =>
        simp -implicitDefEqProofs [aop, q2]
        exact ⟨rowsS_no hmem (by simp [rowSt, q1, q2]), X1.trans X13⟩
      | true =>
        simp -implicitDefEqProofs [aop, f0, f1, f2, f7, h, q2, X13.ld e4]
        refine Wr_call ?_
        simp -implicitDefEqProofs
        refine (ih els ve re H3 (by omega) (X13.wf hw1) (hv1.ext X13) i5 (g5.ext X13) (g6.ext X13)).mono ?_
        rintro x H4 ⟨rfl, X4⟩
        have X14 := X13.trans X4
        cases q3 : rowsS w V els with
        | false =>
          simp -implicitDefEqProofs [aop, q3]
          exact ⟨rowsS_no hmem (by simp [rowSt, q1, q2, q3]), X1.trans X14⟩
        | true =>
          simp -implicitDefEqProofs [aop, q3]
          obtain ⟨a3, c3, hva⟩ := g1.len
          rw [g2.length] at hva
          refine Wk_loop (fun k2 fr2 H5 => Ext H4 H5 ∧ ∃ j : Nat, j + k2 = args.length ∧ fr2.get 0 = .int .i64 w ∧ fr2.get 1 = v ∧ fr2.get 2 = .slice (some ⟨b, o, none⟩) l.length c ∧ fr2.get 7 = .int .i64 i ∧ fr2.get 8 = .int .i64 j ∧ ∀ e ∈ args.take j, isExp w V 1 e = true) ?_ args.length ⟨Ext.refl _, 0, by simp, by simp [f0], by simp [f1], by simp [f2], by simp [f7], by simp, by simp⟩
          rintro k2 fr2 H5 ⟨X5, j, hj, p0, p1, p2, p7, p8, hall2⟩
          have X15 := X14.trans X5
          have e2' := X15.ld e2
          by_cases h2 : j < args.length
          · obtain ⟨y, hy2⟩ : ∃ y, args[j]? = some y := ⟨_, List.getElem?_eq_getElem h2⟩
            obtain ⟨r, hr1, hey⟩ := g2.at hy2
            obtain ⟨b2, o2, c2, hv2, hldn2⟩ := (g1.ext X15).at hr1
            rw [g2.length] at hv2
            rw [hv2] at e2'
            simp -implicitDefEqProofs [aop, p0, p1, p2, p7, p8, h, h2, e2', hldn2]
            refine Wr_call ?_
            simp -implicitDefEqProofs [p0, p1]
            refine (Is_ca (k := 1) hV (X15.wf hw1) (hv1.ext X15) (hey.ext X15)).mono ?_
            rintro x H6 ⟨rfl, X6⟩
            cases q4 : isExp w V 1 y with
            | true =>
              simp -implicitDefEqProofs [aop, p0, p1, p2, p7, p8, q4]
              rw [wrap_in (n := (j : Int) + 1) ⟨by omega, by omega⟩]
              refine ⟨k2 - 1, by omega, X5.trans X6, j + 1, by omega, by simp, fun z hz => ?_⟩
              rw [List.take_add_one, hy2] at hz
              rcases List.mem_append.1 hz with hz | hz
              · exact hall2 z hz
              · simp at hz; subst hz; exact q4
            | false =>
              simp -implicitDefEqProofs [aop, p0, p1, p2, p7, p8, q4]
              refine ⟨rowsS_no hmem ?_, X1.trans (X15.trans X6)⟩
              have : args.all (isExp w V 1) = false := by
                rw [List.all_eq_false]
                exact ⟨y, List.mem_of_getElem? hy2, by simp [q4]⟩
              simp only [rowSt, this, Bool.and_false]
          · rw [hva] at e2'
            simp -implicitDefEqProofs [aop, p0, p1, p2, p7, p8, h, h2, e2']
            rw [wrap_in (n := (i : Int) + 1) ⟨by omega, by omega⟩]
            rw [List.take_of_length_le (by omega)] at hall2
            refine ⟨k - 1, by omega, X1.trans X15, i + 1, by omega, hv'.symm, by simp, fun z hz => ?_⟩
            rw [List.take_add_one, hy] at hz
            rcases List.mem_append.1 hz with hz | hz
            · exact hall z hz
            · simp at hz
              subst hz
              have : args.all (isExp w V 1) = true := List.all_eq_true.2 hall2
              simp only [rowSt, q1, q2, q3, this, Bool.and_self]
end Go.Proofs.YtoijnpfpjpefgaaGreat.A
