/- Specs: programs, starts (the reference). -/
import Derived.Test.YtoijnpfpjpefgaaGreatS12
set_option linter.unusedVariables false
set_option linter.unusedSimpArgs false
namespace Go.Proofs.YtoijnpfpjpefgaaGreat.A
open Go
structure Prg where
  w : Int
  vars : List Vr
  body : List Stm
/-- A program in memory. -/
structure PrgC (H : AH) (c : List Value) (p : Prg) : Prop where
  is : ∃ vv vb rb, c = [.int .i64 p.w, vv, vb] ∧ I64 p.w ∧ Vars H vv p.vars ∧ VarsOk p.vars ∧ Rows H 5 vb rb ∧ StL H rb p.body ∧ p.body.length < 2 ^ 60
theorem PrgC.ext {H H' : AH} (E : Ext H H') {c : List Value} {p : Prg} (h : PrgC H c p) : PrgC H' c p := by
  obtain ⟨vv, vb, rb, e, a, b, c', d, f, g⟩ := h.is
  exact ⟨vv, vb, rb, e, a, b.ext E, c', d.ext E, StL.ext E f, g⟩
theorem PrgC.len {H : AH} {c : List Value} {p : Prg} (h : PrgC H c p) : c.length = 3 := by
  obtain ⟨vv, vb, rb, e, _⟩ := h.is
  rw [e]; rfl
def isPrg (p : Prg) : Bool := isHeading p.w p.vars && (decide (nodesS p.body ≤ 400) && (decide (depthS p.body 0 ≤ 16) && rowsS p.w p.vars p.body))
theorem PIs_ca {p : Prg} {c : List Value} {H : AH} (hw : H.n0 ≤ H.nx) (hp : PrgC H c p) : Ca E O 41 [.agg c.toArray] H (fun x H' => x = .bool (isPrg p) ∧ Ext H H') := by
  obtain ⟨vv, vb, rb, rfl, hi, hv, hvo, hr, hl, hbl⟩ := hp.is
  refine Ca.bodyK (F := a41) rfl rfl rfl ?_
  have X0 := Ext.alloc H (.cells 3 [.int .i64 p.w, vv, vb])
  have d0 : (H.alloc (.cells 3 [.int .i64 p.w, vv, vb])).ld ⟨H.nx, 0, none⟩ = some (.int .i64 p.w) := ld_new hw rfl
  have d1 : (H.alloc (.cells 3 [.int .i64 p.w, vv, vb])).ld ⟨H.nx, 1, none⟩ = some vv := ld_new hw rfl
  have d2 : (H.alloc (.cells 3 [.int .i64 p.w, vv, vb])).ld ⟨H.nx, 2, none⟩ = some vb := ld_new hw rfl
  generalize hH1 : H.alloc (.cells 3 [.int .i64 p.w, vv, vb]) = H1 at X0 d0 d1 d2
  simp -implicitDefEqProofs [a41, aop, hH1, d0, d1]
  refine Wr_call ?_
  simp -implicitDefEqProofs
  refine (Heading_ca (X0.wf hw) (hv.ext X0) hvo p.w).mono ?_
  rintro x H2 ⟨rfl, X2⟩
  cases q1 : isHeading p.w p.vars with
  | false =>
    simp -implicitDefEqProofs [aop, q1, isPrg]
    exact X0.trans X2
  | true =>
    have X02 := X0.trans X2
    simp -implicitDefEqProofs [aop, q1, X2.ld d2]
    refine Wr_call ?_
    simp -implicitDefEqProofs
    refine (PFits_ca (X02.wf hw) hbl (hr.ext X02) (hl.ext X02) (by omega)).mono ?_
    rintro x H3 ⟨rfl, X3⟩
    have X03 := X02.trans X3
    have X13 := X2.trans X3
    by_cases q2 : nodesS p.body ≤ 400
    case neg =>
      simp -implicitDefEqProofs [aop, q1, q2, isPrg]
      exact X03
    simp -implicitDefEqProofs [aop, q2, X13.ld d2]
    refine Wr_call ?_
    simp -implicitDefEqProofs
    refine (PDepth_ca _ p.body vb rb H3 (Nat.lt_succ_self _) (X03.wf hw) hbl (hr.ext X03) (hl.ext X03) (by omega)).mono ?_
    rintro x H4 ⟨rfl, X4⟩
    have X04 := X03.trans X4
    have X14 := X13.trans X4
    by_cases q3 : depthS p.body 0 ≤ 16
    case neg =>
      simp -implicitDefEqProofs [aop, q1, q2, q3, isPrg]
      exact X04
    simp -implicitDefEqProofs [aop, q3, X14.ld d0, X14.ld d1, X14.ld d2]
    refine Wr_call ?_
    simp -implicitDefEqProofs
    refine (rows_ca hvo.1 _ p.body vb rb H4 (Nat.lt_succ_self _) (X04.wf hw) (hv.ext X04) hbl (hr.ext X04) (hl.ext X04)).mono ?_
    rintro x H5 ⟨rfl, X5⟩
    simp -implicitDefEqProofs [aop, q1, q2, q3, isPrg]
    exact X04.trans X5
end Go.Proofs.YtoijnpfpjpefgaaGreat.A
