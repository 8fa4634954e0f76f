/- Specs: expressions' forms. -/
import Derived.Test.YtoijnpfpjpefgaaGreatS5
set_option linter.unusedVariables false
set_option linter.unusedSimpArgs false
namespace Go.Proofs.YtoijnpfpjpefgaaGreat.A
open Go
def cellsAt (l : List Vr) (n : Int) : Int := match l[n.toNat]? with | some v => v.cells | none => 0
def nodeOk (w : Int) (l : List Vr) (k : Int) (op n cp : Int) (na : Nat) : Bool :=
  if op = 1 then (!(decide (n < 0) || (decide ((l.length : Int) ≤ n) || (decide (cp < 0) || decide (k ≤ cp)))) && decide ((na : Int) = if 1 < cellsAt l n then 1 else 0))
  else (!(!decide (cp = 0) || !decide ((na : Int) = argsOf op)) && (if op = 0 then isWord w n else decide (n = 0)))
theorem node_ca {w k op n cp : Int} {v va : Value} {l : List Vr} {rows : List (List Value)} {H : AH} (hw : H.n0 ≤ H.nx) (hv : Vars H v l) (hl : l.length < 2 ^ 60) (hr : Rows H 4 va rows) (hn : rows.length < 2 ^ 60) :
    Ca E O 135 [.int .i64 w, v, .int .i64 k, .agg #[.int .i64 op, .int .i64 n, .int .i64 cp, va]] H (fun x H' => x = .bool (nodeOk w l k op n cp rows.length) ∧ Ext H H') := by
  refine Ca.bodyK (F := a135) rfl rfl rfl ?_
  obtain ⟨a1, c1, hva⟩ := hr.len
  obtain ⟨a2, c2, hvv⟩ := hv.len
  by_cases h1 : op = 1
  · subst h1
    have X0 := Ext.alloc H (.cells 4 [.int .i64 1, .int .i64 n, .int .i64 cp, va])
    have d0 : (H.alloc (.cells 4 [.int .i64 1, .int .i64 n, .int .i64 cp, va])).ld ⟨H.nx, 0, none⟩ = some (.int .i64 1) := ld_new hw rfl
    have d1 : (H.alloc (.cells 4 [.int .i64 1, .int .i64 n, .int .i64 cp, va])).ld ⟨H.nx, 1, none⟩ = some (.int .i64 n) := ld_new hw rfl
    have d2 : (H.alloc (.cells 4 [.int .i64 1, .int .i64 n, .int .i64 cp, va])).ld ⟨H.nx, 2, none⟩ = some (.int .i64 cp) := ld_new hw rfl
    have d3 : (H.alloc (.cells 4 [.int .i64 1, .int .i64 n, .int .i64 cp, va])).ld ⟨H.nx, 3, none⟩ = some va := ld_new hw rfl
    generalize hH1 : H.alloc (.cells 4 [.int .i64 1, .int .i64 n, .int .i64 cp, va]) = H1 at X0 d0 d1 d2 d3
    by_cases h2 : n < 0
    · simp -implicitDefEqProofs [a135, aop, hH1, d0, d1, d2, h2, nodeOk]
      exact X0
    by_cases h3 : (l.length : Int) ≤ n
    · simp -implicitDefEqProofs [a135, aop, hH1, d0, d1, d2, h2, h3, hvv, nodeOk]
      exact X0
    by_cases h4 : cp < 0
    · simp -implicitDefEqProofs [a135, aop, hH1, d0, d1, d2, h2, h3, h4, hvv, nodeOk]
      exact X0
    by_cases h5 : k ≤ cp
    · simp -implicitDefEqProofs [a135, aop, hH1, d0, d1, d2, h2, h3, h4, h5, hvv, nodeOk]
      exact X0
    obtain ⟨y, hy⟩ : ∃ y, l[n.toNat]? = some y := ⟨_, List.getElem?_eq_getElem (by omega)⟩
    obtain ⟨b, o, c', hv', _, _, _, hld⟩ := (hv.ext X0).at hy
    simp -implicitDefEqProofs [a135, aop, hH1, d0, d1, d2, h2, h3, h4, h5, hvv, nodeOk]
    refine Wk_regd _ _ ?_
    have n0' : 0 ≤ n := by omega
    have n1' : n < l.length := by omega
    rw [← hvv, hv', hva] at *
    simp -implicitDefEqProofs [aop, d1, d3, n0', n1', hld]
    refine Wd_call ?_
    simp -implicitDefEqProofs
    have d3n := ld_ldn.1 d3
    have hone := One_ca (decide (1 < y.cells)) H1
    refine hone.mono ?_
    rintro x H2 ⟨rfl, rfl⟩
    simp -implicitDefEqProofs [aop, okD, chain, chk1, nth, AO.wanted, loadOf, sameAt, sameL, same1, d3n]
    have hc : cellsAt l n = y.cells := by simp [cellsAt, hy]
    exact ⟨by rw [hc], X0⟩
  · have X0 := Ext.alloc H (.cells 4 [.int .i64 op, .int .i64 n, .int .i64 cp, va])
    have d0 : (H.alloc (.cells 4 [.int .i64 op, .int .i64 n, .int .i64 cp, va])).ld ⟨H.nx, 0, none⟩ = some (.int .i64 op) := ld_new hw rfl
    have d1 : (H.alloc (.cells 4 [.int .i64 op, .int .i64 n, .int .i64 cp, va])).ld ⟨H.nx, 1, none⟩ = some (.int .i64 n) := ld_new hw rfl
    have d2 : (H.alloc (.cells 4 [.int .i64 op, .int .i64 n, .int .i64 cp, va])).ld ⟨H.nx, 2, none⟩ = some (.int .i64 cp) := ld_new hw rfl
    have d3 : (H.alloc (.cells 4 [.int .i64 op, .int .i64 n, .int .i64 cp, va])).ld ⟨H.nx, 3, none⟩ = some va := ld_new hw rfl
    generalize hH1 : H.alloc (.cells 4 [.int .i64 op, .int .i64 n, .int .i64 cp, va]) = H1 at X0 d0 d1 d2 d3
    have d3n := ld_ldn.1 d3
    have d0n := ld_ldn.1 d0
    simp -implicitDefEqProofs [a135, aop, hH1, d0, h1]
    refine Wk_regd _ _ ?_
    by_cases h2 : cp = 0
    case neg =>
      simp -implicitDefEqProofs [aop, okD, chain, chk1, nth, AO.wanted, loadOf, sameAt, sameL, same1, d0, d1, d2, d3, d3n, d0n, h1, h2, nodeOk]
      exact X0
    rw [hva] at d3 d3n
    simp -implicitDefEqProofs [aop, d0, d1, d2, d3, h1, h2]
    refine Wd_call ?_
    simp -implicitDefEqProofs
    refine (args_ca op H1).mono ?_
    rintro x H2 ⟨rfl, rfl⟩
    by_cases h3 : (rows.length : Int) = argsOf op
    case neg =>
      simp -implicitDefEqProofs [aop, okD, chain, chk1, nth, AO.wanted, loadOf, sameAt, sameL, same1, d0, d1, d2, d3, d3n, d0n, h1, h2, h3, nodeOk]
      exact X0
    simp -implicitDefEqProofs [aop, okD, chain, chk1, nth, AO.wanted, loadOf, sameAt, sameL, same1, d0, d1, d2, d3, d3n, d0n, h1, h2, h3]
    by_cases h4 : op = 0
    case neg =>
      simp -implicitDefEqProofs [aop, d0, d1, h1, h2, h3, h4, nodeOk]
      exact X0
    simp -implicitDefEqProofs [aop, d0, d1, h4]
    refine Wr_call ?_
    simp -implicitDefEqProofs
    refine (Word_ca w n H2).mono ?_
    rintro x H3 ⟨rfl, rfl⟩
    rw [h4] at h3
    simp -implicitDefEqProofs [aop, nodeOk, h2, h3, h4]
    exact X0
mutual
def formE (w : Int) (l : List Vr) (k : Int) : Exp → Bool
  | .mk op n cp args => nodeOk w l k op n cp args.length && formL w l k args
def formL (w : Int) (l : List Vr) (k : Int) : List Exp → Bool
  | [] => true
  | e :: es => formE w l k e && formL w l k es
end
theorem formL_all {w : Int} {l : List Vr} {k : Int} : ∀ {es : List Exp}, formL w l k es = true ↔ ∀ e ∈ es, formE w l k e = true
  | [] => by simp [formL]
  | e :: es => by simp [formL, formL_all (es := es)]
theorem form_ca {w k : Int} {v : Value} {l : List Vr} (hl : l.length < 2 ^ 60) : ∀ (N : Nat) (e : Exp) (c : List Value) (H : AH), SizeOf.sizeOf e < N → H.n0 ≤ H.nx → Vars H v l → ExC H c e →
    Ca E O 127 [.int .i64 w, v, .int .i64 k, .agg c.toArray] H (fun x H' => x = .bool (formE w l k e) ∧ Ext H H') := by
  intro N
  induction N with
  | zero => intro e c H h; omega
  | succ N ih =>
    intro e c H hN hw hv he
    cases he with | @mk op n cp va rows args i1 i2 i3 hlen hr hll =>
    refine Ca.bodyK (F := a127) rfl rfl rfl ?_
    have X0 := Ext.alloc H (.cells 4 [.int .i64 op, .int .i64 n, .int .i64 cp, va])
    have d3 : (H.alloc (.cells 4 [.int .i64 op, .int .i64 n, .int .i64 cp, va])).ld ⟨H.nx, 3, none⟩ = some va := ld_new hw rfl
    have d := ld_box hw (z := 4) (c := [.int .i64 op, .int .i64 n, .int .i64 cp, va]) 4 rfl
    generalize hH1 : H.alloc (.cells 4 [.int .i64 op, .int .i64 n, .int .i64 cp, va]) = H1 at X0 d3 d
    simp -implicitDefEqProofs [a127, aop, hH1, d]
    refine Wr_call ?_
    simp -implicitDefEqProofs
    have hrl := hll.length
    refine (node_ca (w := w) (k := k) (op := op) (n := n) (cp := cp) (X0.wf hw) (hv.ext X0) hl (hr.ext X0) (by omega)).mono ?_
    rintro x H2 ⟨rfl, X2⟩
    rw [hrl]
    cases h1 : nodeOk w l k op n cp args.length with
    | false =>
      simp -implicitDefEqProofs [aop, h1, formE]
      exact X0.trans X2
    | true =>
      simp -implicitDefEqProofs [aop, h1]
      obtain ⟨a0, c0, hva⟩ := hr.len
      rw [hrl] at hva
      refine Wk_loop (fun j fr H' => Ext H2 H' ∧ ∃ i : Nat, i + j = args.length ∧ fr.get 0 = .int .i64 w ∧ fr.get 1 = v ∧ fr.get 2 = .int .i64 k ∧ fr.get 7 = .pointer (some ⟨H.nx, 0, none⟩) ∧ fr.get 9 = .int .i64 i ∧ ∀ e ∈ args.take i, formE w l k e = true) ?_ args.length ⟨Ext.refl _, 0, by simp, by simp, by simp, by simp, by simp, by simp, by simp⟩
      rintro j fr H3 ⟨X3, i, hi, f0, f1, f2, f7, f9, hall⟩
      have X := X0.trans (X2.trans X3)
      have dd := (X2.trans X3).ld d3
      have hw2 := X.wf hw
      by_cases h : i < args.length
      · obtain ⟨y, hy⟩ : ∃ y, args[i]? = some y := ⟨_, List.getElem?_eq_getElem h⟩
        obtain ⟨r, hr1, hey⟩ := hll.at hy
        obtain ⟨b, o, c', hv', hldn⟩ := (hr.ext X).at hr1
        rw [hrl] at hv'
        rw [hv'] at dd
        simp -implicitDefEqProofs [aop, f0, f1, f2, f7, f9, dd, h, hldn]
        refine Wr_call ?_
        simp -implicitDefEqProofs [f0, f1, f2]
        have hs := size_arg (op := op) (n := n) (cp := cp) hy
        refine (ih y r H3 (by omega) hw2 (hv.ext X) (hey.ext X)).mono ?_
        rintro x H4 ⟨rfl, X4⟩
        cases h2 : formE w l k y with
        | true =>
          simp -implicitDefEqProofs [aop, f0, f1, f2, f7, f9, h2]
          rw [wrap_in (n := (i : Int) + 1) ⟨by omega, by omega⟩]
          refine ⟨j - 1, by omega, X3.trans X4, i + 1, by omega, by simp, fun z hz => ?_⟩
          rw [List.take_add_one, hy] at hz
          rcases List.mem_append.1 hz with hz | hz
          · exact hall z hz
          · simp at hz; subst hz; exact h2
        | false =>
          simp -implicitDefEqProofs [aop, f0, f1, f2, f7, f9, h2]
          refine ⟨?_, X.trans X4⟩
          have : formL w l k args = false := by
            rw [Bool.eq_false_iff]
            intro e
            have := formL_all.1 e y (List.mem_of_getElem? hy)
            rw [h2] at this
            cases this
          rw [formE, this, Bool.and_false]
      · rw [hva] at dd
        simp -implicitDefEqProofs [aop, f7, f9, dd, h]
        rw [List.take_of_length_le (by omega)] at hall
        refine ⟨?_, X⟩
        rw [formE, h1, formL_all.2 hall]
        rfl
def isExp (w : Int) (l : List Vr) (k : Int) (e : Exp) : Bool := decide (nodesE e ≤ 400) && (decide (depthE e ≤ 16) && formE w l k e)
theorem Is_ca {w k : Int} {v : Value} {l : List Vr} (hl : l.length < 2 ^ 60) {e : Exp} {c : List Value} {H : AH} (hw : H.n0 ≤ H.nx) (hv : Vars H v l) (he : ExC H c e) :
    Ca E O 108 [.int .i64 w, v, .int .i64 k, .agg c.toArray] H (fun x H' => x = .bool (isExp w l k e) ∧ Ext H H') := by
  refine Ca.bodyK (F := a108) rfl rfl rfl ?_
  have hc : c.length = 4 := by cases he; rfl
  have X0 := Ext.alloc H (.cells c.length c)
  have d := ld_box hw (z := c.length) (c := c) 4 hc
  generalize hH1 : H.alloc (.cells c.length c) = H1 at X0 d
  simp -implicitDefEqProofs [a108, aop, hH1, d]
  refine Wr_call ?_
  simp -implicitDefEqProofs
  refine (Fits_ca (X0.wf hw) (he.ext X0) (by omega)).mono ?_
  rintro x H2 ⟨rfl, X2⟩
  by_cases h1 : nodesE e ≤ 400
  case neg =>
    simp -implicitDefEqProofs [aop, h1, isExp]
    exact X0.trans X2
  have dd := X2.ldn d
  simp -implicitDefEqProofs [aop, h1, dd]
  refine Wr_call ?_
  simp -implicitDefEqProofs
  refine (Depth_ca _ e c H2 (Nat.lt_succ_self _) ((X0.trans X2).wf hw) (he.ext (X0.trans X2)) (by omega)).mono ?_
  rintro x H3 ⟨rfl, X3⟩
  have X03 := X0.trans (X2.trans X3)
  by_cases h2 : depthE e ≤ 16
  case neg =>
    simp -implicitDefEqProofs [aop, h1, h2, isExp]
    exact X03
  have ddd := X3.ldn dd
  simp -implicitDefEqProofs [aop, h1, h2, ddd]
  refine Wr_call ?_
  simp -implicitDefEqProofs
  refine (form_ca hl _ e c H3 (Nat.lt_succ_self _) (X03.wf hw) (hv.ext X03) (he.ext X03)).mono ?_
  rintro x H4 ⟨rfl, X4⟩
  simp -implicitDefEqProofs [aop, h1, h2, isExp]
  exact X03.trans X4
end Go.Proofs.YtoijnpfpjpefgaaGreat.A
