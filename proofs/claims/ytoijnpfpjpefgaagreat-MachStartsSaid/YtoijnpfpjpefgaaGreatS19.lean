/- Specs: the program's expressions checked; arguments of statements. -/
import Derived.Test.YtoijnpfpjpefgaaGreatS18
set_option linter.unusedVariables false
set_option linter.unusedSimpArgs false
set_option maxRecDepth 10000
namespace Go.Proofs.YtoijnpfpjpefgaaGreat.A
open Go
theorem isHeading_w {w : Int} {V : List Vr} (h : isHeading w V = true) : 1 ≤ w ∧ w ≤ 8 ∧ 1 ≤ V.length ∧ V.length ≤ 18 := by
  simp [isHeading, isWidth] at h; omega
theorem isHeading_cells {w : Int} {V : List Vr} (h : isHeading w V = true) {i : Nat} {v : Vr} (hi : V[i]? = some v) : 1 ≤ v.cells ∧ v.cells ≤ 8 := by
  rw [isHeading_eq] at h
  simp only [Bool.and_eq_true, List.all_eq_true] at h
  have := h.2.2.2.1 i (by simpa using (List.getElem?_eq_some_iff.1 hi).1)
  rw [okAt_some hi] at this
  exact okVar_cells this
theorem fineOk_isExp (w : Int) (V : List Vr) (k : Int) (e : Exp) : fineOk w V k e 1 400 = isExp w V k e := by
  unfold fineOk isExp
  rw [show decide (1 + depthE e ≤ 17) = decide (depthE e ≤ 16) by rw [Bool.eq_iff_iff]; simp; omega]
def chkE (w : Int) (V : List Vr) (k : Int) (e : Exp) : Int := if isHeading w V = true then (if k < 1 then 1 else if 3 < k then 1 else if isExp w V k e = true then 0 else 20) else 1
theorem check_ca {w k : Int} {vv : Value} {V : List Vr} {e : Exp} {c : List Value} {H : AH} (hw : H.n0 ≤ H.nx) (hv : Vars H vv V) (hok : VarsOk V) (he : ExC H c e) :
    Ca E O 134 [.agg #[.int .i64 w, vv, .int .i64 k], .agg c.toArray] H (fun x H' => x = .int .i64 (chkE w V k e) ∧ Ext H H') := by
  refine Ca.bodyV (F := a134) rfl rfl rfl ?_
  have hc : c.length = 4 := by cases he; rfl
  have X1 := Ext.alloc H (.cells 3 [.int .i64 w, vv, .int .i64 k])
  have d0 : (H.alloc (.cells 3 [.int .i64 w, vv, .int .i64 k])).ld ⟨H.nx, 0, none⟩ = some (.int .i64 w) := ld_new hw rfl
  have d1 : (H.alloc (.cells 3 [.int .i64 w, vv, .int .i64 k])).ld ⟨H.nx, 1, none⟩ = some vv := ld_new hw rfl
  have d2 : (H.alloc (.cells 3 [.int .i64 w, vv, .int .i64 k])).ld ⟨H.nx, 2, none⟩ = some (.int .i64 k) := ld_new hw rfl
  have d : (H.alloc (.cells 3 [.int .i64 w, vv, .int .i64 k])).ldn ⟨H.nx, 0, none⟩ 3 = some [.int .i64 w, vv, .int .i64 k] := ld_box hw 3 rfl
  generalize hH1 : H.alloc (.cells 3 [.int .i64 w, vv, .int .i64 k]) = H1 at X1 d0 d1 d2 d
  have hwH1 := X1.wf hw
  have X2 := Ext.alloc H1 (.cells c.length c)
  have q : (H1.alloc (.cells c.length c)).ldn ⟨H1.nx, 0, none⟩ 4 = some c := ld_box hwH1 4 (by assumption)
  generalize hH2 : H1.alloc (.cells c.length c) = H2 at X2 q
  have hwH2 := X2.wf hwH1
  replace d0 := X2.ld d0
  replace d1 := X2.ld d1
  replace d2 := X2.ld d2
  replace d := X2.ldn d
  have X := X1.trans X2
  simp (maxSteps := 4000000) -implicitDefEqProofs +contextual [-X.ev, a134, hH1, hH2, d0, d1]
  apply Vx_callM
  · (simp -implicitDefEqProofs [-X.ev]; rfl)
  refine (Head_ca hwH2 (hv.ext X) hok w).mono ?_
  rintro x H3 ⟨rfl, X3⟩
  replace d2 := X3.ld d2
  replace d := X3.ldn d
  replace q := X3.ldn q
  have X03 := X.trans X3
  cases h1 : isHeading w V with
  | false =>
    simp (maxSteps := 4000000) -implicitDefEqProofs +contextual [-X.ev, h1, chkE, X03]
  | true =>
    by_cases h2 : k < 1
    · simp (maxSteps := 4000000) -implicitDefEqProofs +contextual [-X.ev, h1, h2, d2, chkE, X03]
    by_cases h3 : 3 < k
    · simp (maxSteps := 4000000) -implicitDefEqProofs +contextual [-X.ev, h1, h2, h3, d2, chkE, X03]
    have hw8 := isHeading_w h1
    have hw3 := X3.wf hwH2
    obtain ⟨H4, s4, X4, nx4, n04, gb⟩ := var_new hw3 (z := 1) (c := [.int .i64 0]) (vs := [.int .i64 400]) rfl
    replace d := X4.ldn d
    replace q := X4.ldn q
    simp (maxSteps := 4000000) -implicitDefEqProofs +contextual [-X.ev, h1, h2, h3, d2, s4, d, q]
    have hw4 := X4.wf hw3
    apply Vx_callM
    · (simp -implicitDefEqProofs [-X.ev]; rfl)
    refine (fine_ca ⟨hw8.1, hw8.2.1⟩ _ e c H3 H4 1 400 H3.nx (Nat.lt_succ_self _) hw4 X4 (Nat.le_refl _) (hv.ext X03) (he.ext X03) gb (by rw [n04]; exact hw3) (by omega) (by omega)).mono ?_
    rintro x H5 ⟨rfl, M5, left', gb5, hl5⟩
    have X5 : Ext H H5 := X03.trans (X4.mod M5 (by rintro x rfl; exact Nat.le_refl _))
    rw [fineOk_isExp]
    cases h4 : isExp w V k e with
    | true => 
      simp (maxSteps := 4000000) -implicitDefEqProofs +contextual [-X.ev, h1, h2, h3, h4, chkE, X5]
    | false => 
      simp (maxSteps := 4000000) -implicitDefEqProofs +contextual [-X.ev, h1, h2, h3, h4, chkE, X5]
theorem ECheck_ca {w k : Int} {vv : Value} {V : List Vr} {e : Exp} {c : List Value} {H : AH} (hw : H.n0 ≤ H.nx) (hv : Vars H vv V) (hok : VarsOk V) (he : ExC H c e) :
    Ca E O 120 [.int .i64 w, vv, .int .i64 k, .agg c.toArray] H (fun x H' => x = .int .i64 (chkE w V k e) ∧ Ext H H') := by
  refine Ca.bodyV (F := a120) rfl rfl rfl ?_
  have hc : c.length = 4 := by cases he; rfl
  have X1 := Ext.alloc H (.cells c.length c)
  have q : (H.alloc (.cells c.length c)).ldn ⟨H.nx, 0, none⟩ 4 = some c := ld_box hw 4 (by assumption)
  generalize hH1 : H.alloc (.cells c.length c) = H1 at X1 q
  have hwH1 := X1.wf hw
  have hb : buildV [.int .i64 0, .slice none 0 0, .int .i64 0] [(0, 1, .int .i64 w), (1, 1, vv), (2, 1, .int .i64 k)] = some (.agg #[.int .i64 w, vv, .int .i64 k]) := by
    obtain ⟨a, c, hvv⟩ := hv.len
    rw [hvv]
    rfl
  simp (maxSteps := 4000000) -implicitDefEqProofs +contextual [-X.ev, a120, hH1, q, hb]
  apply Vx_callM
  · (simp -implicitDefEqProofs [-X.ev]; rfl)
  refine (check_ca hwH1 (hv.ext X1) hok (he.ext X1)).mono ?_
  rintro x H2 ⟨rfl, X2⟩
  simp (maxSteps := 4000000) -implicitDefEqProofs +contextual [-X.ev, X1.trans X2]
/-- How many Args a statement has, as the program has it. -/
def argsP (V : List Vr) (op n : Int) : Int :=
  let z := if 0 ≤ n ∧ n < V.length then cellsAt V n else 0
  if op = 0 then (if z = 0 then -1 else if 1 < z then 2 else 1) else if op = 4 then (if z = 0 then -1 else if 1 < z then 1 else 0) else
  if op = 3 then (if n < 0 then -1 else if 47 < n then -1 else 1) else
  if op = 1 then (if n = 0 then 1 else -1) else if op = 2 then (if n = 0 then 1 else -1) else if op = 5 then (if n = 0 then 1 else -1) else if op = 6 then (if n = 0 then 1 else -1) else -1
theorem argsP_ca {w op n : Int} {vv vb va vt ve : Value} {V : List Vr} {H : AH} (hw : H.n0 ≤ H.nx) (hv : Vars H vv V) :
    Ca E O 119 [.agg #[.int .i64 w, vv, vb], .agg #[.int .i64 op, .int .i64 n, va, vt, ve]] H (fun x H' => x = .int .i64 (argsP V op n) ∧ Ext H H') := by
  refine Ca.bodyV (F := a119) rfl rfl rfl ?_
  have X1 := Ext.alloc H (.cells 3 [.int .i64 w, vv, vb])
  have d0 : (H.alloc (.cells 3 [.int .i64 w, vv, vb])).ld ⟨H.nx, 0, none⟩ = some (.int .i64 w) := ld_new hw rfl
  have d1 : (H.alloc (.cells 3 [.int .i64 w, vv, vb])).ld ⟨H.nx, 1, none⟩ = some vv := ld_new hw rfl
  have d2 : (H.alloc (.cells 3 [.int .i64 w, vv, vb])).ld ⟨H.nx, 2, none⟩ = some vb := ld_new hw rfl
  have d : (H.alloc (.cells 3 [.int .i64 w, vv, vb])).ldn ⟨H.nx, 0, none⟩ 3 = some [.int .i64 w, vv, vb] := ld_box hw 3 rfl
  generalize hH1 : H.alloc (.cells 3 [.int .i64 w, vv, vb]) = H1 at X1 d0 d1 d2 d
  have hwH1 := X1.wf hw
  have X2 := Ext.alloc H1 (.cells 5 [.int .i64 op, .int .i64 n, va, vt, ve])
  have e0 : (H1.alloc (.cells 5 [.int .i64 op, .int .i64 n, va, vt, ve])).ld ⟨H1.nx, 0, none⟩ = some (.int .i64 op) := ld_new hwH1 rfl
  have e1 : (H1.alloc (.cells 5 [.int .i64 op, .int .i64 n, va, vt, ve])).ld ⟨H1.nx, 1, none⟩ = some (.int .i64 n) := ld_new hwH1 rfl
  have e2 : (H1.alloc (.cells 5 [.int .i64 op, .int .i64 n, va, vt, ve])).ld ⟨H1.nx, 2, none⟩ = some va := ld_new hwH1 rfl
  have e3 : (H1.alloc (.cells 5 [.int .i64 op, .int .i64 n, va, vt, ve])).ld ⟨H1.nx, 3, none⟩ = some vt := ld_new hwH1 rfl
  have e4 : (H1.alloc (.cells 5 [.int .i64 op, .int .i64 n, va, vt, ve])).ld ⟨H1.nx, 4, none⟩ = some ve := ld_new hwH1 rfl
  have e : (H1.alloc (.cells 5 [.int .i64 op, .int .i64 n, va, vt, ve])).ldn ⟨H1.nx, 0, none⟩ 5 = some [.int .i64 op, .int .i64 n, va, vt, ve] := ld_box hwH1 5 rfl
  generalize hH2 : H1.alloc (.cells 5 [.int .i64 op, .int .i64 n, va, vt, ve]) = H2 at X2 e0 e1 e2 e3 e4 e
  have hwH2 := X2.wf hwH1
  replace d1 := X2.ld d1
  have X := X1.trans X2
  have w1 : IntKind.i64.wrap 1 = 1 := by rfl
  have w2 : IntKind.i64.wrap 2 = 2 := by rfl
  by_cases h1 : 0 ≤ n ∧ n < V.length
  · obtain ⟨y, hy⟩ : ∃ y, V[n.toNat]? = some y := ⟨_, List.getElem?_eq_getElem (by omega)⟩
    obtain ⟨b, o, c', hv', _, _, _, hld⟩ := (hv.ext X).at hy
    have hc : cellsAt V n = y.cells := by simp [cellsAt, hy]
    have hz : (if 0 ≤ n ∧ n < V.length then cellsAt V n else 0) = y.cells := by rw [if_pos h1, hc]
    obtain ⟨F, hF⟩ : ∃ F, argsP V op n = F := ⟨_, rfl⟩
    rw [hF]
    unfold argsP at hF
    rw [hz] at hF
    rw [hv'] at d1
    obtain ⟨h1, h2⟩ := h1
    simp (maxSteps := 4000000) -implicitDefEqProofs +contextual [-X.ev, a119, hH1, hH2, d1, e0, e1, h1, h2, hld, X, w1, w2, ← hF]
  · have hz : (if 0 ≤ n ∧ n < V.length then cellsAt V n else 0) = 0 := if_neg h1
    obtain ⟨F, hF⟩ : ∃ F, argsP V op n = F := ⟨_, rfl⟩
    rw [hF]
    unfold argsP at hF
    rw [hz] at hF
    obtain ⟨a1, c1, hvv⟩ := hv.len
    rw [hvv] at d1
    by_cases h2 : 0 ≤ n
    · have h3 : ¬ n < V.length := fun q => h1 ⟨h2, q⟩
      simp (maxSteps := 4000000) -implicitDefEqProofs +contextual [-X.ev, a119, hH1, hH2, d1, e0, e1, h2, h3, X, w1, w2, ← hF]
    · simp (maxSteps := 4000000) -implicitDefEqProofs +contextual [-X.ev, a119, hH1, hH2, d1, e0, e1, h2, X, w1, w2, ← hF]
end Go.Proofs.YtoijnpfpjpefgaaGreat.A
