/- Specs: the program's expressions: sizes, arities. -/
import Derived.Test.YtoijnpfpjpefgaaGreatS16
set_option linter.unusedVariables false
set_option linter.unusedSimpArgs false
set_option maxRecDepth 10000
namespace Go.Proofs.YtoijnpfpjpefgaaGreat.A
open Go
theorem nodesL_take {l : List Exp} {i : Nat} {y : Exp} (h : l[i]? = some y) : nodesL (l.take (i + 1)) = nodesL (l.take i) + nodesE y := by
  induction l generalizing i with
  | nil => simp at h
  | cons x l ih =>
    cases i with
    | zero => simp at h; subst h; simp [nodesL]
    | succ i => simp only [List.take_succ_cons, nodesL]; rw [ih (by simpa using h)]; omega
theorem nodesL_take_le (l : List Exp) (i : Nat) : 0 ≤ nodesL (l.take i) ∧ nodesL (l.take i) ≤ nodesL l := by
  induction l generalizing i with
  | nil => simp [nodesL]
  | cons x l ih =>
    have h1 := nodesE_pos x
    have h2 := nodesL_pos l
    cases i with
    | zero => simp only [List.take_zero, nodesL]; omega
    | succ i => simp only [List.take_succ_cons, nodesL]; have := ih i; omega
/-- An expression's place in a row in memory. -/
theorem ExL.row {H : AH} {v : Value} {rows : List (List Value)} {l : List Exp} (hr : Rows H 4 v rows) (hl : ExL H rows l) {i : Nat} {y : Exp} (hy : l[i]? = some y) :
    ∃ b o c va r, v = .slice (some ⟨b, o, none⟩) l.length c ∧ H.ldn ⟨b, o + i * 4, none⟩ 4 = some [.int .i64 y.op, .int .i64 y.n, .int .i64 y.cp, va] ∧ r = [.int .i64 y.op, .int .i64 y.n, .int .i64 y.cp, va] ∧ ExC H r y := by
  obtain ⟨r, hr1, hey⟩ := hl.at hy
  obtain ⟨b, o, c', hv', hldn⟩ := hr.at hr1
  rw [hl.length] at hv'
  cases hey with | @mk op n cp va rows args i1 i2 i3 hlen hr hll =>
  exact ⟨b, o, c', va, _, hv', hldn, rfl, .mk i1 i2 i3 hlen hr hll⟩
theorem ENodes_ca : ∀ (N : Nat) (e : Exp) (c : List Value) (H : AH), SizeOf.sizeOf e < N → H.n0 ≤ H.nx → ExC H c e → nodesE e < 2 ^ 60 →
    Ca E O 109 [.agg c.toArray] H (fun x H' => x = .int .i64 (nodesE e) ∧ Ext H H') := by
  intro N
  induction N with
  | zero => intro e c H h; omega
  | succ N ih =>
    intro e c H hN hw he hm
    cases he with | @mk op n cp v rows args i1 i2 i3 hlen hr hl =>
    refine Ca.bodyV (F := a109) rfl rfl rfl ?_
    have X1 := Ext.alloc H (.cells 4 [.int .i64 op, .int .i64 n, .int .i64 cp, v])
    have d0 : (H.alloc (.cells 4 [.int .i64 op, .int .i64 n, .int .i64 cp, v])).ld ⟨H.nx, 0, none⟩ = some (.int .i64 op) := ld_new hw rfl
    have d1 : (H.alloc (.cells 4 [.int .i64 op, .int .i64 n, .int .i64 cp, v])).ld ⟨H.nx, 1, none⟩ = some (.int .i64 n) := ld_new hw rfl
    have d2 : (H.alloc (.cells 4 [.int .i64 op, .int .i64 n, .int .i64 cp, v])).ld ⟨H.nx, 2, none⟩ = some (.int .i64 cp) := ld_new hw rfl
    have d3 : (H.alloc (.cells 4 [.int .i64 op, .int .i64 n, .int .i64 cp, v])).ld ⟨H.nx, 3, none⟩ = some v := ld_new hw rfl
    have d : (H.alloc (.cells 4 [.int .i64 op, .int .i64 n, .int .i64 cp, v])).ldn ⟨H.nx, 0, none⟩ 4 = some [.int .i64 op, .int .i64 n, .int .i64 cp, v] := ld_box hw 4 rfl
    generalize hH1 : H.alloc (.cells 4 [.int .i64 op, .int .i64 n, .int .i64 cp, v]) = H1 at X1 d0 d1 d2 d3 d
    have hwH1 := X1.wf hw
    rw [nodesE] at hm
    obtain ⟨a0, c0, hv⟩ := hr.len
    rw [hl.length] at hv
    have D3 := d3
    rw [hv] at D3
    simp (maxSteps := 4000000) -implicitDefEqProofs +contextual [-X.ev, a109, hH1, D3]
    refine Vk_loop (fun k fr H' => Ext H1 H' ∧ ∃ i : Nat, i + k = args.length ∧ fr.get 7 = v ∧ fr.get 8 = .int .i64 args.length ∧ fr.get 9 = .int .i64 i ∧ fr.get 3 = .int .i64 (1 + nodesL (args.take i))) ?_ args.length ⟨Ext.refl _, 0, by simp, by simp [hv], by simp, by simp, by simp [nodesL]⟩
    rintro k fr H2 ⟨X2, i, hi, f7, f8, f9, f3⟩
    have X02 := X1.trans X2
    have hw2 := X02.wf hw
    by_cases h : i < args.length
    · obtain ⟨y, hy⟩ : ∃ y, args[i]? = some y := ⟨_, List.getElem?_eq_getElem h⟩
      obtain ⟨b, o, c', va, r, hv', hldn, rfl, hey⟩ := ExL.row (hr.ext X02) (hl.ext X02) hy
      have f7v := f7
      rw [hv'] at f7
      obtain ⟨H3, sH3, X3, nxH3, n0H3, q, lH3⟩ := st_new (H := H2) hw2 (z := 4) (c := [.int .i64 0, .int .i64 0, .int .i64 0, .slice none 0 0]) (vs := [.int .i64 y.op, .int .i64 y.n, .int .i64 y.cp, va]) rfl
      have q0 : H3.ld ⟨H2.nx, 0, none⟩ = some (.int .i64 y.op) := lH3 0 _ rfl
      have q1 : H3.ld ⟨H2.nx, 1, none⟩ = some (.int .i64 y.n) := lH3 1 _ rfl
      have q2 : H3.ld ⟨H2.nx, 2, none⟩ = some (.int .i64 y.cp) := lH3 2 _ rfl
      have q3 : H3.ld ⟨H2.nx, 3, none⟩ = some va := lH3 3 _ rfl
      clear lH3
      replace q : H3.ldn ⟨H2.nx, 0, none⟩ 4 = some [.int .i64 y.op, .int .i64 y.n, .int .i64 y.cp, va] := q
      have hwH3 := X3.wf hw2
      have t1 := nodesL_take hy
      have t2 := nodesL_take_le args (i + 1)
      have t3 := nodesL_take_le args i
      have t4 := nodesE_pos y
      have hs := size_arg (op := op) (n := n) (cp := cp) hy
      simp (maxSteps := 4000000) -implicitDefEqProofs +contextual [-X.ev, f7, f8, f9, f3, h, hldn, sH3, q]
      apply Vx_callM
      · (simp -implicitDefEqProofs [-X.ev]; rfl)
      refine (ih y _ H3 (by omega) hwH3 (hey.ext X3) (by omega)).mono ?_
      rintro x H4 ⟨rfl, X4⟩
      simp (maxSteps := 4000000) -implicitDefEqProofs +contextual [-X.ev, f7, f8, f9, f3]
      rw [wrap_in (n := (i : Int) + 1) ⟨by omega, by omega⟩, wrap_in ⟨by omega, by omega⟩]
      exact ⟨k - 1, by omega, X2.trans (X3.trans X4), i + 1, by omega, hv'.symm, by simp, by omega⟩
    · simp (maxSteps := 4000000) -implicitDefEqProofs +contextual [-X.ev, f7, f8, f9, f3, h]
      rw [List.take_of_length_le (by omega)]
      exact ⟨by rw [nodesE], X02⟩
/-- An operator's arity, as the program has it. -/
def arityP (V : List Vr) (op n : Int) : Int :=
  if op = 0 then 0 else if op = 1 ∧ 0 ≤ n ∧ n < V.length then (if 1 < cellsAt V n then 1 else 0) else
  if (2 ≤ op ∧ op ≤ 11) ∨ op = 13 ∨ op = 14 then 2 else if op = 12 then 1 else if op = 15 then 3 else -1
theorem arity_ca {w kk op n cp : Int} {vv va : Value} {V : List Vr} {H : AH} (hw : H.n0 ≤ H.nx) (hv : Vars H vv V) :
    Ca E O 144 [.agg #[.int .i64 w, vv, .int .i64 kk], .agg #[.int .i64 op, .int .i64 n, .int .i64 cp, va]] H (fun x H' => x = .int .i64 (arityP V op n) ∧ Ext H H') := by
  refine Ca.bodyV (F := a144) rfl rfl rfl ?_
  have X1 := Ext.alloc H (.cells 3 [.int .i64 w, vv, .int .i64 kk])
  have d0 : (H.alloc (.cells 3 [.int .i64 w, vv, .int .i64 kk])).ld ⟨H.nx, 0, none⟩ = some (.int .i64 w) := ld_new hw rfl
  have d1 : (H.alloc (.cells 3 [.int .i64 w, vv, .int .i64 kk])).ld ⟨H.nx, 1, none⟩ = some vv := ld_new hw rfl
  have d2 : (H.alloc (.cells 3 [.int .i64 w, vv, .int .i64 kk])).ld ⟨H.nx, 2, none⟩ = some (.int .i64 kk) := ld_new hw rfl
  have d : (H.alloc (.cells 3 [.int .i64 w, vv, .int .i64 kk])).ldn ⟨H.nx, 0, none⟩ 3 = some [.int .i64 w, vv, .int .i64 kk] := ld_box hw 3 rfl
  generalize hH1 : H.alloc (.cells 3 [.int .i64 w, vv, .int .i64 kk]) = H1 at X1 d0 d1 d2 d
  have hwH1 := X1.wf hw
  have X2 := Ext.alloc H1 (.cells 4 [.int .i64 op, .int .i64 n, .int .i64 cp, va])
  have e0 : (H1.alloc (.cells 4 [.int .i64 op, .int .i64 n, .int .i64 cp, va])).ld ⟨H1.nx, 0, none⟩ = some (.int .i64 op) := ld_new hwH1 rfl
  have e1 : (H1.alloc (.cells 4 [.int .i64 op, .int .i64 n, .int .i64 cp, va])).ld ⟨H1.nx, 1, none⟩ = some (.int .i64 n) := ld_new hwH1 rfl
  have e2 : (H1.alloc (.cells 4 [.int .i64 op, .int .i64 n, .int .i64 cp, va])).ld ⟨H1.nx, 2, none⟩ = some (.int .i64 cp) := ld_new hwH1 rfl
  have e3 : (H1.alloc (.cells 4 [.int .i64 op, .int .i64 n, .int .i64 cp, va])).ld ⟨H1.nx, 3, none⟩ = some va := ld_new hwH1 rfl
  have e : (H1.alloc (.cells 4 [.int .i64 op, .int .i64 n, .int .i64 cp, va])).ldn ⟨H1.nx, 0, none⟩ 4 = some [.int .i64 op, .int .i64 n, .int .i64 cp, va] := ld_box hwH1 4 rfl
  generalize hH2 : H1.alloc (.cells 4 [.int .i64 op, .int .i64 n, .int .i64 cp, va]) = H2 at X2 e0 e1 e2 e3 e
  have hwH2 := X2.wf hwH1
  have X := X1.trans X2
  replace d1 := X2.ld d1
  by_cases h1 : 0 ≤ n ∧ n < V.length
  · obtain ⟨h1, h2⟩ := h1
    obtain ⟨y, hy⟩ : ∃ y, V[n.toNat]? = some y := ⟨_, List.getElem?_eq_getElem (by omega)⟩
    obtain ⟨b, o, c', hv', _, _, _, hld⟩ := (hv.ext X).at hy
    have hc : cellsAt V n = y.cells := by simp [cellsAt, hy]
    rw [hv'] at d1
    simp (maxSteps := 4000000) -implicitDefEqProofs +contextual [-X.ev, a144, hH1, hH2, d1, e0, e1, h1, h2, hld, X, hc, arityP]
  · have hc : arityP V op n = if op = 0 then 0 else if (2 ≤ op ∧ op ≤ 11) ∨ op = 13 ∨ op = 14 then 2 else if op = 12 then 1 else if op = 15 then 3 else -1 := by
      unfold arityP
      simp only [h1, and_false, if_false]
    obtain ⟨a1, c1, hvv⟩ := hv.len
    rw [hvv] at d1
    by_cases h2 : 0 ≤ n
    · have h3 : ¬ n < V.length := fun q => h1 ⟨h2, q⟩
      simp (maxSteps := 4000000) -implicitDefEqProofs +contextual [-X.ev, a144, hH1, hH2, d1, e0, e1, h2, h3, X, hc]
    · simp (maxSteps := 4000000) -implicitDefEqProofs +contextual [-X.ev, a144, hH1, hH2, d1, e0, e1, h2, X, hc]
end Go.Proofs.YtoijnpfpjpefgaaGreat.A
