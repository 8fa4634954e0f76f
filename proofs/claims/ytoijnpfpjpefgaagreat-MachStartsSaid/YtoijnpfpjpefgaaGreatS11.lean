/- Specs: statements' heads. -/
import Derived.Test.YtoijnpfpjpefgaaGreatS10
set_option linter.unusedVariables false
set_option linter.unusedSimpArgs false
namespace Go.Proofs.YtoijnpfpjpefgaaGreat.A
open Go
def headOk (l : List Vr) (op n : Int) (na nt ne : Nat) : Bool :=
  if op = 0 then (decide (nt = 0) && decide (ne = 0)) && varOk l n na 1
  else if op = 1 then decide (n = 0) && decide (na = 1)
  else if op = 2 then decide (n = 0) && (decide (na = 1) && decide (ne = 0))
  else if op = 3 then (decide (nt = 0) && decide (ne = 0)) && (decide (0 ≤ n) && (decide (n ≤ 47) && decide (na = 1)))
  else if op = 4 then (decide (nt = 0) && decide (ne = 0)) && varOk l n na 0
  else if op = 5 ∨ op = 6 then (decide (nt = 0) && decide (ne = 0)) && (decide (n = 0) && decide (na = 1))
  else false
def head_rest : AC := match a107.body with | .seq _ (.seq _ r) => r | c => c
theorem head_split : a107.body = .seq (.reg [o 3 (.box (.t 1)), o 4 (.mv (.k (.bool false)))]) (.seq (.reg [o 6 (.fa 3 (.t 3)), o 7 (.ld (.t 6)), o 8 (.lenl (.t 7)), o 9 (.bin .eql (.t 8) (i 0)), o 10 (.mv (.t 9)), og 10 true 11 (.fa 4 (.t 3)), og 10 true 12 (.ld (.t 11)), og 10 true 13 (.lenl (.t 12)), og 10 true 14 (.bin .eql (.t 13) (i 0)), o 15 (.pick (.t 10) (.t 14) (.k (.bool false))), o 5 (.mv (.t 15))]) head_rest) := rfl
theorem natlen (n : Nat) : ((n : Int) = 0) = (n = 0) := by apply propext; omega
theorem natlen1 (n : Nat) : ((n : Int) = 1) = (n = 1) := by apply propext; omega
theorem head_ca {op n : Int} {v va vt ve : Value} {l : List Vr} {ra rt re : List (List Value)} {H : AH} (hw : H.n0 ≤ H.nx) (hv : Vars H v l) (hl : l.length < 2 ^ 60) (ha : Rows H 4 va ra) (ht : Rows H 5 vt rt) (he : Rows H 5 ve re) (hn : ra.length < 2 ^ 60) :
    Ca E O 107 [v, .agg #[.int .i64 op, .int .i64 n, va, vt, ve]] H (fun x H' => x = .bool (headOk l op n ra.length rt.length re.length) ∧ Ext H H') := by
  refine Ca.bodyK (F := a107) rfl rfl rfl ?_
  have X0 := Ext.alloc H (.cells 5 [.int .i64 op, .int .i64 n, va, vt, ve])
  have d0 : (H.alloc (.cells 5 [.int .i64 op, .int .i64 n, va, vt, ve])).ld ⟨H.nx, 0, none⟩ = some (.int .i64 op) := ld_new hw rfl
  have d1 : (H.alloc (.cells 5 [.int .i64 op, .int .i64 n, va, vt, ve])).ld ⟨H.nx, 1, none⟩ = some (.int .i64 n) := ld_new hw rfl
  have d2 : (H.alloc (.cells 5 [.int .i64 op, .int .i64 n, va, vt, ve])).ld ⟨H.nx, 2, none⟩ = some va := ld_new hw rfl
  have d3 : (H.alloc (.cells 5 [.int .i64 op, .int .i64 n, va, vt, ve])).ld ⟨H.nx, 3, none⟩ = some vt := ld_new hw rfl
  have d4 : (H.alloc (.cells 5 [.int .i64 op, .int .i64 n, va, vt, ve])).ld ⟨H.nx, 4, none⟩ = some ve := ld_new hw rfl
  have d := ld_box hw (z := 5) (c := [.int .i64 op, .int .i64 n, va, vt, ve]) 5 rfl
  generalize hH1 : H.alloc (.cells 5 [.int .i64 op, .int .i64 n, va, vt, ve]) = H1 at X0 d0 d1 d2 d3 d4 d
  obtain ⟨a2, c2, hva⟩ := ha.len
  obtain ⟨a3, c3, hvt⟩ := ht.len
  obtain ⟨a4, c4, hve⟩ := he.len
  have D2 := d2
  have D3 := d3
  have D4 := d4
  rw [hva] at D2
  rw [hvt] at D3
  rw [hve] at D4
  have vc : ∀ more : Int, 0 ≤ more ∧ more ≤ 1 → Ca E O 124 [v, .agg #[.int .i64 op, .int .i64 n, va, vt, ve], .int .i64 more] H1 (fun x H' => x = .bool (varOk l n ra.length more) ∧ Ext H1 H') := fun more hm => variable_ca (X0.wf hw) (hv.ext X0) hl (ha.ext X0) hn hm
  clear ha ht he hn
  generalize ra.length = na at *
  generalize rt.length = nt at *
  generalize re.length = ne at *
  obtain ⟨fl, hfl⟩ : ∃ b, b = (decide (nt = 0) && decide (ne = 0)) := ⟨_, rfl⟩
  suffices hs : ∀ fr : Fr, fr.get 0 = v → fr.get 3 = .pointer (some ⟨H.nx, 0, none⟩) → fr.get 5 = .bool fl → Wk E O head_rest [] fr H1 (retQ [.tmp 4] fun x H' => x = .bool (headOk l op n na nt ne) ∧ Ext H H') by
    rw [head_split]
    by_cases h3 : nt = 0
    · subst h3
      simp -implicitDefEqProofs [aop, hH1, D3, D4, natlen]
      refine hs _ ?_ ?_ ?_ <;> simp [hfl]
    · simp -implicitDefEqProofs [aop, hH1, D3, D4, h3, natlen]
      refine hs _ ?_ ?_ ?_ <;> simp [hfl, h3]
  intro fr f0 f3 f5
  simp -implicitDefEqProofs [head_rest, a107, aop, f3, d0]
  by_cases g0 : op = 0
  · subst g0
    cases hb : fl with
    | false =>
      rw [hb] at f5
      simp -implicitDefEqProofs [aop, f0, f3, f5, d, headOk, ← hfl, hb]
      exact X0
    | true =>
      rw [hb] at f5
      simp -implicitDefEqProofs [aop, f0, f3, f5, d]
      refine Wr_call ?_
      simp -implicitDefEqProofs [f0]
      refine (vc 1 (by omega)).mono ?_
      rintro x H2 ⟨rfl, X2⟩
      simp -implicitDefEqProofs [aop, headOk, ← hfl, hb]
      exact X0.trans X2
  simp -implicitDefEqProofs [aop, g0]
  by_cases g1 : op = 1
  · subst g1
    by_cases k1 : n = 0
    case neg =>
      simp -implicitDefEqProofs [aop, f0, f3, f5, d1, D2, D4, natlen, natlen1, headOk, k1]
      exact X0
    by_cases k2 : na = 1
    case neg =>
      simp -implicitDefEqProofs [aop, f0, f3, f5, d1, D2, D4, natlen, natlen1, headOk, k1, k2]
      exact X0
    simp -implicitDefEqProofs [aop, f0, f3, f5, d1, D2, D4, natlen, natlen1, headOk, k1, k2]
    exact X0
  simp -implicitDefEqProofs [aop, g1]
  by_cases g2 : op = 2
  · subst g2
    by_cases k1 : n = 0
    case neg =>
      simp -implicitDefEqProofs [aop, f0, f3, f5, d1, D2, D4, natlen, natlen1, headOk, k1]
      exact X0
    by_cases k2 : na = 1
    case neg =>
      simp -implicitDefEqProofs [aop, f0, f3, f5, d1, D2, D4, natlen, natlen1, headOk, k1, k2]
      exact X0
    by_cases k3 : ne = 0
    case neg =>
      simp -implicitDefEqProofs [aop, f0, f3, f5, d1, D2, D4, natlen, natlen1, headOk, k1, k2, k3]
      exact X0
    simp -implicitDefEqProofs [aop, f0, f3, f5, d1, D2, D4, natlen, natlen1, headOk, k1, k2, k3]
    exact X0
  simp -implicitDefEqProofs [aop, g2]
  by_cases g3 : op = 3
  · subst g3
    cases hb : fl with
    | false =>
      rw [hb] at f5
      simp -implicitDefEqProofs [aop, f0, f3, f5, d1, D2, D4, natlen, natlen1, headOk, ← hfl, hb]
      exact X0
    | true =>
    rw [hb] at f5
    by_cases k1 : 0 ≤ n
    case neg =>
      simp -implicitDefEqProofs [aop, f0, f3, f5, d1, D2, D4, natlen, natlen1, headOk, ← hfl, hb, k1]
      exact X0
    by_cases k2 : n ≤ 47
    case neg =>
      simp -implicitDefEqProofs [aop, f0, f3, f5, d1, D2, D4, natlen, natlen1, headOk, ← hfl, hb, k1, k2]
      exact X0
    by_cases k3 : na = 1
    case neg =>
      simp -implicitDefEqProofs [aop, f0, f3, f5, d1, D2, D4, natlen, natlen1, headOk, ← hfl, hb, k1, k2, k3]
      exact X0
    simp -implicitDefEqProofs [aop, f0, f3, f5, d1, D2, D4, natlen, natlen1, headOk, ← hfl, hb, k1, k2, k3]
    exact X0
  simp -implicitDefEqProofs [aop, g3]
  by_cases g4 : op = 4
  · subst g4
    cases hb : fl with
    | false =>
      rw [hb] at f5
      simp -implicitDefEqProofs [aop, f0, f3, f5, d, headOk, ← hfl, hb]
      exact X0
    | true =>
      rw [hb] at f5
      simp -implicitDefEqProofs [aop, f0, f3, f5, d]
      refine Wr_call ?_
      simp -implicitDefEqProofs [f0]
      refine (vc 0 (by omega)).mono ?_
      rintro x H2 ⟨rfl, X2⟩
      simp -implicitDefEqProofs [aop, headOk, ← hfl, hb]
      exact X0.trans X2
  simp -implicitDefEqProofs [aop, g4]
  by_cases g5 : op = 5
  · subst g5
    cases hb : fl with
    | false =>
      rw [hb] at f5
      simp -implicitDefEqProofs [aop, f0, f3, f5, d1, D2, D4, natlen, natlen1, headOk, ← hfl, hb]
      exact X0
    | true =>
    rw [hb] at f5
    by_cases k1 : n = 0
    case neg =>
      simp -implicitDefEqProofs [aop, f0, f3, f5, d1, D2, D4, natlen, natlen1, headOk, ← hfl, hb, k1]
      exact X0
    by_cases k2 : na = 1
    case neg =>
      simp -implicitDefEqProofs [aop, f0, f3, f5, d1, D2, D4, natlen, natlen1, headOk, ← hfl, hb, k1, k2]
      exact X0
    simp -implicitDefEqProofs [aop, f0, f3, f5, d1, D2, D4, natlen, natlen1, headOk, ← hfl, hb, k1, k2]
    exact X0
  simp -implicitDefEqProofs [aop, g5]
  by_cases g6 : op = 6
  · subst g6
    cases hb : fl with
    | false =>
      rw [hb] at f5
      simp -implicitDefEqProofs [aop, f0, f3, f5, d1, D2, D4, natlen, natlen1, headOk, ← hfl, hb]
      exact X0
    | true =>
    rw [hb] at f5
    by_cases k1 : n = 0
    case neg =>
      simp -implicitDefEqProofs [aop, f0, f3, f5, d1, D2, D4, natlen, natlen1, headOk, ← hfl, hb, k1]
      exact X0
    by_cases k2 : na = 1
    case neg =>
      simp -implicitDefEqProofs [aop, f0, f3, f5, d1, D2, D4, natlen, natlen1, headOk, ← hfl, hb, k1, k2]
      exact X0
    simp -implicitDefEqProofs [aop, f0, f3, f5, d1, D2, D4, natlen, natlen1, headOk, ← hfl, hb, k1, k2]
    exact X0
  simp -implicitDefEqProofs [aop, g6]
  simp -implicitDefEqProofs [headOk, g0, g1, g2, g3, g4, g5, g6]
  exact X0
end Go.Proofs.YtoijnpfpjpefgaaGreat.A
