/- Specs: sizes of programs; variables of statements. -/
import Derived.Test.YtoijnpfpjpefgaaGreatS8
set_option linter.unusedVariables false
set_option linter.unusedSimpArgs false
namespace Go.Proofs.YtoijnpfpjpefgaaGreat.A
open Go
mutual
def nodesSt : Stm → Int
  | .mk _ _ args thn els => 1 + nodesL args + nodesS thn + nodesS els
def nodesS : List Stm → Int
  | [] => 0
  | s :: ss => nodesSt s + nodesS ss
end
theorem stm_rec {M : List Stm → Prop} (h : ∀ l, (∀ op n args thn els, .mk op n args thn els ∈ l → M thn ∧ M els) → M l) : ∀ l, M l := by
  have key : ∀ (N : Nat) (l : List Stm), SizeOf.sizeOf l < N → M l := by
    intro N
    induction N with
    | zero => intro l h; omega
    | succ N ih =>
      intro l hl
      refine h l fun op n args thn els hm => ?_
      have := List.sizeOf_lt_of_mem hm
      simp at this
      exact ⟨ih thn (by omega), ih els (by omega)⟩
  exact fun l => key _ l (Nat.lt_succ_self _)
theorem leftL_eq (l : List Exp) (k : Int) (hk : 0 ≤ k) : leftL l k = max (k - nodesL l) 0 := by
  induction l generalizing k with
  | nil => rw [leftL, nodesL]; omega
  | cons x l ihl =>
    rw [leftL, nodesL, leftE_eq, ihl _ (by omega)]
    have := nodesL_pos l
    omega
theorem leftSts_eq : ∀ l, 0 ≤ nodesS l ∧ ∀ m, 0 ≤ m → leftSts l m = max (m - nodesS l) 0 := stm_rec fun l ih => by
  induction l with
  | nil => exact ⟨by rw [nodesS]; omega, fun m hm => by rw [leftSts, nodesS]; omega⟩
  | cons s ss ihl =>
    obtain ⟨op, n, args, thn, els⟩ := s
    obtain ⟨⟨t0, t1⟩, ⟨u0, u1⟩⟩ := ih op n args thn els (by simp)
    obtain ⟨v0, v1⟩ := ihl fun op n args thn els h => ih op n args thn els (by simp [h])
    have a0 := nodesL_pos args
    refine ⟨by rw [nodesS, nodesSt]; omega, fun m hm => ?_⟩
    rw [leftSts, nodesS, nodesSt]
    split
    · rw [leftSt, leftL_eq _ _ (by omega), t1 _ (by omega), u1 _ (by omega), v1 _ (by omega)]
      omega
    · omega
theorem PFits_ca {l : List Stm} {v : Value} {rows : List (List Value)} {H : AH} {m : Int} (hw : H.n0 ≤ H.nx) (hlen : l.length < 2 ^ 60) (hr : Rows H 5 v rows) (hl : StL H rows l) (hm : 0 ≤ m ∧ m ≤ 1000000) :
    Ca E O 11 [v, .int .i64 m] H (fun x H' => x = .bool (decide (nodesS l ≤ m)) ∧ Ext H H') := by
  refine Ca.bodyK (F := a11) rfl rfl rfl ?_
  simp -implicitDefEqProofs [a11, aop]
  refine Wr_call ?_
  rw [wrap_in ⟨by omega, by omega⟩]
  simp -implicitDefEqProofs
  refine (left_ca _ l v rows H (m + 1) (Nat.lt_succ_self _) hw hlen hr hl (by omega) (by omega)).mono ?_
  rintro x H2 ⟨⟨rfl, X2⟩, _⟩
  simp -implicitDefEqProofs [aop]
  refine ⟨?_, X2⟩
  rw [(leftSts_eq l).2 _ (by omega)]
  have := (leftSts_eq l).1
  omega
def varOk (l : List Vr) (n : Int) (na : Nat) (more : Int) : Bool := decide (0 ≤ n) && (decide (n < l.length) && decide ((na : Int) = more + if 1 < cellsAt l n then 1 else 0))
theorem variable_ca {n more : Int} {v v0 va vt ve : Value} {l : List Vr} {rows : List (List Value)} {H : AH} (hw : H.n0 ≤ H.nx) (hv : Vars H v l) (hl : l.length < 2 ^ 60) (hr : Rows H 4 va rows) (hn : rows.length < 2 ^ 60) (hmore : 0 ≤ more ∧ more ≤ 1) :
    Ca E O 124 [v, .agg #[v0, .int .i64 n, va, vt, ve], .int .i64 more] H (fun x H' => x = .bool (varOk l n rows.length more) ∧ Ext H H') := by
  refine Ca.bodyK (F := a124) rfl rfl rfl ?_
  have X0 := Ext.alloc H (.cells 5 [v0, .int .i64 n, va, vt, ve])
  have d1 : (H.alloc (.cells 5 [v0, .int .i64 n, va, vt, ve])).ld ⟨H.nx, 1, none⟩ = some (.int .i64 n) := ld_new hw rfl
  have d2 : (H.alloc (.cells 5 [v0, .int .i64 n, va, vt, ve])).ld ⟨H.nx, 2, none⟩ = some va := ld_new hw rfl
  generalize hH1 : H.alloc (.cells 5 [v0, .int .i64 n, va, vt, ve]) = H1 at X0 d1 d2
  obtain ⟨a1, c1, hva⟩ := hr.len
  obtain ⟨a2, c2, hvv⟩ := hv.len
  have d1n := ld_ldn.1 d1
  have d2n := ld_ldn.1 d2
  simp -implicitDefEqProofs [a124, aop, hH1]
  refine Wk_regd _ _ ?_
  by_cases h2 : 0 ≤ n
  case neg =>
    simp -implicitDefEqProofs [aop, okD, chain, chk1, nth, AO.wanted, loadOf, sameAt, sameL, same1, d1, d1n, d2n, h2, varOk]
    exact X0
  by_cases h3 : n < l.length
  case neg =>
    simp -implicitDefEqProofs [aop, okD, chain, chk1, nth, AO.wanted, loadOf, sameAt, sameL, same1, d1, d1n, d2n, h2, h3, hvv, varOk]
    exact X0
  obtain ⟨y, hy⟩ : ∃ y, l[n.toNat]? = some y := ⟨_, List.getElem?_eq_getElem (by omega)⟩
  obtain ⟨b, o, c', hv', _, _, _, hld⟩ := (hv.ext X0).at hy
  have hc : cellsAt l n = y.cells := by simp [cellsAt, hy]
  rw [hva] at d2 d2n
  rw [hv']
  simp -implicitDefEqProofs [aop, d1, d2, hld, h2, h3]
  refine Wd_call ?_
  simp -implicitDefEqProofs
  refine (One_ca (decide (1 < y.cells)) H1).mono ?_
  rintro x H2 ⟨rfl, rfl⟩
  simp -implicitDefEqProofs [aop, okD, chain, chk1, nth, AO.wanted, loadOf, sameAt, sameL, same1, d1, d2, d1n, d2n, hld, h2, h3, varOk, hc]
  refine ⟨?_, X0⟩
  rw [wrap_in (by unfold I64; split <;> omega)]
end Go.Proofs.YtoijnpfpjpefgaaGreat.A
