/- Specs: statements as trees; how many nodes fit. -/
import Derived.Test.YtoijnpfpjpefgaaGreatS6
set_option linter.unusedVariables false
set_option linter.unusedSimpArgs false
namespace Go.Proofs.YtoijnpfpjpefgaaGreat.A
open Go
inductive Stm where
  | mk (op n : Int) (args : List Exp) (thn els : List Stm)
mutual
inductive StC (H : AH) : List Value → Stm → Prop where
  | mk {op n : Int} {va vt ve : Value} {ra rt re : List (List Value)} {args : List Exp} {thn els : List Stm} : I64 op → I64 n → args.length < 2 ^ 60 → thn.length < 2 ^ 60 → els.length < 2 ^ 60 →
      Rows H 4 va ra → ExL H ra args → Rows H 5 vt rt → StL H rt thn → Rows H 5 ve re → StL H re els → StC H [.int .i64 op, .int .i64 n, va, vt, ve] (.mk op n args thn els)
inductive StL (H : AH) : List (List Value) → List Stm → Prop where
  | nil : StL H [] []
  | cons {r : List Value} {e : Stm} {rs : List (List Value)} {es : List Stm} : StC H r e → StL H rs es → StL H (r :: rs) (e :: es)
end
mutual
theorem StC.ext {H H' : AH} (E : Ext H H') {c : List Value} {e : Stm} : StC H c e → StC H' c e
  | .mk a b c d e ra la rt lt re le => .mk a b c d e (ra.ext E) (ExL.ext E la) (rt.ext E) (StL.ext E lt) (re.ext E) (StL.ext E le)
theorem StL.ext {H H' : AH} (E : Ext H H') {c : List (List Value)} {e : List Stm} : StL H c e → StL H' c e
  | .nil => .nil
  | .cons a b => .cons (StC.ext E a) (StL.ext E b)
end
theorem StL.length {H : AH} : ∀ {c : List (List Value)} {e : List Stm}, StL H c e → c.length = e.length
  | _, _, .nil => rfl
  | _, _, .cons _ b => by simp [StL.length b]
theorem StL.at {H : AH} : ∀ {c : List (List Value)} {e : List Stm} {i : Nat} {x : Stm}, StL H c e → e[i]? = some x → ∃ r, c[i]? = some r ∧ StC H r x
  | _, _, i, x, .nil, h => by simp at h
  | _, _, 0, x, .cons a b, h => by simp at h; subst h; exact ⟨_, rfl, a⟩
  | _, _, i + 1, x, .cons a b, h => by obtain ⟨r, h1, h2⟩ := StL.at b (by simpa using h); exact ⟨r, by simpa using h1, h2⟩
theorem size_thn {l : List Stm} {i : Nat} {op n : Int} {args : List Exp} {thn els : List Stm} (h : l[i]? = some (.mk op n args thn els)) : SizeOf.sizeOf thn < SizeOf.sizeOf l ∧ SizeOf.sizeOf els < SizeOf.sizeOf l := by
  have := List.sizeOf_lt_of_mem (List.mem_of_getElem? h)
  simp at this
  omega
mutual
def leftSt : Stm → Int → Int
  | .mk _ _ args thn els, m => leftSts els (leftSts thn (leftL args (m - 1)))
def leftSts : List Stm → Int → Int
  | [], m => m
  | s :: ss, m => if 0 < m then leftSts ss (leftSt s m) else m
end
theorem leftL_bound (l : List Exp) (k : Int) (h : 0 ≤ k) : 0 ≤ leftL l k ∧ leftL l k ≤ k := by
  induction l generalizing k with
  | nil => rw [leftL]; omega
  | cons x l ihl =>
    rw [leftL, leftE_eq]
    have h1 := nodesE_pos x
    have := ihl (max (k - nodesE x) 0) (by omega)
    omega
/-- A statement's places in memory. -/
theorem StL.row {H : AH} {v : Value} {rows : List (List Value)} {l : List Stm} (hr : Rows H 5 v rows) (hl : StL H rows l) {i : Nat} {op n : Int} {args : List Exp} {thn els : List Stm} (hy : l[i]? = some (.mk op n args thn els)) :
    ∃ b o c va vt ve ra rt re, v = .slice (some ⟨b, o, none⟩) l.length c ∧ H.ldn ⟨b, o + i * 5, none⟩ 5 = some [.int .i64 op, .int .i64 n, va, vt, ve] ∧
      H.ld ⟨b, o + i * 5, none⟩ = some (.int .i64 op) ∧ H.ld ⟨b, o + i * 5 + 1, none⟩ = some (.int .i64 n) ∧ H.ld ⟨b, o + i * 5 + 2, none⟩ = some va ∧ H.ld ⟨b, o + i * 5 + 3, none⟩ = some vt ∧ H.ld ⟨b, o + i * 5 + 4, none⟩ = some ve ∧
      I64 op ∧ I64 n ∧ args.length < 2 ^ 60 ∧ thn.length < 2 ^ 60 ∧ els.length < 2 ^ 60 ∧ Rows H 4 va ra ∧ ExL H ra args ∧ Rows H 5 vt rt ∧ StL H rt thn ∧ Rows H 5 ve re ∧ StL H re els := by
  obtain ⟨r, hr1, hc⟩ := hl.at hy
  obtain ⟨b, o, c, hv, hldn⟩ := hr.at hr1
  rw [hl.length] at hv
  cases hc with | @mk _ _ va vt ve ra rt re _ _ _ i1 i2 i3 i4 i5 h1 h2 h3 h4 h5 h6 =>
  exact ⟨b, o, c, va, vt, ve, ra, rt, re, hv, hldn, by simpa using ld_of_ldn hldn (j := 0) rfl, ld_of_ldn hldn (j := 1) rfl, ld_of_ldn hldn (j := 2) rfl, ld_of_ldn hldn (j := 3) rfl, ld_of_ldn hldn (j := 4) rfl, i1, i2, i3, i4, i5, h1, h2, h3, h4, h5, h6⟩
end Go.Proofs.YtoijnpfpjpefgaaGreat.A
