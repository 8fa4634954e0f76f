/- Specs: expressions as trees. -/
import Derived.Test.YtoijnpfpjpefgaaGreatS3
set_option linter.unusedVariables false
set_option linter.unusedSimpArgs false
namespace Go.Proofs.YtoijnpfpjpefgaaGreat.A
open Go
inductive Exp where
  | mk (op n cp : Int) (args : List Exp)
def Exp.op : Exp → Int | .mk a _ _ _ => a
def Exp.n : Exp → Int | .mk _ a _ _ => a
def Exp.cp : Exp → Int | .mk _ _ a _ => a
def Exp.args : Exp → List Exp | .mk _ _ _ a => a
mutual
inductive ExC (H : AH) : List Value → Exp → Prop where
  | mk {op n cp : Int} {v : Value} {rows : List (List Value)} {args : List Exp} : I64 op → I64 n → I64 cp → args.length < 2 ^ 60 → Rows H 4 v rows → ExL H rows args → ExC H [.int .i64 op, .int .i64 n, .int .i64 cp, v] (.mk op n cp args)
inductive ExL (H : AH) : List (List Value) → List Exp → Prop where
  | nil : ExL H [] []
  | cons {r : List Value} {e : Exp} {rs : List (List Value)} {es : List Exp} : ExC H r e → ExL H rs es → ExL H (r :: rs) (e :: es)
end
mutual
theorem ExC.ext {H H' : AH} (E : Ext H H') {c : List Value} {e : Exp} : ExC H c e → ExC H' c e
  | .mk a b c d r l => .mk a b c d (r.ext E) (ExL.ext E l)
theorem ExL.ext {H H' : AH} (E : Ext H H') {c : List (List Value)} {e : List Exp} : ExL H c e → ExL H' c e
  | .nil => .nil
  | .cons a b => .cons (ExC.ext E a) (ExL.ext E b)
end
theorem ExL.length {H : AH} : ∀ {c : List (List Value)} {e : List Exp}, ExL H c e → c.length = e.length
  | _, _, .nil => rfl
  | _, _, .cons _ b => by simp [ExL.length b]
theorem ExL.at {H : AH} : ∀ {c : List (List Value)} {e : List Exp} {i : Nat} {x : Exp}, ExL H c e → e[i]? = some x → ∃ r, c[i]? = some r ∧ ExC H r x
  | _, _, i, x, .nil, h => by simp at h
  | _, _, 0, x, .cons a b, h => by simp at h; subst h; exact ⟨_, rfl, a⟩
  | _, _, i + 1, x, .cons a b, h => by obtain ⟨r, h1, h2⟩ := ExL.at b (by simpa using h); exact ⟨r, by simpa using h1, h2⟩
theorem size_arg {op n cp : Int} {args : List Exp} {i : Nat} {x : Exp} (h : args[i]? = some x) : SizeOf.sizeOf x < SizeOf.sizeOf (Exp.mk op n cp args) := by
  have := List.sizeOf_lt_of_mem (List.mem_of_getElem? h)
  simp
  omega
mutual
def leftE : Exp → Int → Int
  | .mk _ _ _ args, most => if most < 1 then 0 else leftL args (most - 1)
def leftL : List Exp → Int → Int
  | [], n => n
  | e :: es, n => leftL es (leftE e n)
end
theorem leftL_foldl : ∀ (l : List Exp) (n : Int), leftL l n = l.foldl (fun n e => leftE e n) n
  | [], n => rfl
  | e :: es, n => by simp [leftL, leftL_foldl es]
@[simp] theorem vcells_agg (c : Array Value) : vcells (.agg c) = c.toList := rfl
@[simp] theorem isTup_agg (c : Array Value) : isTup (.agg c) = false := rfl
theorem leftE_le : ∀ (N : Nat) (e : Exp) (m : Int), SizeOf.sizeOf e < N → leftE e m ≤ max m 0 ∧ 0 ≤ leftE e m := by
  intro N
  induction N with
  | zero => intro e m h; omega
  | succ N ih =>
    intro e m h
    obtain ⟨op, n, cp, args⟩ := e
    rw [leftE]
    split
    · omega
    · have key : ∀ (l : List Exp) (k : Int), (∀ e ∈ l, SizeOf.sizeOf e < N) → 0 ≤ k → leftL l k ≤ k ∧ 0 ≤ leftL l k := by
        intro l
        induction l with
        | nil => intro k _ hk; rw [leftL]; omega
        | cons x l ihl =>
          intro k hl hk
          rw [leftL]
          have h1 := ih x k (hl x (by simp))
          have h2 := ihl (leftE x k) (fun e he => hl e (by simp [he])) h1.2
          omega
      have := key args (m - 1) (fun e he => by have := List.sizeOf_lt_of_mem he; simp at h; omega) (by omega)
      omega
theorem Left_ca : ∀ (N : Nat) (e : Exp) (c : List Value) (H : AH) (most : Int), SizeOf.sizeOf e < N → H.n0 ≤ H.nx → ExC H c e → I64 most →
    Ca E O 74 [.agg c.toArray, .int .i64 most] H (fun x H' => x = .int .i64 (leftE e most) ∧ Ext H H') := by
  intro N
  induction N with
  | zero => intro e c H most h; omega
  | succ N ih =>
    intro e c H most hN hw he hm
    cases he with | @mk op n cp v rows args i1 i2 i3 hlen hr hl =>
    refine Ca.bodyK (F := a74) rfl rfl rfl ?_
    have X0 := Ext.alloc H (.cells 4 [.int .i64 op, .int .i64 n, .int .i64 cp, v])
    have d3 : (H.alloc (.cells 4 [.int .i64 op, .int .i64 n, .int .i64 cp, v])).ld ⟨H.nx, 3, none⟩ = some v := ld_new hw rfl
    generalize hH1 : H.alloc (.cells 4 [.int .i64 op, .int .i64 n, .int .i64 cp, v]) = H1 at X0 d3
    by_cases h1 : most < 1
    · simp -implicitDefEqProofs [a74, aop, h1, hH1]
      refine ⟨?_, X0⟩
      rw [leftE, if_pos h1]
    · unfold I64 at hm
      simp -implicitDefEqProofs [a74, aop, h1, hH1]
      rw [wrap_in (n := most - 1) ⟨by omega, by omega⟩]
      obtain ⟨a0, c0, hv⟩ := hr.len
      rw [hl.length] at hv
      refine Wk_loop (fun k fr H' => Ext H1 H' ∧ ∃ i : Nat, i + k = args.length ∧ fr.get 2 = .pointer (some ⟨H.nx, 0, none⟩) ∧ fr.get 6 = .int .i64 i ∧ fr.get 5 = .int .i64 (leftL (args.take i) (most - 1)) ∧ 0 ≤ leftL (args.take i) (most - 1) ∧ leftL (args.take i) (most - 1) ≤ most - 1) ?_ args.length ⟨Ext.refl _, 0, by simp, by simp, by simp, by simp [leftL], by simp [leftL]; omega, by simp [leftL]⟩
      rintro k fr H2 ⟨X2, i, hi, f2, f6, f5, b1, b2⟩
      have dd := X2.ld d3
      have hw2 := (X0.trans X2).wf hw
      by_cases h : i < args.length
      · obtain ⟨y, hy⟩ : ∃ y, args[i]? = some y := ⟨_, List.getElem?_eq_getElem h⟩
        obtain ⟨r, hr1, hey⟩ := hl.at hy
        obtain ⟨b, o, c', hv', hldn⟩ := (hr.ext (X0.trans X2)).at hr1
        rw [hl.length] at hv'
        rw [hv'] at dd
        simp -implicitDefEqProofs [aop, f2, f6, f5, dd, h, hldn]
        refine Wr_call ?_
        simp -implicitDefEqProofs [f5]
        have hs := size_arg (op := op) (n := n) (cp := cp) hy
        refine (ih y r H2 _ (by omega) hw2 (hey.ext (X0.trans X2)) ⟨by omega, by omega⟩).mono ?_
        rintro x H3 ⟨rfl, X3⟩
        simp -implicitDefEqProofs [aop, f2, f6, f5]
        rw [wrap_in (n := (i : Int) + 1) ⟨by omega, by omega⟩]
        have e2 : leftL (args.take (i + 1)) (most - 1) = leftE y (leftL (args.take i) (most - 1)) := by
          rw [List.take_add_one, hy]
          simp [leftL_foldl, List.foldl_append]
        have := leftE_le (SizeOf.sizeOf y + 1) y (leftL (args.take i) (most - 1)) (by omega)
        exact ⟨k - 1, by omega, X2.trans X3, i + 1, by omega, by simp, e2.symm, by rw [e2]; omega, by rw [e2]; omega⟩
      · rw [hv] at dd
        simp -implicitDefEqProofs [aop, f2, f6, f5, dd, h]
        rw [List.take_of_length_le (by omega)]
        refine ⟨?_, X0.trans X2⟩
        rw [leftE, if_neg h1]
end Go.Proofs.YtoijnpfpjpefgaaGreat.A
