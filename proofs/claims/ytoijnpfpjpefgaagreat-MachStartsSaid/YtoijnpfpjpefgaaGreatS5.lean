/- Specs: expressions' sizes and depths. -/
import Derived.Test.YtoijnpfpjpefgaaGreatS4
set_option linter.unusedVariables false
set_option linter.unusedSimpArgs false
namespace Go.Proofs.YtoijnpfpjpefgaaGreat.A
open Go
mutual
def nodesE : Exp → Int
  | .mk _ _ _ args => 1 + nodesL args
def nodesL : List Exp → Int
  | [] => 0
  | e :: es => nodesE e + nodesL es
end
mutual
def depthE : Exp → Int
  | .mk _ _ _ args => depthL args 0 + 1
def depthL : List Exp → Int → Int
  | [], n => n
  | e :: es, n => depthL es (max n (depthE e))
end
theorem depthL_foldl : ∀ (l : List Exp) (n : Int), depthL l n = l.foldl (fun n e => max n (depthE e)) n
  | [], n => rfl
  | e :: es, n => by simp [depthL, depthL_foldl es]
theorem exp_rec {M : Exp → Prop} (h : ∀ op n cp args, (∀ e ∈ args, M e) → M (.mk op n cp args)) : ∀ e, M e := by
  have key : ∀ (N : Nat) (e : Exp), SizeOf.sizeOf e < N → M e := by
    intro N
    induction N with
    | zero => intro e h; omega
    | succ N ih =>
      intro e he
      obtain ⟨op, n, cp, args⟩ := e
      refine h op n cp args fun e hm => ih e ?_
      have := List.sizeOf_lt_of_mem hm
      simp at he
      omega
  exact fun e => key _ e (Nat.lt_succ_self _)
theorem nodesL_nonneg {l : List Exp} (h : ∀ e ∈ l, 1 ≤ nodesE e) : 0 ≤ nodesL l := by
  induction l with
  | nil => simp [nodesL]
  | cons e es ih =>
    rw [nodesL]
    have h1 := h e (by simp)
    have h2 := ih fun x hx => h x (by simp [hx])
    omega
theorem nodesE_pos : ∀ e, 1 ≤ nodesE e := exp_rec fun op n cp args ih => by
  rw [nodesE]
  have := nodesL_nonneg ih
  omega
theorem nodesL_pos (l : List Exp) : 0 ≤ nodesL l := nodesL_nonneg fun e _ => nodesE_pos e
theorem leftE_eq : ∀ e m, leftE e m = max (m - nodesE e) 0 := exp_rec fun op n cp args ih m => by
  have key : ∀ (l : List Exp) (k : Int), (∀ e ∈ l, ∀ m, leftE e m = max (m - nodesE e) 0) → 0 ≤ k → leftL l k = max (k - nodesL l) 0 := by
    intro l
    induction l with
    | nil => intro k _ hk; rw [leftL, nodesL]; omega
    | cons x l ihl =>
      intro k hl hk
      rw [leftL, nodesL, hl x (by simp), ihl _ (fun e he => hl e (by simp [he])) (by omega)]
      have := nodesL_pos l
      omega
  rw [leftE, nodesE]
  have := nodesL_pos args
  split
  · omega
  · rw [key args (m - 1) ih (by omega)]
    omega
theorem depthE_bound : ∀ e, 1 ≤ depthE e ∧ depthE e ≤ nodesE e := exp_rec fun op n cp args ih => by
  have key : ∀ (l : List Exp) (k : Int), (∀ e ∈ l, 1 ≤ depthE e ∧ depthE e ≤ nodesE e) → 0 ≤ k → k ≤ depthL l k ∧ depthL l k ≤ max k (nodesL l) := by
    intro l
    induction l with
    | nil => intro k _ hk; rw [depthL, nodesL]; omega
    | cons x l ihl =>
      intro k hl hk
      rw [depthL, nodesL]
      have h1 := hl x (by simp)
      have h2 := ihl (max k (depthE x)) (fun e he => hl e (by simp [he])) (by omega)
      have h3 := nodesL_pos l
      omega
  rw [depthE, nodesE]
  have := key args 0 ih (by omega)
  have := nodesL_pos args
  omega
theorem ld_box {H : AH} (hw : H.n0 ≤ H.nx) {z : Nat} {c : List Value} (n : Nat) (hn : c.length = n) : (H.alloc (.cells z c)).ldn ⟨H.nx, 0, none⟩ n = some c := by
  rw [← hn]; exact ldn_new hw z c
theorem Fits_ca {e : Exp} {c : List Value} {H : AH} {most : Int} (hw : H.n0 ≤ H.nx) (he : ExC H c e) (hm : 0 ≤ most ∧ most ≤ 1000000) :
    Ca E O 125 [.agg c.toArray, .int .i64 most] H (fun x H' => x = .bool (decide (nodesE e ≤ most)) ∧ Ext H H') := by
  refine Ca.bodyK (F := a125) rfl rfl rfl ?_
  have hc : c.length = 4 := by cases he; rfl
  have X0 := Ext.alloc H (.cells c.length c)
  have d := ld_box hw (z := c.length) (c := c) 4 hc
  generalize hH1 : H.alloc (.cells c.length c) = H1 at X0 d
  simp -implicitDefEqProofs [a125, aop, hH1, d]
  refine Wr_call ?_
  rw [wrap_in ⟨by omega, by omega⟩]
  simp -implicitDefEqProofs
  refine (Left_ca _ e c H1 (most + 1) (Nat.lt_succ_self _) (X0.wf hw) (he.ext X0) ⟨by omega, by omega⟩).mono ?_
  rintro x H2 ⟨rfl, X2⟩
  simp -implicitDefEqProofs [aop]
  refine ⟨?_, X0.trans X2⟩
  rw [leftE_eq]
  omega
theorem Depth_ca : ∀ (N : Nat) (e : Exp) (c : List Value) (H : AH), SizeOf.sizeOf e < N → H.n0 ≤ H.nx → ExC H c e → nodesE e < 2 ^ 60 →
    Ca E O 126 [.agg c.toArray] H (fun x H' => x = .int .i64 (depthE e) ∧ Ext H H') := by
  intro N
  induction N with
  | zero => intro e c H h; omega
  | succ N ih =>
    intro e c H hN hw he hm
    cases he with | @mk op n cp v rows args i1 i2 i3 hlen hr hl =>
    refine Ca.bodyK (F := a126) rfl rfl rfl ?_
    have X0 := Ext.alloc H (.cells 4 [.int .i64 op, .int .i64 n, .int .i64 cp, v])
    have d3 : (H.alloc (.cells 4 [.int .i64 op, .int .i64 n, .int .i64 cp, v])).ld ⟨H.nx, 3, none⟩ = some v := ld_new hw rfl
    generalize hH1 : H.alloc (.cells 4 [.int .i64 op, .int .i64 n, .int .i64 cp, v]) = H1 at X0 d3
    have hmm := hm
    rw [nodesE] at hm
    obtain ⟨a0, c0, hv⟩ := hr.len
    rw [hl.length] at hv
    have mem_le : ∀ (l : List Exp) (y : Exp), y ∈ l → nodesE y ≤ nodesL l := by
      intro l
      induction l with
      | nil => intro y hy; cases hy
      | cons x l ihl =>
        intro y hy
        rw [nodesL]
        have h3 := nodesL_pos l
        have h4 := nodesE_pos x
        rcases List.mem_cons.1 hy with rfl | hy
        · omega
        · have := ihl y hy; omega
    simp -implicitDefEqProofs [a126, aop, hH1]
    refine Wk_loop (fun k fr H' => Ext H1 H' ∧ ∃ i : Nat, i + k = args.length ∧ fr.get 1 = .pointer (some ⟨H.nx, 0, none⟩) ∧ fr.get 4 = .int .i64 i ∧ fr.get 3 = .int .i64 (depthL (args.take i) 0) ∧ 0 ≤ depthL (args.take i) 0 ∧ depthL (args.take i) 0 ≤ nodesL args) ?_ args.length ⟨Ext.refl _, 0, by simp, by simp, by simp, by simp [depthL], by simp [depthL], by simp [depthL, nodesL_pos]⟩
    rintro k fr H2 ⟨X2, i, hi, f1, f4, f3, b1, b2⟩
    have dd := X2.ld d3
    have hw2 := (X0.trans X2).wf hw
    by_cases h : i < args.length
    · obtain ⟨y, hy⟩ : ∃ y, args[i]? = some y := ⟨_, List.getElem?_eq_getElem h⟩
      obtain ⟨r, hr1, hey⟩ := hl.at hy
      obtain ⟨b, o, c', hv', hldn⟩ := (hr.ext (X0.trans X2)).at hr1
      rw [hl.length] at hv'
      rw [hv'] at dd
      have hyn := mem_le args y (List.mem_of_getElem? hy)
      have hyd := depthE_bound y
      simp -implicitDefEqProofs [aop, f1, f4, f3, dd, h, hldn]
      refine Wr_call ?_
      simp -implicitDefEqProofs
      have hs := size_arg (op := op) (n := n) (cp := cp) hy
      refine (ih y r H2 (by omega) hw2 (hey.ext (X0.trans X2)) (by omega)).mono ?_
      rintro x H3 ⟨rfl, X3⟩
      simp -implicitDefEqProofs [aop, f1, f4, f3, mxA]
      rw [wrap_in (n := (i : Int) + 1) ⟨by omega, by omega⟩]
      have e2 : depthL (args.take (i + 1)) 0 = max (depthL (args.take i) 0) (depthE y) := by
        rw [List.take_add_one, hy]
        simp [depthL_foldl, List.foldl_append]
      refine ⟨k - 1, by omega, X2.trans X3, i + 1, by omega, by simp, ?_, ?_, ?_⟩
      · rw [e2]; split <;> omega
      · rw [e2]; omega
      · rw [e2]; omega
    · rw [hv] at dd
      simp -implicitDefEqProofs [aop, f1, f4, f3, dd, h]
      rw [List.take_of_length_le (by omega)] at b1 b2 ⊢
      rw [wrap_in ⟨by omega, by omega⟩]
      refine ⟨?_, X0.trans X2⟩
      rw [depthE]
def isTwo (op : Int) : Bool := (decide (2 ≤ op) && decide (op ≤ 11)) || (decide (op = 13) || decide (op = 14))
theorem Two_ca (op : Int) (H : AH) : Ca E O 145 [.int .i64 op] H (fun x H' => x = .bool (isTwo op) ∧ H' = H) := by
  refine Ca.bodyK (F := a145) rfl rfl rfl ?_
  by_cases h1 : 2 ≤ op
  · by_cases h2 : op ≤ 11
    · simp -implicitDefEqProofs [a145, aop, isTwo, h1, h2]
    · by_cases h3 : op = 13
      · simp -implicitDefEqProofs [a145, aop, isTwo, h3]
      · simp -implicitDefEqProofs [a145, aop, isTwo, h1, h2, h3]
  · have h3 : ¬ op = 13 := by omega
    simp -implicitDefEqProofs [a145, aop, isTwo, h1, h3]
def argsOf (op : Int) : Int := if op = 0 then 0 else if op = 12 then 1 else if op = 15 then 3 else if isTwo op = true then 2 else -1
theorem args_ca (op : Int) (H : AH) : Ca E O 140 [.int .i64 op] H (fun x H' => x = .int .i64 (argsOf op) ∧ H' = H) := by
  refine Ca.bodyK (F := a140) rfl rfl rfl ?_
  by_cases h1 : op = 0
  · simp -implicitDefEqProofs [a140, aop, argsOf, h1]
  by_cases h2 : op = 12
  · simp -implicitDefEqProofs [a140, aop, argsOf, h2]
  by_cases h3 : op = 15
  · simp -implicitDefEqProofs [a140, aop, argsOf, h3]
  simp -implicitDefEqProofs [a140, aop, h1, h2, h3]
  refine Wr_call ?_
  simp -implicitDefEqProofs
  refine (Two_ca op H).mono ?_
  rintro x H' ⟨rfl, rfl⟩
  cases h4 : isTwo op with
  | true => simp -implicitDefEqProofs [aop, argsOf, h1, h2, h3, h4]
  | false => simp -implicitDefEqProofs [aop, argsOf, h1, h2, h3, h4]
end Go.Proofs.YtoijnpfpjpefgaaGreat.A
