/- Specs: the program's expressions: their form. -/
import Derived.Test.YtoijnpfpjpefgaaGreatS17
set_option linter.unusedVariables false
set_option linter.unusedSimpArgs false
set_option maxRecDepth 10000
namespace Go.Proofs.YtoijnpfpjpefgaaGreat.A
open Go
/-- What the program asks of a node beside its arity. -/
def caseP (w k : Int) (op n cp : Int) : Bool :=
  if op = 0 then !decide (n < 0) && (!decide (2 ^ w.toNat ≤ n) && decide (cp = 0)) else if op = 1 then !decide (cp < 0) && !decide (k ≤ cp) else decide (n = 0) && decide (cp = 0)
theorem node_eq {w k : Int} (hw : 1 ≤ w ∧ w ≤ 8) (V : List Vr) (op n cp : Int) (na : Nat) : nodeOk w V k op n cp na = (decide (arityP V op n = na) && caseP w k op n cp) := by
  have w1 : isWidth w = true := by simp [isWidth, hw]
  unfold nodeOk caseP arityP
  by_cases h0 : op = 0
  · subst h0
    simp only [isWord, w1, Bool.true_and]
    have : argsOf 0 = 0 := rfl
    rw [Bool.eq_iff_iff]
    simp [this]
    omega
  by_cases h1 : op = 1
  · subst h1
    have z0 : ¬ ((1 : Int) = 0) := by omega
    have z1 : ¬ ((2 ≤ (1 : Int) ∧ (1 : Int) ≤ 11) ∨ (1 : Int) = 13 ∨ (1 : Int) = 14) := by omega
    have z2 : ¬ ((1 : Int) = 12) := by omega
    have z3 : ¬ ((1 : Int) = 15) := by omega
    simp only [if_true, if_neg z0, if_neg z1, if_neg z2, if_neg z3, true_and]
    rw [Bool.eq_iff_iff]
    generalize (if 1 < cellsAt V n then (1 : Int) else 0) = z
    by_cases h2 : 0 ≤ n ∧ n < V.length
    · rw [if_pos h2]
      simp only [Bool.and_eq_true, Bool.not_eq_true', Bool.or_eq_false_iff, decide_eq_false_iff_not, decide_eq_true_eq]
      omega
    · rw [if_neg h2]
      simp only [Bool.and_eq_true, Bool.not_eq_true', Bool.or_eq_false_iff, decide_eq_false_iff_not, decide_eq_true_eq]
      omega
  · simp only [if_neg h0, if_neg h1, false_and, if_false]
    have e : argsOf op = if (2 ≤ op ∧ op ≤ 11) ∨ op = 13 ∨ op = 14 then 2 else if op = 12 then 1 else if op = 15 then 3 else -1 := by
      unfold argsOf isTwo
      rw [if_neg h0]
      by_cases a : op = 12
      · subst a; simp
      by_cases b : op = 15
      · subst b; simp
      rw [if_neg a, if_neg b, if_neg a, if_neg b]
      by_cases c : (2 ≤ op ∧ op ≤ 11) ∨ op = 13 ∨ op = 14
      · rw [if_pos c, if_pos (by simpa using c)]
      · rw [if_neg c, if_neg (by simpa using c)]
    rw [e, if_neg (show ¬ (op = 1 ∧ 0 ≤ n ∧ n < V.length) from fun h => h1 h.1)]
    generalize (if (2 ≤ op ∧ op ≤ 11) ∨ op = 13 ∨ op = 14 then (2 : Int) else if op = 12 then 1 else if op = 15 then 3 else -1) = z
    rw [Bool.eq_iff_iff]
    simp
    constructor
    · rintro ⟨⟨a, b⟩, c⟩; exact ⟨b.symm, c, a⟩
    · rintro ⟨a, b, c⟩; exact ⟨⟨c, a.symm⟩, b⟩
def fineOk (w : Int) (V : List Vr) (k : Int) (e : Exp) (deep left : Int) : Bool := decide (nodesE e ≤ left) && (decide (deep + depthE e ≤ 17) && formE w V k e)
theorem shl_w {w : Int} (hw : 1 ≤ w ∧ w ≤ 8) : abin .shl (.int .i64 1) (.int .u64 (IntKind.u64.wrap w)) = some (.int .i64 (2 ^ w.toNat)) := by
  obtain ⟨h1, h2⟩ := hw
  obtain ⟨n, rfl⟩ : ∃ n : Nat, w = n := ⟨w.toNat, by omega⟩
  have : n = 1 ∨ n = 2 ∨ n = 3 ∨ n = 4 ∨ n = 5 ∨ n = 6 ∨ n = 7 ∨ n = 8 := by omega
  rcases this with rfl | rfl | rfl | rfl | rfl | rfl | rfl | rfl <;> rfl
theorem depthL_mem : ∀ {l : List Exp} {k : Int} {y : Exp}, y ∈ l → depthE y ≤ depthL l k
  | x :: l, k, y, h => by
    rw [depthL]
    rcases List.mem_cons.1 h with rfl | h
    · have : ∀ (l : List Exp) (k : Int), k ≤ depthL l k := by
        intro l
        induction l with
        | nil => intro k; rw [depthL]; omega
        | cons z l ih => intro k; rw [depthL]; have := ih (max k (depthE z)); omega
      have := this l (max k (depthE y))
      omega
    · exact depthL_mem h
theorem depthL_le {l : List Exp} {k m : Int} (hk : k ≤ m) (h : ∀ y ∈ l, depthE y ≤ m) : depthL l k ≤ m := by
  induction l generalizing k with
  | nil => rw [depthL]; exact hk
  | cons x l ih =>
    rw [depthL]
    have := h x (by simp)
    exact ih (by omega) fun y hy => h y (by simp [hy])
set_option maxHeartbeats 2000000 in
theorem fine_ca {w k : Int} (hw8 : 1 ≤ w ∧ w ≤ 8) {vv : Value} {V : List Vr} : ∀ (N : Nat) (e : Exp) (c : List Value) (G H : AH) (deep left : Int) (b : Nat), SizeOf.sizeOf e < N → H.n0 ≤ H.nx → Ext G H → G.nx ≤ b → Vars G vv V → ExC G c e →
    H.get b = some (.cells 1 [.int .i64 left]) → H.n0 ≤ b → 0 ≤ left ∧ left ≤ 1000 → 1 ≤ deep ∧ deep ≤ 17 →
    Ca E O 139 [.agg #[.int .i64 w, vv, .int .i64 k], .agg c.toArray, .int .i64 deep, .pointer (some ⟨b, 0, none⟩)] H (fun x H' => x = .bool (fineOk w V k e deep left) ∧ Mod (fun x => x = b) H H' ∧ ∃ left', H'.get b = some (.cells 1 [.int .i64 left']) ∧ (fineOk w V k e deep left = true → left' = left - nodesE e)) := by
  intro N
  induction N with
  | zero => intro e c G H deep left b h; omega
  | succ N ih =>
    intro e c G H deep left b hN hw GX gb hv he hb hb0 hleft hdeep
    have hbH := AH.get_lt hb
    cases he with | @mk op n cp va rows args i1 i2 i3 hlen hr hl =>
    refine Ca.bodyT 4 (F := a139) rfl rfl rfl rfl ?_
    obtain ⟨rest, hrest⟩ : ∃ r, tailOf 4 a139.body = r := ⟨_, rfl⟩
    rw [hrest]
    have X1 := Ext.alloc H (.cells 3 [.int .i64 w, vv, .int .i64 k])
    have d0 : (H.alloc (.cells 3 [.int .i64 w, vv, .int .i64 k])).ld ⟨H.nx, 0, none⟩ = some (.int .i64 w) := ld_new hw rfl
    have d1 : (H.alloc (.cells 3 [.int .i64 w, vv, .int .i64 k])).ld ⟨H.nx, 1, none⟩ = some vv := ld_new hw rfl
    have d2 : (H.alloc (.cells 3 [.int .i64 w, vv, .int .i64 k])).ld ⟨H.nx, 2, none⟩ = some (.int .i64 k) := ld_new hw rfl
    have d : (H.alloc (.cells 3 [.int .i64 w, vv, .int .i64 k])).ldn ⟨H.nx, 0, none⟩ 3 = some [.int .i64 w, vv, .int .i64 k] := ld_box hw 3 rfl
    generalize hH1 : H.alloc (.cells 3 [.int .i64 w, vv, .int .i64 k]) = H1 at X1 d0 d1 d2 d
    have hwH1 := X1.wf hw
    have X2 := Ext.alloc H1 (.cells 4 [.int .i64 op, .int .i64 n, .int .i64 cp, va])
    have e0 : (H1.alloc (.cells 4 [.int .i64 op, .int .i64 n, .int .i64 cp, va])).ld ⟨H1.nx, 0, none⟩ = some (.int .i64 op) := ld_new hwH1 rfl
    have e1 : (H1.alloc (.cells 4 [.int .i64 op, .int .i64 n, .int .i64 cp, va])).ld ⟨H1.nx, 1, none⟩ = some (.int .i64 n) := ld_new hwH1 rfl
    have e2 : (H1.alloc (.cells 4 [.int .i64 op, .int .i64 n, .int .i64 cp, va])).ld ⟨H1.nx, 2, none⟩ = some (.int .i64 cp) := ld_new hwH1 rfl
    have e3 : (H1.alloc (.cells 4 [.int .i64 op, .int .i64 n, .int .i64 cp, va])).ld ⟨H1.nx, 3, none⟩ = some va := ld_new hwH1 rfl
    have e : (H1.alloc (.cells 4 [.int .i64 op, .int .i64 n, .int .i64 cp, va])).ldn ⟨H1.nx, 0, none⟩ 4 = some [.int .i64 op, .int .i64 n, .int .i64 cp, va] := ld_box hwH1 4 rfl
    generalize hH2 : H1.alloc (.cells 4 [.int .i64 op, .int .i64 n, .int .i64 cp, va]) = H2 at X2 e0 e1 e2 e3 e
    have hwH2 := X2.wf hwH1
    replace d0 := X2.ld d0
    replace d1 := X2.ld d1
    replace d2 := X2.ld d2
    replace d := X2.ldn d
    have X := X1.trans X2
    have gb2 := X.get hb
    have hb2 : H2.n0 ≤ b := by rw [X.n0]; exact hb0
    have lb2 := ld_get gb2 hb2 (k := 0) rfl
    obtain ⟨H3, s3, M3, nx3, n03, gb3⟩ := st_get gb2 hb2 (k := 0) (vs := [.int .i64 (left - 1)]) (by simp)
    have hb3 : H3.n0 ≤ b := by rw [n03]; exact hb2
    have gb3 : H3.get b = some (.cells 1 [.int .i64 (left - 1)]) := gb3
    have lb3 := ld_get gb3 hb3 (k := 0) rfl
    have ne1 : ¬ H.nx = b := by omega
    have ne2 : ¬ H1.nx = b := by have := X1.nx; omega
    have D0 := M3.ld (a := ⟨H.nx, 0, none⟩) ne1 d0
    have D2 := M3.ld (a := ⟨H.nx, 2, none⟩) ne1 d2
    have D := M3.ldn (a := ⟨H.nx, 0, none⟩) ne1 d
    have E0 := M3.ld (a := ⟨H1.nx, 0, none⟩) ne2 e0
    have E1 := M3.ld (a := ⟨H1.nx, 1, none⟩) ne2 e1
    have E2 := M3.ld (a := ⟨H1.nx, 2, none⟩) ne2 e2
    have E3 := M3.ld (a := ⟨H1.nx, 3, none⟩) ne2 e3
    have EE := M3.ldn (a := ⟨H1.nx, 0, none⟩) ne2 e
    have hw3 := M3.wf hwH2
    have MX : Mod (fun x => x = b) H H3 := (Mod.of_ext X).trans M3
    have GX3 : Ext G H3 := GX.mod MX (by rintro x rfl; exact gb)
    have hnE := nodesL_pos args
    have hdE := depthE_bound (.mk op n cp args)
    obtain ⟨a3, c3, hva⟩ := hr.len
    rw [hl.length] at hva
    have FE := E3
    rw [hva] at FE
    have wl : IntKind.i64.wrap (left - 1) = left - 1 := wrap_in ⟨by omega, by omega⟩
    have no : ∀ q : ¬ (1 ≤ left ∧ deep ≤ 16 ∧ nodeOk w V k op n cp args.length = true), fineOk w V k (.mk op n cp args) deep left = false := by
      intro q
      rw [Bool.eq_false_iff]
      intro h
      have : nodesE (.mk op n cp args) ≤ left ∧ deep + depthE (.mk op n cp args) ≤ 17 ∧ formE w V k (.mk op n cp args) = true := by simpa [fineOk] using h
      rw [nodesE, formE, Bool.and_eq_true] at this
      exact q ⟨by omega, by omega, this.2.2.1⟩
    rw [node_eq hw8] at no
    obtain ⟨F, hF⟩ : ∃ F, fineOk w V k (.mk op n cp args) deep left = F := ⟨_, rfl⟩
    rw [hF] at no ⊢
    obtain ⟨NE, hNE⟩ : ∃ F, nodesE (.mk op n cp args) = F := ⟨_, rfl⟩
    rw [hNE]
    by_cases q1 : left - 1 < 0
    · have hno := no (by omega)
      simp (maxSteps := 4000000) -implicitDefEqProofs +contextual [-X.ev, a139, hH1, hH2, lb2, wl, s3, lb3, q1, okD_of, chain_2, chain_1, hno, MX]
      exact ⟨_, gb3⟩
    by_cases q2 : 16 < deep
    · have hno := no (by omega)
      simp (maxSteps := 4000000) -implicitDefEqProofs +contextual [-X.ev, a139, hH1, hH2, lb2, wl, s3, lb3, q1, q2, okD_of, chain_2, chain_1, hno, MX]
      exact ⟨_, gb3⟩
    simp (maxSteps := 4000000) -implicitDefEqProofs +contextual [-X.ev, a139, hH1, hH2, lb2, wl, s3, lb3, q1, q2, D, EE, FE]
    apply Vx_callM
    · (simp -implicitDefEqProofs [-X.ev]; rfl)
    refine (arity_ca hw3 (hv.ext GX3)).mono ?_
    rintro x H4 ⟨rfl, X4⟩
    have MX4 := MX.trans (Mod.of_ext X4)
    have FE4 := X4.ld FE
    have FEn := ld_ldn.1 FE
    have FE4n := ld_ldn.1 FE4
    have gb4 := X4.get gb3
    have ex4 : ∃ left', H4.get b = some (.cells 1 [.int .i64 left']) := ⟨_, gb4⟩
    have hw4 := X4.wf hw3
    have GX4 := GX3.trans X4
    have hb4 : H4.n0 ≤ b := by rw [X4.n0]; exact hb3
    by_cases q3 : arityP V op n = args.length
    case neg =>
      have hno := no (by simp [q3])
      simp (maxSteps := 4000000) -implicitDefEqProofs +contextual [-X.ev, q3, okD_of, chain_2, chain_1, hno, MX4, FEn, FE4n, X4.n0, X4.nx, ex4]
    have hno : caseP w k op n cp = false → F = false := fun h => no (by simp [h])
    have e0 := X4.ld E0
    have e1 := X4.ld E1
    have e2 := X4.ld E2
    have d0 := X4.ld D0
    have d2 := X4.ld D2
    have d := X4.ldn D
    have e := X4.ldn EE
    suffices hloop : ∀ fr : Fr, caseP w k op n cp = true → fr.get 2 = .int .i64 deep → fr.get 3 = .pointer (some ⟨b, 0, none⟩) → fr.get 4 = .pointer (some ⟨H.nx, 0, none⟩) → fr.get 5 = .pointer (some ⟨H1.nx, 0, none⟩) →
        Vk E O rest [] fr H4 (retQ [.tmp 8] fun x H' => x = .bool F ∧ Mod (fun x => x = b) H H' ∧ ∃ left', H'.get b = some (.cells 1 [.int .i64 left']) ∧ (F = true → left' = left - NE)) by
      have sh := shl_w hw8
      simp (maxSteps := 4000000) -implicitDefEqProofs +contextual [-X.ev, q3, okD_of, chain_2, chain_1, hno, MX4, FEn, FE4n, X4.n0, X4.nx, ex4, caseP, hloop, e0, e1, e2, d0, d2, sh]
    intro fr q4 f2 f3 f4 f5
    subst hrest
    have e3 := FE4
    simp (maxSteps := 4000000) -implicitDefEqProofs +contextual [-X.ev, tailOf, a139, f2, f3, f4, f5, e3]
    refine Vk_loop (fun j fr H' => Mod (fun x => x = b) H4 H' ∧ ∃ i : Nat, i + j = args.length ∧ fr.get 2 = .int .i64 deep ∧ fr.get 3 = .pointer (some ⟨b, 0, none⟩) ∧ fr.get 4 = .pointer (some ⟨H.nx, 0, none⟩) ∧ fr.get 75 = va ∧ fr.get 76 = .int .i64 args.length ∧ fr.get 77 = .int .i64 i ∧
      H'.get b = some (.cells 1 [.int .i64 (left - 1 - nodesL (args.take i))]) ∧ 1 + nodesL (args.take i) ≤ left ∧ ∀ y ∈ args.take i, depthE y + deep ≤ 16 ∧ formE w V k y = true) ?_ args.length ⟨Mod.refl _ _, 0, by simp, by simp [f2], by simp [f3], by simp [f4], by simp [hva], by simp, by simp, by simpa [nodesL] using gb4, by simp [nodesL]; omega, by simp⟩
    rintro j fr H5 ⟨M5, i, hi, f2, f3, f4, f75, f76, f77, gb5, hle, hall⟩
    have hw5 := M5.wf hw4
    have M05 := MX4.trans M5
    have GX5 : Ext G H5 := GX.mod M05 (by rintro x rfl; exact gb)
    have dd := M5.ldn (a := ⟨H.nx, 0, none⟩) ne1 d
    by_cases h : i < args.length
    · obtain ⟨y, hy⟩ : ∃ y, args[i]? = some y := ⟨_, List.getElem?_eq_getElem h⟩
      obtain ⟨b2, o2, c2, va2, r, hv', hldn, rfl, hey⟩ := ExL.row hr hl hy
      replace hldn := GX5.ldn hldn
      have f75v := f75
      rw [hv'] at f75
      obtain ⟨H6, sH6, X6, nxH6, n0H6, q, lH6⟩ := st_new (H := H5) hw5 (z := 4) (c := [.int .i64 0, .int .i64 0, .int .i64 0, .slice none 0 0]) (vs := [.int .i64 y.op, .int .i64 y.n, .int .i64 y.cp, va2]) rfl
      have q0 : H6.ld ⟨H5.nx, 0, none⟩ = some (.int .i64 y.op) := lH6 0 _ rfl
      have q1 : H6.ld ⟨H5.nx, 1, none⟩ = some (.int .i64 y.n) := lH6 1 _ rfl
      have q2 : H6.ld ⟨H5.nx, 2, none⟩ = some (.int .i64 y.cp) := lH6 2 _ rfl
      have q3 : H6.ld ⟨H5.nx, 3, none⟩ = some va2 := lH6 3 _ rfl
      clear lH6
      replace q : H6.ldn ⟨H5.nx, 0, none⟩ 4 = some [.int .i64 y.op, .int .i64 y.n, .int .i64 y.cp, va2] := q
      have hwH6 := X6.wf hw5
      replace dd := X6.ldn dd
      have wd : IntKind.i64.wrap (deep + 1) = deep + 1 := wrap_in ⟨by omega, by omega⟩
      have t1 := nodesL_take hy
      have t2 := nodesL_take_le args (i + 1)
      have t3 := nodesL_take_le args i
      have t4 := nodesE_pos y
      have t5 := depthL_mem (k := 0) (List.mem_of_getElem? hy)
      have hs := size_arg (op := op) (n := n) (cp := cp) hy
      have hb6 : H6.n0 ≤ b := by rw [X6.n0, M5.n0]; exact hb4
      simp (maxSteps := 4000000) -implicitDefEqProofs +contextual [-X.ev, f2, f3, f4, f75, f76, f77, h, hldn, sH6, q, dd, wd]
      apply Vx_callM
      · (simp -implicitDefEqProofs [-X.ev]; rfl)
      refine (ih y _ G H6 (deep + 1) (left - 1 - nodesL (args.take i)) b (by omega) hwH6 (GX5.trans X6) gb hv hey (X6.get gb5) hb6 (by omega) (by omega)).mono ?_
      rintro x H7 ⟨rfl, M7, left', gb7, hl7⟩
      have M67 := (Mod.of_ext X6).trans M7
      cases q5 : fineOk w V k y (deep + 1) (left - 1 - nodesL (args.take i)) with
      | true =>
        have hl7 := hl7 q5
        have q5' : nodesE y ≤ left - 1 - nodesL (args.take i) ∧ deep + 1 + depthE y ≤ 17 ∧ formE w V k y = true := by simpa [fineOk] using q5
        simp (maxSteps := 4000000) -implicitDefEqProofs +contextual [-X.ev, f2, f3, f4, f75, f76, f77, h]
        rw [wrap_in (n := (i : Int) + 1) ⟨by omega, by omega⟩]
        refine ⟨j - 1, by omega, M5.trans M67, i + 1, by omega, hv'.symm, by simp, ?_, by omega, fun z hz => ?_⟩
        · rw [gb7, hl7, t1]
          rw [show left - 1 - nodesL (args.take i) - nodesE y = left - 1 - (nodesL (args.take i) + nodesE y) by omega]
        · rw [List.take_add_one, hy] at hz
          rcases List.mem_append.1 hz with hz | hz
          · exact hall z hz
          · simp at hz; subst hz; exact ⟨by omega, q5'.2.2⟩
      | false =>
        have hF0 : F = false := by
          rw [Bool.eq_false_iff]
          intro hT
          rw [hT] at hF
          have hF : nodesE (.mk op n cp args) ≤ left ∧ deep + depthE (.mk op n cp args) ≤ 17 ∧ formE w V k (.mk op n cp args) = true := by simpa [fineOk] using hF
          rw [nodesE, depthE, formE, Bool.and_eq_true] at hF
          have := formL_all.1 hF.2.2.2 y (List.mem_of_getElem? hy)
          have : fineOk w V k y (deep + 1) (left - 1 - nodesL (args.take i)) = true := by simp [fineOk, this]; omega
          rw [q5] at this
          cases this
        simp (maxSteps := 4000000) -implicitDefEqProofs +contextual [-X.ev, f2, f3, f4, f75, f76, f77, h, hF0, M05.trans M67]
        exact ⟨_, gb7⟩
    · have hF1 : F = true := by
        rw [← hF]
        rw [List.take_of_length_le (by omega)] at hle hall
        have hfl := formL_all.2 fun y hy => (hall y hy).2
        have hdl : depthL args 0 ≤ 16 - deep := depthL_le (by omega) fun y hy => by have := (hall y hy).1; omega
        have hno : nodeOk w V k op n cp args.length = true := by rw [node_eq hw8, q4]; simp [q3]
        have : nodesE (.mk op n cp args) ≤ left ∧ deep + depthE (.mk op n cp args) ≤ 17 ∧ formE w V k (.mk op n cp args) = true := by
          rw [nodesE, depthE, formE, hfl, hno]
          exact ⟨by omega, by omega, rfl⟩
        simp [fineOk, this]
      rw [List.take_of_length_le (by omega)] at gb5
      rw [nodesE] at hNE
      simp (maxSteps := 4000000) -implicitDefEqProofs +contextual [-X.ev, f2, f3, f4, f75, f76, f77, h, hF1, M05]
      rw [gb5, show left - 1 - nodesL args = left - NE by omega]
end Go.Proofs.YtoijnpfpjpefgaaGreat.A
