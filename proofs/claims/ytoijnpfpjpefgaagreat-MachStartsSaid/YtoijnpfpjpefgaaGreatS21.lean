/- Specs: the program's statements checked and counted. -/
import Derived.Test.YtoijnpfpjpefgaaGreatS20
set_option linter.unusedVariables false
set_option linter.unusedSimpArgs false
set_option maxRecDepth 10000
namespace Go.Proofs.YtoijnpfpjpefgaaGreat.A
open Go
def fineS (w : Int) (V : List Vr) (l : List Stm) (deep nodes : Int) : Bool := decide (nodes + nodesS l ≤ 400) && (decide (deep + depthS l 0 ≤ 17) && rowsS w V l)
theorem fineS_iff {w : Int} {V : List Vr} {l : List Stm} {deep nodes : Int} : fineS w V l deep nodes = true ↔ nodes + nodesS l ≤ 400 ∧ deep + depthS l 0 ≤ 17 ∧ rowsS w V l = true := by simp [fineS]
/-- A statement's place in a row. -/
theorem chk_exp {w : Int} {V : List Vr} (h : isHeading w V = true) (e : Exp) : chkE w V 1 e = if isExp w V 1 e = true then 0 else 20 := by simp [chkE, h]
theorem fineS_ca {w : Int} {vv vb : Value} {V : List Vr} (hV : isHeading w V = true) (hok : VarsOk V) : ∀ (N : Nat) (l : List Stm) (vl : Value) (rows : List (List Value)) (G H : AH) (deep stmts nodes : Int) (b : Nat), SizeOf.sizeOf l < N → H.n0 ≤ H.nx → Ext G H → G.nx ≤ b → Vars G vv V → l.length < 2 ^ 60 → Rows G 5 vl rows → StL G rows l →
    H.get b = some (.cells 2 [.int .i64 stmts, .int .i64 nodes]) → H.n0 ≤ b → 0 ≤ stmts ∧ stmts ≤ nodes → nodes ≤ 2000 → 1 ≤ deep ∧ deep ≤ 17 →
    Ca E O 103 [.pointer (some ⟨b, 0, none⟩), .agg #[.int .i64 w, vv, vb], vl, .int .i64 deep] H (fun x H' => x = .bool (fineS w V l deep nodes) ∧ Mod (fun x => x = b) H H' ∧ ∃ s' n', H'.get b = some (.cells 2 [.int .i64 s', .int .i64 n']) ∧ (fineS w V l deep nodes = true → s' = stmts + countS l ∧ n' = nodes + nodesS l)) := by
  intro N
  induction N with
  | zero => intro l vl rows G H deep stmts nodes b h; omega
  | succ N ih =>
    intro l vl rows G H deep stmts nodes b hN hw GX gb hv hlen hr hl hb hb0 hst hno hdeep
    have hbH := AH.get_lt hb
    refine Ca.bodyV (F := a103) rfl rfl rfl ?_
    obtain ⟨F, hF⟩ : ∃ F, fineS w V l deep nodes = F := ⟨_, rfl⟩
    rw [hF]
    have fno : ¬ (nodes + nodesS l ≤ 400 ∧ deep + depthS l 0 ≤ 17 ∧ rowsS w V l = true) → F = false := by
      intro q; rw [Bool.eq_false_iff, ← hF]; exact fun h => q (fineS_iff.1 h)
    have X1 := Ext.alloc H (.cells 3 [.int .i64 w, vv, vb])
    have d0 : (H.alloc (.cells 3 [.int .i64 w, vv, vb])).ld ⟨H.nx, 0, none⟩ = some (.int .i64 w) := ld_new hw rfl
    have d1 : (H.alloc (.cells 3 [.int .i64 w, vv, vb])).ld ⟨H.nx, 1, none⟩ = some vv := ld_new hw rfl
    have d2 : (H.alloc (.cells 3 [.int .i64 w, vv, vb])).ld ⟨H.nx, 2, none⟩ = some vb := ld_new hw rfl
    have d : (H.alloc (.cells 3 [.int .i64 w, vv, vb])).ldn ⟨H.nx, 0, none⟩ 3 = some [.int .i64 w, vv, vb] := ld_box hw 3 rfl
    generalize hH1 : H.alloc (.cells 3 [.int .i64 w, vv, vb]) = H1 at X1 d0 d1 d2 d
    have hwH1 := X1.wf hw
    have gb1 := X1.get hb
    have ex1 : ∃ s' n' : Int, H1.get b = some (.cells 2 [.int .i64 s', .int .i64 n']) := ⟨_, _, gb1⟩
    have hb1 : H1.n0 ≤ b := by rw [X1.n0]; exact hb0
    have GX1 := GX.trans X1
    have ne1 : ¬ H.nx = b := by omega
    obtain ⟨a0, c0, hvl⟩ := hr.len
    rw [hl.length] at hvl
    have MX1 : Mod (fun x => x = b) H H1 := Mod.of_ext X1
    by_cases z0 : 0 < l.length ∧ 16 < deep
    case pos =>
      obtain ⟨z1, z2⟩ := z0
      have hF0 : F = false := fno (by
        rintro ⟨_, q, _⟩
        obtain ⟨⟨op, n, args, thn, els⟩, hy⟩ : ∃ y, l[0]? = some y := ⟨_, List.getElem?_eq_getElem z1⟩
        have := depthS_mem (k := 0) (List.mem_of_getElem? hy)
        have := (depthS_bound thn 0 (by omega)).1
        omega)
      simp (maxSteps := 4000000) -implicitDefEqProofs +contextual [-X.ev, a103, hvl, hH1, z1, z2, hF0, ex1, MX1]
    refine Vk_at [.r, .r] (fun fr H' => H' = H1 ∧ fr.get 0 = .pointer (some ⟨b, 0, none⟩) ∧ fr.get 2 = .slice a0 l.length c0 ∧ fr.get 3 = .int .i64 deep ∧ fr.get 5 = .pointer (some ⟨H.nx, 0, none⟩)) rfl ?_ ?_
    case refine_2 =>
      intro rest hrest
      simp only [a103, ctxK_r, ctxK_n] at hrest
      by_cases z1 : 0 < l.length
      · have z2 : ¬ 16 < deep := fun q => z0 ⟨z1, q⟩
        simp (maxSteps := 4000000) -implicitDefEqProofs +contextual [-X.ev, a103, hvl, hH1, z1, z2, hrest]
      · simp (maxSteps := 4000000) -implicitDefEqProofs +contextual [-X.ev, a103, hvl, hH1, z1, hrest]
    rintro fr H' ⟨rfl, f0, f2, f3, f5⟩
    have gp := nodesS_take_le l
    simp (maxSteps := 4000000) -implicitDefEqProofs +contextual [-X.ev, a103, f0, f2, f3, f5]
    refine Vk_loop (fun j fr H2 => Mod (fun x => x = b) H' H2 ∧ ∃ i : Nat, i + j = l.length ∧ fr.get 0 = .pointer (some ⟨b, 0, none⟩) ∧ fr.get 3 = .int .i64 deep ∧ fr.get 5 = .pointer (some ⟨H.nx, 0, none⟩) ∧ fr.get 20 = vl ∧ fr.get 21 = .int .i64 l.length ∧ fr.get 22 = .int .i64 i ∧
      H2.get b = some (.cells 2 [.int .i64 (stmts + countS (l.take i)), .int .i64 (nodes + nodesS (l.take i))]) ∧ nodes + nodesS (l.take i) ≤ 2000 ∧ (0 < i → nodes + nodesS (l.take i) ≤ 400) ∧
      ∀ op n args thn els, Stm.mk op n args thn els ∈ l.take i → (deep + 1 + depthS thn 0 ≤ 17 ∧ deep + 1 + depthS els 0 ≤ 17) ∧ rowSt w V (.mk op n args thn els) = true) ?_ l.length ⟨Mod.refl _ _, 0, by simp, by simp [f0], by simp [f3], by simp [f5], by simp [hvl], by simp, by simp, by simpa [countS, nodesS] using gb1, by simp [nodesS]; omega, by simp, by simp⟩
    rintro j fr H2 ⟨M2, i, hi, f0, f3, f5, f20, f21, f22, gb2, hle, hle0, hall⟩
    have M02 := MX1.trans M2
    have hw2 := M2.wf hwH1
    have GX2 : Ext G H2 := GX.mod M02 (by rintro x rfl; exact gb)
    have hb2 : H2.n0 ≤ b := by rw [M2.n0]; exact hb1
    have D0 := M2.ld (a := ⟨H.nx, 0, none⟩) ne1 d0
    have D1 := M2.ld (a := ⟨H.nx, 1, none⟩) ne1 d1
    have D := M2.ldn (a := ⟨H.nx, 0, none⟩) ne1 d
    by_cases h : i < l.length
    case neg =>
      have ht : l.take i = l := List.take_of_length_le (by omega)
      rw [ht] at hle0 hall gb2 hle
      have hF1 : F = decide (nodes + nodesS l ≤ 400) := by
        have p1 := depthS_le (l := l) (k := 0) (m := 17 - deep) (by omega) fun op n args thn els hm => by have := (hall op n args thn els hm).1; omega
        have p2 : decide (deep + depthS l 0 ≤ 17) = true := by simp; omega
        have p3 : rowsS w V l = true := rowsS_all.2 fun e he => by obtain ⟨op, n, args, thn, els⟩ := e; exact (hall op n args thn els he).2
        rw [← hF, fineS, p2, p3]
        simp
      have l2 := ld_get gb2 hb2 (k := 1) rfl
      simp (maxSteps := 4000000) -implicitDefEqProofs +contextual [-X.ev, f0, f3, f5, f20, f21, f22, h, l2]
      exact ⟨hF1.symm, M02, _, _, gb2, fun _ => ⟨rfl, rfl⟩⟩
    obtain ⟨⟨op, n, args, thn, els⟩, hy⟩ : ∃ y, l[i]? = some y := ⟨_, List.getElem?_eq_getElem h⟩
    have hs := size_thn hy
    have hmem := List.mem_of_getElem? hy
    have t1 := nodesS_take hy
    have t2 := countS_take hy
    have t3 := gp (i + 1)
    have t4 := countS_take_le l i
    have t5 := gp i
    rw [nodesSt] at t1
    rw [countSt] at t2
    have u1 := nodesL_pos args
    have u2 := nodesS_pos thn
    have u3 := nodesS_pos els
    have u4 := countS_bound thn
    have u5 := countS_bound els
    obtain ⟨b2, o2, c2, va, vt, ve, ra, rt, re, hv', hldn, _, _, _, _, _, i1, i2, i3, i4, i5, g1, g2, g3, g4, g5, g6⟩ := StL.row hr hl hy
    replace hldn := GX2.ldn hldn
    rw [hv'] at f20
    obtain ⟨aa, ca, hva⟩ := g1.len
    obtain ⟨at_, ct, hvt⟩ := g3.len
    obtain ⟨ae, ce, hve⟩ := g5.len
    rw [g2.length] at hva
    rw [g4.length] at hvt
    rw [g6.length] at hve
    obtain ⟨nt, hnt⟩ : ∃ nt, thn.length = nt := ⟨_, rfl⟩
    obtain ⟨ne_, hne⟩ : ∃ nt, els.length = nt := ⟨_, rfl⟩
    rw [hnt] at hvt
    rw [hne] at hve
    have hdp : deep ≤ 16 := by
      rcases Int.lt_or_le 16 deep with q | q
      · exact absurd ⟨by omega, q⟩ z0
      · exact q
    have hrow : rowsS w V l = true → rowSt w V (.mk op n args thn els) = true := fun q => rowsS_all.1 q _ hmem
    rw [rowSt, headOk_eq hV, hnt, hne] at hrow
    obtain ⟨H3, sH3, X3, nxH3, n0H3, q, lH3⟩ := st_new (H := H2) hw2 (z := 5) (c := [.int .i64 0, .int .i64 0, .slice none 0 0, .slice none 0 0, .slice none 0 0]) (vs := [.int .i64 op, .int .i64 n, va, vt, ve]) rfl
    have q0 : H3.ld ⟨H2.nx, 0, none⟩ = some (.int .i64 op) := lH3 0 _ rfl
    have q1 : H3.ld ⟨H2.nx, 1, none⟩ = some (.int .i64 n) := lH3 1 _ rfl
    have q2 : H3.ld ⟨H2.nx, 2, none⟩ = some va := lH3 2 _ rfl
    have q3 : H3.ld ⟨H2.nx, 3, none⟩ = some vt := lH3 3 _ rfl
    have q4 : H3.ld ⟨H2.nx, 4, none⟩ = some ve := lH3 4 _ rfl
    clear lH3
    replace q : H3.ldn ⟨H2.nx, 0, none⟩ 5 = some [.int .i64 op, .int .i64 n, va, vt, ve] := q
    have hwH3 := X3.wf hw2
    have gb3 := X3.get gb2
    have hb3 : H3.n0 ≤ b := by rw [X3.n0]; exact hb2
    have ne2 : ¬ H2.nx = b := by have := AH.get_lt gb2; omega
    obtain ⟨H4, s4, M4, nx4, n04, gb4⟩ := st_get gb3 hb3 (k := 0) (vs := [.int .i64 (stmts + countS (l.take i) + 1)]) (by simp)
    have gb4 : H4.get b = some (.cells 2 [.int .i64 (stmts + countS (l.take i) + 1), .int .i64 (nodes + nodesS (l.take i))]) := gb4
    have hb4 : H4.n0 ≤ b := by rw [n04]; exact hb3
    obtain ⟨H5, s5, M5, nx5, n05, gb5⟩ := st_get gb4 hb4 (k := 1) (vs := [.int .i64 (nodes + nodesS (l.take i) + 1)]) (by simp)
    have gb5 : H5.get b = some (.cells 2 [.int .i64 (stmts + countS (l.take i) + 1), .int .i64 (nodes + nodesS (l.take i) + 1)]) := gb5
    have hb5 : H5.n0 ≤ b := by rw [n05]; exact hb4
    have M35 := M4.trans M5
    have M25 := (Mod.of_ext X3).trans M35
    have M05 := M02.trans M25
    have GX5 : Ext G H5 := GX.mod M05 (by rintro x rfl; exact gb)
    have hw5 := M05.wf hw
    have l3 := ld_get gb3 hb3 (k := 0) rfl
    have l4 := ld_get gb4 hb4 (k := 1) rfl
    have l5 := ld_get gb5 hb5 (k := 1) rfl
    have Q := M35.ldn (a := ⟨H2.nx, 0, none⟩) ne2 q
    have Q0 := M35.ld (a := ⟨H2.nx, 0, none⟩) ne2 q0
    have Q2 := M35.ld (a := ⟨H2.nx, 2, none⟩) ne2 q2
    have Q3 := M35.ld (a := ⟨H2.nx, 3, none⟩) ne2 q3
    have Q4 := M35.ld (a := ⟨H2.nx, 4, none⟩) ne2 q4
    replace D0 := M25.ld (a := ⟨H.nx, 0, none⟩) ne1 D0
    replace D1 := M25.ld (a := ⟨H.nx, 1, none⟩) ne1 D1
    replace D := M25.ldn (a := ⟨H.nx, 0, none⟩) ne1 D
    have ex5 : ∃ s' n' : Int, H5.get b = some (.cells 2 [.int .i64 s', .int .i64 n']) := ⟨_, _, gb5⟩
    have w1 : IntKind.i64.wrap (stmts + countS (l.take i) + 1) = stmts + countS (l.take i) + 1 := wrap_in ⟨by omega, by omega⟩
    have w2 : IntKind.i64.wrap (nodes + nodesS (l.take i) + 1) = nodes + nodesS (l.take i) + 1 := wrap_in ⟨by omega, by omega⟩
    have Q2s := Q2
    rw [hva] at Q2s
    by_cases k1 : 400 < nodes + nodesS (l.take i) + 1
    · have hF0 : F = false := fno (by rintro ⟨q, _⟩; omega)
      simp (maxSteps := 4000000) -implicitDefEqProofs +contextual [-X.ev, f0, f3, f5, f20, f21, f22, h, hldn, sH3, l3, s4, w1, l4, s5, w2, l5, k1, hF0, okD_of, chain_2, chain_1, ex5, M05]
    simp (maxSteps := 4000000) -implicitDefEqProofs +contextual [-X.ev, f0, f3, f5, f20, f21, f22, h, hldn, sH3, l3, s4, w1, l4, s5, w2, l5, k1, D, Q, Q2s]
    apply Vx_callM
    · (simp -implicitDefEqProofs [-X.ev]; rfl)
    refine (argsP_ca hw5 (hv.ext GX5)).mono ?_
    rintro x H6 ⟨rfl, X6⟩
    have hw6 := X6.wf hw5
    have GX6 := GX5.trans X6
    have M06 := M05.trans (Mod.of_ext X6)
    have gb6 := X6.get gb5
    have hb6 : H6.n0 ≤ b := by rw [X6.n0]; exact hb5
    have ex6 : ∃ s' n' : Int, H6.get b = some (.cells 2 [.int .i64 s', .int .i64 n']) := ⟨_, _, gb6⟩
    have r0 := X6.ld Q0
    have r2 := X6.ld Q2
    have r3 := X6.ld Q3
    have r4 := X6.ld Q4
    replace D0 := X6.ld D0
    replace D1 := X6.ld D1
    replace D := X6.ldn D
    have Q2n := ld_ldn.1 Q2s
    have r2n := ld_ldn.1 (X6.ld Q2s)
    by_cases k2 : argsP V op n = args.length
    case neg =>
      have hF0 : F = false := fno (by rintro ⟨_, _, q⟩; have := hrow q; simp [k2] at this)
      simp (maxSteps := 4000000) -implicitDefEqProofs +contextual [-X.ev, k2, hF0, okD_of, chain_2, chain_1, ex6, M06, Q2n, r2n, X6.n0, X6.nx]
    have hF0 : shapeP op nt ne_ = false → F = false := fun z => fno (by rintro ⟨_, _, q⟩; have := hrow q; simp [z] at this)
    refine Vx_at 1 [.r] (fun fr H' => H' = H6 ∧ shapeP op nt ne_ = true ∧ fr.get 0 = .pointer (some ⟨b, 0, none⟩) ∧ fr.get 3 = .int .i64 deep ∧ fr.get 5 = .pointer (some ⟨H.nx, 0, none⟩) ∧ fr.get 10 = .pointer (some ⟨H2.nx, 0, none⟩) ∧ fr.get 20 = .slice (some ⟨b2, o2, none⟩) l.length c2 ∧ fr.get 21 = .int .i64 l.length ∧ fr.get 22 = .int .i64 i) rfl ?_ ?_
    case refine_2 =>
      intro rest hrest
      rw [hvt] at r3
      rw [hve] at r4
      simp only [ksCtx, ctxK_r, ctxK_n] at hrest
      simp (maxSteps := 4000000) -implicitDefEqProofs +contextual [-X.ev, ksPlug, shapeP, k2, hF0, okD_of, chain_2, chain_1, ex6, M06, Q2n, r2n, X6.n0, X6.nx, r0, r3, r4, hrest, f0, f3, f5, f20, f21, f22]
    simp only [ksCtx, ctxK_r, ctxK_n, ksSub, subAt_r, subAt_n]
    rintro fr' H' ⟨rfl, k3, f0, f3, f5, f10, f20, f21, f22⟩
    rw [hva] at r2
    simp (maxSteps := 4000000) -implicitDefEqProofs +contextual [-X.ev, f0, f3, f5, f10, f20, f21, f22, r2]
    refine Vk_loop (fun j2 fr H7 => Mod (fun x => x = b) H' H7 ∧ ∃ i2 : Nat, i2 + j2 = args.length ∧ fr.get 0 = .pointer (some ⟨b, 0, none⟩) ∧ fr.get 3 = .int .i64 deep ∧ fr.get 5 = .pointer (some ⟨H.nx, 0, none⟩) ∧ fr.get 10 = .pointer (some ⟨H2.nx, 0, none⟩) ∧ fr.get 20 = .slice (some ⟨b2, o2, none⟩) l.length c2 ∧ fr.get 21 = .int .i64 l.length ∧ fr.get 22 = .int .i64 i ∧
      fr.get 80 = va ∧ fr.get 81 = .int .i64 args.length ∧ fr.get 82 = .int .i64 i2 ∧
      H7.get b = some (.cells 2 [.int .i64 (stmts + countS (l.take i) + 1), .int .i64 (nodes + nodesS (l.take i) + 1 + nodesL (args.take i2))]) ∧ nodesL (args.take i2) ≤ 400 * i2 ∧
      ∀ e ∈ args.take i2, isExp w V 1 e = true) ?_ args.length ⟨Mod.refl _ _, 0, by simp, by simp [f0], by simp [f3], by simp [f5], by simp [f10], by simp [f20], by simp [f21], by simp [f22], by simp [hva], by simp, by simp, by simpa [nodesL] using gb6, by simp [nodesL], by simp⟩
    rintro j2 fr H7 ⟨M7, i2, hi2, f0, f3, f5, f10, f20, f21, f22, f80, f81, f82, gb7, hle7, hall7⟩
    have M07 := M06.trans M7
    have hw7 := M07.wf hw
    have GX7 : Ext G H7 := GX.mod M07 (by rintro x rfl; exact gb)
    have hb7 : H7.n0 ≤ b := by rw [M7.n0]; exact hb6
    have hle2 : (args.length : Int) ≤ 2 := by rw [← k2]; exact argsP_le V op n
    have D0' := M7.ld (a := ⟨H.nx, 0, none⟩) ne1 D0
    have D1' := M7.ld (a := ⟨H.nx, 1, none⟩) ne1 D1
    have D' := M7.ldn (a := ⟨H.nx, 0, none⟩) ne1 D
    by_cases h2 : i2 < args.length
    · obtain ⟨y, hy2⟩ : ∃ y, args[i2]? = some y := ⟨_, List.getElem?_eq_getElem h2⟩
      obtain ⟨b3, o3, c3, va3, r, hv3, hldn3, rfl, hey⟩ := ExL.row g1 g2 hy2
      replace hldn3 := GX7.ldn hldn3
      rw [hv3] at f80
      obtain ⟨H8, sH8, X8, nxH8, n0H8, p, lH8⟩ := st_new (H := H7) hw7 (z := 4) (c := [.int .i64 0, .int .i64 0, .int .i64 0, .slice none 0 0]) (vs := [.int .i64 y.op, .int .i64 y.n, .int .i64 y.cp, va3]) rfl
      have p0 : H8.ld ⟨H7.nx, 0, none⟩ = some (.int .i64 y.op) := lH8 0 _ rfl
      have p1 : H8.ld ⟨H7.nx, 1, none⟩ = some (.int .i64 y.n) := lH8 1 _ rfl
      have p2 : H8.ld ⟨H7.nx, 2, none⟩ = some (.int .i64 y.cp) := lH8 2 _ rfl
      have p3 : H8.ld ⟨H7.nx, 3, none⟩ = some va3 := lH8 3 _ rfl
      clear lH8
      replace p : H8.ldn ⟨H7.nx, 0, none⟩ 4 = some [.int .i64 y.op, .int .i64 y.n, .int .i64 y.cp, va3] := p
      have hwH8 := X8.wf hw7
      replace D0' := X8.ld D0'
      replace D1' := X8.ld D1'
      have GX8 := GX7.trans X8
      have gb8 := X8.get gb7
      simp (maxSteps := 4000000) -implicitDefEqProofs +contextual [-X.ev, f0, f3, f5, f10, f20, f21, f22, f80, f81, f82, h2, hldn3, sH8, D0', D1', p]
      apply Vx_callM
      · (simp -implicitDefEqProofs [-X.ev]; rfl)
      refine (ECheck_ca (k := 1) hwH8 (hv.ext GX8) hok (hey.ext GX8)).mono ?_
      rintro x H9 ⟨rfl, X9⟩
      rw [chk_exp hV]
      have M09 := M07.trans ((Mod.of_ext X8).trans (Mod.of_ext X9))
      have gb9 := X9.get gb8
      have ex9 : ∃ s' n' : Int, H9.get b = some (.cells 2 [.int .i64 s', .int .i64 n']) := ⟨_, _, gb9⟩
      cases k4 : isExp w V 1 y with
      | false =>
        have hF1 : F = false := fno (by
          rintro ⟨_, _, q⟩
          have := hrow q
          simp only [Bool.and_eq_true, List.all_eq_true] at this
          have := this.2.2.2 y (List.mem_of_getElem? hy2)
          rw [k4] at this; cases this)
        simp (maxSteps := 4000000) -implicitDefEqProofs +contextual [-X.ev, k4, hF1, ex9, M09]
      | true =>
        have hb9 : H9.n0 ≤ b := by rw [X9.n0, n0H8]; exact hb7
        have l9 := ld_get gb9 hb9 (k := 1) rfl
        have l9n := ld_ldn.1 l9
        have hne9 : nodesE y ≤ 400 := by simp [isExp] at k4; exact k4.1
        have pos9 := nodesE_pos y
        replace p := X9.ldn p
        have hw9 := M09.wf hw
        have GX9 := GX8.trans X9
        simp (maxSteps := 4000000) -implicitDefEqProofs +contextual [-X.ev, k4, f0, f3, f5, f10, f20, f21, f22, f80, f81, f82, l9, p]
        apply Vx_callM
        · (simp -implicitDefEqProofs [-X.ev]; rfl)
        refine (ENodes_ca _ y _ H9 (Nat.lt_succ_self _) hw9 (hey.ext GX9) (by omega)).mono ?_
        rintro x H10 ⟨rfl, X10⟩
        have gb10 := X10.get gb9
        have hb10 : H10.n0 ≤ b := by rw [X10.n0]; exact hb9
        have s1 := nodesL_take hy2
        have l10n := ld_ldn.1 (ld_get gb10 hb10 (k := 1) rfl)
        obtain ⟨H11, s11, M11, nx11, n011, gb11⟩ := st_get gb10 hb10 (k := 1) (vs := [.int .i64 (nodes + nodesS (l.take i) + 1 + nodesL (args.take i2) + nodesE y)]) (by simp)
        have gb11 : H11.get b = some (.cells 2 [.int .i64 (stmts + countS (l.take i) + 1), .int .i64 (nodes + nodesS (l.take i) + 1 + nodesL (args.take i2) + nodesE y)]) := gb11
        have s2 := nodesL_take_le args i2
        have wr : IntKind.i64.wrap (nodes + nodesS (l.take i) + 1 + nodesL (args.take i2) + nodesE y) = nodes + nodesS (l.take i) + 1 + nodesL (args.take i2) + nodesE y := wrap_in ⟨by omega, by omega⟩
        have wi : IntKind.i64.wrap ((i2 : Int) + 1) = (i2 : Int) + 1 := wrap_in ⟨by omega, by omega⟩
        simp (maxSteps := 4000000) -implicitDefEqProofs +contextual [-X.ev, f0, f3, f5, f10, f20, f21, f22, f80, f81, f82, wr, s11, okD_of, chain_2, chain_1, l9n, l10n, X10.n0, X10.nx, n011, nx11, wi]
        refine ⟨j2 - 1, by omega, M7.trans ((Mod.of_ext (X8.trans (X9.trans X10))).trans M11), i2 + 1, by omega, hv3.symm, by simp, ?_, by omega, fun z hz => ?_⟩
        · rw [gb11, s1]
          rw [show nodes + nodesS (l.take i) + 1 + nodesL (args.take i2) + nodesE y = nodes + nodesS (l.take i) + 1 + (nodesL (args.take i2) + nodesE y) by omega]
        · rw [List.take_add_one, hy2] at hz
          rcases List.mem_append.1 hz with hz | hz
          · exact hall7 z hz
          · simp at hz; subst hz; exact k4
    · have ht : args.take i2 = args := List.take_of_length_le (by omega)
      rw [ht] at hle7 hall7 gb7
      have hb7 := hb7
      have q3' := M7.ld (a := ⟨H2.nx, 3, none⟩) ne2 r3
      have q4' := M7.ld (a := ⟨H2.nx, 4, none⟩) ne2 r4
      have wd : IntKind.i64.wrap (deep + 1) = deep + 1 := wrap_in ⟨by omega, by omega⟩
      simp (maxSteps := 4000000) -implicitDefEqProofs +contextual [-X.ev, f0, f3, f5, f10, f20, f21, f22, f80, f81, f82, h2, D', q3', wd]
      have ka : nodesL args ≤ 800 := by omega
      apply Vx_callM
      · (simp -implicitDefEqProofs [-X.ev]; rfl)
      refine (ih thn vt rt G H7 (deep + 1) (stmts + countS (l.take i) + 1) (nodes + nodesS (l.take i) + 1 + nodesL args) b (by omega) hw7 GX7 gb hv i4 g3 g4 gb7 hb7 (by omega) (by omega) (by omega)).mono ?_
      rintro x H8 ⟨rfl, M8, s', n', gb8, hl8⟩
      have M08 := M07.trans M8
      have ex8 : ∃ s' n' : Int, H8.get b = some (.cells 2 [.int .i64 s', .int .i64 n']) := ⟨_, _, gb8⟩
      cases k5 : fineS w V thn (deep + 1) (nodes + nodesS (l.take i) + 1 + nodesL args) with
      | false =>
        have hF1 : F = false := fno (by
          rintro ⟨q1, q2, q⟩
          have := hrow q
          simp only [Bool.and_eq_true] at this
          have r1 := this.2.1
          have r2 := depthS_mem (k := 0) hmem
          have : fineS w V thn (deep + 1) (nodes + nodesS (l.take i) + 1 + nodesL args) = true := fineS_iff.2 ⟨by omega, by omega, r1⟩
          rw [k5] at this; cases this)
        simp (maxSteps := 4000000) -implicitDefEqProofs +contextual [-X.ev, f0, f3, f5, hF1, ex8, M08]
      | true =>
        obtain ⟨rfl, rfl⟩ := hl8 k5
        have k5' := fineS_iff.1 k5
        have hw8 := M08.wf hw
        have GX8 : Ext G H8 := GX.mod M08 (by rintro x rfl; exact gb)
        have hb8 : H8.n0 ≤ b := by rw [M8.n0]; exact hb7
        have D8 := M8.ldn (a := ⟨H.nx, 0, none⟩) ne1 D'
        have q48 := M8.ld (a := ⟨H2.nx, 4, none⟩) ne2 q4'
        simp (maxSteps := 4000000) -implicitDefEqProofs +contextual [-X.ev, f0, f3, f5, f10, f20, f21, f22, D8, q48, wd]
        apply Vx_callM
        · (simp -implicitDefEqProofs [-X.ev]; rfl)
        refine (ih els ve re G H8 (deep + 1) (stmts + countS (l.take i) + 1 + countS thn) (nodes + nodesS (l.take i) + 1 + nodesL args + nodesS thn) b (by omega) hw8 GX8 gb hv i5 g5 g6 gb8 hb8 (by omega) (by omega) (by omega)).mono ?_
        rintro x H9 ⟨rfl, M9, s', n', gb9, hl9⟩
        have M09 := M08.trans M9
        have ex9 : ∃ s' n' : Int, H9.get b = some (.cells 2 [.int .i64 s', .int .i64 n']) := ⟨_, _, gb9⟩
        cases k6 : fineS w V els (deep + 1) (nodes + nodesS (l.take i) + 1 + nodesL args + nodesS thn) with
        | false =>
          have hF1 : F = false := fno (by
            rintro ⟨q1, q2, q⟩
            have := hrow q
            simp only [Bool.and_eq_true] at this
            have r1 := this.2.2.1
            have r2 := depthS_mem (k := 0) hmem
            have : fineS w V els (deep + 1) (nodes + nodesS (l.take i) + 1 + nodesL args + nodesS thn) = true := fineS_iff.2 ⟨by omega, by omega, r1⟩
            rw [k6] at this; cases this)
          simp (maxSteps := 4000000) -implicitDefEqProofs +contextual [-X.ev, f0, f3, f5, hF1, ex9, M09]
        | true =>
          obtain ⟨rfl, rfl⟩ := hl9 k6
          have k6' := fineS_iff.1 k6
          have wi : IntKind.i64.wrap ((i : Int) + 1) = (i : Int) + 1 := wrap_in ⟨by omega, by omega⟩
          simp (maxSteps := 4000000) -implicitDefEqProofs +contextual [-X.ev, f0, f3, f5, f10, f20, f21, f22, wi]
          refine ⟨j - 1, by omega, M2.trans (M25.trans ((Mod.of_ext X6).trans (M7.trans (M8.trans M9)))), i + 1, by omega, hv'.symm, by simp, ?_, by omega, fun _ => by omega, ?_⟩
          · rw [gb9, t1, t2]
            rw [show stmts + countS (l.take i) + 1 + countS thn + countS els = stmts + (countS (l.take i) + (1 + countS thn + countS els)) by omega, show nodes + nodesS (l.take i) + 1 + nodesL args + nodesS thn + nodesS els = nodes + (nodesS (l.take i) + (1 + nodesL args + nodesS thn + nodesS els)) by omega]
          · intro op' n' args' thn' els' hz
            rw [List.take_add_one, hy] at hz
            rcases List.mem_append.1 hz with hz | hz
            · exact hall _ _ _ _ _ hz
            · simp only [Option.toList_some, List.mem_singleton] at hz
              cases hz
              refine ⟨⟨by omega, by omega⟩, ?_⟩
              rw [rowSt, headOk_eq hV, hnt, hne]
              simp only [k2, k3, k5'.2.2, k6'.2.2, decide_true, Bool.true_and, List.all_eq_true]
              exact hall7
end Go.Proofs.YtoijnpfpjpefgaaGreat.A
