/- Texts that stand one behind the other: S54, S55, S56, S57. -/
import Derived.Test.YtoijnpfpjpefgaaGreatG15
/- The reference's sameness of runs. -/
set_option linter.unusedVariables false
set_option linter.unusedSimpArgs false
set_option maxRecDepth 10000
namespace Go.Proofs.YtoijnpfpjpefgaaGreat.A
open Go
theorem outRow_at {H : AH} {v : Value} {l : List (Int × Int)} (h : Rows H 2 v (outRows l)) {i : Nat} {x : Int × Int} (hi : l[i]? = some x) : ∃ b o c, v = .slice (some ⟨b, o, none⟩) l.length c ∧ H.ldn ⟨b, o + i * 2, none⟩ 2 = some [.int .i64 x.1, .int .i64 x.2] := by
  obtain ⟨b, o, c, e, hl⟩ := h.at (i := i) (r := outRow x) (by simp [outRows, hi])
  exact ⟨b, o, c, by simpa [outRows] using e, hl⟩
theorem evRow_at {H : AH} {v : Value} {l : List Ev} (h : Rows H 3 v (evRows l)) {i : Nat} {x : Ev} (hi : l[i]? = some x) : ∃ b o c, v = .slice (some ⟨b, o, none⟩) l.length c ∧ H.ldn ⟨b, o + i * 3, none⟩ 3 = some [.int .i64 x.kind, .int .i64 x.at_, .int .i64 x.val] := by
  obtain ⟨b, o, c, e, hl⟩ := h.at (i := i) (r := x.row) (by simp [evRows, hi])
  exact ⟨b, o, c, by simpa [evRows] using e, hl⟩
instance : DecidableEq Ev := fun a b => if h : a.kind = b.kind ∧ a.at_ = b.at_ ∧ a.val = b.val then Decidable.isTrue (by cases a; cases b; simp_all) else Decidable.isFalse (fun e => h (by rw [e]; exact ⟨rfl, rfl, rfl⟩))
theorem ibeq (a b : Int) : (a == b) = decide (a = b) := by by_cases h : a = b <;> simp [h]
theorem eqc2 (x1 x2 y1 y2 : Int) : eqCells [.int .i64 x1, .int .i64 x2] [.int .i64 y1, .int .i64 y2] [(0, 0), (1, 0)] = some (decide (x1 = y1) && decide (x2 = y2)) := by
  by_cases e1 : x1 = y1 <;> by_cases e2 : x2 = y2 <;> simp [eqCells, keyOk, veq?, ibeq, e1, e2]
theorem eqc3 (x1 x2 x3 y1 y2 y3 : Int) : eqCells [.int .i64 x1, .int .i64 x2, .int .i64 x3] [.int .i64 y1, .int .i64 y2, .int .i64 y3] [(0, 0), (1, 0), (2, 0)] = some (decide (x1 = y1) && (decide (x2 = y2) && decide (x3 = y3))) := by
  by_cases e1 : x1 = y1 <;> by_cases e2 : x2 = y2 <;> by_cases e3 : x3 = y3 <;> simp [eqCells, keyOk, veq?, ibeq, e1, e2, e3]
theorem ROuts_ca {v u : Value} {l m : List (Int × Int)} {H : AH} (hl : Rows H 2 v (outRows l)) (hm : Rows H 2 u (outRows m)) (hb : l.length ≤ 2 ^ 60) : Ca E O 44 [v, u] H (fun x H' => x = .bool (decide (l = m)) ∧ H' = H) := by
  refine Ca.bodyV (F := a44) rfl rfl rfl ?_
  obtain ⟨p1, c1, hv⟩ := hl.len
  obtain ⟨p2, c2, hu⟩ := hm.len
  rw [outRows_length] at hv hu
  obtain ⟨F, hF⟩ : ∃ F, decide (l = m) = F := ⟨_, rfl⟩
  rw [hF]
  by_cases q : (l.length : Int) = m.length
  case neg =>
    have hF0 : F = false := by rw [← hF, decide_eq_false_iff_not]; rintro rfl; exact q rfl
    have q' : ¬ l.length = m.length := by omega
    simp (maxSteps := 4000000) -implicitDefEqProofs +contextual [-X.ev, a44, hv, hu, q, q', hF0]
  have q' : l.length = m.length := by omega
  simp (maxSteps := 4000000) -implicitDefEqProofs +contextual [-X.ev, a44, hv, hu, q, q']
  refine Vk_loop (fun k fr H' => H' = H ∧ ∃ i : Nat, i + k = l.length ∧ fr.get 0 = v ∧ fr.get 1 = u ∧ fr.get 5 = .int .i64 i ∧ l.take i = m.take i) ?_ l.length ⟨rfl, 0, by simp, by simp [hv, q'], by simp [hu], by simp, by simp⟩
  rintro k fr H' ⟨rfl, i, hi, f0, f1, f5, htk⟩
  by_cases h : i < l.length
  · obtain ⟨x, hx⟩ : ∃ n, l[i]? = some n := ⟨_, List.getElem?_eq_getElem h⟩
    obtain ⟨y, hy⟩ : ∃ n, m[i]? = some n := ⟨_, List.getElem?_eq_getElem (by omega)⟩
    obtain ⟨b, o, c', hv', hld⟩ := outRow_at hl hx
    obtain ⟨b2, o2, c2', hu', hld2⟩ := outRow_at hm hy
    rw [hv'] at f0
    rw [hu'] at f1
    have h2 : i < m.length := by omega
    obtain ⟨x1, x2⟩ := x
    obtain ⟨y1, y2⟩ := y
    by_cases e : x1 = y1 ∧ x2 = y2
    · obtain ⟨rfl, rfl⟩ := e
      simp (maxSteps := 4000000) -implicitDefEqProofs +contextual [-X.ev, f0, f1, f5, h, h2, hld, hld2, eqc2, okD_of, chain_2, chain_1]
      rw [wrap_in (n := (i : Int) + 1) ⟨by omega, by omega⟩]
      refine ⟨k - 1, by omega, i + 1, by omega, hv'.symm, hu'.symm, by simp, ?_⟩
      rw [List.take_add_one, List.take_add_one, hx, hy, htk]
    · have hF0 : F = false := by
        rw [← hF, decide_eq_false_iff_not]; rintro rfl; rw [hx] at hy; cases hy; exact e ⟨rfl, rfl⟩
      by_cases e1 : x1 = y1
      · have e2 : ¬ x2 = y2 := fun q => e ⟨e1, q⟩
        simp (maxSteps := 4000000) -implicitDefEqProofs +contextual [-X.ev, f0, f1, f5, h, h2, hld, hld2, eqc2, okD_of, chain_2, chain_1, e1, e2, hF0]
      · simp (maxSteps := 4000000) -implicitDefEqProofs +contextual [-X.ev, f0, f1, f5, h, h2, hld, hld2, eqc2, okD_of, chain_2, chain_1, e1, hF0]
  · have hF1 : F = true := by
      rw [← hF, decide_eq_true_iff]
      rwa [List.take_of_length_le (by omega), List.take_of_length_le (by omega)] at htk
    rw [hv] at f0
    simp (maxSteps := 4000000) -implicitDefEqProofs +contextual [-X.ev, f0, f1, f5, h, hF1]
theorem REvents_ca {v u : Value} {l m : List Ev} {H : AH} (hl : Rows H 3 v (evRows l)) (hm : Rows H 3 u (evRows m)) (hb : l.length ≤ 2 ^ 60) : Ca E O 45 [v, u] H (fun x H' => x = .bool (decide (l = m)) ∧ H' = H) := by
  refine Ca.bodyV (F := a45) rfl rfl rfl ?_
  obtain ⟨p1, c1, hv⟩ := hl.len
  obtain ⟨p2, c2, hu⟩ := hm.len
  rw [evRows_length] at hv hu
  obtain ⟨F, hF⟩ : ∃ F, decide (l = m) = F := ⟨_, rfl⟩
  rw [hF]
  by_cases q : (l.length : Int) = m.length
  case neg =>
    have hF0 : F = false := by rw [← hF, decide_eq_false_iff_not]; rintro rfl; exact q rfl
    have q' : ¬ l.length = m.length := by omega
    simp (maxSteps := 4000000) -implicitDefEqProofs +contextual [-X.ev, a45, hv, hu, q, q', hF0]
  have q' : l.length = m.length := by omega
  simp (maxSteps := 4000000) -implicitDefEqProofs +contextual [-X.ev, a45, hv, hu, q, q']
  refine Vk_loop (fun k fr H' => H' = H ∧ ∃ i : Nat, i + k = l.length ∧ fr.get 0 = v ∧ fr.get 1 = u ∧ fr.get 5 = .int .i64 i ∧ l.take i = m.take i) ?_ l.length ⟨rfl, 0, by simp, by simp [hv, q'], by simp [hu], by simp, by simp⟩
  rintro k fr H' ⟨rfl, i, hi, f0, f1, f5, htk⟩
  by_cases h : i < l.length
  · obtain ⟨x, hx⟩ : ∃ n, l[i]? = some n := ⟨_, List.getElem?_eq_getElem h⟩
    obtain ⟨y, hy⟩ : ∃ n, m[i]? = some n := ⟨_, List.getElem?_eq_getElem (by omega)⟩
    obtain ⟨b, o, c', hv', hld⟩ := evRow_at hl hx
    obtain ⟨b2, o2, c2', hu', hld2⟩ := evRow_at hm hy
    rw [hv'] at f0
    rw [hu'] at f1
    have h2 : i < m.length := by omega
    obtain ⟨x1, x2, x3⟩ := x
    obtain ⟨y1, y2, y3⟩ := y
    by_cases e : x1 = y1 ∧ x2 = y2 ∧ x3 = y3
    · obtain ⟨rfl, rfl, rfl⟩ := e
      simp (maxSteps := 4000000) -implicitDefEqProofs +contextual [-X.ev, f0, f1, f5, h, h2, hld, hld2, eqc3, okD_of, chain_2, chain_1]
      rw [wrap_in (n := (i : Int) + 1) ⟨by omega, by omega⟩]
      refine ⟨k - 1, by omega, i + 1, by omega, hv'.symm, hu'.symm, by simp, ?_⟩
      rw [List.take_add_one, List.take_add_one, hx, hy, htk]
    · have hF0 : F = false := by
        rw [← hF, decide_eq_false_iff_not]; rintro rfl; rw [hx] at hy; cases hy; exact e ⟨rfl, rfl, rfl⟩
      by_cases e1 : x1 = y1
      · by_cases e2 : x2 = y2
        · have e3 : ¬ x3 = y3 := fun q => e ⟨e1, e2, q⟩
          simp (maxSteps := 4000000) -implicitDefEqProofs +contextual [-X.ev, f0, f1, f5, h, h2, hld, hld2, eqc3, okD_of, chain_2, chain_1, e1, e2, e3, hF0]
        · simp (maxSteps := 4000000) -implicitDefEqProofs +contextual [-X.ev, f0, f1, f5, h, h2, hld, hld2, eqc3, okD_of, chain_2, chain_1, e1, e2, hF0]
      · simp (maxSteps := 4000000) -implicitDefEqProofs +contextual [-X.ev, f0, f1, f5, h, h2, hld, hld2, eqc3, okD_of, chain_2, chain_1, e1, hF0]
  · have hF1 : F = true := by
      rw [← hF, decide_eq_true_iff]
      rwa [List.take_of_length_le (by omega), List.take_of_length_le (by omega)] at htk
    rw [hv] at f0
    simp (maxSteps := 4000000) -implicitDefEqProofs +contextual [-X.ev, f0, f1, f5, h, hF1]
end Go.Proofs.YtoijnpfpjpefgaaGreat.A
/- The reference's sameness of runs. -/
set_option linter.unusedVariables false
set_option linter.unusedSimpArgs false
set_option maxRecDepth 10000
namespace Go.Proofs.YtoijnpfpjpefgaaGreat.A
open Go
/-- A run in memory. -/
structure RunR (H : AH) (cs : List Value) (r : RunM) : Prop where
  is : ∃ vs vo vt, cs = [.int .i64 r.en, vs, vo, vt, .int .i64 r.cost, .int .i64 r.used, .int .i64 r.wh] ∧ Ints H vs r.store ∧ Rows H 2 vo (outRows r.outs) ∧ Rows H 3 vt (evRows r.trace) ∧ Small r
theorem RunO.toR {H : AH} {n : Nat} {cs : List Value} {r : RunM} (h : RunO H n cs r) (hs : Small r) : RunR H cs r := by
  obtain ⟨vs, vo, vt, e, a, b, c, _⟩ := h.is
  exact ⟨vs, vo, vt, e, a.ints, b.rows, c.rows, hs⟩
theorem RunR.ext {H H' : AH} {cs : List Value} {r : RunM} (X : Ext H H') (h : RunR H cs r) : RunR H' cs r := by
  obtain ⟨vs, vo, vt, e, a, b, c, d⟩ := h.is
  exact ⟨vs, vo, vt, e, Ints.ext X a, b.ext X, c.ext X, d⟩
instance : DecidableEq RunM := fun a b => if h : a.en = b.en ∧ a.store = b.store ∧ a.outs = b.outs ∧ a.trace = b.trace ∧ a.cost = b.cost ∧ a.used = b.used ∧ a.wh = b.wh then Decidable.isTrue (by cases a; cases b; simp_all) else Decidable.isFalse (fun e => h (by rw [e]; exact ⟨rfl, rfl, rfl, rfl, rfl, rfl, rfl⟩))
theorem SameRun_ca {H : AH} {cs ds : List Value} {r u : RunM} (hw : H.n0 ≤ H.nx) (h : RunR H cs r) (k : RunR H ds u) : Ca E O 16 [.agg cs.toArray, .agg ds.toArray] H (fun x H' => x = .bool (decide (r = u)) ∧ Ext H H') := by
  refine Ca.bodyV (F := a16) rfl rfl rfl ?_
  obtain ⟨ra, rb, rc, rd, re, rf, rg⟩ := r
  obtain ⟨ua, ub, uc, ud, ue, uf, ug⟩ := u
  obtain ⟨vs, vo, vt, rfl, a1, a2, a3, s1, s2, s3⟩ := h.is
  obtain ⟨us, uo, ut, rfl, b1, b2, b3, t1, t2, t3⟩ := k.is
  have X1 := Ext.alloc H (.cells 7 [.int .i64 ra, vs, vo, vt, .int .i64 re, .int .i64 rf, .int .i64 rg])
  have d0 : (H.alloc (.cells 7 [.int .i64 ra, vs, vo, vt, .int .i64 re, .int .i64 rf, .int .i64 rg])).ld ⟨H.nx, 0, none⟩ = some (.int .i64 ra) := ld_new hw rfl
  have d1 : (H.alloc (.cells 7 [.int .i64 ra, vs, vo, vt, .int .i64 re, .int .i64 rf, .int .i64 rg])).ld ⟨H.nx, 1, none⟩ = some vs := ld_new hw rfl
  have d2 : (H.alloc (.cells 7 [.int .i64 ra, vs, vo, vt, .int .i64 re, .int .i64 rf, .int .i64 rg])).ld ⟨H.nx, 2, none⟩ = some vo := ld_new hw rfl
  have d3 : (H.alloc (.cells 7 [.int .i64 ra, vs, vo, vt, .int .i64 re, .int .i64 rf, .int .i64 rg])).ld ⟨H.nx, 3, none⟩ = some vt := ld_new hw rfl
  have d4 : (H.alloc (.cells 7 [.int .i64 ra, vs, vo, vt, .int .i64 re, .int .i64 rf, .int .i64 rg])).ld ⟨H.nx, 4, none⟩ = some (.int .i64 re) := ld_new hw rfl
  have d5 : (H.alloc (.cells 7 [.int .i64 ra, vs, vo, vt, .int .i64 re, .int .i64 rf, .int .i64 rg])).ld ⟨H.nx, 5, none⟩ = some (.int .i64 rf) := ld_new hw rfl
  have d6 : (H.alloc (.cells 7 [.int .i64 ra, vs, vo, vt, .int .i64 re, .int .i64 rf, .int .i64 rg])).ld ⟨H.nx, 6, none⟩ = some (.int .i64 rg) := ld_new hw rfl
  have d : (H.alloc (.cells 7 [.int .i64 ra, vs, vo, vt, .int .i64 re, .int .i64 rf, .int .i64 rg])).ldn ⟨H.nx, 0, none⟩ 7 = some [.int .i64 ra, vs, vo, vt, .int .i64 re, .int .i64 rf, .int .i64 rg] := ld_box hw 7 rfl
  generalize hH1 : H.alloc (.cells 7 [.int .i64 ra, vs, vo, vt, .int .i64 re, .int .i64 rf, .int .i64 rg]) = H1 at X1 d0 d1 d2 d3 d4 d5 d6 d
  have hwH1 := X1.wf hw
  have X2 := Ext.alloc H1 (.cells 7 [.int .i64 ua, us, uo, ut, .int .i64 ue, .int .i64 uf, .int .i64 ug])
  have e0 : (H1.alloc (.cells 7 [.int .i64 ua, us, uo, ut, .int .i64 ue, .int .i64 uf, .int .i64 ug])).ld ⟨H1.nx, 0, none⟩ = some (.int .i64 ua) := ld_new hwH1 rfl
  have e1 : (H1.alloc (.cells 7 [.int .i64 ua, us, uo, ut, .int .i64 ue, .int .i64 uf, .int .i64 ug])).ld ⟨H1.nx, 1, none⟩ = some us := ld_new hwH1 rfl
  have e2 : (H1.alloc (.cells 7 [.int .i64 ua, us, uo, ut, .int .i64 ue, .int .i64 uf, .int .i64 ug])).ld ⟨H1.nx, 2, none⟩ = some uo := ld_new hwH1 rfl
  have e3 : (H1.alloc (.cells 7 [.int .i64 ua, us, uo, ut, .int .i64 ue, .int .i64 uf, .int .i64 ug])).ld ⟨H1.nx, 3, none⟩ = some ut := ld_new hwH1 rfl
  have e4 : (H1.alloc (.cells 7 [.int .i64 ua, us, uo, ut, .int .i64 ue, .int .i64 uf, .int .i64 ug])).ld ⟨H1.nx, 4, none⟩ = some (.int .i64 ue) := ld_new hwH1 rfl
  have e5 : (H1.alloc (.cells 7 [.int .i64 ua, us, uo, ut, .int .i64 ue, .int .i64 uf, .int .i64 ug])).ld ⟨H1.nx, 5, none⟩ = some (.int .i64 uf) := ld_new hwH1 rfl
  have e6 : (H1.alloc (.cells 7 [.int .i64 ua, us, uo, ut, .int .i64 ue, .int .i64 uf, .int .i64 ug])).ld ⟨H1.nx, 6, none⟩ = some (.int .i64 ug) := ld_new hwH1 rfl
  have e : (H1.alloc (.cells 7 [.int .i64 ua, us, uo, ut, .int .i64 ue, .int .i64 uf, .int .i64 ug])).ldn ⟨H1.nx, 0, none⟩ 7 = some [.int .i64 ua, us, uo, ut, .int .i64 ue, .int .i64 uf, .int .i64 ug] := ld_box hwH1 7 rfl
  generalize hH2 : H1.alloc (.cells 7 [.int .i64 ua, us, uo, ut, .int .i64 ue, .int .i64 uf, .int .i64 ug]) = H2 at X2 e0 e1 e2 e3 e4 e5 e6 e
  have hwH2 := X2.wf hwH1
  replace d0 := X2.ld d0
  replace d1 := X2.ld d1
  replace d2 := X2.ld d2
  replace d3 := X2.ld d3
  replace d4 := X2.ld d4
  replace d5 := X2.ld d5
  replace d6 := X2.ld d6
  have X := X1.trans X2
  simp only at a1 a2 a3 s1 s2 s3 b1 b2 b3
  have k1 := RSame_ca (H := H2) (Ints.ext X a1) (Ints.ext X b1) (by omega)
  have k2 := ROuts_ca (H := H2) (a2.ext X) (b2.ext X) (by omega)
  have k3 := REvents_ca (H := H2) (a3.ext X) (b3.ext X) (by omega)
  obtain ⟨F, hF⟩ : ∃ F, decide ((⟨ra, rb, rc, rd, re, rf, rg⟩ : RunM) = ⟨ua, ub, uc, ud, ue, uf, ug⟩) = F := ⟨_, rfl⟩
  rw [hF]
  have no : ∀ {P : Prop}, ((⟨ra, rb, rc, rd, re, rf, rg⟩ : RunM) = ⟨ua, ub, uc, ud, ue, uf, ug⟩ → P) → ¬ P → F = false := fun h1 h2 => by rw [← hF, decide_eq_false_iff_not]; exact fun q => h2 (h1 q)
  by_cases q0 : ra = ua
  case neg =>
    have := no (P := ra = ua) (fun q => by cases q; rfl) q0
    simp (maxSteps := 4000000) -implicitDefEqProofs +contextual [-X.ev, a16, hH1, hH2, d0, e0, q0, this, X]
  subst q0
  by_cases q1 : rb = ub
  case neg =>
    have := no (P := rb = ub) (fun q => by cases q; rfl) q1
    simp (maxSteps := 4000000) -implicitDefEqProofs +contextual [-X.ev, a16, hH1, hH2, d0, e0, d1, e1]
    apply Vx_callM
    · (simp -implicitDefEqProofs [-X.ev]; rfl)
    refine (k1).mono ?_
    rintro x H2 ⟨rfl, rfl⟩
    simp (maxSteps := 4000000) -implicitDefEqProofs +contextual [-X.ev, q1, this, X]
  subst q1
  by_cases q2 : rc = uc
  case neg =>
    have := no (P := rc = uc) (fun q => by cases q; rfl) q2
    simp (maxSteps := 4000000) -implicitDefEqProofs +contextual [-X.ev, a16, hH1, hH2, d0, e0, d1, e1]
    apply Vx_callM
    · (simp -implicitDefEqProofs [-X.ev]; rfl)
    refine (k1).mono ?_
    rintro x H2 ⟨rfl, rfl⟩
    simp (maxSteps := 4000000) -implicitDefEqProofs +contextual [-X.ev, d2, e2]
    apply Vx_callM
    · (simp -implicitDefEqProofs [-X.ev]; rfl)
    refine (k2).mono ?_
    rintro x H2 ⟨rfl, rfl⟩
    simp (maxSteps := 4000000) -implicitDefEqProofs +contextual [-X.ev, q2, this, X]
  subst q2
  by_cases q3 : rd = ud
  case neg =>
    have := no (P := rd = ud) (fun q => by cases q; rfl) q3
    simp (maxSteps := 4000000) -implicitDefEqProofs +contextual [-X.ev, a16, hH1, hH2, d0, e0, d1, e1]
    apply Vx_callM
    · (simp -implicitDefEqProofs [-X.ev]; rfl)
    refine (k1).mono ?_
    rintro x H2 ⟨rfl, rfl⟩
    simp (maxSteps := 4000000) -implicitDefEqProofs +contextual [-X.ev, d2, e2]
    apply Vx_callM
    · (simp -implicitDefEqProofs [-X.ev]; rfl)
    refine (k2).mono ?_
    rintro x H2 ⟨rfl, rfl⟩
    simp (maxSteps := 4000000) -implicitDefEqProofs +contextual [-X.ev, d3, e3]
    apply Vx_callM
    · (simp -implicitDefEqProofs [-X.ev]; rfl)
    refine (k3).mono ?_
    rintro x H2 ⟨rfl, rfl⟩
    simp (maxSteps := 4000000) -implicitDefEqProofs +contextual [-X.ev, q3, this, X]
  subst q3
  simp (maxSteps := 4000000) -implicitDefEqProofs +contextual [-X.ev, a16, hH1, hH2, d0, e0, d1, e1]
  apply Vx_callM
  · (simp -implicitDefEqProofs [-X.ev]; rfl)
  refine (k1).mono ?_
  rintro x H2 ⟨rfl, rfl⟩
  simp (maxSteps := 4000000) -implicitDefEqProofs +contextual [-X.ev, d2, e2]
  apply Vx_callM
  · (simp -implicitDefEqProofs [-X.ev]; rfl)
  refine (k2).mono ?_
  rintro x H2 ⟨rfl, rfl⟩
  simp (maxSteps := 4000000) -implicitDefEqProofs +contextual [-X.ev, d3, e3]
  apply Vx_callM
  · (simp -implicitDefEqProofs [-X.ev]; rfl)
  refine (k3).mono ?_
  rintro x H2 ⟨rfl, rfl⟩
  by_cases q4 : re = ue
  case neg =>
    have := no (P := re = ue) (fun q => by cases q; rfl) q4
    simp (maxSteps := 4000000) -implicitDefEqProofs +contextual [-X.ev, d4, e4, q4, this, X]
  subst q4
  by_cases q5 : rf = uf
  case neg =>
    have := no (P := rf = uf) (fun q => by cases q; rfl) q5
    simp (maxSteps := 4000000) -implicitDefEqProofs +contextual [-X.ev, d4, e4, d5, e5, q5, this, X]
  subst q5
  by_cases q6 : rg = ug
  case neg =>
    have := no (P := rg = ug) (fun q => by cases q; rfl) q6
    simp (maxSteps := 4000000) -implicitDefEqProofs +contextual [-X.ev, d4, e4, d5, e5, d6, e6, q6, this, X]
  subst q6
  have hT : F = true := by rw [← hF]; simp
  simp (maxSteps := 4000000) -implicitDefEqProofs +contextual [-X.ev, d4, e4, d5, e5, d6, e6, hT, X]
end Go.Proofs.YtoijnpfpjpefgaaGreat.A
/- More fuel (plain). -/
set_option linter.unusedVariables false
set_option linter.unusedSimpArgs false
set_option maxRecDepth 10000
namespace Go.Proofs.YtoijnpfpjpefgaaGreat.A
open Go
def addF (d : Int) (c : CfM) : CfM := { c with fuel := c.fuel + d }
/-- What a run on its way has by now stays. -/
def Pre (c e : CfM) : Prop := (∃ x, e.trace = c.trace ++ x) ∧ (∃ x, e.outs = c.outs ++ x) ∧ c.cost ≤ e.cost ∧ c.used ≤ e.used
theorem Pre.refl (c : CfM) : Pre c c := ⟨⟨[], by simp⟩, ⟨[], by simp⟩, Int.le_refl _, Nat.le_refl _⟩
theorem Pre.trans {a b c : CfM} (h : Pre a b) (k : Pre b c) : Pre a c := by
  obtain ⟨⟨x, hx⟩, ⟨y, hy⟩, h3, h4⟩ := h
  obtain ⟨⟨x', hx'⟩, ⟨y', hy'⟩, k3, k4⟩ := k
  exact ⟨⟨x ++ x', by rw [hx', hx, List.append_assoc]⟩, ⟨y ++ y', by rw [hy', hy, List.append_assoc]⟩, Int.le_trans h3 k3, Nat.le_trans h4 k4⟩
theorem act_add {p : Prg} {ps : List Int} {d : Int} {c : CfM} {k : Int} {s : Stm} {vals : List Int} {next : List Itm} : actM p ps (addF d c) k s vals next = addF d (actM p ps c k s vals next) := by
  obtain ⟨op, n, args, thn, els⟩ := s
  unfold actM
  by_cases o0 : op = 0
  · simp only [if_pos o0]; rfl
  simp only [if_neg o0]
  by_cases o1 : op = 1
  · simp only [if_pos o1]; rfl
  simp only [if_neg o1]
  by_cases o2 : op = 2
  · simp only [if_pos o2]; rfl
  simp only [if_neg o2]
  by_cases o3 : op = 3
  · simp only [if_pos o3]; rfl
  simp only [if_neg o3]
  by_cases o4 : op = 4
  · simp only [if_pos o4]
    by_cases u : ps.length ≤ c.used
    · have u' : ps.length ≤ (addF d c).used := u
      simp only [if_pos u, if_pos u']; rfl
    · have u' : ¬ ps.length ≤ (addF d c).used := u
      simp only [if_neg u, if_neg u']; rfl
  simp only [if_neg o4]
  by_cases o5 : op = 5
  · simp only [if_pos o5]
    by_cases u : vAt vals 0 = 0
    · simp only [if_pos u]; rfl
    · simp only [if_neg u]
  simp only [if_neg o5]
  by_cases u : vAt vals 0 = 0
  · simp only [if_pos u]; rfl
  · simp only [if_neg u]
theorem act_pre {p : Prg} {ps : List Int} {c : CfM} {k : Int} {s : Stm} {vals : List Int} {next : List Itm} : Pre c (actM p ps c k s vals next) := by
  obtain ⟨op, n, args, thn, els⟩ := s
  unfold actM
  by_cases o0 : op = 0
  · simp only [if_pos o0]; exact ⟨⟨_, rfl⟩, ⟨[], by simp [setM]⟩, Int.le_refl _, Nat.le_refl _⟩
  simp only [if_neg o0]
  by_cases o1 : op = 1
  · simp only [if_pos o1]; exact ⟨⟨_, rfl⟩, ⟨[], by simp⟩, Int.le_refl _, Nat.le_refl _⟩
  simp only [if_neg o1]
  by_cases o2 : op = 2
  · simp only [if_pos o2]; exact ⟨⟨_, rfl⟩, ⟨[], by simp⟩, Int.le_refl _, Nat.le_refl _⟩
  simp only [if_neg o2]
  by_cases o3 : op = 3
  · simp only [if_pos o3]; exact ⟨⟨[], by simp⟩, ⟨_, rfl⟩, Int.le_refl _, Nat.le_refl _⟩
  simp only [if_neg o3]
  have st : ∀ e n, Pre c (stopM c e n) := fun e n => ⟨⟨[], by simp [stopM]⟩, ⟨[], by simp [stopM]⟩, Int.le_refl _, Nat.le_refl _⟩
  by_cases o4 : op = 4
  · simp only [if_pos o4]
    by_cases u : ps.length ≤ c.used
    · simp only [if_pos u]; exact st _ _
    · simp only [if_neg u]; exact ⟨⟨_, rfl⟩, ⟨[], by simp [setM]⟩, Int.le_refl _, Nat.le_succ _⟩
  simp only [if_neg o4]
  by_cases o5 : op = 5
  · simp only [if_pos o5]
    by_cases u : vAt vals 0 = 0
    · simp only [if_pos u]; exact st _ _
    · simp only [if_neg u]; exact Pre.refl _
  simp only [if_neg o5]
  by_cases u : vAt vals 0 = 0
  · simp only [if_pos u]; exact st _ _
  · simp only [if_neg u]; exact Pre.refl _
theorem step_eq {p : Prg} {ps : List Int} {c : CfM} {k : Int} {s : Stm} {next : List Itm} (h : c.over = false) (ht : c.todo = (k, s) :: next) (hf : c.fuel ≠ 0) : stepM p ps c = actM p ps (begunM p c s next) k s (valL p.w p.vars [c.store] s.args) next := by
  unfold stepM
  rw [if_neg (by rw [h]; decide), ht]
  show (if c.fuel = 0 then _ else _) = _
  rw [if_neg hf]
theorem step_pre {p : Prg} {ps : List Int} (c : CfM) : Pre c (stepM p ps c) := by
  unfold stepM
  by_cases h : c.over = true
  · rw [if_pos h]; exact Pre.refl _
  rw [if_neg h]
  cases ht : c.todo with
  | nil => exact Pre.refl _
  | cons it next =>
    obtain ⟨k, s⟩ := it
    by_cases hf : c.fuel = 0
    · simp only [if_pos hf]; exact ⟨⟨[], by simp [stopM]⟩, ⟨[], by simp [stopM]⟩, Int.le_refl _, Nat.le_refl _⟩
    · simp only [if_neg hf]
      have pa := nodesL_pos s.args
      exact Pre.trans (b := begunM p c s next) ⟨⟨_, rfl⟩, ⟨[], by simp [begunM]⟩, by show c.cost ≤ c.cost + 1 + nodesL s.args; omega, Nat.le_refl _⟩ act_pre
theorem iter_pre {p : Prg} {ps : List Int} : ∀ (n : Nat) (c : CfM), Pre c (iterM p ps n c)
  | 0, c => Pre.refl _
  | n + 1, c => (step_pre c).trans (iter_pre n _)
theorem step_add {p : Prg} {ps : List Int} {d : Int} {c : CfM} (hd : 0 ≤ d) (hf0 : 0 ≤ c.fuel) (h : endedM c = true ∨ c.fuel ≠ 0) : stepM p ps (addF d c) = addF d (stepM p ps c) := by
  cases he : endedM c with
  | true => rw [ended_step he, ended_step (c := addF d c) he]
  | false =>
    have hf : c.fuel ≠ 0 := by
      rcases h with h | h
      · rw [he] at h; cases h
      · exact h
    have ho : c.over = false := by
      unfold endedM at he; simp only [Bool.or_eq_false_iff] at he; exact he.1
    cases ht : c.todo with
    | nil => simp [endedM, ht] at he
    | cons it next =>
      obtain ⟨k, s⟩ := it
      rw [step_eq ho ht hf, step_eq (c := addF d c) ho ht (by show c.fuel + d ≠ 0; omega), ← act_add]
      congr 1
      show ({ c with todo := _, fuel := c.fuel + d - 1, cost := _, trace := _ } : CfM) = { c with todo := _, fuel := c.fuel - 1 + d, cost := _, trace := _ }
      rw [show c.fuel + d - 1 = c.fuel - 1 + d by omega]
      rfl
theorem fuel_law {p : Prg} {ps : List Int} {d : Int} (hd : 0 ≤ d) : ∀ (n : Nat) (c : CfM), Inv p ps c → c.fuel = n → c.over = false → c.en = 0 → c.wh = 0 →
    ((finM p ps c).en ≠ 3 → (finM p ps (addF d c)).run = (finM p ps c).run) ∧ ((finM p ps c).en = 3 → Pre (finM p ps c) (finM p ps (addF d c))) := by
  intro n
  induction n with
  | zero =>
    intro c hi hn ho he hw
    have hcs := step_cases hi ho he hw
    rcases hcs with ⟨q1, q2⟩ | ⟨q1, q2, _⟩ | ⟨q1, q2, _, _, _, _, _, _⟩
    · have f1 : finM p ps c = c := ended_iter q1 _
      have f2 : finM p ps (addF d c) = addF d c := ended_iter (c := addF d c) q1 _
      rw [f1, f2]
      exact ⟨fun _ => rfl, fun q => by omega⟩
    · have := step_fuel q1 q2
      omega
    · have f1 : finM p ps c = stepM p ps c := fin_stop (by simp [q2])
      have hs : ∃ k, stepM p ps c = stopM c 3 k := by
        unfold endedM at q1; simp only [Bool.or_eq_false_iff] at q1
        unfold stepM
        rw [if_neg (by rw [ho]; decide)]
        cases ht : c.todo with
        | nil => rw [ht] at q1; simp at q1
        | cons it next => exact ⟨it.1, by show (if c.fuel = 0 then _ else _) = _; rw [if_pos (by omega)]⟩
      obtain ⟨k, hs⟩ := hs
      rw [f1, hs]
      exact ⟨fun q => absurd rfl q, fun _ => iter_pre (p := p) (ps := ps) _ (addF d c)⟩
  | succ n ih =>
    intro c hi hn ho he hw
    have hsa := step_add (p := p) (ps := ps) (d := d) (c := c) hd (by omega) (.inr (by omega))
    have hcs := step_cases hi ho he hw
    rcases hcs with ⟨q1, q2⟩ | ⟨q1, q2, q3, q4, q5, q6⟩ | ⟨q1, q2, q3, q4, q5, q6, q7, q8⟩
    · have f1 : finM p ps c = c := ended_iter q1 _
      have f2 : finM p ps (addF d c) = addF d c := ended_iter (c := addF d c) q1 _
      rw [f1, f2]
      exact ⟨fun _ => rfl, fun q => by omega⟩
    · have g : (!endedM c && !(stepM p ps c).over) = true := by simp [q1, q2]
      have g2 : (!endedM (addF d c) && !(stepM p ps (addF d c)).over) = true := by
        rw [hsa]
        have e1 : endedM (addF d c) = false := q1
        have e2 : (addF d (stepM p ps c)).over = false := q2
        rw [e1, e2]; rfl
      have k1 := (fin_go (p := p) (ps := ps) (c := c) (by omega) g).1
      have k2 := (fin_go (p := p) (ps := ps) (c := addF d c) (by show 0 ≤ c.fuel + d; omega) g2).1
      rw [← k1, ← k2, hsa]
      exact ih _ (inv_step hi) (by omega) q2 q3 q4
    · have f1 : finM p ps c = stepM p ps c := fin_stop (by simp [q2])
      have f2 : finM p ps (addF d c) = stepM p ps (addF d c) := fin_stop (by
        rw [hsa]
        have e2 : (addF d (stepM p ps c)).over = true := q2
        rw [e2]; simp)
      rw [f1, f2, hsa]
      exact ⟨fun _ => rfl, fun q => by have := q8 q; omega⟩
end Go.Proofs.YtoijnpfpjpefgaaGreat.A
/- The law MachFuel over the machine. -/
set_option linter.unusedVariables false
set_option linter.unusedSimpArgs false
set_option maxRecDepth 10000
namespace Go.Proofs.YtoijnpfpjpefgaaGreat.A
open Go
theorem inv_iter {p : Prg} {ps : List Int} : ∀ (n : Nat) {c : CfM}, Inv p ps c → Inv p ps (iterM p ps n c)
  | 0, _, h => h
  | n + 1, _, h => inv_iter n (inv_step h)
theorem cutO {H : AH} {sz : Nat} {v : Value} {r1 r2 : List (List Value)} (hz : 0 < sz) (h : Own H sz v (r1 ++ r2)) : ∃ a c, aslice sz H v none (some (.int .i64 r1.length)) none = some (.slice a r1.length c) ∧ Rows H sz (.slice a r1.length c) r1 := by
  have hb : Nat.beq sz 0 = false := Bool.eq_false_iff.2 fun h => by have := Nat.eq_of_beq_eq_true h; omega
  rcases h.is with ⟨rfl, e⟩ | ⟨b, rfl, h0, g⟩
  · have e1 : r1 = [] := (List.append_eq_nil_iff.1 e).1
    subst e1
    refine ⟨none, 0, ?_, ⟨_, _, rfl, by simp⟩⟩
    simp [aslice, abounds, abnd, hb]
  · have hl : (r1.length : Int) ≤ ((r1 ++ r2).length : Int) := by rw [List.length_append]; omega
    have hl2 : r1.length ≤ (r1 ++ r2).length := by simp
    by_cases hc : (r1 ++ r2).length = 0
    · have e1 : r1 = [] := List.eq_nil_of_length_eq_zero (by omega)
      have e2 : r2 = [] := List.eq_nil_of_length_eq_zero (by simp at hc; rw [hc.2]; rfl)
      subst e1; subst e2
      refine ⟨some ⟨b, 0, none⟩, 0, ?_, ⟨_, _, rfl, by simp⟩⟩
      simp [aslice, abounds, abnd, hb]
    · refine ⟨some ⟨b, 0, none⟩, (r1 ++ r2).length, ?_, ⟨_, _, rfl, fun i r hi => ?_⟩⟩
      · generalize hL : (r1 ++ r2).length = L at *
        simp [aslice, abounds, abnd, hb, hl, hl2, hc]
      · obtain ⟨b', o', c', e, hl'⟩ := h.rows.at (i := i) (r := r) (by rw [List.getElem?_append_left (by exact (List.getElem?_eq_some_iff.1 hi).1)]; exact hi)
        cases e
        exact ⟨b, 0, rfl, by simpa using hl'⟩
theorem begins_ca {H : AH} {va vb : Value} {la lb x : List Ev} (hl : la = lb ++ x) (ha : Own H 3 va (evRows la)) (hb : Rows H 3 vb (evRows lb)) (hs : la.length ≤ 2 ^ 50) :
    Ca E O 18 [va, vb] H (fun x H' => x = .bool true ∧ H' = H) := by
  refine Ca.bodyV (F := a18) rfl rfl rfl ?_
  subst hl
  rw [evRows_append] at ha
  obtain ⟨a, c, hcut, hrows⟩ := cutO (by omega) ha
  obtain ⟨pa, ca, hva⟩ := ha.shape
  obtain ⟨pb, cb, hvb⟩ := hb.len
  rw [evRows_length] at hcut hrows hvb
  rw [List.length_append, evRows_length, evRows_length] at hva
  have hle : (lb.length : Int) ≤ (lb.length : Int) + (x.length : Int) := by omega
  have hle2 : (lb.length : Int) ≤ ((lb.length + x.length : Nat) : Int) := by omega
  simp only [List.length_append] at hs
  have key := REvents_ca hrows hb (by omega)
  rw [hva] at hcut
  rw [hvb] at key
  have k2 : Ca E O 46 [.slice a lb.length c, .slice pb lb.length cb] H (fun x H' => x = .bool true ∧ H' = H) := by
    refine Ca.bodyV (F := a46) rfl rfl rfl ?_
    simp (maxSteps := 4000000) -implicitDefEqProofs +contextual [-X.ev, a46]
    apply Vx_callM
    · (simp -implicitDefEqProofs [-X.ev]; rfl)
    refine (key).mono ?_
    rintro x H ⟨rfl, rfl⟩
    simp (maxSteps := 4000000) -implicitDefEqProofs +contextual [-X.ev]
  simp (maxSteps := 4000000) -implicitDefEqProofs +contextual [-X.ev, a18, hva, hvb, hle, hle2, hcut]
  apply Vx_callM
  · (simp -implicitDefEqProofs [-X.ev]; rfl)
  refine (k2).mono ?_
  rintro x H ⟨rfl, rfl⟩
  simp (maxSteps := 4000000) -implicitDefEqProofs +contextual [-X.ev]
theorem told_ca {H : AH} {va vb : Value} {la lb x : List (Int × Int)} (hl : la = lb ++ x) (ha : Own H 2 va (outRows la)) (hb : Rows H 2 vb (outRows lb)) (hs : la.length ≤ 2 ^ 50) :
    Ca E O 19 [va, vb] H (fun x H' => x = .bool true ∧ H' = H) := by
  refine Ca.bodyV (F := a19) rfl rfl rfl ?_
  subst hl
  rw [outRows_append] at ha
  obtain ⟨a, c, hcut, hrows⟩ := cutO (by omega) ha
  obtain ⟨pa, ca, hva⟩ := ha.shape
  obtain ⟨pb, cb, hvb⟩ := hb.len
  rw [outRows_length] at hcut hrows hvb
  rw [List.length_append, outRows_length, outRows_length] at hva
  have hle : (lb.length : Int) ≤ (lb.length : Int) + (x.length : Int) := by omega
  have hle2 : (lb.length : Int) ≤ ((lb.length + x.length : Nat) : Int) := by omega
  simp only [List.length_append] at hs
  have key := ROuts_ca hrows hb (by omega)
  rw [hva] at hcut
  rw [hvb] at key
  simp (maxSteps := 4000000) -implicitDefEqProofs +contextual [-X.ev, a19, hva, hvb, hle, hle2, hcut]
  apply Vx_callM
  · (simp -implicitDefEqProofs [-X.ev]; rfl)
  refine (key).mono ?_
  rintro x H ⟨rfl, rfl⟩
  simp (maxSteps := 4000000) -implicitDefEqProofs +contextual [-X.ev]
theorem chk_more {p : Prg} {fuel more : Int} {t : Sta} (h : chkR p fuel t = 0) (h0 : 0 ≤ more) (h1 : more ≤ 4096 - fuel) : chkR p (fuel + more) t = 0 := by
  obtain ⟨_, q1, q2, q3, q4⟩ := inv_begin h
  unfold chkR
  rw [if_neg (by rw [q1]; decide), if_neg (by omega), if_neg (by rw [q4]; decide)]
theorem runP_small {p : Prg} {fuel : Int} {t : Sta} (h : chkR p fuel t = 0) : Small (runP p fuel t) := by
  rw [runP, if_pos h]
  exact small_inv (inv_iter _ (inv_begin h).1)
theorem MachFuel_ca {p : Prg} {t : Sta} {c d : List Value} {fuel more : Int} {H : AH} (hw : H.n0 ≤ H.nx) (hfi : I64 fuel) (hmi : I64 more) (hp : PrgC H c p) (ht : StaC H d t) :
    Ca E O 5 [.agg c.toArray, .int .i64 fuel, .int .i64 more, .agg d.toArray] H (fun x _ => x = .bool true) := by
  have hp' := hp
  have ht' := ht
  obtain ⟨vv, vb, rb, rfl, hi, hv, hvo, hr, hl, hbl⟩ := hp.is
  obtain ⟨vs, vp, rfl, ss, sp, l1, l2, _, _⟩ := ht.is
  refine Ca.bodyV (F := a5) rfl rfl rfl ?_
  obtain ⟨u1, c1, hvv⟩ := hv.len
  obtain ⟨u2, c2, hvb⟩ := hr.len
  rw [hl.length] at hvb
  have X1 := Ext.alloc H (.cells 3 [.int .i64 p.w, vv, vb])
  have q0 : (H.alloc (.cells 3 [.int .i64 p.w, vv, vb])).ld ⟨H.nx, 0, none⟩ = some (.int .i64 p.w) := ld_new hw rfl
  have q1 : (H.alloc (.cells 3 [.int .i64 p.w, vv, vb])).ld ⟨H.nx, 1, none⟩ = some vv := ld_new hw rfl
  have q2 : (H.alloc (.cells 3 [.int .i64 p.w, vv, vb])).ld ⟨H.nx, 2, none⟩ = some vb := ld_new hw rfl
  have q : (H.alloc (.cells 3 [.int .i64 p.w, vv, vb])).ldn ⟨H.nx, 0, none⟩ 3 = some [.int .i64 p.w, vv, vb] := ld_box hw 3 rfl
  generalize hH1 : H.alloc (.cells 3 [.int .i64 p.w, vv, vb]) = H1 at X1 q0 q1 q2 q
  have hwH1 := X1.wf hw
  have X2 := Ext.alloc H1 (.cells 2 [vs, vp])
  have r0 : (H1.alloc (.cells 2 [vs, vp])).ld ⟨H1.nx, 0, none⟩ = some vs := ld_new hwH1 rfl
  have r1 : (H1.alloc (.cells 2 [vs, vp])).ld ⟨H1.nx, 1, none⟩ = some vp := ld_new hwH1 rfl
  have r : (H1.alloc (.cells 2 [vs, vp])).ldn ⟨H1.nx, 0, none⟩ 2 = some [vs, vp] := ld_box hwH1 2 rfl
  generalize hH2 : H1.alloc (.cells 2 [vs, vp]) = H2 at X2 r0 r1 r
  have hwH2 := X2.wf hwH1
  replace q0 := X2.ld q0
  replace q1 := X2.ld q1
  replace q2 := X2.ld q2
  replace q := X2.ldn q
  have X := X1.trans X2
  simp (maxSteps := 4000000) -implicitDefEqProofs +contextual [-X.ev, a5, hH1, hH2, q2]
  apply Vx_callM
  · (simp -implicitDefEqProofs [-X.ev]; rfl)
  refine (PFits_ca hwH2 hbl (hr.ext X) (hl.ext X) (by omega)).mono ?_
  rintro x H3 ⟨rfl, X3⟩
  by_cases h1 : nodesS p.body ≤ 600
  case neg =>
    simp (maxSteps := 4000000) -implicitDefEqProofs +contextual [-X.ev, h1]
    apply Vx_callM
    · (simp -implicitDefEqProofs [-X.ev]; rfl)
    refine (awake_ca H3).mono ?_
    rintro x H4 ⟨rfl, rfl⟩
    simp (maxSteps := 4000000) -implicitDefEqProofs +contextual [-X.ev]
  have X03 := X.trans X3
  have hw3 := X3.wf hwH2
  replace q0 := X3.ld q0
  replace q1 := X3.ld q1
  replace q2 := X3.ld q2
  replace q := X3.ldn q
  replace r := X3.ldn r
  simp (maxSteps := 4000000) -implicitDefEqProofs +contextual [-X.ev, h1, q, r]
  apply Vx_callM
  · (simp -implicitDefEqProofs [-X.ev]; rfl)
  refine (RCheck_ca (fuel := fuel) hw3 (hp'.ext X03) (ht'.ext X03)).mono ?_
  rintro x H4 ⟨rfl, X4⟩
  by_cases hk : chkR p fuel t = 0
  case neg =>
    simp (maxSteps := 4000000) -implicitDefEqProofs +contextual [-X.ev, hk]
    apply Vx_callM
    · (simp -implicitDefEqProofs [-X.ev]; rfl)
    refine (awake_ca H4).mono ?_
    rintro x H5 ⟨rfl, rfl⟩
    simp (maxSteps := 4000000) -implicitDefEqProofs +contextual [-X.ev]
  obtain ⟨hinv, _, hf1, hf2, _⟩ := inv_begin hk
  have X04 := X03.trans X4
  have hw4 := X4.wf hw3
  replace q0 := X4.ld q0
  replace q1 := X4.ld q1
  replace q2 := X4.ld q2
  replace q := X4.ldn q
  replace r := X4.ldn r
  by_cases hm0 : more < 0
  · simp (maxSteps := 4000000) -implicitDefEqProofs +contextual [-X.ev, hk, hm0]
    apply Vx_callM
    · (simp -implicitDefEqProofs [-X.ev]; rfl)
    refine (awake_ca H4).mono ?_
    rintro x H5 ⟨rfl, rfl⟩
    simp (maxSteps := 4000000) -implicitDefEqProofs +contextual [-X.ev]
  have w1 : IntKind.i64.wrap (4096 - fuel) = 4096 - fuel := wrap_in ⟨by omega, by omega⟩
  by_cases hm1 : 4096 - fuel < more
  · simp (maxSteps := 4000000) -implicitDefEqProofs +contextual [-X.ev, hk, hm0, w1, hm1]
    apply Vx_callM
    · (simp -implicitDefEqProofs [-X.ev]; rfl)
    refine (awake_ca H4).mono ?_
    rintro x H5 ⟨rfl, rfl⟩
    simp (maxSteps := 4000000) -implicitDefEqProofs +contextual [-X.ev]
  have w2 : IntKind.i64.wrap (fuel + more) = fuel + more := wrap_in ⟨by omega, by omega⟩
  have hk2 := chk_more (more := more) hk (by omega) (by omega)
  simp (maxSteps := 4000000) -implicitDefEqProofs +contextual [-X.ev, hk, hm0, w1, hm1, q, r]
  apply Vx_callM
  · (simp -implicitDefEqProofs [-X.ev]; rfl)
  refine (MRun_ca (fuel := fuel) hw4 (hp'.ext X04) (ht'.ext X04)).mono ?_
  rintro x H5 ⟨cs, rfl, ra, X5⟩
  have hw5 := X5.wf hw4
  have sa := runP_small hk
  have sb := runP_small hk2
  obtain ⟨A, hA⟩ : ∃ A, runP p fuel t = A := ⟨_, rfl⟩
  obtain ⟨B, hB⟩ : ∃ B, runP p (fuel + more) t = B := ⟨_, rfl⟩
  rw [hA] at ra sa
  rw [hB] at sb
  have law : (A.en ≠ 3 → B = A) ∧ (A.en = 3 → (∃ x, B.trace = A.trace ++ x) ∧ (∃ x, B.outs = A.outs ++ x) ∧ A.cost ≤ B.cost ∧ A.used ≤ B.used) ∧ (more = 0 → B = A) := by
    have e : beginM p (fuel + more) t = addF more (beginM p fuel t) := rfl
    have k := fuel_law (p := p) (ps := t.picks) (d := more) (by omega) fuel.toNat (beginM p fuel t) hinv (by show fuel = _; omega) rfl rfl rfl
    rw [runP, if_pos hk] at hA
    rw [runP, if_pos hk2, e] at hB
    refine ⟨fun q => ?_, fun q => ?_, fun q => ?_⟩
    · rw [← hA, ← hB]; exact k.1 (by rw [← hA] at q; exact q)
    · obtain ⟨a, b, c, d⟩ := k.2 (by rw [← hA] at q; exact q)
      rw [← hA, ← hB]
      exact ⟨a, b, c, by show ((finM p t.picks (beginM p fuel t)).used : Int) ≤ ((finM p t.picks (addF more (beginM p fuel t))).used : Int); omega⟩
    · subst q
      rw [← hA, ← hB]
      have : addF 0 (beginM p fuel t) = beginM p fuel t := by simp [addF]
      rw [this]
  obtain ⟨vs1, vo1, vt1, rfl, os1, oo1, ot1, f1⟩ := ra.is
  obtain ⟨H6, sH6, X6, nxH6, n0H6, y, lH6⟩ := st_new (H := H5) hw5 (z := 7) (c := [.int .i64 0, .slice none 0 0, .slice none 0 0, .slice none 0 0, .int .i64 0, .int .i64 0, .int .i64 0]) (vs := [.int .i64 A.en, vs1, vo1, vt1, .int .i64 A.cost, .int .i64 A.used, .int .i64 A.wh]) rfl
  have y0 : H6.ld ⟨H5.nx, 0, none⟩ = some (.int .i64 A.en) := lH6 0 _ rfl
  have y1 : H6.ld ⟨H5.nx, 1, none⟩ = some vs1 := lH6 1 _ rfl
  have y2 : H6.ld ⟨H5.nx, 2, none⟩ = some vo1 := lH6 2 _ rfl
  have y3 : H6.ld ⟨H5.nx, 3, none⟩ = some vt1 := lH6 3 _ rfl
  have y4 : H6.ld ⟨H5.nx, 4, none⟩ = some (.int .i64 A.cost) := lH6 4 _ rfl
  have y5 : H6.ld ⟨H5.nx, 5, none⟩ = some (.int .i64 A.used) := lH6 5 _ rfl
  have y6 : H6.ld ⟨H5.nx, 6, none⟩ = some (.int .i64 A.wh) := lH6 6 _ rfl
  clear lH6
  replace y : H6.ldn ⟨H5.nx, 0, none⟩ 7 = some [.int .i64 A.en, vs1, vo1, vt1, .int .i64 A.cost, .int .i64 A.used, .int .i64 A.wh] := y
  have hwH6 := X6.wf hw5
  have X46 := X5.trans X6
  replace q := X46.ldn q
  replace r := X46.ldn r
  simp (maxSteps := 4000000) -implicitDefEqProofs +contextual [-X.ev, sH6, q, r, w2, hk]
  apply Vx_callM
  · (simp -implicitDefEqProofs [-X.ev]; rfl)
  refine (MRun_ca (fuel := fuel + more) hwH6 (hp'.ext (X04.trans X46)) (ht'.ext (X04.trans X46))).mono ?_
  rintro x H7 ⟨cs2, rfl, rb2, X7⟩
  have hw7 := X7.wf hwH6
  rw [hB] at rb2
  obtain ⟨vs2, vo2, vt2, rfl, os2, oo2, ot2, f2⟩ := rb2.is
  obtain ⟨H8, sH8, X8, nxH8, n0H8, z, lH8⟩ := st_new (H := H7) hw7 (z := 7) (c := [.int .i64 0, .slice none 0 0, .slice none 0 0, .slice none 0 0, .int .i64 0, .int .i64 0, .int .i64 0]) (vs := [.int .i64 B.en, vs2, vo2, vt2, .int .i64 B.cost, .int .i64 B.used, .int .i64 B.wh]) rfl
  have z0 : H8.ld ⟨H7.nx, 0, none⟩ = some (.int .i64 B.en) := lH8 0 _ rfl
  have z1 : H8.ld ⟨H7.nx, 1, none⟩ = some vs2 := lH8 1 _ rfl
  have z2 : H8.ld ⟨H7.nx, 2, none⟩ = some vo2 := lH8 2 _ rfl
  have z3 : H8.ld ⟨H7.nx, 3, none⟩ = some vt2 := lH8 3 _ rfl
  have z4 : H8.ld ⟨H7.nx, 4, none⟩ = some (.int .i64 B.cost) := lH8 4 _ rfl
  have z5 : H8.ld ⟨H7.nx, 5, none⟩ = some (.int .i64 B.used) := lH8 5 _ rfl
  have z6 : H8.ld ⟨H7.nx, 6, none⟩ = some (.int .i64 B.wh) := lH8 6 _ rfl
  clear lH8
  replace z : H8.ldn ⟨H7.nx, 0, none⟩ 7 = some [.int .i64 B.en, vs2, vo2, vt2, .int .i64 B.cost, .int .i64 B.used, .int .i64 B.wh] := z
  have hwH8 := X8.wf hw7
  have X68 := X7.trans X8
  replace y0 := X68.ld y0
  replace y1 := X68.ld y1
  replace y2 := X68.ld y2
  replace y3 := X68.ld y3
  replace y4 := X68.ld y4
  replace y5 := X68.ld y5
  replace y6 := X68.ld y6
  replace y := X68.ldn y
  have R1 := (RunO.toR ra sa).ext (X6.trans X68)
  have R2 := (RunO.toR rb2 sb).ext X8
  by_cases he : A.en = 3
  · obtain ⟨⟨xt, hxt⟩, ⟨xo, hxo⟩, hco, hus⟩ := law.2.1 he
    have k1 := begins_ca hxt (ot2.ext X8) (ot1.ext (X6.trans X68)).rows (by have := sb.2.2; omega)
    have k2 := told_ca hxo (oo2.ext X8) (oo1.ext (X6.trans X68)).rows (by have := sb.2.1; omega)
    by_cases hm : 0 < more
    · simp (maxSteps := 4000000) -implicitDefEqProofs +contextual [-X.ev, sH8, hk, hk2, y0, he, y3, z3]
      apply Vx_callM
      · (simp -implicitDefEqProofs [-X.ev]; rfl)
      refine (k1).mono ?_
      rintro x H8 ⟨rfl, rfl⟩
      simp (maxSteps := 4000000) -implicitDefEqProofs +contextual [-X.ev, y2, z2]
      apply Vx_callM
      · (simp -implicitDefEqProofs [-X.ev]; rfl)
      refine (k2).mono ?_
      rintro x H8 ⟨rfl, rfl⟩
      simp (maxSteps := 4000000) -implicitDefEqProofs +contextual [-X.ev, y4, z4, hco, y5, z5, hus, hm]
      apply Vx_callM
      · (simp -implicitDefEqProofs [-X.ev]; rfl)
      refine (awake_ca H8).mono ?_
      rintro x H9 ⟨rfl, rfl⟩
      simp (maxSteps := 4000000) -implicitDefEqProofs +contextual [-X.ev]
    · have hBA := law.2.2 (by omega)
      simp (maxSteps := 4000000) -implicitDefEqProofs +contextual [-X.ev, sH8, hk, hk2, y0, he, y3, z3]
      apply Vx_callM
      · (simp -implicitDefEqProofs [-X.ev]; rfl)
      refine (k1).mono ?_
      rintro x H8 ⟨rfl, rfl⟩
      simp (maxSteps := 4000000) -implicitDefEqProofs +contextual [-X.ev, y2, z2]
      apply Vx_callM
      · (simp -implicitDefEqProofs [-X.ev]; rfl)
      refine (k2).mono ?_
      rintro x H8 ⟨rfl, rfl⟩
      simp (maxSteps := 4000000) -implicitDefEqProofs +contextual [-X.ev, y4, z4, hco, y5, z5, hus, hm, y, z]
      rw [← he]
      apply Vx_callM
      · (simp -implicitDefEqProofs [-X.ev]; rfl)
      refine (SameRun_ca hwH8 R1 R2).mono ?_
      rintro x H9 ⟨rfl, X9⟩
      simp (maxSteps := 4000000) -implicitDefEqProofs +contextual [-X.ev, hBA]
      apply Vx_callM
      · (simp -implicitDefEqProofs [-X.ev]; rfl)
      refine (awake_ca H9).mono ?_
      rintro x H9 ⟨rfl, rfl⟩
      simp (maxSteps := 4000000) -implicitDefEqProofs +contextual [-X.ev]
  · have hBA := law.1 he
    simp (maxSteps := 4000000) -implicitDefEqProofs +contextual [-X.ev, sH8, hk, hk2, y0, he, y, z]
    apply Vx_callM
    · (simp -implicitDefEqProofs [-X.ev]; rfl)
    refine (SameRun_ca hwH8 R1 R2).mono ?_
    rintro x H9 ⟨rfl, X9⟩
    simp (maxSteps := 4000000) -implicitDefEqProofs +contextual [-X.ev, hBA]
    apply Vx_callM
    · (simp -implicitDefEqProofs [-X.ev]; rfl)
    refine (awake_ca H9).mono ?_
    rintro x H9 ⟨rfl, rfl⟩
    simp (maxSteps := 4000000) -implicitDefEqProofs +contextual [-X.ev]
end Go.Proofs.YtoijnpfpjpefgaaGreat.A
