/- Texts that stand one behind the other: S22, S23. -/
import Derived.Test.YtoijnpfpjpefgaaGreatG11
/- Specs: the program's check of programs and starts. -/
set_option linter.unusedVariables false
set_option linter.unusedSimpArgs false
set_option maxRecDepth 10000
namespace Go.Proofs.YtoijnpfpjpefgaaGreat.A
open Go
theorem fineS_isPrg {p : Prg} (h : isHeading p.w p.vars = true) : fineS p.w p.vars p.body 1 0 = isPrg p := by
  unfold fineS isPrg
  rw [h, show decide ((1 : Int) + depthS p.body 0 ≤ 17) = decide (depthS p.body 0 ≤ 16) by rw [Bool.eq_iff_iff]; simp; omega, show decide (0 + nodesS p.body ≤ 400) = decide (nodesS p.body ≤ 400) by rw [Bool.eq_iff_iff]; simp]
  simp
theorem build00 : buildV [.int .i64 0, .int .i64 0] [] = some (.agg #[.int .i64 0, .int .i64 0]) := rfl
theorem counted_ca {p : Prg} {c : List Value} {H : AH} (hw : H.n0 ≤ H.nx) (hp : PrgC H c p) : Ca E O 78 [.agg c.toArray] H (fun x H' => x = .tuple #[.agg #[.int .i64 (if isPrg p = true then countS p.body else 0), .int .i64 (if isPrg p = true then nodesS p.body else 0)], .bool (isPrg p)] ∧ Ext H H') := by
  obtain ⟨vv, vb, rb, rfl, hi, hv, hvo, hr, hl, hbl⟩ := hp.is
  refine Ca.bodyV (F := a78) rfl rfl rfl ?_
  have X1 := Ext.alloc H (.cells 3 [.int .i64 p.w, vv, vb])
  have d0 : (H.alloc (.cells 3 [.int .i64 p.w, vv, vb])).ld ⟨H.nx, 0, none⟩ = some (.int .i64 p.w) := ld_new hw rfl
  have d1 : (H.alloc (.cells 3 [.int .i64 p.w, vv, vb])).ld ⟨H.nx, 1, none⟩ = some vv := ld_new hw rfl
  have d2 : (H.alloc (.cells 3 [.int .i64 p.w, vv, vb])).ld ⟨H.nx, 2, none⟩ = some vb := ld_new hw rfl
  have d : (H.alloc (.cells 3 [.int .i64 p.w, vv, vb])).ldn ⟨H.nx, 0, none⟩ 3 = some [.int .i64 p.w, vv, vb] := ld_box hw 3 rfl
  generalize hH1 : H.alloc (.cells 3 [.int .i64 p.w, vv, vb]) = H1 at X1 d0 d1 d2 d
  have hwH1 := X1.wf hw
  have X2 := Ext.alloc H1 (.cells 2 [.int .i64 0, .int .i64 0])
  have g2 := get_new H1 (.cells 2 [.int .i64 0, .int .i64 0])
  generalize hH2 : H1.alloc (.cells 2 [.int .i64 0, .int .i64 0]) = H2 at X2 g2
  have hw2 := X2.wf hwH1
  have hb2 : H2.n0 ≤ H1.nx := by rw [X2.n0]; exact hwH1
  replace d0 := X2.ld d0
  replace d1 := X2.ld d1
  replace d2 := X2.ld d2
  replace d := X2.ldn d
  have X02 := X1.trans X2
  simp (maxSteps := 4000000) -implicitDefEqProofs +contextual [-X.ev, a78, hH1, hH2, d0, d1]
  apply Vx_callM
  · (simp -implicitDefEqProofs [-X.ev]; rfl)
  refine (Head_ca hw2 (hv.ext X02) hvo p.w).mono ?_
  rintro x H3 ⟨rfl, X3⟩
  have g3 := X3.get g2
  have hb3 : H3.n0 ≤ H1.nx := by rw [X3.n0]; exact hb2
  have X03 := X02.trans X3
  have hw3 := X3.wf hw2
  cases h1 : isHeading p.w p.vars with
  | false =>
    have h2 : isPrg p = false := by simp [isPrg, h1]
    obtain ⟨H4, s4, M4, nx4, n04, g4⟩ := st_get g3 hb3 (k := 0) (vs := [.int .i64 0, .int .i64 0]) (by simp)
    have l4 := ldn_get g4 (by rw [n04]; exact hb3) (k := 0) (n := 2) (by simp [splice])
    have X04 : Ext H H4 := (X1.trans (Ext.refl _)).trans (((X2.trans X3).mod M4 (by rintro x rfl; exact Nat.le_refl _)))
    simp [splice] at l4
    simp (maxSteps := 4000000) -implicitDefEqProofs +contextual [-X.ev, h1, h2, build00, s4, l4, X04]
  | true =>
    replace d2 := X3.ld d2
    replace d := X3.ldn d
    simp (maxSteps := 4000000) -implicitDefEqProofs +contextual [-X.ev, d, d2]
    apply Vx_callM
    · (simp -implicitDefEqProofs [-X.ev]; rfl)
    refine (fineS_ca h1 hvo _ p.body vb rb H1 H3 1 0 0 H1.nx (Nat.lt_succ_self _) hw3 (X2.trans X3) (Nat.le_refl _) (hv.ext X1) hbl (hr.ext X1) (hl.ext X1) g3 hb3 (by omega) (by omega) (by omega)).mono ?_
    rintro x H4 ⟨rfl, M4, s', n', g4, hl4⟩
    rw [fineS_isPrg h1] at hl4 ⊢
    have hb4 : H4.n0 ≤ H1.nx := by rw [M4.n0]; exact hb3
    have X14 : Ext H1 H4 := (X2.trans X3).mod M4 (by rintro x rfl; exact Nat.le_refl _)
    cases h2 : isPrg p with
    | false =>
      obtain ⟨H5, s5, M5, nx5, n05, g5⟩ := st_get g4 hb4 (k := 0) (vs := [.int .i64 0, .int .i64 0]) (by simp)
      have l5 := ldn_get g5 (by rw [n05]; exact hb4) (k := 0) (n := 2) (by simp [splice])
      have X05 : Ext H H5 := X1.trans (X14.mod M5 (by rintro x rfl; exact Nat.le_refl _))
      simp [splice] at l5
      simp (maxSteps := 4000000) -implicitDefEqProofs +contextual [-X.ev, build00, s5, l5, X05]
    | true =>
      obtain ⟨rfl, rfl⟩ := hl4 h2
      have l4 := ldn_get g4 hb4 (k := 0) (n := 2) (by simp)
      obtain ⟨H5, s5, M5, nx5, n05, g5⟩ := st_get g4 hb4 (k := 0) (vs := [.int .i64 (0 + countS p.body), .int .i64 (0 + nodesS p.body)]) (by simp)
      have l5 := ldn_get g5 (by rw [n05]; exact hb4) (k := 0) (n := 2) (by simp [splice])
      have X05 : Ext H H5 := X1.trans (X14.mod M5 (by rintro x rfl; exact Nat.le_refl _))
      simp [splice] at l4 l5 s5
      simp (maxSteps := 4000000) -implicitDefEqProofs +contextual [-X.ev, l4, s5, l5, X05]
theorem PCheck_ca {p : Prg} {c : List Value} {H : AH} (hw : H.n0 ≤ H.nx) (hp : PrgC H c p) : Ca E O 39 [.agg c.toArray] H (fun x H' => x = .int .i64 (if isPrg p = true then 0 else 30) ∧ Ext H H') := by
  refine Ca.bodyV (F := a39) rfl rfl rfl ?_
  have hc := hp.len
  have X1 := Ext.alloc H (.cells c.length c)
  have d : (H.alloc (.cells c.length c)).ldn ⟨H.nx, 0, none⟩ 3 = some c := ld_box hw 3 (by assumption)
  generalize hH1 : H.alloc (.cells c.length c) = H1 at X1 d
  have hwH1 := X1.wf hw
  simp (maxSteps := 4000000) -implicitDefEqProofs +contextual [-X.ev, a39, hH1, d]
  apply Vx_callM
  · (simp -implicitDefEqProofs [-X.ev]; rfl)
  refine (counted_ca hwH1 (hp.ext X1)).mono ?_
  rintro x H2 ⟨rfl, X2⟩
  have hw2 := X2.wf hwH1
  obtain ⟨H3, s3, X3, nx3, n03, g3⟩ := var_new hw2 (z := 2) (c := [.int .i64 0, .int .i64 0]) (vs := [.int .i64 (if isPrg p = true then countS p.body else 0), .int .i64 (if isPrg p = true then nodesS p.body else 0)]) rfl
  have X := X1.trans (X2.trans X3)
  cases h2 : isPrg p with
  | false =>
    simp only [h2, Bool.false_eq_true, if_false] at s3
    simp (maxSteps := 4000000) -implicitDefEqProofs +contextual [-X.ev, s3, X]
  | true =>
    simp only [h2, if_true] at s3
    simp (maxSteps := 4000000) -implicitDefEqProofs +contextual [-X.ev, s3, X]
/-! ### slices.Clone -/
def cloneF (sz bytes : Nat) : AF := ⟨1, 8, [.tmp 2], .seq (.reg [o 2 (.mv (.k (.slice none 0 0)))]) (.seq (.seq (.reg [o 3 (.mv (.t 0)), o 4 (.eqk 2 false (.t 3) (.k (.slice none 0 0)))]) (.cond (.t 4) (.seq (.reg [o 2 (.mv (.k (.slice none 0 0)))]) .ret) .skip)) (.seq (.reg [o 5 (.bsl 0 sz [] []), o 6 (.mv (.t 0)), o 7 (.app sz bytes (.t 5) (.t 6)), o 2 (.mv (.t 7))]) .ret))⟩
theorem eqV_sN (n c : Nat) (a : Option Addr) (neg : Bool) (n' c' : Nat) : eqV 2 neg (.slice a n c) (.slice none n' c') = some (.bool (bif neg then !a.isNone else a.isNone)) := by cases a <;> cases neg <;> rfl
theorem Clone_gen {f sz bytes : Nat} (ho : O f = none) (he : E f = some (cloneF sz bytes)) {H : AH} {v : Value} {rows : List (List Value)} (hw : H.n0 ≤ H.nx) (hr : Rows H sz v rows) (hb : rows.length * bytes ≤ 2 ^ 47) (h62 : rows.length < 2 ^ 62) :
    Ca E O f [v] H (fun x H' => Own H' sz x rows ∧ Ext H H' ∧ ∀ b, blk x b → H.nx ≤ b) := by
  refine Ca.bodyV ho he rfl ?_
  obtain ⟨a, c, hv⟩ := hr.len
  cases a with
  | none =>
    have hrows : rows = [] := by
      obtain ⟨a', c', e, k⟩ := hr.is
      rw [hv] at e
      cases e
      cases rows with
      | nil => rfl
      | cons r rows => obtain ⟨b, o, e, _⟩ := k 0 r rfl; cases e
    subst hrows
    simp (maxSteps := 4000000) -implicitDefEqProofs +contextual [-X.ev, cloneF, hv]
    exact ⟨Own.nil _ _, Ext.refl _, fun b hb => absurd hb (blk_nil _ _ _)⟩
  | some a =>
    have hbs : bslV 0 sz [] H [] = some (.slice (some ⟨H.nx, 0, none⟩) 0 0, H.alloc (.cells sz [])) := rfl
    have X1 := Ext.alloc H (.cells sz [])
    have ow : Own (H.alloc (.cells sz [])) sz (.slice (some ⟨H.nx, 0, none⟩) 0 0) [] := ⟨.inr ⟨H.nx, rfl, hw, get_new _ _⟩, by simp⟩
    generalize H.alloc (.cells sz []) = H1 at hbs X1 ow
    obtain ⟨s', H2, ha, o2, M2, hk⟩ := app_own (bytes := bytes) (X1.wf hw) ow (hr.ext X1) (by simpa using hb) (by simpa using h62)
    rw [hv] at ha
    simp (maxSteps := 4000000) -implicitDefEqProofs +contextual [-X.ev, cloneF, hv, hbs, ha]
    refine ⟨by simpa using o2, X1.mod M2 (by intro b hb; rw [blk_slice] at hb; subst hb; exact Nat.le_refl _), fun b hb => ?_⟩
    rcases hk b hb with h | h
    · rw [blk_slice] at h; subst h; exact Nat.le_refl _
    · exact Nat.le_trans X1.nx h
def intRows (l : List Int) : List (List Value) := l.map fun n => [.int .i64 n]
theorem CloneI_ca {H : AH} {v : Value} {l : List Int} (hw : H.n0 ≤ H.nx) (hr : Ints H v l) (hb : l.length ≤ 2 ^ 40) :
    Ca E O 47 [v] H (fun x H' => Own H' 1 x (intRows l) ∧ Ext H H' ∧ ∀ b, blk x b → H.nx ≤ b) :=
  Clone_gen (sz := 1) (bytes := 8) rfl rfl hw hr (by simp [intRows]; omega) (by simp [intRows]; omega)
theorem Own.ints {H : AH} {v : Value} {l : List Int} (h : Own H 1 v (intRows l)) : Ints H v l := h.rows
theorem intRows_append (l m : List Int) : intRows (l ++ m) = intRows l ++ intRows m := by simp [intRows]
theorem isWord_p {w : Int} (hw : 1 ≤ w ∧ w ≤ 8) (a : Int) : isWord w a = (!decide (a < 0) && !decide (2 ^ w.toNat ≤ a)) := by
  have w1 : isWidth w = true := by simp [isWidth, hw]
  rw [isWord, w1, Bool.true_and, Bool.eq_iff_iff]
  simp
theorem isStart_ca {p : Prg} {t : Sta} {c d : List Value} {H : AH} (hw : H.n0 ≤ H.nx) (hp : PrgC H c p) (ht : StaC H d t) (hP : isPrg p = true) :
    Ca E O 40 [.agg c.toArray, .agg d.toArray] H (fun x H' => x = .bool (isSta p t) ∧ Ext H H') := by
  obtain ⟨vv, vb, rb, rfl, hi, hv, hvo, hr, hl, hbl⟩ := hp.is
  obtain ⟨vs, vp, rfl, ss, sp, l1, l2, _, _⟩ := ht.is
  have hV : isHeading p.w p.vars = true := by simp [isPrg] at hP; exact hP.1
  have hw8 : 1 ≤ p.w ∧ p.w ≤ 8 := ⟨(isHeading_w hV).1, (isHeading_w hV).2.1⟩
  have hcells : wsum (p.vars.map (·.cells)) ≤ 48 := by
    rw [isHeading_eq] at hV; simp only [Bool.and_eq_true, decide_eq_true_eq] at hV; exact hV.2.2.2.2
  refine Ca.bodyV (F := a40) rfl rfl rfl ?_
  have X1 := Ext.alloc H (.cells 3 [.int .i64 p.w, vv, vb])
  have d0 : (H.alloc (.cells 3 [.int .i64 p.w, vv, vb])).ld ⟨H.nx, 0, none⟩ = some (.int .i64 p.w) := ld_new hw rfl
  have d1 : (H.alloc (.cells 3 [.int .i64 p.w, vv, vb])).ld ⟨H.nx, 1, none⟩ = some vv := ld_new hw rfl
  have d2 : (H.alloc (.cells 3 [.int .i64 p.w, vv, vb])).ld ⟨H.nx, 2, none⟩ = some vb := ld_new hw rfl
  have d : (H.alloc (.cells 3 [.int .i64 p.w, vv, vb])).ldn ⟨H.nx, 0, none⟩ 3 = some [.int .i64 p.w, vv, vb] := ld_box hw 3 rfl
  generalize hH1 : H.alloc (.cells 3 [.int .i64 p.w, vv, vb]) = H1 at X1 d0 d1 d2 d
  have hwH1 := X1.wf hw
  have X2 := Ext.alloc H1 (.cells 2 [vs, vp])
  have e0 : (H1.alloc (.cells 2 [vs, vp])).ld ⟨H1.nx, 0, none⟩ = some vs := ld_new hwH1 rfl
  have e1 : (H1.alloc (.cells 2 [vs, vp])).ld ⟨H1.nx, 1, none⟩ = some vp := ld_new hwH1 rfl
  have e : (H1.alloc (.cells 2 [vs, vp])).ldn ⟨H1.nx, 0, none⟩ 2 = some [vs, vp] := ld_box hwH1 2 rfl
  generalize hH2 : H1.alloc (.cells 2 [vs, vp]) = H2 at X2 e0 e1 e
  have hwH2 := X2.wf hwH1
  replace d0 := X2.ld d0
  replace d1 := X2.ld d1
  have X := X1.trans X2
  obtain ⟨a1, c1, hvv⟩ := hv.len
  obtain ⟨a2, c2, hvs⟩ := ss.len
  obtain ⟨a3, c3, hvp⟩ := sp.len
  have D1 := d1
  rw [hvv] at D1
  simp (maxSteps := 4000000) -implicitDefEqProofs +contextual [-X.ev, a40, hH1, hH2, D1]
  refine Vk_loop (fun k fr H' => Ext H2 H' ∧ ∃ i : Nat, i + k = p.vars.length ∧ fr.get 2 = .pointer (some ⟨H.nx, 0, none⟩) ∧ fr.get 3 = .pointer (some ⟨H1.nx, 0, none⟩) ∧ fr.get 11 = vv ∧ fr.get 12 = .int .i64 p.vars.length ∧ fr.get 13 = .int .i64 i ∧ fr.get 5 = .int .i64 (wsum ((p.vars.take i).map (·.cells)))) ?_ p.vars.length ⟨Ext.refl _, 0, by simp, by simp, by simp, by simp [hvv], by simp, by simp, by simp [wsum]⟩
  rintro k fr H3 ⟨X3, i, hi, f2, f3, f11, f12, f13, f5⟩
  have hw3 := X3.wf hwH2
  have X03 := X.trans X3
  replace d0 := X3.ld d0
  replace e0 := X3.ld e0
  replace e1 := X3.ld e1
  have hvl := hvo.1
  by_cases h : i < p.vars.length
  · obtain ⟨y, hy⟩ : ∃ y, p.vars[i]? = some y := ⟨_, List.getElem?_eq_getElem h⟩
    obtain ⟨b, o, c', hv', hldn, _⟩ := (hv.ext X03).at hy
    rw [hv'] at f11
    obtain ⟨H4, sH4, X4, nxH4, n0H4, q, lH4⟩ := st_new (H := H3) hw3 (z := 3) (c := [.string ⟨#[]⟩, .int .i64 0, .int .i64 0]) (vs := [.string y.name, .int .i64 y.level, .int .i64 y.cells]) rfl
    have q0 : H4.ld ⟨H3.nx, 0, none⟩ = some (.string y.name) := lH4 0 _ rfl
    have q1 : H4.ld ⟨H3.nx, 1, none⟩ = some (.int .i64 y.level) := lH4 1 _ rfl
    have q2 : H4.ld ⟨H3.nx, 2, none⟩ = some (.int .i64 y.cells) := lH4 2 _ rfl
    clear lH4
    replace q : H4.ldn ⟨H3.nx, 0, none⟩ 3 = some [.string y.name, .int .i64 y.level, .int .i64 y.cells] := q
    have hwH4 := X4.wf hw3
    simp (maxSteps := 4000000) -implicitDefEqProofs +contextual [-X.ev, f2, f3, f11, f12, f13, f5, h, hldn, Vr.row, sH4, q2]
    rw [wrap_in (n := (i : Int) + 1) ⟨by omega, by omega⟩]
    refine ⟨k - 1, by omega, X3.trans X4, i + 1, by omega, hv'.symm, by simp, ?_⟩
    rw [List.take_add_one]
    simp [wsum, List.getElem?_map, hy, List.foldl_append]
  have ht : p.vars.take i = p.vars := List.take_of_length_le (by omega)
  rw [ht] at f5
  obtain ⟨F, hF⟩ : ∃ F, isSta p t = F := ⟨_, rfl⟩
  rw [hF]
  have e0' := e0
  have e1' := e1
  rw [hvs] at e0'
  rw [hvp] at e1'
  have fno : ¬ ((t.store.length : Int) = wsum (p.vars.map (·.cells)) ∧ (t.picks.length : Int) ≤ 16 ∧ ∀ a ∈ t.store ++ t.picks, isWord p.w a = true) → F = false := by
    intro q; rw [Bool.eq_false_iff, ← hF]; intro h
    apply q
    simp only [isSta, isStore, Bool.and_eq_true, decide_eq_true_eq, List.all_eq_true] at h
    refine ⟨h.1.1, by omega, fun a ha => ?_⟩
    rcases List.mem_append.1 ha with ha | ha
    · exact h.1.2 a ha
    · exact h.2.2 a ha
  by_cases k1 : (t.store.length : Int) = wsum (p.vars.map (·.cells))
  case neg =>
    have hF0 : F = false := fno (fun q => k1 q.1)
    simp (maxSteps := 4000000) -implicitDefEqProofs +contextual [-X.ev, f2, f3, f11, f12, f13, f5, h, e0', e1', k1, hF0, X03]
  by_cases k2 : (16 : Int) < t.picks.length
  case pos =>
    have hF0 : F = false := fno (fun q => by have := q.2.1; omega)
    simp (maxSteps := 4000000) -implicitDefEqProofs +contextual [-X.ev, f2, f3, f11, f12, f13, f5, h, e0', e1', k1, k2, hF0, X03]
  simp (maxSteps := 4000000) -implicitDefEqProofs +contextual [-X.ev, f2, f3, f11, f12, f13, f5, h, e0', e1', k1, k2]
  rw [hvs] at ss
  rw [hvp] at sp
  apply Vx_callM
  · (simp -implicitDefEqProofs [-X.ev]; rfl)
  refine (CloneI_ca hw3 (ss.ext X03) (by omega)).mono ?_
  rintro x H4 ⟨o4, X4, k4⟩
  have hw4 := X4.wf hw3
  have X04 := X03.trans X4
  have q1 := ld_ldn.1 e1'
  have q2 := ld_ldn.1 (X4.ld e1')
  obtain ⟨s', H5, ha, o5, M5, k5⟩ := app_own (bytes := 8) hw4 o4 (sp.ext X04) (by simp [intRows]; omega) (by simp [intRows]; omega)
  have X05 : Ext H H5 := X03.trans (X4.mod M5 k4)
  have hw5 := M5.wf hw4
  have o5 : Own H5 1 s' (intRows (t.store ++ t.picks)) := by rw [intRows_append]; exact o5
  have hLl : ((t.store ++ t.picks).length : Int) = t.store.length + t.picks.length := by rw [List.length_append]; omega
  have hLm : ∀ (P : Int → Prop), (∀ a ∈ t.store ++ t.picks, P a) → (∀ a ∈ t.store, P a) ∧ ∀ a ∈ t.picks, P a := fun P h => ⟨fun a ha => h a (by simp [ha]), fun a ha => h a (by simp [ha])⟩
  generalize t.store ++ t.picks = L at o5 fno hLl hLm
  have i5 := o5.ints
  obtain ⟨as_, cs_, hs'⟩ := i5.len

  have hlx : H4.nx ≤ H5.nx := M5.nx
  have q3 : H5.ldn ⟨H1.nx, 1, none⟩ 1 = some [.slice a3 t.picks.length c3] := M5.ldn (a := ⟨H1.nx, 1, none⟩) (fun hb => by
    have h1 := k4 _ hb
    have h2 := (AH.get_lt (Option.isSome_iff_exists.1 (ldn_some q1).1).choose_spec)
    dsimp only at h1 h2
    omega) q2
  rw [hs'] at ha
  simp (maxSteps := 4000000) -implicitDefEqProofs +contextual [-X.ev, ha, okD_of, chain_2, chain_1, X4.n0, X4.nx, q1, q2, q3, M5.n0, hlx]
  have d0' : H5.ld ⟨H.nx, 0, none⟩ = some (.int .i64 p.w) := ((X3.trans (Ext.refl _)).trans (Ext.refl _) |> fun _ => (M5.ld (a := ⟨H.nx, 0, none⟩) (fun hb => by
    have h1 := k4 _ hb
    have h2 := (AH.get_lt (Option.isSome_iff_exists.1 (ldn_some (ld_ldn.1 d0)).1).choose_spec)
    dsimp only at h1 h2
    omega) (X4.ld d0)))
  have sh := shl_w hw8
  have hl5 : (L.length : Int) ≤ 64 := by omega

  refine Vk_loop (fun k fr H' => H' = H5 ∧ ∃ i : Nat, i + k = L.length ∧ fr.get 2 = .pointer (some ⟨H.nx, 0, none⟩) ∧ fr.get 38 = s' ∧ fr.get 39 = .int .i64 L.length ∧ fr.get 40 = .int .i64 i ∧ ∀ a ∈ L.take i, isWord p.w a = true) ?_ L.length ⟨rfl, 0, by simp, by simp [f2], by simp [hs'], by simp, by simp, by simp⟩
  rintro k' fr' H' ⟨rfl, i', hi', f2, f38, f39, f40, hall⟩
  by_cases h' : i' < L.length
  · obtain ⟨n, hn⟩ : ∃ n, L[i']? = some n := ⟨_, List.getElem?_eq_getElem h'⟩
    obtain ⟨b, o, c', hv', hld⟩ := i5.at hn
    rw [hv'] at f38
    have hF0 : isWord p.w n = false → F = false := fun z => fno (fun q => by have := q.2.2 n (List.mem_of_getElem? hn); rw [z] at this; cases this)
    rw [isWord_p hw8] at hF0
    have wi : IntKind.i64.wrap ((i' : Int) + 1) = (i' : Int) + 1 := wrap_in ⟨by omega, by omega⟩
    by_cases z1 : n < 0
    · simp (maxSteps := 4000000) -implicitDefEqProofs +contextual [-X.ev, f2, f38, f39, f40, h', hld, d0', z1, hF0, X05]
    by_cases z2 : 2 ^ p.w.toNat ≤ n
    · simp (maxSteps := 4000000) -implicitDefEqProofs +contextual [-X.ev, f2, f38, f39, f40, h', hld, d0', z1, sh, z2, hF0, X05]
    simp (maxSteps := 4000000) -implicitDefEqProofs +contextual [-X.ev, f2, f38, f39, f40, h', hld, d0', z1, sh, z2, wi]
    refine ⟨k' - 1, by omega, i' + 1, by omega, hv'.symm, by simp, fun z hz => ?_⟩
    rw [List.take_add_one, hn] at hz
    rcases List.mem_append.1 hz with hz | hz
    · exact hall z hz
    · simp at hz; subst hz; rw [isWord_p hw8]; simp [z1, z2]
  · have hF1 : F = true := by
      rw [List.take_of_length_le (by omega)] at hall
      rw [← hF]
      simp only [isSta, isStore, Bool.and_eq_true, decide_eq_true_eq, List.all_eq_true]
      exact ⟨⟨k1, (hLm _ hall).1⟩, by omega, (hLm _ hall).2⟩
    simp (maxSteps := 4000000) -implicitDefEqProofs +contextual [-X.ev, f2, f38, f39, f40, h', X05, hF1]
theorem MCheck_ca {p : Prg} {t : Sta} {c d : List Value} {H : AH} (hw : H.n0 ≤ H.nx) (hp : PrgC H c p) (ht : StaC H d t) :
    Ca E O 13 [.agg c.toArray, .agg d.toArray] H (fun x H' => x = .int .i64 (chkR p 0 t) ∧ Ext H H') := by
  refine Ca.bodyV (F := a13) rfl rfl rfl ?_
  have hc := hp.len
  have hd : d.length = 2 := by obtain ⟨vs, vp, e, _⟩ := ht.is; rw [e]; rfl
  have X1 := Ext.alloc H (.cells c.length c)
  have q : (H.alloc (.cells c.length c)).ldn ⟨H.nx, 0, none⟩ 3 = some c := ld_box hw 3 (by assumption)
  generalize hH1 : H.alloc (.cells c.length c) = H1 at X1 q
  have hwH1 := X1.wf hw
  have X2 := Ext.alloc H1 (.cells d.length d)
  have r : (H1.alloc (.cells d.length d)).ldn ⟨H1.nx, 0, none⟩ 2 = some d := ld_box hwH1 2 (by assumption)
  generalize hH2 : H1.alloc (.cells d.length d) = H2 at X2 r
  have hwH2 := X2.wf hwH1
  replace q := X2.ldn q
  have X := X1.trans X2
  simp (maxSteps := 4000000) -implicitDefEqProofs +contextual [-X.ev, a13, hH1, hH2, q]
  apply Vx_callM
  · (simp -implicitDefEqProofs [-X.ev]; rfl)
  refine (PCheck_ca hwH2 (hp.ext X)).mono ?_
  rintro x H3 ⟨rfl, X3⟩
  replace q := X3.ldn q
  replace r := X3.ldn r
  have X03 := X.trans X3
  cases h1 : isPrg p with
  | false => 
    simp (maxSteps := 4000000) -implicitDefEqProofs +contextual [-X.ev, h1, chkR, X03]
  | true =>
    simp (maxSteps := 4000000) -implicitDefEqProofs +contextual [-X.ev, q, r]
    apply Vx_callM
    · (simp -implicitDefEqProofs [-X.ev]; rfl)
    refine (isStart_ca (X3.wf hwH2) (hp.ext X03) (ht.ext X03) h1).mono ?_
    rintro x H4 ⟨rfl, X4⟩
    cases h2 : isSta p t with
    | false => 
      simp (maxSteps := 4000000) -implicitDefEqProofs +contextual [-X.ev, h1, h2, chkR, X03.trans X4]
    | true => 
      simp (maxSteps := 4000000) -implicitDefEqProofs +contextual [-X.ev, h1, h2, chkR, X03.trans X4]
end Go.Proofs.YtoijnpfpjpefgaaGreat.A
/- The law MachStarts over the machine. -/
set_option linter.unusedVariables false
set_option linter.unusedSimpArgs false
set_option maxRecDepth 10000
namespace Go.Proofs.YtoijnpfpjpefgaaGreat.A
open Go
theorem awake_ca (H : AH) : Ca E O 12 [] H (fun x H' => x = .bool true ∧ H' = H) := Ca.orc (g := fun z H => match z with | [] => some (.bool true, H) | _ => none) (by rfl) rfl ⟨rfl, rfl⟩
theorem MachStarts_ca {p : Prg} {t : Sta} {c d : List Value} {H : AH} (hw : H.n0 ≤ H.nx) (hp : PrgC H c p) (ht : StaC H d t) :
    Ca E O 3 [.agg c.toArray, .agg d.toArray] H (fun x _ => x = .bool true) := by
  have hp' := hp
  have ht' := ht
  obtain ⟨vv, vb, rb, rfl, hi, hv, hvo, hr, hl, hbl⟩ := hp.is
  obtain ⟨vs, vp, rfl, ss, sp, l1, l2, _, _⟩ := ht.is
  refine Ca.bodyV (F := a3) rfl rfl rfl ?_
  obtain ⟨u1, c1, hvv⟩ := hv.len
  obtain ⟨u2, c2, hvb⟩ := hr.len
  obtain ⟨u3, c3, hvs⟩ := ss.len
  obtain ⟨u4, c4, hvp⟩ := sp.len
  rw [hl.length] at hvb
  have X1 := Ext.alloc H (.cells 3 [.int .i64 p.w, vv, vb])
  have q0 : (H.alloc (.cells 3 [.int .i64 p.w, vv, vb])).ld ⟨H.nx, 0, none⟩ = some (.int .i64 p.w) := ld_new hw rfl
  have q1 : (H.alloc (.cells 3 [.int .i64 p.w, vv, vb])).ld ⟨H.nx, 1, none⟩ = some vv := ld_new hw rfl
  have q2 : (H.alloc (.cells 3 [.int .i64 p.w, vv, vb])).ld ⟨H.nx, 2, none⟩ = some vb := ld_new hw rfl
  have q : (H.alloc (.cells 3 [.int .i64 p.w, vv, vb])).ldn ⟨H.nx, 0, none⟩ 3 = some [.int .i64 p.w, vv, vb] := ld_box hw 3 rfl
  generalize hH1 : H.alloc (.cells 3 [.int .i64 p.w, vv, vb]) = H1 at X1 q0 q1 q2 q
  have hwH1 := X1.wf hw
  have X2 := Ext.alloc H1 (.cells 2 [vs, vp])
  have r0 : (H1.alloc (.cells 2 [vs, vp])).ld ⟨H1.nx, 0, none⟩ = some vs := ld_new hwH1 rfl
  have r1 : (H1.alloc (.cells 2 [vs, vp])).ld ⟨H1.nx, 1, none⟩ = some vp := ld_new hwH1 rfl
  have r : (H1.alloc (.cells 2 [vs, vp])).ldn ⟨H1.nx, 0, none⟩ 2 = some [vs, vp] := ld_box hwH1 2 rfl
  generalize hH2 : H1.alloc (.cells 2 [vs, vp]) = H2 at X2 r0 r1 r
  have hwH2 := X2.wf hwH1
  replace q2 := X2.ld q2
  replace q := X2.ldn q
  have X := X1.trans X2
  simp (maxSteps := 4000000) -implicitDefEqProofs +contextual [-X.ev, a3, hH1, hH2, q2]
  apply Vx_callM
  · (simp -implicitDefEqProofs [-X.ev]; rfl)
  refine (PFits_ca hwH2 hbl (hr.ext X) (hl.ext X) (by omega)).mono ?_
  rintro x H3 ⟨rfl, X3⟩
  by_cases h1 : nodesS p.body ≤ 600
  case neg =>
    simp (maxSteps := 4000000) -implicitDefEqProofs +contextual [-X.ev, h1]
    apply Vx_callM
    · (simp -implicitDefEqProofs [-X.ev]; rfl)
    refine (awake_ca H3).mono ?_
    rintro x H4 ⟨rfl, rfl⟩
    simp (maxSteps := 4000000) -implicitDefEqProofs +contextual [-X.ev]
  have X03 := X.trans X3
  have hw3 := X3.wf hwH2
  replace q := X3.ldn q
  replace r := X3.ldn r
  have q' := q
  have r' := r
  rw [hvv, hvb] at q'
  rw [hvs, hvp] at r'
  simp (maxSteps := 4000000) -implicitDefEqProofs +contextual [-X.ev, h1, q', r']
  rw [← hvv, ← hvb, ← hvs, ← hvp]
  apply Vx_callM
  · (simp -implicitDefEqProofs [-X.ev]; rfl)
  refine (MCheck_ca hw3 (hp'.ext X03) (ht'.ext X03)).mono ?_
  rintro x H4 ⟨rfl, X4⟩
  simp (maxSteps := 4000000) -implicitDefEqProofs +contextual [-X.ev]
  have hw4 := X4.wf hw3
  apply Vx_callM
  · (simp -implicitDefEqProofs [-X.ev]; rfl)
  refine (RCheck_ca hw4 (hp'.ext (X03.trans X4)) (ht'.ext (X03.trans X4))).mono ?_
  rintro x H5 ⟨rfl, X5⟩
  simp (maxSteps := 4000000) -implicitDefEqProofs +contextual [-X.ev]
  apply Vx_callM
  · (simp -implicitDefEqProofs [-X.ev]; rfl)
  refine (awake_ca H5).mono ?_
  rintro x H6 ⟨rfl, rfl⟩
  rw [hvv, hvb, hvs, hvp]
  have q4 := X4.ldn q'
  have r4 := X4.ldn r'
  simp (maxSteps := 4000000) -implicitDefEqProofs +contextual [-X.ev, okD_of, chain_2, chain_1, X4.n0, X4.nx, X5.n0, X5.nx, q', q4, r', r4]
end Go.Proofs.YtoijnpfpjpefgaaGreat.A
