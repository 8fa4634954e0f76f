/- Texts that stand one behind the other: S58, S59. -/
import Derived.Test.YtoijnpfpjpefgaaGreatG16
/- The machine's Fork. -/
set_option linter.unusedVariables false
set_option linter.unusedSimpArgs false
set_option maxRecDepth 10000
namespace Go.Proofs.YtoijnpfpjpefgaaGreat.A
open Go
theorem Own.ne {H : AH} {s1 s2 b : Nat} {v1 v2 : Value} {r1 r2 : List (List Value)} (h : Own H s1 v1 r1) (k : Own H s2 v2 r2) (hs : s1 ≠ s2) (hb : blk v1 b) : ¬ blk v2 b := by
  intro hb2
  rcases h.is with ⟨rfl, _⟩ | ⟨b1, rfl, _, g1⟩
  · exact blk_nil _ _ _ hb
  rcases k.is with ⟨rfl, _⟩ | ⟨b2, rfl, _, g2⟩
  · exact blk_nil _ _ _ hb2
  rw [blk_slice] at hb hb2
  subst hb
  subst hb2
  rw [g1] at g2
  simp only [Option.some.injEq, Blk.cells.injEq] at g2
  exact hs g2.1
theorem Fork_ca {G H : AH} {m : Nat} {p : Prg} {ps : List Int} {v : MV} {c : CfM} (h : MacC G H m p ps v c) :
    Ca E O 29 [.pointer (some ⟨m, 0, none⟩)] H (fun x H' => ∃ m' v', x = .pointer (some ⟨m', 0, none⟩) ∧ MacC G H' m' p ps v' c ∧ Ext H H' ∧ ∀ b, Mf m' v' b → H.nx ≤ b) := by
  refine Ca.bodyV (F := a29) rfl rfl rfl ?_
  obtain ⟨rows, hM, hfs, hrl⟩ := h.is
  obtain ⟨m1, m2, m3, m4, m5, m6⟩ := h.mt
  have hw := hM.wf
  have ltm := hM.lt (.inl rfl)
  have l14 : H.ldn ⟨m, 0, none⟩ 14 = some v.cells := by rw [ldn_get hM.get hM.n0 (by simp)]; rfl
  obtain ⟨H1, s1, X1, nx1, n01, g1⟩ := var_new hw (z := 14) (c := [.slice none 0 0, .int .i64 0, .slice none 0 0, .slice none 0 0, .int .i64 0, .slice none 0 0, .int .i64 0, .slice none 0 0, .slice none 0 0, .slice none 0 0, .int .i64 0, .int .i64 0, .int .i64 0, .bool false]) (vs := v.cells) rfl
  have hw1 := X1.wf hw
  have M1 := hM.ext X1
  have r0 := ld_get M1.get M1.n0 (k := 0) (v := v.vf) rfl
  have hfu := h.inv.fuel
  simp (maxSteps := 4000000) -implicitDefEqProofs +contextual [-X.ev, a29, l14, s1, r0]
  apply Vx_callM
  · (simp -implicitDefEqProofs [-X.ev]; rfl)
  refine (Clone_gen (f := 66) (sz := 2) (bytes := 32) rfl rfl hw1 M1.fr.rows (by omega) (by omega)).mono ?_
  rintro vf' H2 ⟨o2, X2, k2⟩
  have hw2 := X2.wf hw1
  have x1 := X1.nx
  have x2 := X2.nx
  obtain ⟨H3, s3, M3, nx3, n03, g3⟩ := st_get (X2.get g1) (by rw [X2.n0, n01]; exact hw) (k := 0) (vs := [vf']) (by simp)
  have hsp3 : splice v.cells 0 [vf'] = vf' :: v.rest := by simp [splice]
  rw [hsp3] at g3
  obtain ⟨fa, fc, hvf⟩ := o2.shape
  have MM := (hM.ext (X1.trans X2)).mod M3 (fun b hb q => by have := hM.lt q; omega) (fun b hb => AH.get_ge (by have := hM.sub.nx; omega))
  have l6 : H3.ldn ⟨m, 6, none⟩ 7 = some [.int .i64 c.run.en, v.vs, v.vo, v.vt, .int .i64 c.run.cost, .int .i64 c.run.used, .int .i64 c.run.wh] := by
    rw [ldn_get MM.get MM.n0 (by simp)]
    show some [Value.int .i64 v.en, v.vs, v.vo, v.vt, .int .i64 v.cost, .int .i64 v.used, .int .i64 v.wh] = _
    rw [m1, m2, m3, m4]; rfl
  have key := copied_ca (r := c.run) MM.wf MM.st.rows MM.ou.rows MM.tr.rows (small_inv h.inv)
  have i1 : isTup vf' = false := by rw [hvf]; rfl
  have v1 : vcells vf' = [vf'] := by rw [hvf]; rfl
  simp (maxSteps := 4000000) -implicitDefEqProofs +contextual [-X.ev, i1, v1, s3, l6]
  apply Vx_callM
  · (simp -implicitDefEqProofs [-X.ev]; rfl)
  refine (key).mono ?_
  rintro xx H4 ⟨cs, rfl, hc, X4⟩
  obtain ⟨vs', vo', vt', rfl, os, oo, ot, hfr⟩ := hc.is
  have x4 := X4.nx
  obtain ⟨H5, s5, M5, nx5, n05, g5⟩ := st_get (X4.get g3) (by rw [X4.n0, n03, X2.n0, n01]; exact hw) (k := 6) (vs := [.int .i64 c.run.en, vs', vo', vt', .int .i64 c.run.cost, .int .i64 c.run.used, .int .i64 c.run.wh]) (by simp)
  obtain ⟨v', hv'⟩ : ∃ v' : MV, (⟨vf', v.w, v.vv, v.vb, v.fuel, v.vp, c.en, vs', vo', vt', c.cost, c.used, c.wh, v.ended⟩ : MV) = v' := ⟨_, rfl⟩
  have hsp5 : splice (vf' :: v.rest) 6 [.int .i64 c.run.en, vs', vo', vt', .int .i64 c.run.cost, .int .i64 c.run.used, .int .i64 c.run.wh] = v'.cells := by rw [← hv']; rfl
  rw [hsp5] at g5
  simp (maxSteps := 4000000) -implicitDefEqProofs +contextual [-X.ev, s5]
  have XX : Ext H H5 := (((X1.trans X2).mod M3 (fun b hb => by omega)).trans X4).mod M5 (fun b hb => by omega)
  have of5 : Own H5 2 vf' rows := ((o2.mod M3 (fun b hb q => by have := k2 b hb; omega)).ext X4).mod M5 (fun b hb q => by have := k2 b hb; omega)
  have os5 : Own H5 1 vs' (intRows c.store) := os.mod M5 (fun b hb q => by have := hfr b (.inl hb); omega)
  have oo5 : Own H5 2 vo' (outRows c.outs) := oo.mod M5 (fun b hb q => by have := hfr b (.inr (.inl hb)); omega)
  have ot5 : Own H5 3 vt' (evRows c.trace) := ot.mod M5 (fun b hb q => by have := hfr b (.inr (.inr hb)); omega)
  have e : v'.vf = vf' ∧ v'.vs = vs' ∧ v'.vo = vo' ∧ v'.vt = vt' := by rw [← hv']; exact ⟨rfl, rfl, rfl, rfl⟩
  obtain ⟨e1, e2, e3, e4⟩ := e
  have hfoot : ∀ b, Mf H.nx v' b → H.nx ≤ b := fun b hb => by
    unfold Mf at hb
    rw [e1, e2, e3, e4] at hb
    rcases hb with q | q | q | q | q
    · omega
    · have := k2 b q; omega
    · have := hfr b (.inl q); omega
    · have := hfr b (.inr (.inl q)); omega
    · have := hfr b (.inr (.inr q)); omega
  have hMH : MH G H5 H.nx v' rows c.store c.outs c.trace :=
    { get := g5, n0 := by rw [XX.n0]; exact hw, sub := hM.sub.exto XX, wf := XX.wf hw, fr := by rw [e1]; exact of5.ownr, st := by rw [e2]; exact os5, ou := by rw [e3]; exact oo5, tr := by rw [e4]; exact ot5
      d1 := by
        rw [e1, e2, e3, e4]
        exact ⟨fun q => by have := k2 _ q; omega, fun q => by have := hfr _ (.inl q); omega, fun q => by have := hfr _ (.inr (.inl q)); omega, fun q => by have := hfr _ (.inr (.inr q)); omega⟩
      d2 := by
        rw [e1, e2, e3, e4]
        exact fun b hb => ⟨of5.ne os5 (by omega) hb, fun q => by have := hfr _ (.inr (.inl q)); have := o2.lt hb; omega, of5.ne ot5 (by omega) hb⟩
      d3 := by
        rw [e2, e3, e4]
        exact fun b hb => ⟨os5.ne oo5 (by omega) hb, os5.ne ot5 (by omega) hb⟩
      d4 := by
        rw [e3, e4]
        exact fun b hb => oo5.ne ot5 (by omega) hb
      out := fun b hb => AH.get_ge (by have := hM.sub.nx; have := hfoot b hb; omega) }
  exact ⟨v', { is := ⟨rows, hMH, hfs, hrl⟩, w := by rw [← hv']; exact h.w, vars := by rw [← hv']; exact h.vars, cap := by rw [← hv']; exact h.cap, picks := by rw [← hv']; exact h.picks, mt := by rw [← hv']; exact ⟨rfl, rfl, rfl, rfl, m5, m6⟩, inv := h.inv, ov := h.ov }, XX, hfoot⟩
end Go.Proofs.YtoijnpfpjpefgaaGreat.A
/- The law MachBoth over the machine. -/
set_option linter.unusedVariables false
set_option linter.unusedSimpArgs false
set_option maxRecDepth 10000
namespace Go.Proofs.YtoijnpfpjpefgaaGreat.A
open Go
theorem stop_ended {p : Prg} {ps : List Int} {c : CfM} (h : (!endedM c && !(stepM p ps c).over) = false) : endedM (stepM p ps c) = true := by
  cases he : endedM c with
  | true => rw [ended_step he]; exact he
  | false =>
    rw [he] at h
    simp at h
    simp [endedM, h]
theorem MacC.none {G H : AH} {m : Nat} {p : Prg} {ps : List Int} {v : MV} {c : CfM} (h : MacC G H m p ps v c) {b : Nat} (hb : Mf m v b) : G.get b = none ∧ b < H.nx := by
  obtain ⟨rows, hM, _⟩ := h.is
  exact ⟨hM.out b hb, hM.lt hb⟩
/-- The fork of a machine, if there is one. -/
def Fkd (G H : AH) (p : Prg) (ps : List Int) (fin : CfM) (fuel : Int) (n6 m : Nat) (v : MV) (fk : Option Addr) : Prop :=
  ∀ a, fk = some a → ∃ m2 v2 c2, a = ⟨m2, 0, none⟩ ∧ MacC G H m2 p ps v2 c2 ∧ (∀ b, Mf m2 v2 b → n6 ≤ b) ∧ finM p ps c2 = fin ∧ c2.fuel ≤ fuel ∧ ∀ b, Mf m v b → ¬ Mf m2 v2 b
theorem MachBoth_ca {p : Prg} {t : Sta} {c d : List Value} {fuel at_ : Int} {H : AH} (hw : H.n0 ≤ H.nx) (hfi : I64 fuel) (hat : 0 ≤ at_ ∧ at_ < 256) (hp : PrgC H c p) (ht : StaC H d t) :
    Ca E O 9 [.agg c.toArray, .int .i64 fuel, .agg d.toArray, .int .u8 at_] H (fun x _ => x = .bool true) := by
  have hp' := hp
  have ht' := ht
  obtain ⟨vv, vb, rb, rfl, hi, hv, hvo, hr, hl, hbl⟩ := hp.is
  obtain ⟨vs, vp, rfl, ss, sp, l1, l2, _, _⟩ := ht.is
  refine Ca.bodyV (F := a9) rfl rfl rfl ?_
  obtain ⟨u1, c1, hvv⟩ := hv.len
  obtain ⟨u2, c2, hvb⟩ := hr.len
  rw [hl.length] at hvb
  have X1 := Ext.alloc H (.cells 3 [.int .i64 p.w, vv, vb])
  have q0 : (H.alloc (.cells 3 [.int .i64 p.w, vv, vb])).ld ⟨H.nx, 0, none⟩ = some (.int .i64 p.w) := ld_new hw rfl
  have q1 : (H.alloc (.cells 3 [.int .i64 p.w, vv, vb])).ld ⟨H.nx, 1, none⟩ = some vv := ld_new hw rfl
  have q2 : (H.alloc (.cells 3 [.int .i64 p.w, vv, vb])).ld ⟨H.nx, 2, none⟩ = some vb := ld_new hw rfl
  have q : (H.alloc (.cells 3 [.int .i64 p.w, vv, vb])).ldn ⟨H.nx, 0, none⟩ 3 = some [.int .i64 p.w, vv, vb] := ld_box hw 3 rfl
  generalize hH1 : H.alloc (.cells 3 [.int .i64 p.w, vv, vb]) = H1 at X1 q0 q1 q2 q
  have hwH1 := X1.wf hw
  have X2 := Ext.alloc H1 (.cells 2 [vs, vp])
  have r0 : (H1.alloc (.cells 2 [vs, vp])).ld ⟨H1.nx, 0, none⟩ = some vs := ld_new hwH1 rfl
  have r1 : (H1.alloc (.cells 2 [vs, vp])).ld ⟨H1.nx, 1, none⟩ = some vp := ld_new hwH1 rfl
  have r : (H1.alloc (.cells 2 [vs, vp])).ldn ⟨H1.nx, 0, none⟩ 2 = some [vs, vp] := ld_box hwH1 2 rfl
  generalize hH2 : H1.alloc (.cells 2 [vs, vp]) = H2 at X2 r0 r1 r
  have hwH2 := X2.wf hwH1
  replace q0 := X2.ld q0
  replace q1 := X2.ld q1
  replace q2 := X2.ld q2
  replace q := X2.ldn q
  have X := X1.trans X2
  simp (maxSteps := 4000000) -implicitDefEqProofs +contextual [-X.ev, a9, hH1, hH2, q2]
  apply Vx_callM
  · (simp -implicitDefEqProofs [-X.ev]; rfl)
  refine (PFits_ca hwH2 hbl (hr.ext X) (hl.ext X) (by omega)).mono ?_
  rintro x H3 ⟨rfl, X3⟩
  by_cases h1 : nodesS p.body ≤ 600
  case neg =>
    simp (maxSteps := 4000000) -implicitDefEqProofs +contextual [-X.ev, h1]
    apply Vx_callM
    · (simp -implicitDefEqProofs [-X.ev]; rfl)
    refine (awake_ca H3).mono ?_
    rintro x H4 ⟨rfl, rfl⟩
    simp (maxSteps := 4000000) -implicitDefEqProofs +contextual [-X.ev]
  have X03 := X.trans X3
  have hw3 := X3.wf hwH2
  replace q0 := X3.ld q0
  replace q1 := X3.ld q1
  replace q2 := X3.ld q2
  replace q := X3.ldn q
  replace r := X3.ldn r
  simp (maxSteps := 4000000) -implicitDefEqProofs +contextual [-X.ev, h1, q, r]
  apply Vx_callM
  · (simp -implicitDefEqProofs [-X.ev]; rfl)
  refine (RCheck_ca (fuel := fuel) hw3 (hp'.ext X03) (ht'.ext X03)).mono ?_
  rintro x H4 ⟨rfl, X4⟩
  by_cases hk : chkR p fuel t = 0
  case neg =>
    simp (maxSteps := 4000000) -implicitDefEqProofs +contextual [-X.ev, hk]
    apply Vx_callM
    · (simp -implicitDefEqProofs [-X.ev]; rfl)
    refine (awake_ca H4).mono ?_
    rintro x H5 ⟨rfl, rfl⟩
    simp (maxSteps := 4000000) -implicitDefEqProofs +contextual [-X.ev]
  obtain ⟨hinv, _, hf1, hf2, _⟩ := inv_begin hk
  have X04 := X03.trans X4
  have hw4 := X4.wf hw3
  replace q0 := X4.ld q0
  replace q1 := X4.ld q1
  replace q2 := X4.ld q2
  replace q := X4.ldn q
  replace r := X4.ldn r
  simp (maxSteps := 4000000) -implicitDefEqProofs +contextual [-X.ev, hk, q, r]
  apply Vx_callM
  · (simp -implicitDefEqProofs [-X.ev]; rfl)
  refine (MRun_ca (fuel := fuel) hw4 (hp'.ext X04) (ht'.ext X04)).mono ?_
  rintro x H5 ⟨cs, rfl, ra, X5⟩
  have hw5 := X5.wf hw4
  have sa := runP_small hk
  obtain ⟨fin, hfin⟩ : ∃ f, finM p t.picks (beginM p fuel t) = f := ⟨_, rfl⟩
  have hA : runP p fuel t = fin.run := by rw [runP, if_pos hk, hfin]
  rw [hA] at ra sa
  obtain ⟨vs1, vo1, vt1, rfl, os1, oo1, ot1, f1⟩ := ra.is
  obtain ⟨H6, sH6, X6, nxH6, n0H6, y, lH6⟩ := st_new (H := H5) hw5 (z := 7) (c := [.int .i64 0, .slice none 0 0, .slice none 0 0, .slice none 0 0, .int .i64 0, .int .i64 0, .int .i64 0]) (vs := [.int .i64 fin.run.en, vs1, vo1, vt1, .int .i64 fin.run.cost, .int .i64 fin.run.used, .int .i64 fin.run.wh]) rfl
  have y0 : H6.ld ⟨H5.nx, 0, none⟩ = some (.int .i64 fin.run.en) := lH6 0 _ rfl
  have y1 : H6.ld ⟨H5.nx, 1, none⟩ = some vs1 := lH6 1 _ rfl
  have y2 : H6.ld ⟨H5.nx, 2, none⟩ = some vo1 := lH6 2 _ rfl
  have y3 : H6.ld ⟨H5.nx, 3, none⟩ = some vt1 := lH6 3 _ rfl
  have y4 : H6.ld ⟨H5.nx, 4, none⟩ = some (.int .i64 fin.run.cost) := lH6 4 _ rfl
  have y5 : H6.ld ⟨H5.nx, 5, none⟩ = some (.int .i64 fin.run.used) := lH6 5 _ rfl
  have y6 : H6.ld ⟨H5.nx, 6, none⟩ = some (.int .i64 fin.run.wh) := lH6 6 _ rfl
  clear lH6
  replace y : H6.ldn ⟨H5.nx, 0, none⟩ 7 = some [.int .i64 fin.run.en, vs1, vo1, vt1, .int .i64 fin.run.cost, .int .i64 fin.run.used, .int .i64 fin.run.wh] := y
  have hwH6 := X6.wf hw5
  have X46 := X5.trans X6
  replace q := X46.ldn q
  replace r := X46.ldn r
  have R1 := (RunO.toR ra sa).ext X6
  simp (maxSteps := 4000000) -implicitDefEqProofs +contextual [-X.ev, sH6, q, r, hk]
  apply Vx_callM
  · (simp -implicitDefEqProofs [-X.ev]; rfl)
  refine (New_ca (fuel := fuel) hwH6 (hp'.ext (X04.trans X46)) (ht'.ext (X04.trans X46))).mono ?_
  rintro x H7 hx
  rw [if_pos hk] at hx
  obtain ⟨m, rfl, G, v, hM, X7, hfoot, hG⟩ := hx
  simp (maxSteps := 4000000) -implicitDefEqProofs +contextual [-X.ev, hk]
  refine Vk_loop (fun k fr H' => Ext H6 H' ∧ ∃ (v : MV) (c' : CfM) (n : Nat) (fk : Option Addr), MacC G H' m p t.picks v c' ∧ (∀ b, Mf m v b → H6.nx ≤ b) ∧ finM p t.picks c' = fin ∧ (n : Int) + c'.fuel = fuel ∧ k = c'.fuel.toNat ∧ fr.get 1 = .int .i64 fuel ∧ fr.get 3 = .int .u8 at_ ∧ fr.get 9 = .pointer (some ⟨H5.nx, 0, none⟩) ∧ fr.get 11 = .pointer (some ⟨m, 0, none⟩) ∧ fr.get 13 = .pointer fk ∧ fr.get 14 = .int .i64 n ∧
    Fkd G H' p t.picks fin fuel H6.nx m v fk) ?_ _ ⟨X7, v, beginM p fuel t, 0, none, hM, hfoot, hfin, by show ((0 : Nat) : Int) + fuel = fuel; omega, rfl, by simp, by simp, by simp, by simp, by simp, by simp, fun a h => by cases h⟩
  clear hinv
  rintro k fr H8 ⟨X8, v8, c8, n, fk, hM8, hfoot8, hfin8, hn8, rfl, g1, g3, g9, g11, g13, g14, hfk⟩
  have hfu := hM8.inv.fuel
  have w1 : IntKind.i64.wrap (fuel + 1) = fuel + 1 := wrap_in ⟨by omega, by omega⟩
  have hle : (n : Int) ≤ fuel + 1 := by omega
  simp (maxSteps := 4000000) -implicitDefEqProofs +contextual [-X.ev, g1, g11, g14, w1, hle]
  apply Vx_callM
  · (simp -implicitDefEqProofs [-X.ev]; rfl)
  refine (Step_ca hM8).mono ?_
  rintro x H9 ⟨rfl, v9, hM9, M9, hn9, hsm9⟩
  have X9 : Ext H6 H9 := X8.mod M9 hfoot8
  have x89 := M9.nx
  have hfoot9 : ∀ b, Mf m v9 b → H6.nx ≤ b := fun b hb => by
    rcases hn9 b hb with q | q
    · exact hfoot8 b q
    · have := X8.nx; omega
  have hfk9 : Fkd G H9 p t.picks fin fuel H6.nx m v9 fk := fun a ha => by
    obtain ⟨m2, v2, c2, e, k1, k2, k3, k4, k5⟩ := hfk a ha
    refine ⟨m2, v2, c2, e, k1.mod M9 (fun b hb q => k5 b hb q) (fun b hb => (hM8.none hb).1), k2, k3, k4, fun b hb q => ?_⟩
    rcases hn9 b hb with u | u
    · exact k5 b u q
    · have := (k1.none q).2; omega
  obtain ⟨c9, hc9⟩ : ∃ c9, stepM p t.picks c8 = c9 := ⟨_, rfl⟩
  cases hgo : (!endedM c8 && !(stepM p t.picks c8).over) with
  | true =>
    obtain ⟨e1, e2, e3⟩ := fin_go hM8.inv.fuel.1 hgo
    have w2 : IntKind.i64.wrap ((n : Int) + 1) = (n : Int) + 1 := wrap_in ⟨by omega, by omega⟩
    have w3 : IntKind.i64.wrap at_ = at_ := wrap_in ⟨by omega, by omega⟩
    have hlt : (stepM p t.picks c8).fuel.toNat < c8.fuel.toNat := by omega
    by_cases ha : (n : Int) = at_
    · simp (maxSteps := 4000000) -implicitDefEqProofs +contextual [-X.ev, hgo, g1, g3, g9, g11, g13, g14, w3, ha]
      apply Vx_callM
      · (simp -implicitDefEqProofs [-X.ev]; rfl)
      refine (Fork_ca hM9).mono ?_
      rintro x Ha ⟨m2, v2, rfl, hM2, Xa, hfoot2⟩
      have w4 : IntKind.i64.wrap (at_ + 1) = at_ + 1 := wrap_in ⟨by omega, by omega⟩
      simp (maxSteps := 4000000) -implicitDefEqProofs +contextual [-X.ev, g1, g3, g9, g11, g13, g14, ha, w4]
      have x9a := Xa.nx
      have x69 := X9.nx
      exact ⟨_, by omega, X9.trans Xa, v9, _, hM9.ext Xa, hfoot9, e1.trans hfin8, n + 1, by omega, rfl, by omega, fun a ha => by cases ha; exact ⟨m2, v2, _, rfl, hM2, fun b hb => by have := hfoot2 b hb; omega, e1.trans hfin8, by omega, fun b hb q => by have := (hM9.none hb).2; have := hfoot2 b q; omega⟩⟩
    · simp (maxSteps := 4000000) -implicitDefEqProofs +contextual [-X.ev, hgo, g1, g3, g9, g11, g13, g14, w2, w3, ha]
      exact ⟨_, by omega, X9, v9, _, hM9, hfoot9, e1.trans hfin8, n + 1, by omega, rfl, by omega, hfk9⟩
  | false =>
    have hs : stepM p t.picks c8 = fin := (fin_stop hgo).symm.trans hfin8
    have hend := stop_ended hgo
    rw [hs] at hM9 hend
    have sf := small_inv hM9.inv
    simp (maxSteps := 4000000) -implicitDefEqProofs +contextual [-X.ev, hgo, g1, g3, g9, g11, g13, g14]
    apply Vx_callM
    · (simp -implicitDefEqProofs [-X.ev]; rfl)
    refine (mRun_ca hM9).mono ?_
    rintro x Hb ⟨cs1, rfl, hrun, Xb⟩
    have hcs1 := hrun.len
    have hwb := (X9.trans Xb).wf hwH6
    obtain ⟨Hc, sc, Xc, nxc, n0c, gc⟩ := var_new hwb (z := 7) (c := zR) (vs := cs1) (by rw [hcs1]; rfl)
    have hwc := Xc.wf hwb
    have X9c := Xb.trans Xc
    have X6c := X9.trans X9c
    have lz : Hc.ldn ⟨Hb.nx, 0, none⟩ 7 = some cs1 := by rw [ldn_get gc (by rw [n0c]; exact hwb) (by omega)]; simp [List.take_of_length_le (Nat.le_of_eq hcs1)]
    have yc := X6c.ldn y
    have R2 := (RunO.toR hrun sf).ext Xc
    simp (maxSteps := 4000000) -implicitDefEqProofs +contextual [-X.ev, hcs1, sc, hend, lz, g9, yc]
    apply Vx_callM
    · (simp -implicitDefEqProofs [-X.ev]; rfl)
    refine (SameRun_ca hwc R2 (R1.ext X6c)).mono ?_
    rintro x Hd ⟨rfl, Xd⟩
    have hwd := Xd.wf hwc
    have X6d := X6c.trans Xd
    cases fk with
    | none =>
      simp (maxSteps := 4000000) -implicitDefEqProofs +contextual [-X.ev, g13]
      apply Vx_callM
      · (simp -implicitDefEqProofs [-X.ev]; rfl)
      refine (awake_ca Hd).mono ?_
      rintro x He ⟨rfl, rfl⟩
      simp (maxSteps := 4000000) -implicitDefEqProofs +contextual [-X.ev]
    | some a =>
      obtain ⟨m2, v2, c2, rfl, hM2, hfoot2, hfin2, hfu2, hdis⟩ := hfk9 a rfl
      have hM2d := hM2.ext (X9c.trans Xd)
      have xb := Xb.nx
      have xc := Xc.nx
      have xd := Xd.nx
      have x69 := X9.nx
      have gd := Xd.get gc
      simp (maxSteps := 4000000) -implicitDefEqProofs +contextual [-X.ev, g13]
      refine Vk_loop (fun k fr H' => Ext H6 H' ∧ H'.get Hb.nx = some (.cells 7 cs1) ∧ Hd.nx ≤ H'.nx ∧ ∃ (v2 : MV) (c2 : CfM) (i : Nat), MacC G H' m2 p t.picks v2 c2 ∧ (∀ b, Mf m2 v2 b → H6.nx ≤ b ∧ b ≠ Hb.nx) ∧ finM p t.picks c2 = fin ∧ (i : Int) + c2.fuel ≤ fuel ∧ k = c2.fuel.toNat ∧ fr.get 1 = .int .i64 fuel ∧ fr.get 9 = .pointer (some ⟨H5.nx, 0, none⟩) ∧ fr.get 13 = .pointer (some ⟨m2, 0, none⟩) ∧ fr.get 15 = .pointer (some ⟨Hb.nx, 0, none⟩) ∧ fr.get 17 = .int .i64 i) ?_ _ ⟨X6d, gd, Nat.le_refl _, v2, c2, 0, hM2d, fun b hb => ⟨hfoot2 b hb, fun q => by have := (hM2.none hb).2; omega⟩, hfin2, by omega, rfl, by simp [g1], by simp [g9], by simp [g13], by simp, by simp⟩
      clear g1 g3 g9 g11 g13 g14 fr
      rintro k fr Ha ⟨Xa, ga, nxa, v3, c3, i, hM3, hfoot3, hfin3, hi3, rfl, g1, g9, g13, g15, g17⟩
      have hfu3 := hM3.inv.fuel
      have hle3 : (i : Int) ≤ fuel + 1 := by omega
      simp (maxSteps := 4000000) -implicitDefEqProofs +contextual [-X.ev, g1, g13, g17, w1, hle3]
      apply Vx_callM
      · (simp -implicitDefEqProofs [-X.ev]; rfl)
      refine (Step_ca hM3).mono ?_
      rintro x He ⟨rfl, v4, hM4, M4, hn4, hsm4⟩
      have X4' : Ext H6 He := Xa.mod M4 (fun b hb => (hfoot3 b hb).1)
      have ge := M4.get (fun q => (hfoot3 _ q).2 rfl) ga
      have x4x := M4.nx
      have hfoot4 : ∀ b, Mf m2 v4 b → H6.nx ≤ b ∧ b ≠ Hb.nx := fun b hb => by
        rcases hn4 b hb with q | q
        · exact hfoot3 b q
        · have := Xa.nx; exact ⟨by omega, by omega⟩
      cases hgo2 : (!endedM c3 && !(stepM p t.picks c3).over) with
      | true =>
        obtain ⟨e1, e2, e3⟩ := fin_go hM3.inv.fuel.1 hgo2
        have w2 : IntKind.i64.wrap ((i : Int) + 1) = (i : Int) + 1 := wrap_in ⟨by omega, by omega⟩
        simp (maxSteps := 4000000) -implicitDefEqProofs +contextual [-X.ev, hgo2, g1, g9, g13, g15, g17, w2]
        exact ⟨_, by omega, X4', ge, by omega, v4, _, hM4, hfoot4, e1.trans hfin3, i + 1, by omega, rfl, by omega⟩
      | false =>
        have hs4 : stepM p t.picks c3 = fin := (fin_stop hgo2).symm.trans hfin3
        rw [hs4] at hM4
        simp (maxSteps := 4000000) -implicitDefEqProofs +contextual [-X.ev, hgo2, g1, g9, g13, g15, g17]
        apply Vx_callM
        · (simp -implicitDefEqProofs [-X.ev]; rfl)
        refine (mRun_ca hM4).mono ?_
        rintro x Hf ⟨cs3, rfl, hrun3, Xf⟩
        have hcs3 := hrun3.len
        have xf := Xf.nx
        have hwf := (X4'.trans Xf).wf hwH6
        have n0f : Hf.n0 ≤ Hb.nx := by rw [(X4'.trans Xf).n0, ← X6d.n0, Xd.n0, n0c]; exact hwb
        obtain ⟨Hg, sg, Mg, nxg, n0g, gg⟩ := st_get (Xf.get ge) n0f (k := 0) (vs := cs3) (by simp [hcs1, hcs3])
        rw [splice_all _ _ (by rw [hcs1, hcs3])] at gg
        have lg : Hg.ldn ⟨Hb.nx, 0, none⟩ 7 = some cs3 := by rw [ldn_get gg (by rw [n0g]; exact n0f) (by omega)]; simp [List.take_of_length_le (Nat.le_of_eq hcs3)]
        have XG : Ext H6 Hg := (X4'.trans Xf).mod Mg (fun b hb => by omega)
        have yg := XG.ldn y
        have R3 := RunO.toR (hrun3.mod Mg (fun b hb => by omega)) sf
        simp (maxSteps := 4000000) -implicitDefEqProofs +contextual [-X.ev, hcs3, sg, hend, lg, g9, g15, yg]
        apply Vx_callM
        · (simp -implicitDefEqProofs [-X.ev]; rfl)
        refine (SameRun_ca (XG.wf hwH6) R3 (R1.ext XG)).mono ?_
        rintro x Hh ⟨rfl, Xh⟩
        simp (maxSteps := 4000000) -implicitDefEqProofs +contextual [-X.ev]
        apply Vx_callM
        · (simp -implicitDefEqProofs [-X.ev]; rfl)
        refine (awake_ca Hh).mono ?_
        rintro x Hi ⟨rfl, rfl⟩
        simp (maxSteps := 4000000) -implicitDefEqProofs +contextual [-X.ev]
end Go.Proofs.YtoijnpfpjpefgaaGreat.A
