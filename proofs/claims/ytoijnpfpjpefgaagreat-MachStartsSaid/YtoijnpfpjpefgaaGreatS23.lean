/- The law MachStarts over the machine. -/
import Derived.Test.YtoijnpfpjpefgaaGreatS22
set_option linter.unusedVariables false
set_option linter.unusedSimpArgs false
set_option maxRecDepth 10000
namespace Go.Proofs.YtoijnpfpjpefgaaGreat.A
open Go
theorem awake_ca (H : AH) : Ca E O 12 [] H (fun x H' => x = .bool true ∧ H' = H) := Ca.orc (g := fun z H => match z with | [] => some (.bool true, H) | _ => none) (by rfl) rfl ⟨rfl, rfl⟩
theorem MachStarts_ca {p : Prg} {t : Sta} {c d : List Value} {H : AH} (hw : H.n0 ≤ H.nx) (hp : PrgC H c p) (ht : StaC H d t) :
    Ca E O 3 [.agg c.toArray, .agg d.toArray] H (fun x _ => x = .bool true) := by
  have hp' := hp
  have ht' := ht
  obtain ⟨vv, vb, rb, rfl, hi, hv, hvo, hr, hl, hbl⟩ := hp.is
  obtain ⟨vs, vp, rfl, ss, sp, l1, l2, _, _⟩ := ht.is
  refine Ca.bodyV (F := a3) rfl rfl rfl ?_
  obtain ⟨u1, c1, hvv⟩ := hv.len
  obtain ⟨u2, c2, hvb⟩ := hr.len
  obtain ⟨u3, c3, hvs⟩ := ss.len
  obtain ⟨u4, c4, hvp⟩ := sp.len
  rw [hl.length] at hvb
  have X1 := Ext.alloc H (.cells 3 [.int .i64 p.w, vv, vb])
  have q0 : (H.alloc (.cells 3 [.int .i64 p.w, vv, vb])).ld ⟨H.nx, 0, none⟩ = some (.int .i64 p.w) := ld_new hw rfl
  have q1 : (H.alloc (.cells 3 [.int .i64 p.w, vv, vb])).ld ⟨H.nx, 1, none⟩ = some vv := ld_new hw rfl
  have q2 : (H.alloc (.cells 3 [.int .i64 p.w, vv, vb])).ld ⟨H.nx, 2, none⟩ = some vb := ld_new hw rfl
  have q : (H.alloc (.cells 3 [.int .i64 p.w, vv, vb])).ldn ⟨H.nx, 0, none⟩ 3 = some [.int .i64 p.w, vv, vb] := ld_box hw 3 rfl
  generalize hH1 : H.alloc (.cells 3 [.int .i64 p.w, vv, vb]) = H1 at X1 q0 q1 q2 q
  have hwH1 := X1.wf hw
  have X2 := Ext.alloc H1 (.cells 2 [vs, vp])
  have r0 : (H1.alloc (.cells 2 [vs, vp])).ld ⟨H1.nx, 0, none⟩ = some vs := ld_new hwH1 rfl
  have r1 : (H1.alloc (.cells 2 [vs, vp])).ld ⟨H1.nx, 1, none⟩ = some vp := ld_new hwH1 rfl
  have r : (H1.alloc (.cells 2 [vs, vp])).ldn ⟨H1.nx, 0, none⟩ 2 = some [vs, vp] := ld_box hwH1 2 rfl
  generalize hH2 : H1.alloc (.cells 2 [vs, vp]) = H2 at X2 r0 r1 r
  have hwH2 := X2.wf hwH1
  replace q2 := X2.ld q2
  replace q := X2.ldn q
  have X := X1.trans X2
  simp (maxSteps := 4000000) -implicitDefEqProofs +contextual [-X.ev, a3, hH1, hH2, q2]
  apply Vx_callM
  · (simp -implicitDefEqProofs [-X.ev]; rfl)
  refine (PFits_ca hwH2 hbl (hr.ext X) (hl.ext X) (by omega)).mono ?_
  rintro x H3 ⟨rfl, X3⟩
  by_cases h1 : nodesS p.body ≤ 600
  case neg =>
    simp (maxSteps := 4000000) -implicitDefEqProofs +contextual [-X.ev, h1]
    apply Vx_callM
    · (simp -implicitDefEqProofs [-X.ev]; rfl)
    refine (awake_ca H3).mono ?_
    rintro x H4 ⟨rfl, rfl⟩
    simp (maxSteps := 4000000) -implicitDefEqProofs +contextual [-X.ev]
  have X03 := X.trans X3
  have hw3 := X3.wf hwH2
  replace q := X3.ldn q
  replace r := X3.ldn r
  have q' := q
  have r' := r
  rw [hvv, hvb] at q'
  rw [hvs, hvp] at r'
  simp (maxSteps := 4000000) -implicitDefEqProofs +contextual [-X.ev, h1, q', r']
  rw [← hvv, ← hvb, ← hvs, ← hvp]
  apply Vx_callM
  · (simp -implicitDefEqProofs [-X.ev]; rfl)
  refine (MCheck_ca hw3 (hp'.ext X03) (ht'.ext X03)).mono ?_
  rintro x H4 ⟨rfl, X4⟩
  simp (maxSteps := 4000000) -implicitDefEqProofs +contextual [-X.ev]
  have hw4 := X4.wf hw3
  apply Vx_callM
  · (simp -implicitDefEqProofs [-X.ev]; rfl)
  refine (RCheck_ca hw4 (hp'.ext (X03.trans X4)) (ht'.ext (X03.trans X4))).mono ?_
  rintro x H5 ⟨rfl, X5⟩
  simp (maxSteps := 4000000) -implicitDefEqProofs +contextual [-X.ev]
  apply Vx_callM
  · (simp -implicitDefEqProofs [-X.ev]; rfl)
  refine (awake_ca H5).mono ?_
  rintro x H6 ⟨rfl, rfl⟩
  rw [hvv, hvb, hvs, hvp]
  have q4 := X4.ldn q'
  have r4 := X4.ldn r'
  simp (maxSteps := 4000000) -implicitDefEqProofs +contextual [-X.ev, okD_of, chain_2, chain_1, X4.n0, X4.nx, X5.n0, X5.nx, q', q4, r', r4]
end Go.Proofs.YtoijnpfpjpefgaaGreat.A
