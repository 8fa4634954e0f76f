/- Texts that stand one behind the other: S44, S45, S46, S47, S48, S49, S50, S51, S52, S53. -/
import Derived.Test.YtoijnpfpjpefgaaGreatG14
/- The machine's acts: conditions. -/
set_option linter.unusedVariables false
set_option linter.unusedSimpArgs false
set_option maxRecDepth 10000
namespace Go.Proofs.YtoijnpfpjpefgaaGreat.A
open Go
section
variable {G H : AH} {m : Nat} {p : Prg} {ps : List Int} {v : MV} {c : CfM} {rows0 rs : List (List Value)} {fs0 : List (List Stm × Int)} {vl : Value} {cs : List Value} {k : Int} {s : Stm} {l : List Stm}
theorem Adv.ou {H' : AH} {rows : List (List Value)} {store : List Int} {outs outs' : List (Int × Int)} {trace : List Ev} {vo : Value} (h : MH G H m v rows store outs trace) (M : Mod (fun b => b = m ∨ blk v.vo b) H H') (h' : MH G H' m { v with vo := vo } rows store outs' trace) (hf : ∀ b, blk vo b → blk v.vo b ∨ H.nx ≤ b) : Adv G H m v H' { v with vo := vo } rows store outs' trace where
  mh := h'
  mod := M.mono fun b _ q => q.elim .inl fun q => .inr (.inr (.inr (.inl q)))
  new := fun b hb => by
    rcases hb with q | q | q | q | q
    · exact .inl (.inl q)
    · exact .inl (.inr (.inl q))
    · exact .inl (.inr (.inr (.inl q)))
    · exact (hf b q).imp (fun q => .inr (.inr (.inr (.inl q)))) id
    · exact .inl (.inr (.inr (.inr (.inr q))))
theorem mneed_ca {n : Int} {args : List Exp} {thn els : List Stm} (h : Atm G H m p ps v c rows0 fs0 vl cs rs k (.mk 5 n args thn els) l) :
    ActsAs G H 58 m p ps v c rows0.length fs0 cs k (.mk 5 n args thn els) l := need_gen (how := 1) rfl rfl (.inl ⟨rfl, rfl⟩) h
theorem mmust_ca {n : Int} {args : List Exp} {thn els : List Stm} (h : Atm G H m p ps v c rows0 fs0 vl cs rs k (.mk 6 n args thn els) l) :
    ActsAs G H 59 m p ps v c rows0.length fs0 cs k (.mk 6 n args thn els) l := need_gen (how := 2) rfl rfl (.inr ⟨rfl, rfl⟩) h
theorem row1 {w : Int} {V : List Vr} {op n : Int} {args : List Exp} {thn els : List Stm} (h : rowSt w V (.mk op n args thn els) = true) (ho : op = 1 ∨ op = 2 ∨ op = 3) : ∃ y, args = [y] ∧ formE w V 1 y = true ∧ nodesE y ≤ 400 := by
  obtain ⟨hall, _, _, hrc⟩ := row_cases h
  obtain ⟨y, rfl⟩ : ∃ y, args = [y] := by
    rcases hrc with ⟨q, _⟩ | ⟨_, q⟩ | ⟨_, q⟩ | ⟨_, q⟩ | ⟨q, _⟩ | ⟨q, _⟩
    · omega
    · exact q
    · exact q
    · exact q
    · omega
    · omega
  exact ⟨y, rfl, hall y (by simp)⟩
theorem choose_ca {n : Int} {args : List Exp} {thn els : List Stm} (h : Atm G H m p ps v c rows0 fs0 vl cs rs k (.mk 1 n args thn els) l) :
    ActsAs G H 54 m p ps v c rows0.length fs0 cs k (.mk 1 n args thn els) l := by
  intro c' hc'
  obtain ⟨y, rfl, hfy, hny⟩ := row1 h.row (by omega)
  have hact : c' = { evaldM p c (.mk 1 n [y] thn els) (nextM l k (.mk 1 n [y] thn els) fs0) with trace := (evaldM p c (.mk 1 n [y] thn els) (nextM l k (.mk 1 n [y] thn els) fs0)).trace ++ [⟨0, k, if valE p.w p.vars [c.store] y = 0 then 0 else 1⟩], todo := (if valE p.w p.vars [c.store] y = 0 then itemsM els (k + 1 + countS thn) else itemsM thn (k + 1)) ++ nextM l k (.mk 1 n [y] thn els) fs0 } := by
    rw [hc', actM, if_neg (by omega), if_pos rfl]; rfl
  clear hc'
  obtain ⟨m1, m2, m3, m4, m5, m6⟩ := h.mt
  have hcs := h.hs
  cases hcs with | @mk _ _ va vt ve ra rt re _ _ _ i1 i2 i3 i4 i5 g1 g2 g3 g4 g5 g6 g7 g8 =>
  refine Ca.bodyV (F := a54) rfl rfl rfl ?_
  have hw := h.mh.wf
  have X1 := Ext.alloc H (.cells 5 [.int .i64 1, .int .i64 n, va, vt, ve])
  have d0 : (H.alloc (.cells 5 [.int .i64 1, .int .i64 n, va, vt, ve])).ld ⟨H.nx, 0, none⟩ = some (.int .i64 1) := ld_new hw rfl
  have d1 : (H.alloc (.cells 5 [.int .i64 1, .int .i64 n, va, vt, ve])).ld ⟨H.nx, 1, none⟩ = some (.int .i64 n) := ld_new hw rfl
  have d2 : (H.alloc (.cells 5 [.int .i64 1, .int .i64 n, va, vt, ve])).ld ⟨H.nx, 2, none⟩ = some va := ld_new hw rfl
  have d3 : (H.alloc (.cells 5 [.int .i64 1, .int .i64 n, va, vt, ve])).ld ⟨H.nx, 3, none⟩ = some vt := ld_new hw rfl
  have d4 : (H.alloc (.cells 5 [.int .i64 1, .int .i64 n, va, vt, ve])).ld ⟨H.nx, 4, none⟩ = some ve := ld_new hw rfl
  have d : (H.alloc (.cells 5 [.int .i64 1, .int .i64 n, va, vt, ve])).ldn ⟨H.nx, 0, none⟩ 5 = some [.int .i64 1, .int .i64 n, va, vt, ve] := ld_box hw 5 rfl
  generalize hH1 : H.alloc (.cells 5 [.int .i64 1, .int .i64 n, va, vt, ve]) = H1 at X1 d0 d1 d2 d3 d4 d
  have hwH1 := X1.wf hw
  have h1 := h.mh.ext X1
  have b7 := h.b7
  have b5 := h.b5
  have b1 := h.b1
  have b2 := h.b2
  have b3 := h.b3
  rw [nodesSt] at b3
  have b4 := h.b4
  have pa := nodesL_pos [y]
  have bt := countS_bound thn
  have lt1 := nodesS_len thn
  have le1 := nodesS_len els
  have be := countS_bound els
  have hw' := h.w
  have hpw := h.w.symm
  have key := mbranch_ca (op := 1) (n := n) (vt := vt) (ve := ve) (k := k) h1 (by rw [hw']; exact h.head) (by rw [hw']; exact h.store) h.vars h.cap g1 g2 (y := y) rfl (by rw [hw']; exact hfy) (by omega) (by rw [m2]; omega)
  have A1 := Adv.ofExt h.mh X1
  have ev : evL p.w p.vars [c.store] [y] = evE p.w p.vars [c.store] y := by simp [evL]
  have nl : nodesL [y] = nodesE y := by simp [nodesL]
  rw [hpw] at hact
  have cc : v.cost + nodesE y = (evaldM p c (.mk 1 n [y] thn els) (nextM l k (.mk 1 n [y] thn els) fs0)).cost := by rw [m2, evaldM]; show _ = c.cost + nodesL [y]; rw [nl]
  have ct : c.trace ++ evE v.w p.vars [c.store] y = (evaldM p c (.mk 1 n [y] thn els) (nextM l k (.mk 1 n [y] thn els) fs0)).trace := by rw [evaldM]; show _ = c.trace ++ evL p.w p.vars [c.store] [y]; rw [ev, hpw]
  rw [cc, ct] at key
  simp (maxSteps := 4000000) -implicitDefEqProofs +contextual [-X.ev, a54, hH1, d]
  apply Vx_callM
  · (simp -implicitDefEqProofs [-X.ev]; rfl)
  refine (key).mono ?_
  rintro x H2 ⟨rfl, vt', A2⟩
  have dd := A2.mod.ldn (a := ⟨H.nx, 0, none⟩) (fun q => by have := h.mh.lt q; simp at this) d
  simp (maxSteps := 4000000) -implicitDefEqProofs +contextual [-X.ev]
  apply Vx_callM
  · (simp -implicitDefEqProofs [-X.ev]; rfl)
  refine (mdrop_ca A2.mh h.hr h.hf h.hs h.hl h.h0 (by omega) (by rw [nodesSt]; omega) (by omega) (by omega)).mono ?_
  rintro x H3 ⟨vf', rows', fs', A3, ha, hfl, hrl⟩
  have A23 := A2.trans A3
  have dd3 := A23.mod.ldn (a := ⟨H.nx, 0, none⟩) (fun q => by have := h.mh.lt q; simp at this) d
  have e3 := ld_of_ldn dd3 (j := 3) rfl
  have e4 := ld_of_ldn dd3 (j := 4) rfl
  by_cases q : valE v.w p.vars [c.store] y = 0
  · rw [if_pos q, if_pos q] at hact
    have w1 : IntKind.i64.wrap (k + 1) = k + 1 := wrap_in ⟨by omega, by omega⟩
    have e3n := ld_ldn.1 e3
    have e4n := ld_ldn.1 e4
    simp only [q, if_true] at A3 A23
    have h3 := A3.mh
    simp (maxSteps := 4000000) -implicitDefEqProofs +contextual [-X.ev, q, w1, e3, e4]
    apply Vx_callM
    · (simp -implicitDefEqProofs [-X.ev]; rfl)
    refine (sizeOf_ca h3.wf (g3.sub h3.sub) (StL.sub h3.sub g4.toL) (by omega) (by omega)).mono ?_
    rintro x H4 ⟨rfl, X4⟩
    have x4x := X4.nx
    have x4n := X4.n0
    have e4n4 := X4.ldn e4n
    have sve : same1 ve ve = true := by obtain ⟨a, c, e⟩ := g6.len; rw [e]; simp
    have w2 : IntKind.i64.wrap (k + 1 + countS thn) = k + 1 + countS thn := wrap_in ⟨by omega, by omega⟩
    have A34 := A3.ext X4
    simp (maxSteps := 4000000) -implicitDefEqProofs +contextual [-X.ev, w2]
    apply Vx_callM
    · (simp -implicitDefEqProofs [-X.ev]; rfl)
    refine (mpush_ca (k := k + 1 + countS thn) A34.mh g6 g7 g8 ha (by omega) (by omega)).mono ?_
    rintro x H5 ⟨vf'', rows'', fs'', A5, ha4, hfl4, hrl4⟩
    have A := A1.trans ((A23.ext X4).trans A5)
    have x5x := A5.mod.nx
    have x5n := A5.mod.n0
    simp (maxSteps := 4000000) -implicitDefEqProofs +contextual [-X.ev, okD_of, chain_2, chain_1, x4x, x4n, x5x, x5n, e4n, e4n4, sve]
    subst hact
    refine ⟨?_, _, _, A, fun _ => ⟨fs'', ha4, ?_⟩, by omega, ⟨m1, rfl, m3, m4, m5, m6⟩, rfl, rfl, rfl, rfl⟩
    · exact h.ov
    · rw [hfl4, hfl]
  · rw [if_neg q, if_neg q] at hact
    have w1 : IntKind.i64.wrap (k + 1) = k + 1 := wrap_in ⟨by omega, by omega⟩
    simp only [q, if_false] at A3 A23
    simp (maxSteps := 4000000) -implicitDefEqProofs +contextual [-X.ev, q, w1, e3, e4]
    apply Vx_callM
    · (simp -implicitDefEqProofs [-X.ev]; rfl)
    refine (mpush_ca (k := k + 1) A3.mh g3 g4 g5 ha (by omega) (by omega)).mono ?_
    rintro x H4 ⟨vf'', rows'', fs'', A4, ha4, hfl4, hrl4⟩
    have A := A1.trans (A23.trans A4)
    have x4n := A4.mod.n0
    have x4x := A4.mod.nx
    simp (maxSteps := 4000000) -implicitDefEqProofs +contextual [-X.ev, okD_of, chain_2, chain_1, x4n, x4x]
    subst hact
    refine ⟨?_, _, _, A, fun _ => ⟨fs'', ha4, ?_⟩, by omega, ⟨m1, rfl, m3, m4, m5, m6⟩, rfl, rfl, rfl, rfl⟩
    · exact h.ov
    · rw [hfl4, hfl]
theorem loop_ca {n : Int} {args : List Exp} {thn els : List Stm} (h : Atm G H m p ps v c rows0 fs0 vl cs rs k (.mk 2 n args thn els) l) :
    ActsAs G H 55 m p ps v c rows0.length fs0 cs k (.mk 2 n args thn els) l := by
  intro c' hc'
  obtain ⟨y, rfl, hfy, hny⟩ := row1 h.row (by omega)
  have hact : c' = { evaldM p c (.mk 2 n [y] thn els) (nextM l k (.mk 2 n [y] thn els) fs0) with trace := (evaldM p c (.mk 2 n [y] thn els) (nextM l k (.mk 2 n [y] thn els) fs0)).trace ++ [⟨0, k, if valE p.w p.vars [c.store] y = 0 then 0 else 1⟩], todo := if valE p.w p.vars [c.store] y = 0 then nextM l k (.mk 2 n [y] thn els) fs0 else itemsM thn (k + 1) ++ (k, .mk 2 n [y] thn els) :: nextM l k (.mk 2 n [y] thn els) fs0 } := by
    rw [hc', actM, if_neg (by omega), if_neg (by omega), if_pos rfl]; rfl
  clear hc'
  obtain ⟨m1, m2, m3, m4, m5, m6⟩ := h.mt
  have hcs := h.hs
  cases hcs with | @mk _ _ va vt ve ra rt re _ _ _ i1 i2 i3 i4 i5 g1 g2 g3 g4 g5 g6 g7 g8 =>
  refine Ca.bodyV (F := a55) rfl rfl rfl ?_
  have hw := h.mh.wf
  have X1 := Ext.alloc H (.cells 5 [.int .i64 2, .int .i64 n, va, vt, ve])
  have d0 : (H.alloc (.cells 5 [.int .i64 2, .int .i64 n, va, vt, ve])).ld ⟨H.nx, 0, none⟩ = some (.int .i64 2) := ld_new hw rfl
  have d1 : (H.alloc (.cells 5 [.int .i64 2, .int .i64 n, va, vt, ve])).ld ⟨H.nx, 1, none⟩ = some (.int .i64 n) := ld_new hw rfl
  have d2 : (H.alloc (.cells 5 [.int .i64 2, .int .i64 n, va, vt, ve])).ld ⟨H.nx, 2, none⟩ = some va := ld_new hw rfl
  have d3 : (H.alloc (.cells 5 [.int .i64 2, .int .i64 n, va, vt, ve])).ld ⟨H.nx, 3, none⟩ = some vt := ld_new hw rfl
  have d4 : (H.alloc (.cells 5 [.int .i64 2, .int .i64 n, va, vt, ve])).ld ⟨H.nx, 4, none⟩ = some ve := ld_new hw rfl
  have d : (H.alloc (.cells 5 [.int .i64 2, .int .i64 n, va, vt, ve])).ldn ⟨H.nx, 0, none⟩ 5 = some [.int .i64 2, .int .i64 n, va, vt, ve] := ld_box hw 5 rfl
  generalize hH1 : H.alloc (.cells 5 [.int .i64 2, .int .i64 n, va, vt, ve]) = H1 at X1 d0 d1 d2 d3 d4 d
  have hwH1 := X1.wf hw
  have h1 := h.mh.ext X1
  have b7 := h.b7
  have b5 := h.b5
  have b1 := h.b1
  have b2 := h.b2
  have b3 := h.b3
  rw [nodesSt] at b3
  have b4 := h.b4
  have pa := nodesL_pos [y]
  have bt := countS_bound thn
  have lt1 := nodesS_len thn
  have le1 := nodesS_len els
  have be := countS_bound els
  have hw' := h.w
  have hpw := h.w.symm
  have key := mbranch_ca (op := 2) (n := n) (vt := vt) (ve := ve) (k := k) h1 (by rw [hw']; exact h.head) (by rw [hw']; exact h.store) h.vars h.cap g1 g2 (y := y) rfl (by rw [hw']; exact hfy) (by omega) (by rw [m2]; omega)
  have A1 := Adv.ofExt h.mh X1
  have ev : evL p.w p.vars [c.store] [y] = evE p.w p.vars [c.store] y := by simp [evL]
  have nl : nodesL [y] = nodesE y := by simp [nodesL]
  rw [hpw] at hact
  have cc : v.cost + nodesE y = (evaldM p c (.mk 2 n [y] thn els) (nextM l k (.mk 2 n [y] thn els) fs0)).cost := by rw [m2, evaldM]; show _ = c.cost + nodesL [y]; rw [nl]
  have ct : c.trace ++ evE v.w p.vars [c.store] y = (evaldM p c (.mk 2 n [y] thn els) (nextM l k (.mk 2 n [y] thn els) fs0)).trace := by rw [evaldM]; show _ = c.trace ++ evL p.w p.vars [c.store] [y]; rw [ev, hpw]
  rw [cc, ct] at key
  simp (maxSteps := 4000000) -implicitDefEqProofs +contextual [-X.ev, a55, hH1, d]
  apply Vx_callM
  · (simp -implicitDefEqProofs [-X.ev]; rfl)
  refine (key).mono ?_
  rintro x H2 ⟨rfl, vt', A2⟩
  have dd := A2.mod.ldn (a := ⟨H.nx, 0, none⟩) (fun q => by have := h.mh.lt q; simp at this) d
  have e3 := ld_of_ldn dd (j := 3) rfl
  by_cases q : valE v.w p.vars [c.store] y = 0
  · rw [if_pos q, if_pos q] at hact
    simp only [q, if_true] at A2
    simp (maxSteps := 4000000) -implicitDefEqProofs +contextual [-X.ev, q]
    apply Vx_callM
    · (simp -implicitDefEqProofs [-X.ev]; rfl)
    refine (mdrop_ca A2.mh h.hr h.hf h.hs h.hl h.h0 (by omega) (by rw [nodesSt]; omega) (by omega) (by omega)).mono ?_
    rintro x H3 ⟨vf', rows', fs', A3, ha, hfl, hrl⟩
    have A := A1.trans (A2.trans A3)
    simp (maxSteps := 4000000) -implicitDefEqProofs +contextual [-X.ev]
    subst hact
    refine ⟨?_, _, _, A, fun _ => ⟨fs', ha, ?_⟩, by omega, ⟨m1, rfl, m3, m4, m5, m6⟩, rfl, rfl, rfl, rfl⟩
    · exact h.ov
    · exact hfl.symm
  · rw [if_neg q, if_neg q] at hact
    have w1 : IntKind.i64.wrap (k + 1) = k + 1 := wrap_in ⟨by omega, by omega⟩
    simp only [q, if_false] at A2
    have hfs : All2 (Fra G) (rows0 ++ [[vl, .int .i64 k]]) (fs0 ++ [(.mk 2 n [y] thn els :: l, k)]) := h.h0.snoc ⟨vl, _, rfl, h.hr, .cons h.hs h.hl, h.hf, by simp, by simpa using b4⟩
    simp (maxSteps := 4000000) -implicitDefEqProofs +contextual [-X.ev, q, w1, e3]
    apply Vx_callM
    · (simp -implicitDefEqProofs [-X.ev]; rfl)
    refine (mpush_ca (k := k + 1) A2.mh g3 g4 g5 hfs (by simp; omega) (by omega)).mono ?_
    rintro x H4 ⟨vf'', rows'', fs'', A4, ha4, hfl4, hrl4⟩
    have A := A1.trans (A2.trans A4)
    have x4n := A4.mod.n0
    have x4x := A4.mod.nx
    simp (maxSteps := 4000000) -implicitDefEqProofs +contextual [-X.ev, okD_of, chain_2, chain_1, x4n, x4x]
    subst hact
    simp at hrl4
    refine ⟨?_, _, _, A, fun _ => ⟨fs'', ha4, ?_⟩, by omega, ⟨m1, rfl, m3, m4, m5, m6⟩, rfl, rfl, rfl, rfl⟩
    · exact h.ov
    · rw [hfl4, flatF_snoc, items_cons]; simp
theorem mout_ca {n : Int} {args : List Exp} {thn els : List Stm} (h : Atm G H m p ps v c rows0 fs0 vl cs rs k (.mk 3 n args thn els) l) :
    ActsAs G H 56 m p ps v c rows0.length fs0 cs k (.mk 3 n args thn els) l := by
  intro c' hc'
  obtain ⟨y, rfl, hfy, hny⟩ := row1 h.row (by omega)
  have hact : c' = { evaldM p c (.mk 3 n [y] thn els) (nextM l k (.mk 3 n [y] thn els) fs0) with outs := c.outs ++ [(n, valE p.w p.vars [c.store] y)] } := by
    rw [hc', actM, if_neg (by omega), if_neg (by omega), if_neg (by omega), if_pos rfl]; rfl
  clear hc'
  obtain ⟨m1, m2, m3, m4, m5, m6⟩ := h.mt
  have hcs := h.hs
  cases hcs with | @mk _ _ va vt ve ra rt re _ _ _ i1 i2 i3 i4 i5 g1 g2 g3 g4 g5 g6 g7 g8 =>
  refine Ca.bodyV (F := a56) rfl rfl rfl ?_
  have hw := h.mh.wf
  have X1 := Ext.alloc H (.cells 5 [.int .i64 3, .int .i64 n, va, vt, ve])
  have d0 : (H.alloc (.cells 5 [.int .i64 3, .int .i64 n, va, vt, ve])).ld ⟨H.nx, 0, none⟩ = some (.int .i64 3) := ld_new hw rfl
  have d1 : (H.alloc (.cells 5 [.int .i64 3, .int .i64 n, va, vt, ve])).ld ⟨H.nx, 1, none⟩ = some (.int .i64 n) := ld_new hw rfl
  have d2 : (H.alloc (.cells 5 [.int .i64 3, .int .i64 n, va, vt, ve])).ld ⟨H.nx, 2, none⟩ = some va := ld_new hw rfl
  have d3 : (H.alloc (.cells 5 [.int .i64 3, .int .i64 n, va, vt, ve])).ld ⟨H.nx, 3, none⟩ = some vt := ld_new hw rfl
  have d4 : (H.alloc (.cells 5 [.int .i64 3, .int .i64 n, va, vt, ve])).ld ⟨H.nx, 4, none⟩ = some ve := ld_new hw rfl
  have d : (H.alloc (.cells 5 [.int .i64 3, .int .i64 n, va, vt, ve])).ldn ⟨H.nx, 0, none⟩ 5 = some [.int .i64 3, .int .i64 n, va, vt, ve] := ld_box hw 5 rfl
  generalize hH1 : H.alloc (.cells 5 [.int .i64 3, .int .i64 n, va, vt, ve]) = H1 at X1 d0 d1 d2 d3 d4 d
  have hwH1 := X1.wf hw
  have h1 := h.mh.ext X1
  have b7 := h.b7
  have b5 := h.b5
  have b6 := h.b6
  have b1 := h.b1
  have b2 := h.b2
  have b3 := h.b3
  have b4 := h.b4
  have hw' := h.w
  have hpw := h.w.symm
  obtain ⟨b4', o4, c4, vy, r, hva, hldn, hre, hey⟩ := ExL.row g1 g2 (i := 0) (y := y) rfl
  have hldn1 := h1.sub.ldn hldn
  simp only [Nat.zero_mul, Nat.add_zero] at hldn1
  rw [← hre] at hldn1
  have d2' := d2
  rw [hva] at d2'
  have key := meval_ca h1 (by rw [hw']; exact h.head) (by rw [hw']; exact h.store) h.vars h.cap hey (by rw [hw']; exact hfy) (by omega) (by rw [m2]; omega)
  have A1 := Adv.ofExt h.mh X1
  have ev : evL p.w p.vars [c.store] [y] = evE p.w p.vars [c.store] y := by simp [evL]
  have nl : nodesL [y] = nodesE y := by simp [nodesL]
  rw [hpw] at hact
  have cc : v.cost + nodesE y = (evaldM p c (.mk 3 n [y] thn els) (nextM l k (.mk 3 n [y] thn els) fs0)).cost := by rw [m2, evaldM]; show _ = c.cost + nodesL [y]; rw [nl]
  have ct : c.trace ++ evE v.w p.vars [c.store] y = (evaldM p c (.mk 3 n [y] thn els) (nextM l k (.mk 3 n [y] thn els) fs0)).trace := by rw [evaldM]; show _ = c.trace ++ evL p.w p.vars [c.store] [y]; rw [ev, hpw]
  rw [cc, ct] at key
  have r8 := ld_get h1.get h1.n0 (k := 8) (v := v.vo) rfl
  obtain ⟨oa, oc, hvo⟩ := h.mh.ou.shape
  simp (maxSteps := 4000000) -implicitDefEqProofs +contextual [-X.ev, a56, hH1, d1, d2', hldn1, r8]
  apply Vx_callM
  · (simp -implicitDefEqProofs [-X.ev]; rfl)
  refine (key).mono ?_
  rintro x H2 ⟨rfl, vt', h2, M2, k2⟩
  have A2 := A1.trans (Adv.tr (v := v) h2 M2 k2)
  have x2x := M2.nx
  have x2n := M2.n0
  have r82 := ld_get h2.get h2.n0 (k := 8) (v := v.vo) rfl
  have r8n := ld_ldn.1 r8
  have r82n := ld_ldn.1 r82
  have dd := M2.ldn (a := ⟨H.nx, 0, none⟩) (fun q => by
    rcases q with q | q
    · have := h.mh.lt (.inl rfl); simp at q; omega
    · have := h.mh.tr.lt q; simp at this) d
  have e1n := ld_ldn.1 d1
  have e1n2 := ld_ldn.1 (ld_of_ldn dd (j := 1) rfl)
  have hb4 := bsl1 (sz := 2) (z := [.int .i64 0, .int .i64 0]) (H := H2) (v := .agg #[.int .i64 n, .int .i64 (valE v.w p.vars [c.store] y)]) rfl rfl rfl
  simp only [vcells_agg] at hb4
  have X3 := Ext.alloc H2 (.cells 2 [.int .i64 n, .int .i64 (valE v.w p.vars [c.store] y)])
  obtain ⟨H3, hH3⟩ : ∃ H3, H2.alloc (.cells 2 [.int .i64 n, .int .i64 (valE v.w p.vars [c.store] y)]) = H3 := ⟨_, rfl⟩
  obtain ⟨s', H4, ha, o4', M4, k4, n04, nx4, wf4, n03, nx3, nx34⟩ := app1_own (bytes := 16) h2.wf h2.ou (r := [.int .i64 n, .int .i64 (valE v.w p.vars [c.store] y)]) rfl hH3 (by rw [outRows_length]; omega) (by rw [outRows_length]; omega)
  rw [hH3] at hb4 X3
  obtain ⟨a, c1, hs⟩ := o4'.shape
  rw [List.length_append, List.length_singleton, outRows_length] at hs
  subst hs
  have g4' := M4.get h2.d1.2.2.1 h2.get
  obtain ⟨H5, s5, M5, nx5, n05, g5'⟩ := st_get g4' (by rw [n04]; exact h2.n0) (k := 8) (vs := [.slice a (c.outs.length + 1) c1]) (by simp)
  have o5 : Own H5 2 (.slice a (c.outs.length + 1) c1) (outRows (c.outs ++ [(n, valE v.w p.vars [c.store] y)])) := by
    rw [outRows_append]
    exact o4'.mod M5 fun b hb q => by have := k4 b hb; have := h2.lt (.inl rfl); omega
  have M25 : Mod (fun b => b = m ∨ blk v.vo b) H2 H5 := (M4.mono fun x _ hx => .inr hx).trans (M5.mono fun x _ hx => .inl hx)
  have h5 := h2.reout (vo := .slice a (c.outs.length + 1) c1) M25 g5' o5 (fun b hb => .inr (k4 b hb))
  have A5 := Adv.ou h2 M25 h5 (fun b hb => .inr (k4 b hb))
  have svo : same1 v.vo v.vo = true := by rw [hvo]; simp
  have hbu : buildV [.int .i64 0, .int .i64 0] [(0, 1, .int .i64 n), (1, 1, .int .i64 (valE v.w p.vars [c.store] y))] = some (.agg #[.int .i64 n, .int .i64 (valE v.w p.vars [c.store] y)]) := rfl
  simp (maxSteps := 4000000) -implicitDefEqProofs +contextual [-X.ev, hbu, hb4, ha, s5, x2x, x2n, r8n, r82n, e1n, e1n2, svo, n03, n04, n05, nx3, nx34, nx5, okD_of, chain_2, chain_1]
  apply Vx_callM
  · (simp -implicitDefEqProofs [-X.ev]; rfl)
  refine (mdrop_ca A5.mh h.hr h.hf h.hs h.hl h.h0 (by omega) (by omega) (by omega) (by omega)).mono ?_
  rintro x H6 ⟨vf', rows', fs', A6, ha6, hfl, hrl⟩
  have A := A2.trans (A5.trans A6)
  simp (maxSteps := 4000000) -implicitDefEqProofs +contextual [-X.ev]
  subst hact
  refine ⟨?_, _, _, A, fun _ => ⟨fs', ha6, ?_⟩, by omega, ⟨m1, rfl, m3, m4, m5, m6⟩, rfl, rfl, rfl, rfl⟩
  · exact h.ov
  · exact hfl.symm
end
end Go.Proofs.YtoijnpfpjpefgaaGreat.A
/- The machine's acts: set, pick. -/
set_option linter.unusedVariables false
set_option linter.unusedSimpArgs false
set_option maxRecDepth 10000
namespace Go.Proofs.YtoijnpfpjpefgaaGreat.A
open Go
section
variable {G H : AH} {m : Nat} {p : Prg} {ps : List Int} {v : MV} {c : CfM} {rows0 rs : List (List Value)} {fs0 : List (List Stm × Int)} {vl : Value} {cs : List Value} {k : Int} {s : Stm} {l : List Stm}
theorem mset_ca {n : Int} {args : List Exp} {thn els : List Stm} (h : Atm G H m p ps v c rows0 fs0 vl cs rs k (.mk 0 n args thn els) l) :
    ActsAs G H 53 m p ps v c rows0.length fs0 cs k (.mk 0 n args thn els) l := by
  intro c' hc'
  rw [actM, if_pos rfl] at hc'
  obtain ⟨hall, _, _, hrc⟩ := row_cases h.row
  obtain ⟨m1, m2, m3, m4, m5, m6⟩ := h.mt
  have hcs := h.hs
  cases hcs with | @mk _ _ va vt ve ra rt re _ _ _ i1 i2 i3 i4 i5 g1 g2 g3 g4 g5 g6 g7 g8 =>
  refine Ca.bodyV (F := a53) rfl rfl rfl ?_
  have hw := h.mh.wf
  have X1 := Ext.alloc H (.cells 5 [.int .i64 0, .int .i64 n, va, vt, ve])
  have d0 : (H.alloc (.cells 5 [.int .i64 0, .int .i64 n, va, vt, ve])).ld ⟨H.nx, 0, none⟩ = some (.int .i64 0) := ld_new hw rfl
  have d1 : (H.alloc (.cells 5 [.int .i64 0, .int .i64 n, va, vt, ve])).ld ⟨H.nx, 1, none⟩ = some (.int .i64 n) := ld_new hw rfl
  have d2 : (H.alloc (.cells 5 [.int .i64 0, .int .i64 n, va, vt, ve])).ld ⟨H.nx, 2, none⟩ = some va := ld_new hw rfl
  have d3 : (H.alloc (.cells 5 [.int .i64 0, .int .i64 n, va, vt, ve])).ld ⟨H.nx, 3, none⟩ = some vt := ld_new hw rfl
  have d4 : (H.alloc (.cells 5 [.int .i64 0, .int .i64 n, va, vt, ve])).ld ⟨H.nx, 4, none⟩ = some ve := ld_new hw rfl
  have d : (H.alloc (.cells 5 [.int .i64 0, .int .i64 n, va, vt, ve])).ldn ⟨H.nx, 0, none⟩ 5 = some [.int .i64 0, .int .i64 n, va, vt, ve] := ld_box hw 5 rfl
  generalize hH1 : H.alloc (.cells 5 [.int .i64 0, .int .i64 n, va, vt, ve]) = H1 at X1 d0 d1 d2 d3 d4 d
  have hwH1 := X1.wf hw
  have h1 := h.mh.ext X1
  have b7 := h.b7
  have b5 := h.b5
  have b6 := h.b6
  have b1 := h.b1
  have b2 := h.b2
  have b3 := h.b3
  have b4 := h.b4
  have b8 := h.b8
  have hw' := h.w
  have hpw := h.w.symm
  have hV := h.head
  have hS := h.store
  rw [hpw] at hV hS
  have A1 := Adv.ofExt h.mh X1
  have hw8 : 1 ≤ v.w ∧ v.w ≤ 8 := ⟨(isHeading_w hV).1, (isHeading_w hV).2.1⟩
  have hp := pow_w hw8
  have hSO : SOk v.w p.vars [c.store] := fun t ht => by simp at ht; subst ht; exact hS
  have out : ∀ b, (b = m ∨ blk v.vt b) → b ≠ H.nx := fun b hb e => by
    subst e
    rcases hb with q | q
    · have := h.mh.lt (.inl q); omega
    · have := h.mh.tr.lt q; omega
  rw [hpw] at hall
  have nb : ¬ Mf m v H.nx := fun q => by have := h.mh.lt q; omega
  have w0 : IntKind.i64.wrap 0 = 0 := rfl
  have w1' : IntKind.i64.wrap 1 = 1 := rfl
  obtain ⟨hn, hargs⟩ : (0 ≤ n ∧ n < p.vars.length) ∧ ((¬ 1 < cellsAt p.vars n ∧ ∃ a, args = [a]) ∨ (1 < cellsAt p.vars n ∧ ∃ a b, args = [a, b])) := by
    rcases hrc with ⟨_, q⟩ | ⟨q, _⟩ | ⟨q, _⟩ | ⟨q, _⟩ | ⟨q, _⟩ | ⟨q, _⟩
    · exact q
    · omega
    · omega
    · omega
    · omega
    · omega
  rcases hargs with ⟨hc, y, rfl⟩ | ⟨hc, z, y, rfl⟩
  · obtain ⟨hfy, hny⟩ := hall y (by simp)
    have hwy := val_word hV hSO y hfy
    obtain ⟨b4', o4, c4, vy, r, hva, hldn, hre, hey⟩ := ExL.row g1 g2 (i := 0) (y := y) rfl
    simp only [Nat.zero_mul, Nat.add_zero] at hldn
    rw [← hre] at hldn
    simp (maxSteps := 4000000) -implicitDefEqProofs +contextual [-X.ev, a53, hH1, d]
    apply Vx_callM
    · (simp -implicitDefEqProofs [-X.ev]; rfl)
    refine (mindex0 (op := 0) (n := n) (va := va) (vt := vt) (ve := ve) h1 h.vars hn hc).mono ?_
    rintro x H2 ⟨rfl, X2⟩
    have h2 := h1.ext X2
    have hldn2 := h2.sub.ldn hldn
    have e2 := ld_of_ldn (X2.ldn d) (j := 2) rfl
    rw [hva] at e2
    have B2 := Adv.ofExt h1 X2
    have u2 := evE_bound (w := v.w) (V := p.vars) (S := [c.store]) y
    simp (maxSteps := 4000000) -implicitDefEqProofs +contextual [-X.ev, e2, hldn2, w0]
    apply Vx_callM
    · (simp -implicitDefEqProofs [-X.ev]; rfl)
    refine (meval_ca h2 hV hS h.vars h.cap hey hfy (by omega) (by rw [m2]; omega)).mono ?_
    rintro x H3 ⟨rfl, vt', h3, M3, k3⟩
    have B3 := B2.trans (Adv.tr (v := v) h3 M3 k3)
    simp (maxSteps := 4000000) -implicitDefEqProofs +contextual [-X.ev]
    apply Vx_callM
    · (simp -implicitDefEqProofs [-X.ev]; rfl)
    refine (mdrop_ca B3.mh h.hr h.hf h.hs h.hl h.h0 (by omega) (by omega) (by omega) (by omega)).mono ?_
    rintro x H4 ⟨vf', rows', fs', A4, ha, hfl, hrl⟩
    have B4 := B3.trans A4
    have e1 := ld_of_ldn (B4.mod.ldn (a := ⟨H.nx, 0, none⟩) nb d) (j := 1) rfl
    simp (maxSteps := 4000000) -implicitDefEqProofs +contextual [-X.ev, e1]
    apply Vx_callM
    · (simp -implicitDefEqProofs [-X.ev]; rfl)
    refine (mwrite_ca (n := n) (i := 0) (a := valE v.w p.vars [c.store] y) A4.mh hV hS h.vars h.cap hn (by omega) (by simp only [List.length_append]; omega)).mono ?_
    rintro x H5 ⟨vt'', h5, M5, k5⟩
    have B5 := B4.trans (Adv.trW h5 M5 k5)
    have A := A1.trans B5
    simp (maxSteps := 4000000) -implicitDefEqProofs +contextual [-X.ev]
    have hact : c' = setM p.vars (evaldM p c (.mk 0 n [y] thn els) (nextM l k (.mk 0 n [y] thn els) fs0)) n 0 (valE v.w p.vars [c.store] y) := by
      rw [hc', if_neg hc]
      show setM _ _ _ _ (valE p.w p.vars [c.store] y) = _
      rw [hpw]
    subst hact
    have hst : (setM p.vars (evaldM p c (.mk 0 n [y] thn els) (nextM l k (.mk 0 n [y] thn els) fs0)) n 0 (valE v.w p.vars [c.store] y)).store = c.store.set (firstV p.vars n + 0 % cellsAt p.vars n).toNat (valE v.w p.vars [c.store] y) := rfl
    have htr : (setM p.vars (evaldM p c (.mk 0 n [y] thn els) (nextM l k (.mk 0 n [y] thn els) fs0)) n 0 (valE v.w p.vars [c.store] y)).trace = c.trace ++ evE v.w p.vars [c.store] y ++ if 1 < cellsAt p.vars n then [⟨2, n, 0 % cellsAt p.vars n⟩] else [] := by
      show c.trace ++ evL p.w p.vars [c.store] [y] ++ _ = _
      rw [hpw]; simp [evL]
    rw [← hst, ← htr] at A
    refine ⟨?_, _, rows', A, fun _ => ⟨fs', ha, hfl.symm⟩, by omega, ⟨m1, ?_, m3, m4, m5, m6⟩, rfl, rfl, rfl, rfl⟩
    · exact h.ov
    · show v.cost + nodesE y = c.cost + nodesL [y]
      rw [m2]; simp [nodesL]
  · obtain ⟨hfy, hny⟩ := hall y (by simp)
    obtain ⟨hfz, hnz⟩ := hall z (by simp)
    have hwy := val_word hV hSO y hfy
    have hwz := val_word hV hSO z hfz
    obtain ⟨b4', o4, c4, vy, r, hva, hldn, hre, hey⟩ := ExL.row g1 g2 (i := 1) (y := y) rfl
    simp only [Nat.one_mul] at hldn
    rw [← hre] at hldn
    simp (maxSteps := 4000000) -implicitDefEqProofs +contextual [-X.ev, a53, hH1, d]
    apply Vx_callM
    · (simp -implicitDefEqProofs [-X.ev]; rfl)
    refine (mindex1 (op := 0) (n := n) (va := va) (vt := vt) (ve := ve) h1 hV hS h.vars h.cap hn hc g1 g2 (y := z) rfl hfz (by omega) (by rw [m2]; omega)).mono ?_
    rintro x H2 ⟨rfl, vt1, h2, M2, k2⟩
    have hldn2 := h2.sub.ldn hldn
    have B2 := Adv.tr (v := v) h2 M2 k2
    have e2 := ld_of_ldn (B2.mod.ldn (a := ⟨H.nx, 0, none⟩) nb d) (j := 2) rfl
    rw [hva] at e2
    have u1 := evE_bound (w := v.w) (V := p.vars) (S := [c.store]) z
    have u2 := evE_bound (w := v.w) (V := p.vars) (S := [c.store]) y
    have pz := nodesE_pos z
    simp (maxSteps := 4000000) -implicitDefEqProofs +contextual [-X.ev, e2, hldn2, w1']
    apply Vx_callM
    · (simp -implicitDefEqProofs [-X.ev]; rfl)
    refine (meval_ca h2 hV hS h.vars h.cap hey hfy (by rw [List.length_append]; omega) (by show 0 ≤ v.cost + nodesE z ∧ v.cost + nodesE z + nodesE y ≤ 2 ^ 60; rw [m2]; omega)).mono ?_
    rintro x H3 ⟨rfl, vt', h3, M3, k3⟩
    have B3 := B2.trans (Adv.tr (v := { v with vt := vt1, cost := v.cost + nodesE z }) h3 M3 k3)
    simp (maxSteps := 4000000) -implicitDefEqProofs +contextual [-X.ev]
    apply Vx_callM
    · (simp -implicitDefEqProofs [-X.ev]; rfl)
    refine (mdrop_ca B3.mh h.hr h.hf h.hs h.hl h.h0 (by omega) (by omega) (by omega) (by omega)).mono ?_
    rintro x H4 ⟨vf', rows', fs', A4, ha, hfl, hrl⟩
    have B4 := B3.trans A4
    have e1 := ld_of_ldn (B4.mod.ldn (a := ⟨H.nx, 0, none⟩) nb d) (j := 1) rfl
    simp (maxSteps := 4000000) -implicitDefEqProofs +contextual [-X.ev, e1]
    apply Vx_callM
    · (simp -implicitDefEqProofs [-X.ev]; rfl)
    refine (mwrite_ca (n := n) (i := (valE v.w p.vars [c.store] z)) (a := valE v.w p.vars [c.store] y) A4.mh hV hS h.vars h.cap hn (by omega) (by simp only [List.length_append]; omega)).mono ?_
    rintro x H5 ⟨vt'', h5, M5, k5⟩
    have B5 := B4.trans (Adv.trW h5 M5 k5)
    have A := A1.trans B5
    simp (maxSteps := 4000000) -implicitDefEqProofs +contextual [-X.ev]
    have hact : c' = setM p.vars (evaldM p c (.mk 0 n [z, y] thn els) (nextM l k (.mk 0 n [z, y] thn els) fs0)) n (valE v.w p.vars [c.store] z) (valE v.w p.vars [c.store] y) := by
      rw [hc', if_pos hc]
      show setM _ _ _ _ (valE p.w p.vars [c.store] y) = _
      rw [hpw]; rfl
    subst hact
    have hst : (setM p.vars (evaldM p c (.mk 0 n [z, y] thn els) (nextM l k (.mk 0 n [z, y] thn els) fs0)) n (valE v.w p.vars [c.store] z) (valE v.w p.vars [c.store] y)).store = c.store.set (firstV p.vars n + (valE v.w p.vars [c.store] z) % cellsAt p.vars n).toNat (valE v.w p.vars [c.store] y) := rfl
    have htr : (setM p.vars (evaldM p c (.mk 0 n [z, y] thn els) (nextM l k (.mk 0 n [z, y] thn els) fs0)) n (valE v.w p.vars [c.store] z) (valE v.w p.vars [c.store] y)).trace = c.trace ++ evE v.w p.vars [c.store] z ++ evE v.w p.vars [c.store] y ++ if 1 < cellsAt p.vars n then [⟨2, n, (valE v.w p.vars [c.store] z) % cellsAt p.vars n⟩] else [] := by
      show c.trace ++ evL p.w p.vars [c.store] [z, y] ++ _ = _
      rw [hpw]; simp [evL]
    rw [← hst, ← htr] at A
    refine ⟨?_, _, rows', A, fun _ => ⟨fs', ha, hfl.symm⟩, by omega, ⟨m1, ?_, m3, m4, m5, m6⟩, rfl, rfl, rfl, rfl⟩
    · exact h.ov
    · show v.cost + nodesE z + nodesE y = c.cost + nodesL [z, y]
      rw [m2]; simp [nodesL]; omega
end
end Go.Proofs.YtoijnpfpjpefgaaGreat.A
/- The machine's acts: pick. -/
set_option linter.unusedVariables false
set_option linter.unusedSimpArgs false
set_option maxRecDepth 10000
namespace Go.Proofs.YtoijnpfpjpefgaaGreat.A
open Go
section
variable {G H : AH} {m : Nat} {p : Prg} {ps : List Int} {v : MV} {c : CfM} {rows0 rs : List (List Value)} {fs0 : List (List Stm × Int)} {vl : Value} {cs : List Value} {k : Int} {s : Stm} {l : List Stm}
theorem mpick_ca {n : Int} {args : List Exp} {thn els : List Stm} (h : Atm G H m p ps v c rows0 fs0 vl cs rs k (.mk 4 n args thn els) l) :
    ActsAs G H 57 m p ps v c rows0.length fs0 cs k (.mk 4 n args thn els) l := by
  intro c' hc'
  rw [actM, if_neg (by omega), if_neg (by omega), if_neg (by omega), if_neg (by omega), if_pos rfl] at hc'
  rw [show (evaldM p c (.mk 4 n args thn els) (nextM l k (.mk 4 n args thn els) fs0)).used = c.used from rfl] at hc'
  obtain ⟨hall, _, _, hrc⟩ := row_cases h.row
  obtain ⟨m1, m2, m3, m4, m5, m6⟩ := h.mt
  have hcs := h.hs
  cases hcs with | @mk _ _ va vt ve ra rt re _ _ _ i1 i2 i3 i4 i5 g1 g2 g3 g4 g5 g6 g7 g8 =>
  refine Ca.bodyV (F := a57) rfl rfl rfl ?_
  have hw := h.mh.wf
  have X1 := Ext.alloc H (.cells 5 [.int .i64 4, .int .i64 n, va, vt, ve])
  have d0 : (H.alloc (.cells 5 [.int .i64 4, .int .i64 n, va, vt, ve])).ld ⟨H.nx, 0, none⟩ = some (.int .i64 4) := ld_new hw rfl
  have d1 : (H.alloc (.cells 5 [.int .i64 4, .int .i64 n, va, vt, ve])).ld ⟨H.nx, 1, none⟩ = some (.int .i64 n) := ld_new hw rfl
  have d2 : (H.alloc (.cells 5 [.int .i64 4, .int .i64 n, va, vt, ve])).ld ⟨H.nx, 2, none⟩ = some va := ld_new hw rfl
  have d3 : (H.alloc (.cells 5 [.int .i64 4, .int .i64 n, va, vt, ve])).ld ⟨H.nx, 3, none⟩ = some vt := ld_new hw rfl
  have d4 : (H.alloc (.cells 5 [.int .i64 4, .int .i64 n, va, vt, ve])).ld ⟨H.nx, 4, none⟩ = some ve := ld_new hw rfl
  have d : (H.alloc (.cells 5 [.int .i64 4, .int .i64 n, va, vt, ve])).ldn ⟨H.nx, 0, none⟩ 5 = some [.int .i64 4, .int .i64 n, va, vt, ve] := ld_box hw 5 rfl
  generalize hH1 : H.alloc (.cells 5 [.int .i64 4, .int .i64 n, va, vt, ve]) = H1 at X1 d0 d1 d2 d3 d4 d
  have hwH1 := X1.wf hw
  have h1 := h.mh.ext X1
  have b7 := h.b7
  have b5 := h.b5
  have b6 := h.b6
  have b1 := h.b1
  have b2 := h.b2
  have b3 := h.b3
  have b4 := h.b4
  have b8 := h.b8
  have hw' := h.w
  have hpw := h.w.symm
  have hV := h.head
  have hS := h.store
  rw [hpw] at hV hS
  have A1 := Adv.ofExt h.mh X1
  have hw8 : 1 ≤ v.w ∧ v.w ≤ 8 := ⟨(isHeading_w hV).1, (isHeading_w hV).2.1⟩
  have hp := pow_w hw8
  have hSO : SOk v.w p.vars [c.store] := fun t ht => by simp at ht; subst ht; exact hS
  have out : ∀ b, (b = m ∨ blk v.vt b) → b ≠ H.nx := fun b hb e => by
    subst e
    rcases hb with q | q
    · have := h.mh.lt (.inl q); omega
    · have := h.mh.tr.lt q; omega
  rw [hpw] at hall
  have nb : ¬ Mf m v H.nx := fun q => by have := h.mh.lt q; omega
  have w0 : IntKind.i64.wrap 0 = 0 := rfl
  have w1' : IntKind.i64.wrap 1 = 1 := rfl
  obtain ⟨hn, hargs⟩ : (0 ≤ n ∧ n < p.vars.length) ∧ ((¬ 1 < cellsAt p.vars n ∧ args = []) ∨ (1 < cellsAt p.vars n ∧ ∃ a, args = [a])) := by
    rcases hrc with ⟨q, _⟩ | ⟨q, _⟩ | ⟨q, _⟩ | ⟨q, _⟩ | ⟨_, q⟩ | ⟨q, _⟩
    · omega
    · omega
    · omega
    · omega
    · exact q
    · omega
  obtain ⟨pa, pc, hvp0⟩ := h.picks.len
  rcases hargs with ⟨hc, rfl⟩ | ⟨hc, y, rfl⟩
  · simp (maxSteps := 4000000) -implicitDefEqProofs +contextual [-X.ev, a57, hH1, d]
    apply Vx_callM
    · (simp -implicitDefEqProofs [-X.ev]; rfl)
    refine (mindex0 (op := 4) (n := n) (va := va) (vt := vt) (ve := ve) h1 h.vars hn hc).mono ?_
    rintro x H2 ⟨rfl, X2⟩
    have h2 := h1.ext X2
    have B2 := Adv.ofExt h1 X2
    have f5 := ld_get h2.get h2.n0 (k := 5) (v := v.vp) rfl
    have f11 := ld_get h2.get h2.n0 (k := 11) (v := .int .i64 v.used) rfl
    rw [hvp0] at f5
    rw [m3] at f11
    by_cases q : ps.length ≤ c.used
    · have hq : (c.used : Int) = (ps.length : Int) := by omega
      rw [if_pos q] at hc'
      simp (maxSteps := 4000000) -implicitDefEqProofs +contextual [-X.ev, f5, f11, m3, hq, okD_of, chain_2, chain_1]
      apply Vx_callM
      · (simp -implicitDefEqProofs [-X.ev]; rfl)
      refine (mend_ca (how := 4) (n := k) B2.mh).mono ?_
      rintro x H3 ⟨rfl, A3⟩
      have A := (A1.trans B2).trans A3
      simp (maxSteps := 4000000) -implicitDefEqProofs +contextual [-X.ev]
      subst hc'
      have htr : (stopM (evaldM p c (.mk 4 n [] thn els) (nextM l k (.mk 4 n [] thn els) fs0)) 4 k).trace = c.trace := by
        show c.trace ++ evL p.w p.vars [c.store] [] = _
        rw [hpw]; simp [evL]
      rw [← htr] at A
      refine ⟨?_, _, _, A, fun q => by simp [stopM] at q, by simp, ⟨rfl, ?_, m3, rfl, m5, rfl⟩, rfl, rfl, rfl, rfl⟩
      · rfl
      · show v.cost = c.cost + nodesL []
        rw [m2]; simp [nodesL]
    · have hq : ¬ (c.used : Int) = (ps.length : Int) := by omega
      rw [if_neg q] at hc'
      simp (maxSteps := 4000000) -implicitDefEqProofs +contextual [-X.ev, f5, f11, m3, hq, okD_of, chain_2, chain_1]
      apply Vx_callM
      · (simp -implicitDefEqProofs [-X.ev]; rfl)
      refine (mdrop_ca B2.mh h.hr h.hf h.hs h.hl h.h0 (by omega) (by omega) (by omega) (by omega)).mono ?_
      rintro x H3 ⟨vf', rows', fs', A3, ha, hfl, hrl⟩
      have B3 := B2.trans A3
      have g11 := ld_get A3.mh.get A3.mh.n0 (k := 11) (v := .int .i64 v.used) rfl
      obtain ⟨H4, s4, A4, nx4, n04⟩ := A3.mh.cell (v' := { v with vf := vf', used := (c.used : Int) + 1 }) 11 (.int .i64 ((c.used : Int) + 1)) (by omega) rfl rfl rfl rfl rfl
      have B4 := B3.trans A4
      have w2 : IntKind.i64.wrap ((c.used : Int) + 1) = (c.used : Int) + 1 := wrap_in ⟨by omega, by omega⟩
      have w3 : IntKind.i64.wrap (c.used : Int) = (c.used : Int) := wrap_in ⟨by omega, by omega⟩
      have e1 := ld_of_ldn (B4.mod.ldn (a := ⟨H.nx, 0, none⟩) nb d) (j := 1) rfl
      have h4 := A4.mh
      obtain ⟨a, ha1⟩ : ∃ a, ps[c.used]? = some a := ⟨_, List.getElem?_eq_getElem (by omega)⟩
      have hva : vAt ps c.used = a := by simp [vAt, ha1]
      obtain ⟨bp, op_, cp_, hvp, hld⟩ := (Ints.sub h4.sub h.picks).at ha1
      have f5' := ld_get h4.get h4.n0 (k := 5) (v := v.vp) rfl
      have f11' := ld_get h4.get h4.n0 (k := 11) (v := .int .i64 ((c.used : Int) + 1)) rfl
      rw [hvp] at f5'
      have hlt : (c.used : Int) < (ps.length : Int) := by omega
      rw [m3] at g11
      simp (maxSteps := 4000000) -implicitDefEqProofs +contextual [-X.ev, g11, w2, s4, e1, f5', f11', w3, hlt, hld]
      apply Vx_callM
      · (simp -implicitDefEqProofs [-X.ev]; rfl)
      refine (mwrite_ca (n := n) (i := 0) (a := a) h4 hV hS h.vars h.cap hn (by omega) (by  omega)).mono ?_
      rintro x H5 ⟨vt'', h5, M5, k5⟩
      have A45 := Adv.trW h5 M5 k5
      have A := A1.trans (B4.trans A45)
      have x5x := M5.nx
      have x5n := M5.n0
      simp (maxSteps := 4000000) -implicitDefEqProofs +contextual [-X.ev, okD_of, chain_2, chain_1, x5x, x5n]
      have hact : c' = setM p.vars { evaldM p c (.mk 4 n [] thn els) (nextM l k (.mk 4 n [] thn els) fs0) with used := c.used + 1 } n 0 a := by
        rw [hc', if_neg hc, hva]
      subst hact
      have hst : (setM p.vars { evaldM p c (.mk 4 n [] thn els) (nextM l k (.mk 4 n [] thn els) fs0) with used := c.used + 1 } n 0 a).store = c.store.set (firstV p.vars n + 0 % cellsAt p.vars n).toNat a := rfl
      have htr : (setM p.vars { evaldM p c (.mk 4 n [] thn els) (nextM l k (.mk 4 n [] thn els) fs0) with used := c.used + 1 } n 0 a).trace = c.trace ++ if 1 < cellsAt p.vars n then [⟨2, n, 0 % cellsAt p.vars n⟩] else [] := by
        show c.trace ++ evL p.w p.vars [c.store] [] ++ _ = _
        rw [hpw]; simp [evL]
      rw [← hst, ← htr] at A
      refine ⟨?_, _, rows', A, fun _ => ⟨fs', ha, hfl.symm⟩, by omega, ⟨m1, ?_, by show (c.used : Int) + 1 = ((c.used + 1 : Nat) : Int); omega, m4, m5, m6⟩, rfl, rfl, rfl, rfl⟩
      · exact h.ov
      · show v.cost = c.cost + nodesL []
        rw [m2]; simp [nodesL]
  · obtain ⟨hfy, hny⟩ := hall y (by simp)
    have hwy := val_word hV hSO y hfy
    simp (maxSteps := 4000000) -implicitDefEqProofs +contextual [-X.ev, a57, hH1, d]
    apply Vx_callM
    · (simp -implicitDefEqProofs [-X.ev]; rfl)
    refine (mindex1 (op := 4) (n := n) (va := va) (vt := vt) (ve := ve) h1 hV hS h.vars h.cap hn hc g1 g2 (y := y) rfl hfy (by omega) (by rw [m2]; omega)).mono ?_
    rintro x H2 ⟨rfl, vt1, h2, M2, k2⟩
    have B2 := Adv.tr (v := v) h2 M2 k2
    have u1 := evE_bound (w := v.w) (V := p.vars) (S := [c.store]) y
    have f5 := ld_get h2.get h2.n0 (k := 5) (v := v.vp) rfl
    have f11 := ld_get h2.get h2.n0 (k := 11) (v := .int .i64 v.used) rfl
    rw [hvp0] at f5
    rw [m3] at f11
    by_cases q : ps.length ≤ c.used
    · have hq : (c.used : Int) = (ps.length : Int) := by omega
      rw [if_pos q] at hc'
      simp (maxSteps := 4000000) -implicitDefEqProofs +contextual [-X.ev, f5, f11, m3, hq, okD_of, chain_2, chain_1]
      apply Vx_callM
      · (simp -implicitDefEqProofs [-X.ev]; rfl)
      refine (mend_ca (how := 4) (n := k) B2.mh).mono ?_
      rintro x H3 ⟨rfl, A3⟩
      have A := (A1.trans B2).trans A3
      simp (maxSteps := 4000000) -implicitDefEqProofs +contextual [-X.ev]
      subst hc'
      have htr : (stopM (evaldM p c (.mk 4 n [y] thn els) (nextM l k (.mk 4 n [y] thn els) fs0)) 4 k).trace = c.trace ++ evE v.w p.vars [c.store] y := by
        show c.trace ++ evL p.w p.vars [c.store] [y] = _
        rw [hpw]; simp [evL]
      rw [← htr] at A
      refine ⟨?_, _, _, A, fun q => by simp [stopM] at q, by simp, ⟨rfl, ?_, m3, rfl, m5, rfl⟩, rfl, rfl, rfl, rfl⟩
      · rfl
      · show v.cost + nodesE y = c.cost + nodesL [y]
        rw [m2]; simp [nodesL]
    · have hq : ¬ (c.used : Int) = (ps.length : Int) := by omega
      rw [if_neg q] at hc'
      simp (maxSteps := 4000000) -implicitDefEqProofs +contextual [-X.ev, f5, f11, m3, hq, okD_of, chain_2, chain_1]
      apply Vx_callM
      · (simp -implicitDefEqProofs [-X.ev]; rfl)
      refine (mdrop_ca B2.mh h.hr h.hf h.hs h.hl h.h0 (by omega) (by omega) (by omega) (by omega)).mono ?_
      rintro x H3 ⟨vf', rows', fs', A3, ha, hfl, hrl⟩
      have B3 := B2.trans A3
      have g11 := ld_get A3.mh.get A3.mh.n0 (k := 11) (v := .int .i64 v.used) rfl
      obtain ⟨H4, s4, A4, nx4, n04⟩ := A3.mh.cell (v' := { v with vt := vt1, cost := v.cost + nodesE y, vf := vf', used := (c.used : Int) + 1 }) 11 (.int .i64 ((c.used : Int) + 1)) (by omega) rfl rfl rfl rfl rfl
      have B4 := B3.trans A4
      have w2 : IntKind.i64.wrap ((c.used : Int) + 1) = (c.used : Int) + 1 := wrap_in ⟨by omega, by omega⟩
      have w3 : IntKind.i64.wrap (c.used : Int) = (c.used : Int) := wrap_in ⟨by omega, by omega⟩
      have e1 := ld_of_ldn (B4.mod.ldn (a := ⟨H.nx, 0, none⟩) nb d) (j := 1) rfl
      have h4 := A4.mh
      obtain ⟨a, ha1⟩ : ∃ a, ps[c.used]? = some a := ⟨_, List.getElem?_eq_getElem (by omega)⟩
      have hva : vAt ps c.used = a := by simp [vAt, ha1]
      obtain ⟨bp, op_, cp_, hvp, hld⟩ := (Ints.sub h4.sub h.picks).at ha1
      have f5' := ld_get h4.get h4.n0 (k := 5) (v := v.vp) rfl
      have f11' := ld_get h4.get h4.n0 (k := 11) (v := .int .i64 ((c.used : Int) + 1)) rfl
      rw [hvp] at f5'
      have hlt : (c.used : Int) < (ps.length : Int) := by omega
      rw [m3] at g11
      simp (maxSteps := 4000000) -implicitDefEqProofs +contextual [-X.ev, g11, w2, s4, e1, f5', f11', w3, hlt, hld]
      apply Vx_callM
      · (simp -implicitDefEqProofs [-X.ev]; rfl)
      refine (mwrite_ca (n := n) (i := (valE v.w p.vars [c.store] y)) (a := a) h4 hV hS h.vars h.cap hn (by omega) (by simp only [List.length_append]; omega)).mono ?_
      rintro x H5 ⟨vt'', h5, M5, k5⟩
      have A45 := Adv.trW h5 M5 k5
      have A := A1.trans (B4.trans A45)
      have x5x := M5.nx
      have x5n := M5.n0
      simp (maxSteps := 4000000) -implicitDefEqProofs +contextual [-X.ev, okD_of, chain_2, chain_1, x5x, x5n]
      have hact : c' = setM p.vars { evaldM p c (.mk 4 n [y] thn els) (nextM l k (.mk 4 n [y] thn els) fs0) with used := c.used + 1 } n (valE v.w p.vars [c.store] y) a := by
        rw [hc', if_pos hc, hva]
        show setM _ _ _ (valE p.w p.vars [c.store] y) _ = _
        rw [hpw]
      subst hact
      have hst : (setM p.vars { evaldM p c (.mk 4 n [y] thn els) (nextM l k (.mk 4 n [y] thn els) fs0) with used := c.used + 1 } n (valE v.w p.vars [c.store] y) a).store = c.store.set (firstV p.vars n + (valE v.w p.vars [c.store] y) % cellsAt p.vars n).toNat a := rfl
      have htr : (setM p.vars { evaldM p c (.mk 4 n [y] thn els) (nextM l k (.mk 4 n [y] thn els) fs0) with used := c.used + 1 } n (valE v.w p.vars [c.store] y) a).trace = c.trace ++ evE v.w p.vars [c.store] y ++ if 1 < cellsAt p.vars n then [⟨2, n, (valE v.w p.vars [c.store] y) % cellsAt p.vars n⟩] else [] := by
        show c.trace ++ evL p.w p.vars [c.store] [y] ++ _ = _
        rw [hpw]; simp [evL]
      rw [← hst, ← htr] at A
      refine ⟨?_, _, rows', A, fun _ => ⟨fs', ha, hfl.symm⟩, by omega, ⟨m1, ?_, by show (c.used : Int) + 1 = ((c.used + 1 : Nat) : Int); omega, m4, m5, m6⟩, rfl, rfl, rfl, rfl⟩
      · exact h.ov
      · show v.cost + nodesE y = c.cost + nodesL [y]
        rw [m2]; simp [nodesL]
end
end Go.Proofs.YtoijnpfpjpefgaaGreat.A
/- What holds of a run on its way (plain). -/
set_option linter.unusedVariables false
set_option linter.unusedSimpArgs false
set_option maxRecDepth 10000
namespace Go.Proofs.YtoijnpfpjpefgaaGreat.A
open Go
structure Inv (p : Prg) (ps : List Int) (c : CfM) : Prop where
  head : isHeading p.w p.vars = true
  store : isStore p.w p.vars c.store = true
  words : ∀ a ∈ ps, 0 ≤ a ∧ a < 2 ^ p.w.toNat
  used : c.used ≤ ps.length ∧ ps.length ≤ 16
  tot : countS p.body ≤ 400
  todo : ∀ it ∈ c.todo, 0 ≤ it.1 ∧ it.1 + countSt it.2 ≤ countS p.body ∧ rowSt p.w p.vars it.2 = true ∧ nodesSt it.2 ≤ 400
  fuel : 0 ≤ c.fuel ∧ c.fuel ≤ 4096
  tr : (c.trace.length : Int) + 500 * c.fuel ≤ 2 ^ 30
  ou : (c.outs.length : Int) + c.fuel ≤ 2 ^ 30
  co : 0 ≤ c.cost ∧ c.cost + 500 * c.fuel ≤ 2 ^ 40
/-- The items of a list in a statement. -/
theorem items_ok {w : Int} {V : List Vr} {C N : Int} : ∀ (l : List Stm) (k : Int), 0 ≤ k → k + countS l ≤ C → rowsS w V l = true → nodesS l ≤ N → ∀ it ∈ itemsM l k, 0 ≤ it.1 ∧ it.1 + countSt it.2 ≤ C ∧ rowSt w V it.2 = true ∧ nodesSt it.2 ≤ N
  | [], k, _, _, _, _, it, h => by simp [itemsM] at h
  | s :: l, k, hk, hC, hr, hn, it, h => by
    rw [items_cons] at h
    rw [countS] at hC
    rw [nodesS] at hn
    rw [rowsS, Bool.and_eq_true] at hr
    have h1 := countS_bound l
    have h2 := countSt_pos s
    have h3 := nodesSt_pos s
    have h4 := nodesS_pos l
    rcases List.mem_cons.1 h with rfl | h
    · exact ⟨hk, by show k + countSt s ≤ C; omega, hr.1, by show nodesSt s ≤ N; omega⟩
    · exact items_ok l _ (by omega) (by omega) hr.2 (by omega) it h
theorem isStore_set {w : Int} {V : List Vr} {s : List Int} (hw8 : 1 ≤ w ∧ w ≤ 8) (h : isStore w V s = true) (k : Nat) {a : Int} (ha : 0 ≤ a ∧ a < 2 ^ w.toNat) : isStore w V (s.set k a) = true := by
  simp only [isStore, Bool.and_eq_true, decide_eq_true_eq, List.all_eq_true, List.length_set] at h ⊢
  refine ⟨h.1, fun b hb => ?_⟩
  rcases List.mem_or_eq_of_mem_set hb with q | q
  · exact h.2 b q
  · rw [q]; exact isWord_of hw8 ha
theorem inv_set {p : Prg} {ps : List Int} {c : CfM} {n i a : Int} (h : Inv p ps c) (h' : (c.trace.length : Int) + 1 + 500 * c.fuel ≤ 2 ^ 30) (ha : 0 ≤ a ∧ a < 2 ^ p.w.toNat) : Inv p ps (setM p.vars c n i a) where
  head := h.head
  store := isStore_set ⟨(isHeading_w h.head).1, (isHeading_w h.head).2.1⟩ h.store _ ha
  words := h.words
  used := h.used
  tot := h.tot
  todo := h.todo
  fuel := h.fuel
  tr := by
    show ((c.trace ++ _).length : Int) + 500 * c.fuel ≤ 2 ^ 30
    rw [List.length_append]
    split
    · simp; omega
    · simp; have := h.tr; omega
  ou := h.ou
  co := h.co
theorem inv_stop {p : Prg} {ps : List Int} {c : CfM} (h : Inv p ps c) (e n : Int) : Inv p ps (stopM c e n) := { h with todo := by simp [stopM] }
theorem vals_word {p : Prg} {S : List (List Int)} (hV : isHeading p.w p.vars = true) (hS : SOk p.w p.vars S) : ∀ (l : List Exp), (∀ e ∈ l, formE p.w p.vars S.length e = true) → ∀ i, i < l.length → 0 ≤ vAt (valL p.w p.vars S l) i ∧ vAt (valL p.w p.vars S l) i < 2 ^ p.w.toNat := by
  intro l hl i hi
  have : vAt (valL p.w p.vars S l) i = valE p.w p.vars S (l[i]) := by
    unfold vAt
    rw [valL_get, List.getElem?_eq_getElem hi]; rfl
  rw [this]
  exact val_word hV hS _ (hl _ (List.getElem_mem hi))
theorem valL_length {w : Int} {V : List Vr} {S : List (List Int)} : ∀ l : List Exp, (valL w V S l).length = l.length
  | [] => rfl
  | e :: l => by simp [valL, valL_length l]
theorem inv_step {p : Prg} {ps : List Int} {c : CfM} (h : Inv p ps c) : Inv p ps (stepM p ps c) := by
  unfold stepM
  by_cases ho : c.over = true
  · rw [if_pos ho]; exact h
  rw [if_neg ho]
  cases ht : c.todo with
  | nil => exact h
  | cons it next =>
    obtain ⟨k, s⟩ := it
    show Inv p ps (if c.fuel = 0 then _ else _)
    by_cases hf : c.fuel = 0
    · rw [if_pos hf]; exact inv_stop h _ _
    rw [if_neg hf]
    obtain ⟨op, n, args, thn, els⟩ := s
    obtain ⟨hk1, hk2, hrow, hnd⟩ := h.todo (k, .mk op n args thn els) (by rw [ht]; simp)
    obtain ⟨hall, hrt, hre, hrc⟩ := row_cases hrow
    have hcnt : countSt (.mk op n args thn els) = 1 + countS thn + countS els := by rw [countSt]
    simp only at hk1 hk2 hnd
    rw [nodesSt] at hnd
    have pa := nodesL_pos args
    have pt := nodesS_pos thn
    have pe := nodesS_pos els
    have bt := countS_bound thn
    have be := countS_bound els
    have hp := pow_w (w := p.w) ⟨(isHeading_w h.head).1, (isHeading_w h.head).2.1⟩
    have hSO : SOk p.w p.vars [c.store] := fun t ht => by simp at ht; subst ht; exact h.store
    have hvw := vals_word (S := [c.store]) h.head hSO args (fun e he => (hall e he).1)
    have evb := evL_bound (w := p.w) (V := p.vars) (S := [c.store]) (l := args) (fun e _ => evE_bound e)
    have hfu := h.fuel
    have htr := h.tr
    have hou := h.ou
    have hco := h.co
    obtain ⟨b, hb⟩ : ∃ b, begunM p c (.mk op n args thn els) next = b := ⟨_, rfl⟩
    have e1 : b.trace = c.trace ++ evL p.w p.vars [c.store] args := by rw [← hb]; rfl
    have e2 : b.cost = c.cost + 1 + nodesL args := by rw [← hb]; rfl
    have e3 : b.fuel = c.fuel - 1 := by rw [← hb]; rfl
    have e4 : b.todo = next := by rw [← hb]; rfl
    have e5 : b.outs = c.outs := by rw [← hb]; rfl
    have e6 : b.used = c.used := by rw [← hb]; rfl
    have hnext : ∀ it ∈ next, 0 ≤ it.1 ∧ it.1 + countSt it.2 ≤ countS p.body ∧ rowSt p.w p.vars it.2 = true ∧ nodesSt it.2 ≤ 400 := fun it hit => h.todo it (by rw [ht]; simp [hit])
    have hbt : (b.trace.length : Int) + 99 + 500 * b.fuel ≤ 2 ^ 30 := by rw [e1, e3, List.length_append]; omega
    have ib : Inv p ps b := { head := h.head, store := by rw [← hb]; exact h.store, words := h.words, used := by rw [e6]; exact h.used, tot := h.tot, todo := by rw [e4]; exact hnext, fuel := by rw [e3]; omega, tr := by omega, ou := by rw [e5, e3]; omega, co := by rw [e2, e3]; omega }
    rw [show (Stm.mk op n args thn els).args = args from rfl]
    have ithn := items_ok (w := p.w) (V := p.vars) (C := countS p.body) (N := 400) thn (k + 1) (by omega) (by omega) hrt (by omega)
    have iels := items_ok (w := p.w) (V := p.vars) (C := countS p.body) (N := 400) els (k + 1 + countS thn) (by omega) (by omega) hre (by omega)
    have both : ∀ (l : List Itm), (∀ it ∈ l, 0 ≤ it.1 ∧ it.1 + countSt it.2 ≤ countS p.body ∧ rowSt p.w p.vars it.2 = true ∧ nodesSt it.2 ≤ 400) → ∀ (e : Ev), Inv p ps { b with trace := b.trace ++ [e], todo := l } := fun l hl e =>
      { ib with todo := hl, tr := by show ((b.trace ++ [e]).length : Int) + 500 * b.fuel ≤ 2 ^ 30; rw [List.length_append]; simp; omega }
    have app : ∀ (l m : List Itm), (∀ it ∈ l, 0 ≤ it.1 ∧ it.1 + countSt it.2 ≤ countS p.body ∧ rowSt p.w p.vars it.2 = true ∧ nodesSt it.2 ≤ 400) → (∀ it ∈ m, 0 ≤ it.1 ∧ it.1 + countSt it.2 ≤ countS p.body ∧ rowSt p.w p.vars it.2 = true ∧ nodesSt it.2 ≤ 400) → ∀ it ∈ l ++ m, 0 ≤ it.1 ∧ it.1 + countSt it.2 ≤ countS p.body ∧ rowSt p.w p.vars it.2 = true ∧ nodesSt it.2 ≤ 400 := fun l m hl hm it hit => (List.mem_append.1 hit).elim (hl it) (hm it)
    rw [hb]
    unfold actM
    by_cases o0 : op = 0
    · simp only [if_pos o0]
      have hlen : 0 < args.length := by
        rcases hrc with ⟨_, _, ⟨_, a, rfl⟩ | ⟨_, a, b, rfl⟩⟩ | ⟨q, _⟩ | ⟨q, _⟩ | ⟨q, _⟩ | ⟨q, _⟩ | ⟨q, _⟩
        · simp
        · simp
        all_goals omega
      exact inv_set ib (by omega) (hvw _ (by rw [valL_length]; omega))
    simp only [if_neg o0]
    by_cases o1 : op = 1
    · simp only [if_pos o1]
      by_cases q : vAt (valL p.w p.vars [c.store] args) 0 = 0
      · simp only [if_pos q]; exact both _ (app _ _ iels hnext) _
      · simp only [if_neg q]; exact both _ (app _ _ ithn hnext) _
    simp only [if_neg o1]
    by_cases o2 : op = 2
    · simp only [if_pos o2]
      by_cases q : vAt (valL p.w p.vars [c.store] args) 0 = 0
      · simp only [if_pos q]; exact both _ hnext _
      · simp only [if_neg q]
        exact both _ (app _ _ ithn (fun it hit => by
          rcases List.mem_cons.1 hit with rfl | hit
          · exact ⟨hk1, hk2, hrow, by show nodesSt (.mk op n args thn els) ≤ 400; rw [nodesSt]; omega⟩
          · exact hnext it hit)) _
    simp only [if_neg o2]
    by_cases o3 : op = 3
    · simp only [if_pos o3]
      exact { ib with ou := by show ((b.outs ++ [_]).length : Int) + b.fuel ≤ 2 ^ 30; rw [List.length_append, e5, e3]; simp; omega }
    simp only [if_neg o3]
    by_cases o4 : op = 4
    · simp only [if_pos o4]
      by_cases q : ps.length ≤ b.used
      · simp only [if_pos q]; exact inv_stop ib _ _
      · simp only [if_neg q]
        have hu := ib.used
        refine inv_set (c := { b with used := b.used + 1 }) { ib with used := by show b.used + 1 ≤ ps.length ∧ _; omega } (by show (b.trace.length : Int) + 1 + 500 * b.fuel ≤ 2 ^ 30; omega) ?_
        have : vAt ps b.used = ps[b.used]'(by omega) := by simp [vAt, List.getElem?_eq_getElem (show b.used < ps.length by omega)]
        rw [this]
        exact h.words _ (List.getElem_mem _)
    simp only [if_neg o4]
    by_cases o5 : op = 5
    · simp only [if_pos o5]
      by_cases q : vAt (valL p.w p.vars [c.store] args) 0 = 0
      · simp only [if_pos q]; exact inv_stop ib _ _
      · simp only [if_neg q]; exact ib
    simp only [if_neg o5]
    by_cases q : vAt (valL p.w p.vars [c.store] args) 0 = 0
    · simp only [if_pos q]; exact inv_stop ib _ _
    · simp only [if_neg q]; exact ib
end Go.Proofs.YtoijnpfpjpefgaaGreat.A
/- The machine's Step. -/
set_option linter.unusedVariables false
set_option linter.unusedSimpArgs false
set_option maxRecDepth 10000
namespace Go.Proofs.YtoijnpfpjpefgaaGreat.A
open Go
structure MacC (G H : AH) (m : Nat) (p : Prg) (ps : List Int) (v : MV) (c : CfM) : Prop where
  is : ∃ rows, MH G H m v rows c.store c.outs c.trace ∧ (c.over = false → ∃ fs, All2 (Fra G) rows fs ∧ c.todo = flatF fs) ∧ (rows.length : Int) + 2 * c.fuel ≤ 2 ^ 20
  w : v.w = p.w
  vars : Vars G v.vv p.vars
  cap : Cap v.vv
  picks : Ints G v.vp ps
  mt : Mt v c
  inv : Inv p ps c
  ov : c.over = true → c.todo = []
def endedM (c : CfM) : Bool := c.over || c.todo.isEmpty
theorem MacC.mod {G H H' : AH} {m : Nat} {p : Prg} {ps : List Int} {v : MV} {c : CfM} {T : Nat → Prop} (h : MacC G H m p ps v c) (M : Mod T H H') (hT : ∀ b, T b → ¬ Mf m v b) (hG : ∀ b, T b → G.get b = none) : MacC G H' m p ps v c := by
  obtain ⟨rows, h1, h2, h3⟩ := h.is
  exact { h with is := ⟨rows, h1.mod M hT hG, h2, h3⟩ }
theorem MacC.ext {G H H' : AH} {m : Nat} {p : Prg} {ps : List Int} {v : MV} {c : CfM} (h : MacC G H m p ps v c) (X : Ext H H') : MacC G H' m p ps v c := h.mod (Mod.of_ext (S := fun _ => False) X) (by simp) (by simp)
theorem all2_nil {α β : Type} {C : α → β → Prop} {l : List α} (h : All2 C l []) : l = [] := by cases h; rfl
theorem all2_last {α β : Type} {C : α → β → Prop} : ∀ {l : List α} {k : List β} {b : β}, All2 C l (k ++ [b]) → ∃ l0 a, l = l0 ++ [a] ∧ All2 C l0 k ∧ C a b
  | _, [], b, .cons h .nil => ⟨[], _, rfl, .nil, h⟩
  | _, x :: k, b, .cons h t => by
    obtain ⟨l0, a, rfl, h1, h2⟩ := all2_last t
    exact ⟨_ :: l0, a, rfl, .cons h h1, h2⟩
theorem evald_begun (p : Prg) (c : CfM) (s : Stm) (next : List Itm) : evaldM p { c with fuel := c.fuel - 1, cost := c.cost + 1 } s next = begunM p c s next := rfl
theorem acts {G H : AH} {m : Nat} {p : Prg} {ps : List Int} {v : MV} {c : CfM} {rows0 rs : List (List Value)} {fs0 : List (List Stm × Int)} {vl : Value} {cs : List Value} {k : Int} {l : List Stm} {op n : Int} {args : List Exp} {thn els : List Stm} (q : Value) (h : Atm G H m p ps v c rows0 fs0 vl cs rs k (.mk op n args thn els) l) :
    0 ≤ op ∧ op < 7 ∧ ∃ f, ([.func (.func 53) #[q] #[], .func (.func 54) #[q] #[], .func (.func 55) #[q] #[], .func (.func 56) #[q] #[], .func (.func 57) #[q] #[], .func (.func 58) #[q] #[], .func (.func 59) #[q] #[]] : List Value)[op.toNat]? = some (.func (.func f) #[q] #[]) ∧
      ActsAs G H f m p ps v c rows0.length fs0 cs k (.mk op n args thn els) l := by
  obtain ⟨_, _, _, hrc⟩ := row_cases h.row
  rcases hrc with ⟨rfl, _⟩ | ⟨rfl, _⟩ | ⟨rfl, _⟩ | ⟨rfl, _⟩ | ⟨rfl, _⟩ | ⟨rfl | rfl, _⟩
  · exact ⟨by omega, by omega, _, rfl, mset_ca h⟩
  · exact ⟨by omega, by omega, _, rfl, choose_ca h⟩
  · exact ⟨by omega, by omega, _, rfl, loop_ca h⟩
  · exact ⟨by omega, by omega, _, rfl, mout_ca h⟩
  · exact ⟨by omega, by omega, _, rfl, mpick_ca h⟩
  · exact ⟨by omega, by omega, _, rfl, mneed_ca h⟩
  · exact ⟨by omega, by omega, _, rfl, mmust_ca h⟩
theorem stop_todo {p : Prg} {ps : List Int} {c : CfM} {k : Int} {s : Stm} {vals : List Int} {next : List Itm} (h : c.over = false) : (actM p ps c k s vals next).over = true → (actM p ps c k s vals next).todo = [] := by
  obtain ⟨op, n, args, thn, els⟩ := s
  unfold actM
  intro q
  by_cases o0 : op = 0
  · simp only [if_pos o0, setM] at q ⊢; rw [h] at q; cases q
  simp only [if_neg o0] at q ⊢
  by_cases o1 : op = 1
  · simp only [if_pos o1] at q ⊢; rw [h] at q; cases q
  simp only [if_neg o1] at q ⊢
  by_cases o2 : op = 2
  · simp only [if_pos o2] at q ⊢; rw [h] at q; cases q
  simp only [if_neg o2] at q ⊢
  by_cases o3 : op = 3
  · simp only [if_pos o3] at q ⊢; rw [h] at q; cases q
  simp only [if_neg o3] at q ⊢
  by_cases o4 : op = 4
  · simp only [if_pos o4] at q ⊢
    by_cases u : ps.length ≤ c.used
    · simp only [if_pos u]; rfl
    · simp only [if_neg u, setM] at q; rw [h] at q; cases q
  simp only [if_neg o4] at q ⊢
  by_cases o5 : op = 5
  · simp only [if_pos o5] at q ⊢
    by_cases u : vAt vals 0 = 0
    · simp only [if_pos u]; rfl
    · simp only [if_neg u] at q; rw [h] at q; cases q
  simp only [if_neg o5] at q ⊢
  by_cases u : vAt vals 0 = 0
  · simp only [if_pos u]; rfl
  · simp only [if_neg u] at q; rw [h] at q; cases q
theorem act_fuel {p : Prg} {ps : List Int} {c : CfM} {k : Int} {s : Stm} {vals : List Int} {next : List Itm} : (actM p ps c k s vals next).fuel = c.fuel := by
  obtain ⟨op, n, args, thn, els⟩ := s
  unfold actM
  by_cases o0 : op = 0
  · simp only [if_pos o0]; rfl
  simp only [if_neg o0]
  by_cases o1 : op = 1
  · simp only [if_pos o1]
  simp only [if_neg o1]
  by_cases o2 : op = 2
  · simp only [if_pos o2]
  simp only [if_neg o2]
  by_cases o3 : op = 3
  · simp only [if_pos o3]
  simp only [if_neg o3]
  by_cases o4 : op = 4
  · simp only [if_pos o4]; split <;> rfl
  simp only [if_neg o4]
  by_cases o5 : op = 5
  · simp only [if_pos o5]; split <;> rfl
  simp only [if_neg o5]; split <;> rfl
/-- What a call does to a machine, seen from outside. -/
structure Stp' (G H : AH) (m : Nat) (p : Prg) (ps : List Int) (v : MV) (H' : AH) (c' : CfM) : Prop where
  is : ∃ v', MacC G H' m p ps v' c' ∧ Mod (Mf m v) H H' ∧ (∀ b, Mf m v' b → Mf m v b ∨ H.nx ≤ b) ∧ Sm v v'
theorem Step_ca {G H : AH} {m : Nat} {p : Prg} {ps : List Int} {v : MV} {c : CfM} (h : MacC G H m p ps v c) :
    Ca E O 22 [.pointer (some ⟨m, 0, none⟩)] H (fun x H' => x = .bool (!endedM c && !(stepM p ps c).over) ∧ Stp' G H m p ps v H' (stepM p ps c)) := by
  refine Ca.bodyV (F := a22) rfl rfl rfl ?_
  obtain ⟨rows, hM, hfs, hrl⟩ := h.is
  obtain ⟨m1, m2, m3, m4, m5, m6⟩ := h.mt
  have r13 := ld_get hM.get hM.n0 (k := 13) (v := .bool v.ended) rfl
  cases ho : c.over with
  | true =>
    have hs : stepM p ps c = c := by unfold stepM; rw [if_pos ho]
    rw [m6, ho] at r13
    have he : endedM c = true := by simp [endedM, ho]
    rw [hs, he]
    simp (maxSteps := 4000000) -implicitDefEqProofs +contextual [-X.ev, a22, r13]
    exact ⟨v, h, Mod.refl _ _, fun b hb => .inl hb, rfl, rfl, rfl, rfl⟩
  | false =>
    rw [m6, ho] at r13
    obtain ⟨fs, hall, htd⟩ := hfs ho
    rcases List.eq_nil_or_concat fs with rfl | ⟨fs0, f, hfs⟩
    · have hr0 := all2_nil hall
      subst hr0
      have ht : c.todo = [] := htd
      have hs : stepM p ps c = c := by unfold stepM; rw [if_neg (by rw [ho]; decide), ht]
      have he : endedM c = true := by simp [endedM, ht]
      rw [hs, he]
      simp (maxSteps := 4000000) -implicitDefEqProofs +contextual [-X.ev, a22, r13]
      apply Vx_callM
      · (simp -implicitDefEqProofs [-X.ev]; rfl)
      refine (mtop_nil hM.wf hM.get hM.n0 hM.fr).mono ?_
      rintro x H1 ⟨rfl, X1⟩
      obtain ⟨H2, s2, X2, nx2, n02, g2⟩ := var_new (X1.wf hM.wf) (z := 5) (c := zS) (vs := zS) rfl
      simp (maxSteps := 4000000) -implicitDefEqProofs +contextual [-X.ev, s2]
      exact ⟨v, h.ext (X1.trans X2), Mod.of_ext (X1.trans X2), fun b hb => .inl hb, rfl, rfl, rfl, rfl⟩
    · rw [List.concat_eq_append] at hfs
      subst hfs
      obtain ⟨rows0, r, rfl, h0, vl, rs, rfl, hr, hkl, hfit, hne, hfl⟩ := all2_last hall
      obtain ⟨lst, k⟩ := f
      cases hkl with
      | nil => exact absurd rfl hne
      | @cons cs s rs l hs hl =>
      rw [flatF_snoc, items_cons] at htd
      simp only [List.cons_append] at htd
      have hcs := hs.len
      have hinv := h.inv
      obtain ⟨hk1, hk2, hrow, hnd⟩ := hinv.todo (k, s) (by rw [htd]; simp)
      simp only at hk1 hk2 hnd hfl hr
      have pc := countSt_pos s
      have htot := hinv.tot
      have hfu := hinv.fuel
      have htr := hinv.tr
      have hou := hinv.ou
      have hco := hinv.co
      have hus := hinv.used
      have he : endedM c = false := by simp [endedM, ho, htd]
      have r4 := ld_get hM.get hM.n0 (k := 4) (v := .int .i64 v.fuel) rfl
      rw [m5] at r4
      simp only [List.length_append, List.length_singleton] at hrl
      rw [he]
      simp (maxSteps := 4000000) -implicitDefEqProofs +contextual [-X.ev, a22, r13]
      apply Vx_callM
      · (simp -implicitDefEqProofs [-X.ev]; rfl)
      refine (mtop_ca hM.wf hM.get hM.n0 hM.fr (by omega) hM.sub hr).mono ?_
      rintro x H1 ⟨rfl, X1⟩
      have hw1 := X1.wf hM.wf
      obtain ⟨H2, s2, X2, nx2, n02, g2⟩ := var_new hw1 (z := 5) (c := zS) (vs := cs) hcs
      have X02 := X1.trans X2
      have hw2 := X2.wf hw1
      have M2 := hM.ext X02
      have r42 := X02.ld r4
      by_cases hf : c.fuel = 0
      · have hs' : stepM p ps c = stopM c 3 k := by unfold stepM; rw [if_neg (by rw [ho]; decide), htd]; show (if c.fuel = 0 then _ else _) = _; rw [if_pos hf]
        rw [hf] at r42
        simp (maxSteps := 4000000) -implicitDefEqProofs +contextual [-X.ev, hcs, s2, r42]
        apply Vx_callM
        · (simp -implicitDefEqProofs [-X.ev]; rfl)
        refine (mend_ca (how := 3) (n := k) M2).mono ?_
        rintro x H3 ⟨rfl, A3⟩
        rw [hs']
        have hov3 : (stopM c 3 k).over = true := rfl
        simp (maxSteps := 4000000) -implicitDefEqProofs +contextual [-X.ev, hov3]
        have A := (Adv.ofExt hM X02).trans A3
        exact ⟨_, { is := ⟨_, A.mh, fun q => by rw [hov3] at q; exact absurd q (by decide), by rw [List.length_append, List.length_singleton]; show _ + 2 * c.fuel ≤ 2 ^ 20; omega⟩, w := h.w, vars := h.vars, cap := h.cap, picks := h.picks, mt := ⟨rfl, m2, m3, rfl, m5, rfl⟩, inv := inv_stop hinv 3 k, ov := fun _ => rfl }, A.mod, A.new, rfl, rfl, rfl, rfl⟩
      · have hs' : stepM p ps c = actM p ps (begunM p c s (nextM l k s fs0)) k s (valL p.w p.vars [c.store] s.args) (nextM l k s fs0) := by unfold stepM; rw [if_neg (by rw [ho]; decide), htd]; show (if c.fuel = 0 then _ else _) = _; rw [if_neg hf]
        have w1 : IntKind.i64.wrap (c.fuel - 1) = c.fuel - 1 := wrap_in ⟨by omega, by omega⟩
        have w2 : IntKind.i64.wrap (c.cost + 1) = c.cost + 1 := wrap_in ⟨by omega, by omega⟩
        obtain ⟨H3, s3, A3, nx3, n03⟩ := M2.cell (v' := { v with fuel := c.fuel - 1 }) 4 (.int .i64 (c.fuel - 1)) (by omega) rfl rfl rfl rfl rfl
        have r10 := ld_get A3.mh.get A3.mh.n0 (k := 10) (v := .int .i64 v.cost) rfl
        rw [m2] at r10
        obtain ⟨H4, s4, A4, nx4, n04⟩ := A3.mh.cell (v' := { v with fuel := c.fuel - 1, cost := c.cost + 1 }) 10 (.int .i64 (c.cost + 1)) (by omega) rfl rfl rfl rfl rfl
        have B4 := A3.trans A4
        have M4 := A4.mh
        obtain ⟨q, hq⟩ : ∃ q : Value, .pointer (some ⟨m, 0, none⟩) = q := ⟨_, rfl⟩
        obtain ⟨H5, s5, X5, nx5, n05, g5⟩ := var_new M4.wf (z := 7) (c := [.nilFunc, .nilFunc, .nilFunc, .nilFunc, .nilFunc, .nilFunc, .nilFunc]) (vs := [.func (.func 53) #[q] #[], .func (.func 54) #[q] #[], .func (.func 55) #[q] #[], .func (.func 56) #[q] #[], .func (.func 57) #[q] #[], .func (.func 58) #[q] #[], .func (.func 59) #[q] #[]]) rfl
        subst hq
        have M5 := M4.ext X5
        have hw5 := M5.wf
        have nb : ¬ Mf m v H1.nx := fun q => by have := hM.lt q; have := X1.nx; omega
        have gcs := X5.get (B4.mod.get nb g2)
        have n5 : H5.n0 ≤ H1.nx := by rw [n05, n04, n03, n02]; exact hw1
        have lcs : H5.ldn ⟨H1.nx, 0, none⟩ 5 = some cs := by rw [ldn_get gcs n5 (by omega)]; simp [List.take_of_length_le (Nat.le_of_eq hcs)]
        obtain ⟨op, n, args, thn, els⟩ := s
        have hcs0 : ∃ t, cs = .int .i64 op :: t := by cases hs; exact ⟨_, rfl⟩
        obtain ⟨t, rfl⟩ := hcs0
        have l0 := ld_get gcs n5 (k := 0) (v := .int .i64 op) rfl
        have hAt : Atm G H5 m p ps { v with fuel := c.fuel - 1, cost := c.cost + 1 } { c with fuel := c.fuel - 1, cost := c.cost + 1 } rows0 fs0 vl (.int .i64 op :: t) rs k (.mk op n args thn els) l :=
          { mh := M5, hr := hr, hf := hfit, hs := hs, hl := hl, h0 := h0, w := h.w, vars := h.vars, cap := h.cap, picks := h.picks, head := hinv.head, store := hinv.store, mt := ⟨m1, rfl, m3, m4, rfl, m6⟩, ov := ho, row := hrow, b1 := by omega, b2 := by omega, b3 := by omega, b4 := by simpa using hfl, b5 := by show c.trace.length ≤ 2 ^ 31; omega, b6 := by show c.outs.length ≤ 2 ^ 31; omega, b7 := by show 0 ≤ c.cost + 1 ∧ c.cost + 1 ≤ 2 ^ 50; omega, b8 := by show c.used ≤ ps.length ∧ _; omega }
        obtain ⟨ho1, ho2, f, hget, hact⟩ := acts (.pointer (some ⟨m, 0, none⟩)) hAt
        have lf := ld_get g5 (by rw [n05]; exact M4.wf) hget
        have hbu : buildV [.nilFunc, .nilFunc, .nilFunc, .nilFunc, .nilFunc, .nilFunc, .nilFunc] [(0, 1, .func (.func 53) #[.pointer (some ⟨m, 0, none⟩)] #[]), (1, 1, .func (.func 54) #[.pointer (some ⟨m, 0, none⟩)] #[]), (2, 1, .func (.func 55) #[.pointer (some ⟨m, 0, none⟩)] #[]), (3, 1, .func (.func 56) #[.pointer (some ⟨m, 0, none⟩)] #[]), (4, 1, .func (.func 57) #[.pointer (some ⟨m, 0, none⟩)] #[]), (5, 1, .func (.func 58) #[.pointer (some ⟨m, 0, none⟩)] #[]), (6, 1, .func (.func 59) #[.pointer (some ⟨m, 0, none⟩)] #[])] = some (.agg #[.func (.func 53) #[.pointer (some ⟨m, 0, none⟩)] #[], .func (.func 54) #[.pointer (some ⟨m, 0, none⟩)] #[], .func (.func 55) #[.pointer (some ⟨m, 0, none⟩)] #[], .func (.func 56) #[.pointer (some ⟨m, 0, none⟩)] #[], .func (.func 57) #[.pointer (some ⟨m, 0, none⟩)] #[], .func (.func 58) #[.pointer (some ⟨m, 0, none⟩)] #[], .func (.func 59) #[.pointer (some ⟨m, 0, none⟩)] #[]]) := rfl
        have hact2 := hact _ rfl
        rw [evald_begun] at hact2
        rw [hs']
        obtain ⟨c', hc'⟩ : ∃ c', actM p ps (begunM p c (.mk op n args thn els) (nextM l k (.mk op n args thn els) fs0)) k (.mk op n args thn els) (valL p.w p.vars [c.store] args) (nextM l k (.mk op n args thn els) fs0) = c' := ⟨_, rfl⟩
        have hinv' := inv_step hinv
        have hov' := stop_todo (p := p) (ps := ps) (c := begunM p c (.mk op n args thn els) (nextM l k (.mk op n args thn els) fs0)) (k := k) (s := .mk op n args thn els) (vals := valL p.w p.vars [c.store] args) (next := nextM l k (.mk op n args thn els) fs0) ho
        have hfu' := act_fuel (p := p) (ps := ps) (c := begunM p c (.mk op n args thn els) (nextM l k (.mk op n args thn els) fs0)) (k := k) (s := .mk op n args thn els) (vals := valL p.w p.vars [c.store] args) (next := nextM l k (.mk op n args thn els) fs0)
        rw [hs'] at hinv'
        simp only [Stm.args] at hact2 hinv' ⊢
        rw [hc'] at hact2 hinv' hov' hfu' ⊢
        have hfu2 : c'.fuel = c.fuel - 1 := hfu'
        have gl : H2.ldn ⟨H1.nx, 0, none⟩ 5 = some (.int .i64 op :: t) := by rw [ldn_get g2 (by rw [n02]; exact hw1) (by omega)]; simp [List.take_of_length_le (Nat.le_of_eq hcs)]
        have B5 := (Adv.ofExt hM X02).trans (B4.ext X5)
        simp (maxSteps := 4000000) -implicitDefEqProofs +contextual [-X.ev, hcs, s2, r42, hf, w1, s3, r10, w2, s4, hbu, s5, l0, ho1, ho2, lf, lcs, okD_of, chain_2, chain_1]
        apply Vx_callvM
        · (simp -implicitDefEqProofs [-X.ev, -Value.func.injEq]; rfl)
        · (simp -implicitDefEqProofs [-X.ev]; rfl)
        refine hact2.mono ?_
        rintro x H6 ⟨rfl, v', rows', A6, hfs6, hr6, hmt6, hsm6⟩
        have A := B5.trans A6
        have x6n := A6.mod.n0
        have x6x := A6.mod.nx
        simp (maxSteps := 4000000) -implicitDefEqProofs +contextual [-X.ev, okD_of, chain_2, chain_1, x6n, x6x]
        obtain ⟨q1, q2, q3, q4⟩ := hsm6
        exact ⟨v', { is := ⟨rows', A.mh, hfs6, by rw [hfu2]; omega⟩, w := q1.trans h.w, vars := by rw [q2]; exact h.vars, cap := by rw [q2]; exact h.cap, picks := by rw [q3]; exact h.picks, mt := hmt6, inv := hinv', ov := hov' }, A.mod, A.new, q1, q2, q3, q4⟩
end Go.Proofs.YtoijnpfpjpefgaaGreat.A
/- mach.New. -/
set_option linter.unusedVariables false
set_option linter.unusedSimpArgs false
set_option maxRecDepth 10000
namespace Go.Proofs.YtoijnpfpjpefgaaGreat.A
open Go
/-- The last row, written whole. -/
theorem Own.relast {H : AH} {sz : Nat} {v : Value} {rows : List (List Value)} {r r' : List Value} (h : Own H sz v (rows ++ [r])) (hl : r'.length = sz) : ∃ b, v = .slice (some ⟨b, 0, none⟩) (rows.length + 1) (rows.length + 1) ∧ ∃ H', H.st ⟨b, rows.length * sz, none⟩ r' = some H' ∧ Own H' sz v (rows ++ [r']) ∧ Mod (fun q => q = b) H H' ∧ H'.nx = H.nx ∧ H'.n0 = H.n0 := by
  rcases h.is with ⟨_, e⟩ | ⟨b, e, h0, g⟩
  · simp at e
  have hl1 : ∀ q ∈ rows, q.length = sz := fun q hq => h.len q (by simp [hq])
  have hr := h.len r (by simp)
  have hfl := flatten_length hl1
  obtain ⟨H', st, M, nx, n0, g'⟩ := st_get g h0 (k := rows.length * sz) (vs := r') (by rw [flatten_length h.len]; simp only [List.length_append, List.length_singleton, Nat.succ_mul]; omega)
  have e2 : v = .slice (some ⟨b, 0, none⟩) (rows.length + 1) (rows.length + 1) := by rw [e]; simp
  refine ⟨b, e2, H', st, ⟨.inr ⟨b, by rw [e2]; simp, by rw [n0]; exact h0, ?_⟩, ?_⟩, M, nx, n0⟩
  · rw [g']
    have := splice_at rows.flatten r r' [] (by omega)
    rw [hfl] at this
    simp only [List.append_nil] at this
    simp only [List.flatten_append, List.flatten_cons, List.flatten_nil, List.append_nil]
    rw [this]
  · intro q hq
    rcases List.mem_append.1 hq with hq | hq
    · exact hl1 q hq
    · simp at hq; subst hq; exact hl
def beginM (p : Prg) (fuel : Int) (t : Sta) : CfM := ⟨0, t.store, [], [], 0, 0, 0, fuel, itemsM p.body 0, false⟩
theorem inv_begin {p : Prg} {fuel : Int} {t : Sta} (h : chkR p fuel t = 0) : Inv p t.picks (beginM p fuel t) ∧ isPrg p = true ∧ 0 ≤ fuel ∧ fuel ≤ 4096 ∧ isSta p t = true := by
  unfold chkR at h
  cases h1 : isPrg p with
  | false => rw [if_pos h1] at h; omega
  | true =>
    rw [if_neg (by rw [h1]; decide)] at h
    by_cases h2 : fuel < 0 ∨ 4096 < fuel
    · rw [if_pos h2] at h; omega
    rw [if_neg h2] at h
    cases h3 : isSta p t with
    | false => rw [if_pos h3] at h; omega
    | true =>
      have hp := h1
      have hs := h3
      simp only [isPrg, Bool.and_eq_true, decide_eq_true_eq] at hp
      simp only [isSta, Bool.and_eq_true, decide_eq_true_eq, List.all_eq_true] at hs
      have hw8 : 1 ≤ p.w ∧ p.w ≤ 8 := ⟨(isHeading_w hp.1).1, (isHeading_w hp.1).2.1⟩
      have cb := countS_bound p.body
      refine ⟨⟨hp.1, hs.1, fun a ha => ?_, ⟨by show 0 ≤ _; omega, hs.2.1⟩, by omega, ?_, by show 0 ≤ fuel ∧ fuel ≤ 4096; omega, by show (0 : Int) + 500 * fuel ≤ 2 ^ 30; omega, by show (0 : Int) + fuel ≤ 2 ^ 30; omega, by show 0 ≤ (0 : Int) ∧ 0 + 500 * fuel ≤ 2 ^ 40; omega⟩, rfl, by omega, by omega, rfl⟩
      · have := hs.2.2 a ha
        rw [isWord_p hw8] at this
        simp at this
        exact this
      · exact items_ok p.body 0 (by omega) (by omega) hp.2.2.2 (by omega)
/-- A machine of one's own. -/
structure Made (H : AH) (p : Prg) (ps : List Int) (H' : AH) (m : Nat) (c : CfM) : Prop where
  is : ∃ G v, MacC G H' m p ps v c ∧ Ext H H' ∧ (∀ b, Mf m v b → H.nx ≤ b) ∧ ∀ b x, G.get b = some x → H.nx ≤ b
abbrev newV (w fuel : Int) (vp vv vb vs vf : Value) : MV := ⟨vf, w, vv, vb, fuel, vp, 0, vs, .slice none 0 0, .slice none 0 0, 0, 0, 0, false⟩
theorem sameL_refl_S : sameL zS zS = true := by simp [zS]
theorem New_ca {p : Prg} {t : Sta} {c d : List Value} {fuel : Int} {H : AH} (hw : H.n0 ≤ H.nx) (hp : PrgC H c p) (ht : StaC H d t) :
    Ca E O 21 [.agg c.toArray, .int .i64 fuel, .agg d.toArray] H (fun x H' => if chkR p fuel t = 0 then ∃ m, x = .tuple #[.pointer (some ⟨m, 0, none⟩), .int .i64 0] ∧ Made H p t.picks H' m (beginM p fuel t) else x = .tuple #[.pointer none, .int .i64 (chkR p fuel t)] ∧ Ext H H') := by
  refine Ca.bodyV (F := a21) rfl rfl rfl ?_
  have hc := hp.len
  have hd : d.length = 2 := by obtain ⟨vs, vp, e, _⟩ := ht.is; rw [e]; rfl
  have X1 := Ext.alloc H (.cells c.length c)
  have q : (H.alloc (.cells c.length c)).ldn ⟨H.nx, 0, none⟩ 3 = some c := ld_box hw 3 (by assumption)
  generalize hH1 : H.alloc (.cells c.length c) = H1 at X1 q
  have hwH1 := X1.wf hw
  have X2 := Ext.alloc H1 (.cells d.length d)
  have r : (H1.alloc (.cells d.length d)).ldn ⟨H1.nx, 0, none⟩ 2 = some d := ld_box hwH1 2 (by assumption)
  generalize hH2 : H1.alloc (.cells d.length d) = H2 at X2 r
  have hwH2 := X2.wf hwH1
  replace q := X2.ldn q
  have X := X1.trans X2
  simp (maxSteps := 4000000) -implicitDefEqProofs +contextual [-X.ev, a21, hH1, hH2, q]
  apply Vx_callM
  · (simp -implicitDefEqProofs [-X.ev]; rfl)
  refine (PCheck_ca hwH2 (hp.ext X)).mono ?_
  rintro x H3 ⟨rfl, X3⟩
  replace q := X3.ldn q
  replace r := X3.ldn r
  have X03 := X.trans X3
  cases h1 : isPrg p with
  | false =>
    have hk : chkR p fuel t = 30 := by unfold chkR; rw [if_pos h1]
    simp (maxSteps := 4000000) -implicitDefEqProofs +contextual [-X.ev, h1, hk, X03]
  | true =>
    by_cases h2 : fuel < 0
    · have hk : chkR p fuel t = 1 := by unfold chkR; rw [if_neg (by rw [h1]; decide), if_pos (.inl h2)]
      simp (maxSteps := 4000000) -implicitDefEqProofs +contextual [-X.ev, h1, h2, hk, X03]
    by_cases h3 : 4096 < fuel
    · have hk : chkR p fuel t = 1 := by unfold chkR; rw [if_neg (by rw [h1]; decide), if_pos (.inr h3)]
      simp (maxSteps := 4000000) -implicitDefEqProofs +contextual [-X.ev, h1, h2, h3, hk, X03]
    simp (maxSteps := 4000000) -implicitDefEqProofs +contextual [-X.ev, h1, h2, h3, q, r]
    apply Vx_callM
    · (simp -implicitDefEqProofs [-X.ev]; rfl)
    refine (isStart_ca (X3.wf hwH2) (hp.ext X03) (ht.ext X03) h1).mono ?_
    rintro x H4 ⟨rfl, X4⟩
    replace q := X4.ldn q
    replace r := X4.ldn r
    have X04 := X03.trans X4
    have hw4 := X04.wf hw
    cases h4 : isSta p t with
    | false =>
      have hk : chkR p fuel t = 50 := by unfold chkR; rw [if_neg (by rw [h1]; decide), if_neg (by omega), if_pos h4]
      simp (maxSteps := 4000000) -implicitDefEqProofs +contextual [-X.ev, h4, hk, X04]
    | true =>
      have hk : chkR p fuel t = 0 := by unfold chkR; rw [if_neg (by rw [h1]; decide), if_neg (by omega), if_neg (by rw [h4]; decide)]
      obtain ⟨hinv, _, hf1, hf2, _⟩ := inv_begin hk
      have hp4 := hp.ext X04
      have ht4 := ht.ext X04
      obtain ⟨vv, vb, rb, rfl, hi, hv, hvo, hr, hl, hbl⟩ := hp4.is
      obtain ⟨vs, vp, rfl, ss, sp, l1, l2, _, _⟩ := ht4.is
      have q1 := ld_of_ldn q (j := 1) rfl
      have q2 := ld_of_ldn q (j := 2) rfl
      have r0 := ld_of_ldn r (j := 0) rfl
      have r1 := ld_of_ldn r (j := 1) rfl
      simp only [Nat.zero_add] at q1 q2 r0 r1
      have hpk := hinv.used.2
      have hsl : t.store.length ≤ 48 := by
        have := hinv.store
        simp only [isStore, Bool.and_eq_true, decide_eq_true_eq] at this
        have h48 := (head_cells hinv.head).2.2
        have e := this.1
        simp only [beginM] at e
        omega
      have hVl := (head_cells hinv.head).2.1
      simp (maxSteps := 4000000) -implicitDefEqProofs +contextual [-X.ev, h4, q, r1]
      apply Vx_callM
      · (simp -implicitDefEqProofs [-X.ev]; rfl)
      refine (CloneI_ca hw4 sp (by omega)).mono ?_
      rintro vpc H5 ⟨o5, X5, k5⟩
      obtain ⟨pa, pc, hvp⟩ := o5.shape
      have hw5 := X5.wf hw4
      have hbu : buildV [.slice none 0 0, .int .i64 0, .slice none 0 0, .slice none 0 0, .int .i64 0, .slice none 0 0, .int .i64 0, .slice none 0 0, .slice none 0 0, .slice none 0 0, .int .i64 0, .int .i64 0, .int .i64 0, .bool false] [(1, 3, .agg #[.int .i64 p.w, vv, vb]), (4, 1, .int .i64 fuel), (5, 1, vpc)] = some (.agg (newV p.w fuel vpc vv vb (.slice none 0 0) (.slice none 0 0)).cells.toArray) := by
        rw [hvp]; rfl
      have gm := get_new H5 (.cells 14 (newV p.w fuel vpc vv vb (.slice none 0 0) (.slice none 0 0)).cells)
      have X6 := Ext.alloc H5 (.cells 14 (newV p.w fuel vpc vv vb (.slice none 0 0) (.slice none 0 0)).cells)
      obtain ⟨H6, hH6⟩ : ∃ H6, H5.alloc (.cells 14 (newV p.w fuel vpc vv vb (.slice none 0 0) (.slice none 0 0)).cells) = H6 := ⟨_, rfl⟩
      rw [hH6] at gm X6
      obtain ⟨m, hm⟩ : ∃ m, H5.nx = m := ⟨_, rfl⟩
      rw [hm] at gm
      have x5x := X5.nx
      have x5n := X5.n0
      have x6x := X6.nx
      have mlt := AH.get_lt gm
      have X46 := X5.trans X6
      have q1_6 := X46.ld q1
      have hw6 := X6.wf hw5
      have q5 := X5.ldn q
      have cc1 : H4.nx ≤ m := by omega
      have cc2 : H6.n0 = H4.n0 := X6.n0.trans x5n
      have cc3 : m ≤ H6.nx := by omega
      obtain ⟨va0, vc0, hvv0⟩ := hv.len
      obtain ⟨ba0, bc0, hvb0⟩ := hr.len
      have svv : same1 vv vv = true := by rw [hvv0]; simp
      have svb : same1 vb vb = true := by rw [hvb0]; simp
      simp (maxSteps := 4000000) -implicitDefEqProofs +contextual [-X.ev, hbu, hH6, q, q5, svv, svb, x5n, cc1, cc2, cc3, okD_of, chain_2, chain_1, q1_6, hm]
      apply Vx_callM
      · (simp -implicitDefEqProofs [-X.ev]; rfl)
      refine (Clone_gen (f := 48) (sz := 3) (bytes := 32) rfl rfl hw6 (hv.ext X46) (by simp; omega) (by simp; omega)).mono ?_
      rintro x H7 ⟨o7, X7, k7⟩
      have x7x := X7.nx
      have m0 : H.n0 ≤ m := by have := X04.nx; omega
      obtain ⟨wa, wc, hvw⟩ := o7.shape
      rw [List.length_map] at hvw
      obtain ⟨H8, s8, M8, nx8, n08, g8⟩ := st_get (X7.get gm) (by rw [X7.n0, cc2, X04.n0]; exact m0) (k := 2) (vs := [x]) (by simp)
      have hsp8 : splice (newV p.w fuel vpc vv vb (.slice none 0 0) (.slice none 0 0)).cells 2 [x] = (newV p.w fuel vpc x vb (.slice none 0 0) (.slice none 0 0)).cells := rfl
      rw [hsp8] at g8
      obtain ⟨H9, s9, M9, nx9, n09, g9⟩ := st_get g8 (by rw [n08, X7.n0, cc2, X04.n0]; exact m0) (k := 3) (vs := [.slice none 0 0]) (by simp)
      have hsp9 : splice (newV p.w fuel vpc x vb (.slice none 0 0) (.slice none 0 0)).cells 3 [.slice none 0 0] = (newV p.w fuel vpc x (.slice none 0 0) (.slice none 0 0) (.slice none 0 0)).cells := rfl
      rw [hsp9] at g9
      have X49 : Ext H4 H9 := ((X46.trans X7).mod M8 (fun b hb => by omega)).mod M9 (fun b hb => by omega)
      have n9 : H9.n0 = H.n0 := X49.n0.trans X04.n0
      have q2_9 := X49.ld q2
      have r0_9 := X49.ld r0
      have hw9 := X49.wf hw4
      have hvb1 := hvb0
      rw [hl.length] at hvb1
      rw [hvb1] at q2_9
      rw [hvw] at s8
      simp (maxSteps := 4000000) -implicitDefEqProofs +contextual [-X.ev, hvw, s8, s9, q2_9]
      rw [← hvw] at s8
      refine Vk_loop (fun k fr H' => Mod (fun b => b = m) H9 H' ∧ ∃ (i : Nat) (z : Value) (rs : List (List Value)), H'.get m = some (.cells 14 (newV p.w fuel vpc x z (.slice none 0 0) (.slice none 0 0)).cells) ∧ i + k = p.body.length ∧ fr.get 8 = .pointer (some ⟨m, 0, none⟩) ∧ fr.get 5 = .pointer (some ⟨H1.nx, 0, none⟩) ∧ fr.get 43 = vb ∧ fr.get 44 = .int .i64 p.body.length ∧ fr.get 45 = .int .i64 i ∧ Own H' 5 z rs ∧ rs.length = i ∧ StKL (part H' H9.nx (blk z)) rs (p.body.take i) ∧ (∀ b, blk z b → H9.nx ≤ b)) ?_ p.body.length ⟨Mod.refl _ _, 0, .slice none 0 0, [], by simpa [hvw] using g9, by simp, by simp [hm], by simp, by simp [hvb1], by simp, by simp, Own.nil _ _, rfl, by simpa using StKL.nil, fun b hb => absurd hb (blk_nil _ _ _)⟩
      rintro k fr H10 ⟨M10, i, z, rs, g10, hi, f8, f5, f43, f44, f45, ow, hrs, hall, hfr⟩
      have hw10 := M10.wf hw9
      have x10x := M10.nx
      have X410 : Ext H4 H10 := X49.mod M10 (fun b hb => by omega)
      have hnod : nodesS p.body ≤ 400 := by
        simp only [isPrg, Bool.and_eq_true, decide_eq_true_eq] at h1
        exact h1.2.1
      have hblen := nodesS_len p.body
      by_cases hlt : i < p.body.length
      · obtain ⟨y, hy⟩ : ∃ y, p.body[i]? = some y := ⟨_, List.getElem?_eq_getElem hlt⟩
        have t1 := nodesS_take hy
        have t2 := nodesS_take_le p.body (i + 1)
        have t3 := nodesS_take_le p.body i
        obtain ⟨yop, yn, yargs, ythn, yels⟩ := y
        obtain ⟨b, o, c', yva, yvt, yve, yra, yrt, yre, hv', hldn, _, _, _, _, _, j1, j2, j3, j4, j5, e1, e2, e3, e4, e5, e6⟩ := StL.row (hr.ext X410) (StL.ext X410 hl) hy
        have hyc : StC H10 [.int .i64 yop, .int .i64 yn, yva, yvt, yve] (.mk yop yn yargs ythn yels) := .mk j1 j2 j3 j4 j5 e1 e2 e3 e4 e5 e6
        have f43' := f43
        rw [hv'] at f43'
        obtain ⟨Ha, sHa, Xa, nxHa, n0Ha, u, lHa⟩ := st_new (H := H10) hw10 (z := 5) (c := [.int .i64 0, .int .i64 0, .slice none 0 0, .slice none 0 0, .slice none 0 0]) (vs := [.int .i64 yop, .int .i64 yn, yva, yvt, yve]) rfl
        have u0 : Ha.ld ⟨H10.nx, 0, none⟩ = some (.int .i64 yop) := lHa 0 _ rfl
        have u1 : Ha.ld ⟨H10.nx, 1, none⟩ = some (.int .i64 yn) := lHa 1 _ rfl
        have u2 : Ha.ld ⟨H10.nx, 2, none⟩ = some yva := lHa 2 _ rfl
        have u3 : Ha.ld ⟨H10.nx, 3, none⟩ = some yvt := lHa 3 _ rfl
        have u4 : Ha.ld ⟨H10.nx, 4, none⟩ = some yve := lHa 4 _ rfl
        clear lHa
        replace u : Ha.ldn ⟨H10.nx, 0, none⟩ 5 = some [.int .i64 yop, .int .i64 yn, yva, yvt, yve] := u
        have hwHa := Xa.wf hw10
        have ga := Xa.get g10
        have n10 : Ha.n0 = H.n0 := Xa.n0.trans (M10.n0.trans n9)
        have ld3 := ld_get ga (by rw [n10]; exact m0) (k := 3) (v := z) rfl
        obtain ⟨za, zc, hz⟩ := ow.shape
        rw [hrs] at hz
        have hbz := bsl1 (sz := 5) (z := zS) (H := Ha) (v := .agg #[.int .i64 0, .int .i64 0, .slice none 0 0, .slice none 0 0, .slice none 0 0]) rfl rfl rfl
        simp only [vcells_agg] at hbz
        have Xb := Ext.alloc Ha (.cells 5 zS)
        have gz := get_new Ha (.cells 5 zS)
        obtain ⟨Hb, hHb⟩ : ∃ Hb, Ha.alloc (.cells 5 zS) = Hb := ⟨_, rfl⟩
        rw [hHb] at hbz Xb gz
        have hwb := Xb.wf hwHa
        have oz : Own Hb 5 (.slice (some ⟨Ha.nx, 0, none⟩) 1 1) [zS] := ⟨.inr ⟨Ha.nx, rfl, by rw [Xb.n0]; exact hwHa, by simpa using gz⟩, by simp⟩
        have xax := Xa.nx
        have xbx := Xb.nx
        rw [hz] at ld3
        simp (maxSteps := 4000000) -implicitDefEqProofs +contextual [-X.ev, f43', f44, f45, f8, hlt, hldn, sHa, u, ld3, hbz]
        apply Vx_callM
        · (simp -implicitDefEqProofs [-X.ev]; rfl)
        refine (Copied_ca _ _ _ Hb (Nat.lt_succ_self _) hwb (StC.ext (Xa.trans Xb) hyc) (by omega)).mono ?_
        rintro xx Hc ⟨cs, rfl, hk5, Xc⟩
        have hwc := Xc.wf hwb
        have xcx := Xc.nx
        obtain ⟨s', Hd, had, od, Md, kd, kd'⟩ := app_own' (bytes := 88) hwc ((ow.ext (Xa.trans Xb)).ext Xc) (oz.ext Xc).rows (by simp; omega) (by simp; omega)
        have hcs5 := hk5.len
        obtain ⟨bd, hsd, He, sd, oe, Me, nxe, n0e⟩ := od.relast hcs5
        have zlt : ∀ b, blk z b → b < H10.nx := fun b hb => ow.lt hb
        have mltb : m < H9.nx := AH.get_lt g9
        have gd := Md.get (fun q => by have := hfr m q; omega) (Xc.get (Xb.get ga))
        have hbd : blk s' bd := by rw [hsd]; exact (blk_slice _ _ _ _ _).2 rfl
        have hbdn := kd' (by simp) bd hbd
        have ge := Me.get (fun q => by omega) gd
        obtain ⟨Hf, sf, Mf', nxf, n0f, gf⟩ := st_get ge (by rw [n0e, Md.n0, Xc.n0, Xb.n0, n10]; exact m0) (k := 3) (vs := [s']) (by simp)
        have hspf : splice (newV p.w fuel vpc x z (.slice none 0 0) (.slice none 0 0)).cells 3 [s'] = (newV p.w fuel vpc x s' (.slice none 0 0) (.slice none 0 0)).cells := rfl
        rw [hspf] at gf
        have ldn3 := ld_ldn.1 ld3
        have ldn3c := Xc.ldn (Xb.ldn ldn3)
        have ldn3b := Xb.ldn ldn3
        have gzc := Xc.get gz
        have mdx := Md.nx
        rw [hrs] at sd hsd
        have hbq : Nat.beq bd m = false := Bool.eq_false_iff.2 fun h => by have := Nat.eq_of_beq_eq_true h; omega
        have n0d := Md.n0
        have n0c := Xc.n0
        have n0b := Xb.n0
        rw [hz] at had
        rw [hsd] at had sf
        have hltn : (i : Int) < (i : Int) + 1 := by omega
        simp (maxSteps := 4000000) -implicitDefEqProofs +contextual [-X.ev, f45, had, sd, sf, hcs5, hltn, okD_of, chain_2, chain_1, ckO_2, adrOf, ldn3, ldn3c, ldn3b, gz, gzc, sameB, sameL_refl_S, hbq, n0d, n0c, n0b, n0e, n0f, xbx, xcx, mdx, nxe, nxf]
        rw [wrap_in (n := (i : Int) + 1) ⟨by omega, by omega⟩]
        have MM := (((M10.trans (Mod.of_ext ((Xa.trans Xb).trans Xc))).then Md (fun b hb q => by have := hfr b q; omega)).then Me (fun b hb q => by omega)).then Mf' (fun b _ q => q)
        have nn : Hf.n0 = Hc.n0 := n0f.trans (n0e.trans n0d)
        refine ⟨k - 1, by omega, MM, i + 1, s', gf, by omega, f8, f5, f43, f44, by simp, _, oe.mod Mf' (fun b hb q => by have := kd' (by simp) b hb; omega), by simp [hrs], ?_, fun b hb => by have := kd' (by simp) b hb; omega⟩
        rw [take_snoc hy]
        refine StKL.snoc (hall.sub (part_sub (nn.trans (n0c.trans (n0b.trans Xa.n0))) (by omega) fun b y hb hn hz => ?_)) (hk5.sub (part_sub nn (by omega) fun b y hb hn hz => ?_))
        · have hb1 := AH.get_lt hb
          exact ⟨Mf'.get (fun q => by omega) (Me.get (fun q => by omega) (Md.get hz (Xc.get (Xb.get (Xa.get hb))))), hn, fun q => by have := kd' (by simp) b q; omega⟩
        · have hb1 := AH.get_lt hb
          exact ⟨Mf'.get (fun q => by omega) (Me.get (fun q => by omega) (Md.get (fun q => by have := zlt b q; omega) hb)), by omega, fun q => by have := kd' (by simp) b q; omega⟩
      rw [List.take_of_length_le (by omega)] at hall
      have r0_10 := X410.ld r0
      have f43' := f43
      rw [hvb1] at f43'
      simp (maxSteps := 4000000) -implicitDefEqProofs +contextual [-X.ev, f43', f44, f45, f8, f5, hlt, r0_10]
      apply Vx_callM
      · (simp -implicitDefEqProofs [-X.ev]; rfl)
      refine (CloneI_ca hw10 (ss.ext X410) (by omega)).mono ?_
      rintro vsc H11 ⟨o11, X11, k11⟩
      have n10 : H10.n0 = H.n0 := M10.n0.trans n9
      have x11x := X11.nx
      obtain ⟨H12, s12, M12, nx12, n12, g12⟩ := st_get (X11.get g10) (by rw [X11.n0, n10]; exact m0) (k := 7) (vs := [vsc]) (by simp)
      have hsp12 : splice (newV p.w fuel vpc x z (.slice none 0 0) (.slice none 0 0)).cells 7 [vsc] = (newV p.w fuel vpc x z vsc (.slice none 0 0)).cells := rfl
      rw [hsp12] at g12
      have mlt9 : m < H9.nx := AH.get_lt g9
      have MM10 : Mod (fun b => b = m) H10 H12 := (Mod.of_ext X11).trans M12
      have MM7 : Mod (fun b => b = m) H7 H12 := ((M8.trans M9).trans M10).trans MM10
      have MM5 : Mod (fun b => b = m) H5 H12 := (Mod.of_ext (X6.trans X7)).trans MM7
      have n012 : H12.n0 = H.n0 := n12.trans (X11.n0.trans n10)
      have hw12 : H12.n0 ≤ H12.nx := by rw [n012, nx12]; omega
      obtain ⟨v12, hv12⟩ : ∃ v12, newV p.w fuel vpc x z vsc (.slice none 0 0) = v12 := ⟨_, rfl⟩
      have hMf : ∀ b, Mf m v12 b ↔ b = m ∨ blk vsc b := by
        intro b
        rw [← hv12]
        unfold Mf
        simp only [blk_nil, false_or, or_false]
      obtain ⟨G, hG⟩ : ∃ G, part H12 H.nx (Mf m v12) = G := ⟨_, rfl⟩
      have x04 := X04.nx
      have o12 := (o11.mod M12 (fun b hb q => by have := k11 b hb; omega))
      have vm : ¬ blk vsc m := fun q => by have := k11 m q; omega
      have h12 : MH G H12 m v12 [] t.store [] [] := by
        subst hG hv12
        exact { get := g12, n0 := by rw [n012]; exact m0, sub := part_of _ _ _, wf := hw12, fr := (Own.nil _ 2).ownr, st := o12, ou := Own.nil _ 2, tr := Own.nil _ 3, d1 := ⟨blk_nil _ _ _, vm, blk_nil _ _ _, blk_nil _ _ _⟩, d2 := fun b hb => absurd hb (blk_nil _ _ _), d3 := fun b hb => ⟨blk_nil _ _ _, blk_nil _ _ _⟩, d4 := fun b hb => absurd hb (blk_nil _ _ _), out := fun b hb => part_none hb }
      have oz12 : Own G 5 z rs := by
        rw [← hG]
        exact (ow.mod MM10 (fun b hb q => by have := hfr b hb; omega)).part fun b hb => ⟨by have := hfr b hb; omega, fun q => by
          rw [hMf] at q
          rcases q with q | q
          · have := hfr b hb; omega
          · have := k11 b q; have := ow.lt hb; omega⟩
      have hk12 : StKL G rs p.body := by
        rw [← hG]
        refine hall.sub (part_sub (n012.trans n10.symm) (by omega) fun b y hb hn hz => ?_)
        have hb1 := AH.get_lt hb
        refine ⟨MM10.get (fun q => by omega) hb, by omega, fun q => ?_⟩
        rw [hMf] at q
        rcases q with q | q
        · omega
        · have := k11 b q; omega
      have ov12 : Own G 3 x (p.vars.map Vr.row) := by
        rw [← hG]
        refine (o7.mod MM7 (fun b hb q => by have := k7 b hb; omega)).part fun b hb => ⟨by have := k7 b hb; omega, fun q => ?_⟩
        rw [hMf] at q
        rcases q with q | q
        · have := k7 b hb; omega
        · have := k11 b q; have := o7.lt hb; have := nx8; have := nx9; omega
      have op12 : Own G 1 vpc (intRows t.picks) := by
        rw [← hG]
        refine (o5.mod MM5 (fun b hb q => by have := o5.lt hb; omega)).part fun b hb => ⟨by have := k5 b hb; omega, fun q => ?_⟩
        rw [hMf] at q
        rcases q with q | q
        · have := o5.lt hb; omega
        · have := k11 b q; have := o5.lt hb; omega
      have l3 := ld_get g12 (by rw [n012]; exact m0) (k := 3) (v := z) rfl
      obtain ⟨za, zc, hz⟩ := ow.shape
      obtain ⟨sa, sc, hsc⟩ := o11.shape
      have hl12 : p.body.length ≤ 2 ^ 30 := by omega
      have key := mpush_ca (k := 0) h12 oz12.rows hk12 oz12.fit (fs := []) .nil (by simp) hl12
      rw [hz] at l3 key
      rw [hsc] at s12
      simp (maxSteps := 4000000) -implicitDefEqProofs +contextual [-X.ev, f8, hsc, s12, l3, okD_of, chain_2, chain_1]
      apply Vx_callM
      · (simp -implicitDefEqProofs [-X.ev]; rfl)
      refine (key).mono ?_
      rintro xx H13 ⟨vf', rows', fs', A13, ha13, hfl13, hrl13⟩
      have x13n := A13.mod.n0
      have x13x := A13.mod.nx
      simp (maxSteps := 4000000) -implicitDefEqProofs +contextual [-X.ev, f8, okD_of, chain_2, chain_1, x13n, x13x, hk]
      have XX : Ext H H12 := (((X04.trans X410)).trans X11).mod M12 (fun b hb => by omega)
      have hfoot : ∀ b, Mf m v12 b → H.nx ≤ b := fun b hb => by
        rw [hMf] at hb
        rcases hb with q | q
        · omega
        · have := k11 b q; omega
      have hgx : ∀ b x, G.get b = some x → H.nx ≤ b := fun b x hb => by rw [← hG] at hb; exact (part_get.1 hb).2.1
      refine ⟨G, _, { is := ⟨rows', A13.mh, fun _ => ⟨fs', ha13, by rw [hfl13]; simp [flatF, beginM]⟩, by simp at hrl13; show _ + 2 * fuel ≤ 2 ^ 20; omega⟩, w := by rw [← hv12], vars := by rw [← hv12]; exact ov12.rows, cap := by rw [← hv12]; exact ov12.cap, picks := by rw [← hv12]; exact op12.ints, mt := by rw [← hv12]; exact ⟨rfl, rfl, rfl, rfl, rfl, rfl⟩, inv := hinv, ov := fun q => by cases q }, XX.mod A13.mod hfoot, fun b hb => ?_, hgx⟩
      rcases A13.new b hb with q | q
      · exact hfoot b q
      · have := XX.nx; omega
end Go.Proofs.YtoijnpfpjpefgaaGreat.A
/- Runs in memory; the machine's Run; mach.Run. -/
set_option linter.unusedVariables false
set_option linter.unusedSimpArgs false
set_option maxRecDepth 10000
namespace Go.Proofs.YtoijnpfpjpefgaaGreat.A
open Go
structure RunM where
  en : Int
  store : List Int
  outs : List (Int × Int)
  trace : List Ev
  cost : Int
  used : Int
  wh : Int
def CfM.run (c : CfM) : RunM := ⟨c.en, c.store, c.outs, c.trace, c.cost, c.used, c.wh⟩
def zeroRun : RunM := ⟨0, [], [], [], 0, 0, 0⟩
def Small (r : RunM) : Prop := r.store.length ≤ 2 ^ 40 ∧ r.outs.length ≤ 2 ^ 40 ∧ r.trace.length ≤ 2 ^ 40
/-- A run in memory of its own. -/
structure RunO (H : AH) (n : Nat) (cs : List Value) (r : RunM) : Prop where
  is : ∃ vs vo vt, cs = [.int .i64 r.en, vs, vo, vt, .int .i64 r.cost, .int .i64 r.used, .int .i64 r.wh] ∧ Own H 1 vs (intRows r.store) ∧ Own H 2 vo (outRows r.outs) ∧ Own H 3 vt (evRows r.trace) ∧ (∀ b, blk vs b ∨ blk vo b ∨ blk vt b → n ≤ b)
theorem RunO.ext {H H' : AH} {n : Nat} {cs : List Value} {r : RunM} (X : Ext H H') (h : RunO H n cs r) : RunO H' n cs r := by
  obtain ⟨vs, vo, vt, e, a, b, c, d⟩ := h.is
  exact ⟨vs, vo, vt, e, a.ext X, b.ext X, c.ext X, d⟩
theorem RunO.zero (H : AH) (n : Nat) : RunO H n [.int .i64 0, .slice none 0 0, .slice none 0 0, .slice none 0 0, .int .i64 0, .int .i64 0, .int .i64 0] zeroRun :=
  ⟨_, _, _, rfl, Own.nil _ _, Own.nil _ _, Own.nil _ _, fun b hb => by rcases hb with q | q | q <;> exact absurd q (blk_nil _ _ _)⟩
theorem copied_ca {H : AH} {r : RunM} {vs vo vt : Value} (hw : H.n0 ≤ H.nx) (hs : Rows H 1 vs (intRows r.store)) (ho : Rows H 2 vo (outRows r.outs)) (ht : Rows H 3 vt (evRows r.trace)) (hb : Small r) :
    Ca E O 60 [.agg #[.int .i64 r.en, vs, vo, vt, .int .i64 r.cost, .int .i64 r.used, .int .i64 r.wh]] H (fun x H' => ∃ cs, x = .agg cs.toArray ∧ RunO H' H.nx cs r ∧ Ext H H') := by
  refine Ca.bodyV (F := a60) rfl rfl rfl ?_
  obtain ⟨b1, b2, b3⟩ := hb
  have gB := get_new H (.cells 7 [.int .i64 r.en, vs, vo, vt, .int .i64 r.cost, .int .i64 r.used, .int .i64 r.wh])
  have X1 := Ext.alloc H (.cells 7 [.int .i64 r.en, vs, vo, vt, .int .i64 r.cost, .int .i64 r.used, .int .i64 r.wh])
  have d0 : (H.alloc (.cells 7 [.int .i64 r.en, vs, vo, vt, .int .i64 r.cost, .int .i64 r.used, .int .i64 r.wh])).ld ⟨H.nx, 0, none⟩ = some (.int .i64 r.en) := ld_new hw rfl
  have d1 : (H.alloc (.cells 7 [.int .i64 r.en, vs, vo, vt, .int .i64 r.cost, .int .i64 r.used, .int .i64 r.wh])).ld ⟨H.nx, 1, none⟩ = some vs := ld_new hw rfl
  have d2 : (H.alloc (.cells 7 [.int .i64 r.en, vs, vo, vt, .int .i64 r.cost, .int .i64 r.used, .int .i64 r.wh])).ld ⟨H.nx, 2, none⟩ = some vo := ld_new hw rfl
  have d3 : (H.alloc (.cells 7 [.int .i64 r.en, vs, vo, vt, .int .i64 r.cost, .int .i64 r.used, .int .i64 r.wh])).ld ⟨H.nx, 3, none⟩ = some vt := ld_new hw rfl
  have d4 : (H.alloc (.cells 7 [.int .i64 r.en, vs, vo, vt, .int .i64 r.cost, .int .i64 r.used, .int .i64 r.wh])).ld ⟨H.nx, 4, none⟩ = some (.int .i64 r.cost) := ld_new hw rfl
  have d5 : (H.alloc (.cells 7 [.int .i64 r.en, vs, vo, vt, .int .i64 r.cost, .int .i64 r.used, .int .i64 r.wh])).ld ⟨H.nx, 5, none⟩ = some (.int .i64 r.used) := ld_new hw rfl
  have d6 : (H.alloc (.cells 7 [.int .i64 r.en, vs, vo, vt, .int .i64 r.cost, .int .i64 r.used, .int .i64 r.wh])).ld ⟨H.nx, 6, none⟩ = some (.int .i64 r.wh) := ld_new hw rfl
  have d : (H.alloc (.cells 7 [.int .i64 r.en, vs, vo, vt, .int .i64 r.cost, .int .i64 r.used, .int .i64 r.wh])).ldn ⟨H.nx, 0, none⟩ 7 = some [.int .i64 r.en, vs, vo, vt, .int .i64 r.cost, .int .i64 r.used, .int .i64 r.wh] := ld_box hw 7 rfl
  generalize hH1 : H.alloc (.cells 7 [.int .i64 r.en, vs, vo, vt, .int .i64 r.cost, .int .i64 r.used, .int .i64 r.wh]) = H1 at X1 d0 d1 d2 d3 d4 d5 d6 d
  have hwH1 := X1.wf hw
  rw [hH1] at gB
  have X2 := Ext.alloc H1 (.cells 7 [.int .i64 0, .slice none 0 0, .slice none 0 0, .slice none 0 0, .int .i64 0, .int .i64 0, .int .i64 0])
  have gR := get_new H1 (.cells 7 [.int .i64 0, .slice none 0 0, .slice none 0 0, .slice none 0 0, .int .i64 0, .int .i64 0, .int .i64 0])
  obtain ⟨H2, hH2⟩ : ∃ H2, H1.alloc (.cells 7 [.int .i64 0, .slice none 0 0, .slice none 0 0, .slice none 0 0, .int .i64 0, .int .i64 0, .int .i64 0]) = H2 := ⟨_, rfl⟩
  rw [hH2] at X2 gR
  have hw2 := X2.wf hwH1
  have X02 := X1.trans X2
  have ltB := AH.get_lt gB
  have ltR := AH.get_lt gR
  have x1 := X1.nx
  have x2 := X2.nx
  replace d1 := X2.ld d1
  replace d2 := X2.ld d2
  replace d3 := X2.ld d3
  have l1n := ld_ldn.1 d1
  have l2n := ld_ldn.1 d2
  have l3n := ld_ldn.1 d3
  obtain ⟨a1, c1, e1⟩ := hs.len
  obtain ⟨a2, c2, e2⟩ := ho.len
  obtain ⟨a3, c3, e3⟩ := ht.len
  have s1 : same1 vs vs = true := by rw [e1]; simp
  have s2 : same1 vo vo = true := by rw [e2]; simp
  have s3 : same1 vt vt = true := by rw [e3]; simp
  simp (maxSteps := 4000000) -implicitDefEqProofs +contextual [-X.ev, a60, hH1, hH2, d1, d2, d3]
  apply Vx_callM
  · (simp -implicitDefEqProofs [-X.ev]; rfl)
  refine (CloneI_ca (l := r.store) hw2 (hs.ext X02) b1).mono ?_
  rintro xs H3 ⟨o3, X3, k3⟩
  have hw3 := X3.wf hw2
  simp (maxSteps := 4000000) -implicitDefEqProofs +contextual [-X.ev]
  apply Vx_callM
  · (simp -implicitDefEqProofs [-X.ev]; rfl)
  refine (Clone_gen (f := 89) (sz := 2) (bytes := 16) rfl rfl hw3 (ho.ext (X02.trans X3)) (by simp [outRows]; omega) (by simp [outRows]; omega)).mono ?_
  rintro xo H4 ⟨o4, X4, k4⟩
  have hw4 := X4.wf hw3
  simp (maxSteps := 4000000) -implicitDefEqProofs +contextual [-X.ev]
  apply Vx_callM
  · (simp -implicitDefEqProofs [-X.ev]; rfl)
  refine (Clone_gen (f := 90) (sz := 3) (bytes := 24) rfl rfl hw4 (ht.ext ((X02.trans X3).trans X4)) (by simp [evRows]; omega) (by simp [evRows]; omega)).mono ?_
  rintro xt H5 ⟨o5, X5, k5⟩
  have x3 := X3.nx
  have x4 := X4.nx
  have x5 := X5.nx
  obtain ⟨f1, g1, h1⟩ := o3.shape
  obtain ⟨f2, g2, h2⟩ := o4.shape
  obtain ⟨f3, g3, h3⟩ := o5.shape
  have X25 := X3.trans (X4.trans X5)
  have m00 : H5.n0 = H.n0 := X25.n0.trans X02.n0
  obtain ⟨H6, t6, M6, nx6, n06, gB6⟩ := st_get (X25.get (X2.get gB)) (by rw [m00]; exact hw) (k := 1) (vs := [xs]) (by simp)
  rw [show splice [Value.int .i64 r.en, vs, vo, vt, .int .i64 r.cost, .int .i64 r.used, .int .i64 r.wh] 1 [xs] = [.int .i64 r.en, xs, vo, vt, .int .i64 r.cost, .int .i64 r.used, .int .i64 r.wh] from rfl] at gB6
  obtain ⟨H7, t7, M7, nx7, n07, gB7⟩ := st_get gB6 (by rw [n06, m00]; exact hw) (k := 2) (vs := [xo]) (by simp)
  rw [show splice [Value.int .i64 r.en, xs, vo, vt, .int .i64 r.cost, .int .i64 r.used, .int .i64 r.wh] 2 [xo] = [.int .i64 r.en, xs, xo, vt, .int .i64 r.cost, .int .i64 r.used, .int .i64 r.wh] from rfl] at gB7
  obtain ⟨H8, t8, M8, nx8, n08, gB8⟩ := st_get gB7 (by rw [n07, n06, m00]; exact hw) (k := 3) (vs := [xt]) (by simp)
  rw [show splice [Value.int .i64 r.en, xs, xo, vt, .int .i64 r.cost, .int .i64 r.used, .int .i64 r.wh] 3 [xt] = [.int .i64 r.en, xs, xo, xt, .int .i64 r.cost, .int .i64 r.used, .int .i64 r.wh] from rfl] at gB8
  have l8 : H8.ldn ⟨H.nx, 0, none⟩ 7 = some [.int .i64 r.en, xs, xo, xt, .int .i64 r.cost, .int .i64 r.used, .int .i64 r.wh] := by rw [ldn_get gB8 (by rw [n08, n07, n06, m00]; exact hw) (by simp)]; rfl
  have gR8 := M8.get (fun q => by omega) (M7.get (fun q => by omega) (M6.get (fun q => by omega) (X25.get gR)))
  obtain ⟨H9, t9, M9, nx9, n09, gR9⟩ := st_get gR8 (by rw [n08, n07, n06, m00]; omega) (k := 0) (vs := [.int .i64 r.en, xs, xo, xt, .int .i64 r.cost, .int .i64 r.used, .int .i64 r.wh]) (by simp)
  rw [show splice [Value.int .i64 0, .slice none 0 0, .slice none 0 0, .slice none 0 0, .int .i64 0, .int .i64 0, .int .i64 0] 0 [.int .i64 r.en, xs, xo, xt, .int .i64 r.cost, .int .i64 r.used, .int .i64 r.wh] = [.int .i64 r.en, xs, xo, xt, .int .i64 r.cost, .int .i64 r.used, .int .i64 r.wh] from rfl] at gR9
  have l9 : H9.ldn ⟨H1.nx, 0, none⟩ 7 = some [.int .i64 r.en, xs, xo, xt, .int .i64 r.cost, .int .i64 r.used, .int .i64 r.wh] := by rw [ldn_get gR9 (by rw [n09, n08, n07, n06, m00]; omega) (by simp)]; rfl
  have l1n3 := X3.ldn l1n
  have l2n3 := X3.ldn l2n
  have l3n3 := X3.ldn l3n
  have l2n4 := X4.ldn l2n3
  have l3n4 := X4.ldn l3n3
  have l3n5 := X5.ldn l3n4
  have i1 : isTup xs = false := by rw [h1]; rfl
  have i2 : isTup xo = false := by rw [h2]; rfl
  have i3 : isTup xt = false := by rw [h3]; rfl
  have v1 : vcells xs = [xs] := by rw [h1]; rfl
  have v2 : vcells xo = [xo] := by rw [h2]; rfl
  have v3 : vcells xt = [xt] := by rw [h3]; rfl
  simp (maxSteps := 4000000) -implicitDefEqProofs +contextual [-X.ev, i1, i2, i3, v1, v2, v3, t6, t7, t8, l8, t9, l9, s1, s2, s3, l1n, l2n, l3n, l1n3, l2n3, l3n3, l2n4, l3n4, l3n5, X3.n0, X4.n0, X5.n0, x3, x4, x5, n06, n07, n08, nx6, nx7, nx8, okD_of, chain_2, chain_1]
  have hM : Mod (fun b => b = H.nx ∨ b = H1.nx) H5 H9 := (((M6.mono fun b _ q => .inl q).trans (M7.mono fun b _ q => .inl q)).trans (M8.mono fun b _ q => .inl q)).trans (M9.mono fun b _ q => .inr q)
  refine ⟨⟨xs, xo, xt, rfl, (o3.ext (X4.trans X5)).mod hM (fun b hb q => by have := k3 b hb; omega), (o4.ext X5).mod hM (fun b hb q => by have := k4 b hb; omega), o5.mod hM (fun b hb q => by have := k5 b hb; omega), fun b hb => ?_⟩, (X02.trans X25).mod hM (fun b hb => by omega)⟩
  rcases hb with q | q | q
  · have := k3 b q; omega
  · have := k4 b q; omega
  · have := k5 b q; omega
end Go.Proofs.YtoijnpfpjpefgaaGreat.A
/- The machine's Run; mach.Run. -/
set_option linter.unusedVariables false
set_option linter.unusedSimpArgs false
set_option maxRecDepth 10000
namespace Go.Proofs.YtoijnpfpjpefgaaGreat.A
open Go
def iterM (p : Prg) (ps : List Int) : Nat → CfM → CfM
  | 0, c => c
  | n + 1, c => iterM p ps n (stepM p ps c)
def finM (p : Prg) (ps : List Int) (c : CfM) : CfM := iterM p ps (c.fuel.toNat + 1) c
theorem ended_step {p : Prg} {ps : List Int} {c : CfM} (h : endedM c = true) : stepM p ps c = c := by
  unfold endedM at h
  unfold stepM
  by_cases ho : c.over = true
  · rw [if_pos ho]
  · rw [if_neg ho]
    simp only [Bool.or_eq_true, List.isEmpty_iff] at h
    rw [h.resolve_left ho]
theorem ended_iter {p : Prg} {ps : List Int} {c : CfM} (h : endedM c = true) : ∀ n, iterM p ps n c = c
  | 0 => rfl
  | n + 1 => by rw [iterM, ended_step h]; exact ended_iter h n
theorem step_fuel {p : Prg} {ps : List Int} {c : CfM} (h : endedM c = false) (h2 : (stepM p ps c).over = false) : c.fuel ≠ 0 ∧ (stepM p ps c).fuel = c.fuel - 1 := by
  unfold endedM at h
  simp only [Bool.or_eq_false_iff] at h
  unfold stepM at h2 ⊢
  rw [if_neg (by rw [h.1]; decide)] at h2 ⊢
  cases ht : c.todo with
  | nil => rw [ht] at h; simp at h
  | cons it next =>
    obtain ⟨k, s⟩ := it
    rw [ht] at h2
    by_cases hf : c.fuel = 0
    · simp only [if_pos hf] at h2
      cases h2
    · refine ⟨hf, ?_⟩
      simp only [if_neg hf]
      rw [act_fuel]; rfl
theorem step_over {p : Prg} {ps : List Int} {c : CfM} (h : Inv p ps c) (hov : c.over = true → c.todo = []) : (stepM p ps c).over = true → endedM (stepM p ps c) = true := fun q => by simp [endedM, q]
theorem fin_stop {p : Prg} {ps : List Int} {c : CfM} (h : (!endedM c && !(stepM p ps c).over) = false) : finM p ps c = stepM p ps c := by
  unfold finM
  cases he : endedM c with
  | true => rw [ended_iter he, ended_step he]
  | false =>
    rw [he] at h
    simp at h
    rw [iterM]
    exact ended_iter (by simp [endedM, h]) _
theorem fin_go {p : Prg} {ps : List Int} {c : CfM} (hf : 0 ≤ c.fuel) (h : (!endedM c && !(stepM p ps c).over) = true) : finM p ps (stepM p ps c) = finM p ps c ∧ (stepM p ps c).fuel = c.fuel - 1 ∧ 0 < c.fuel := by
  simp only [Bool.and_eq_true, Bool.not_eq_true'] at h
  obtain ⟨h1, h2⟩ := step_fuel h.1 h.2
  refine ⟨?_, h2, by omega⟩
  unfold finM
  rw [h2]
  obtain ⟨n, hn⟩ : ∃ n : Nat, c.fuel = n + 1 := ⟨c.fuel.toNat - 1, by omega⟩
  rw [hn]
  simp only [Int.add_sub_cancel, Int.toNat_natCast]
  rw [show ((n : Int) + 1).toNat = n + 1 by omega]
  conv => rhs; rw [iterM]
theorem small_inv {p : Prg} {ps : List Int} {c : CfM} (h : Inv p ps c) : Small c.run := by
  have h1 := h.tr
  have h2 := h.ou
  have h3 := h.fuel
  have hs := h.store
  simp only [isStore, Bool.and_eq_true, decide_eq_true_eq] at hs
  have h48 := (head_cells h.head).2.2
  refine ⟨?_, ?_, ?_⟩
  · show c.store.length ≤ _; omega
  · show c.outs.length ≤ _; omega
  · show c.trace.length ≤ _; omega
theorem mRun_ca {G H : AH} {m : Nat} {p : Prg} {ps : List Int} {v : MV} {c : CfM} (h : MacC G H m p ps v c) :
    Ca E O 23 [.pointer (some ⟨m, 0, none⟩)] H (fun x H' => ∃ cs, x = .tuple #[.agg cs.toArray, .bool (endedM c)] ∧ RunO H' H.nx cs c.run ∧ Ext H H') := by
  refine Ca.bodyV (F := a23) rfl rfl rfl ?_
  obtain ⟨rows, hM, hfs, hrl⟩ := h.is
  obtain ⟨m1, m2, m3, m4, m5, m6⟩ := h.mt
  have hw := hM.wf
  have X1 := Ext.alloc H (.cells 7 [.int .i64 0, .slice none 0 0, .slice none 0 0, .slice none 0 0, .int .i64 0, .int .i64 0, .int .i64 0])
  have gR := get_new H (.cells 7 [.int .i64 0, .slice none 0 0, .slice none 0 0, .slice none 0 0, .int .i64 0, .int .i64 0, .int .i64 0])
  obtain ⟨H1, hH1⟩ : ∃ H1, H.alloc (.cells 7 [.int .i64 0, .slice none 0 0, .slice none 0 0, .slice none 0 0, .int .i64 0, .int .i64 0, .int .i64 0]) = H1 := ⟨_, rfl⟩
  rw [hH1] at X1 gR
  have M1 := hM.ext X1
  have x1 := X1.nx
  have r13 := ld_get M1.get M1.n0 (k := 13) (v := .bool v.ended) rfl
  have r0 := ld_get M1.get M1.n0 (k := 0) (v := v.vf) rfl
  have l6 : H1.ldn ⟨m, 6, none⟩ 7 = some [.int .i64 c.run.en, v.vs, v.vo, v.vt, .int .i64 c.run.cost, .int .i64 c.run.used, .int .i64 c.run.wh] := by
    rw [ldn_get M1.get M1.n0 (by simp)]
    show some [Value.int .i64 v.en, v.vs, v.vo, v.vt, .int .i64 v.cost, .int .i64 v.used, .int .i64 v.wh] = _
    rw [m1, m2, m3, m4]; rfl
  have ltm := hM.lt (.inl rfl)
  obtain ⟨fa, fc, hvf⟩ := hM.fr.shape
  have key := copied_ca (r := c.run) M1.wf M1.st.rows M1.ou.rows M1.tr.rows (small_inv h.inv)
  obtain ⟨a1, c1, e1⟩ := hM.st.shape
  obtain ⟨a2, c2, e2⟩ := hM.ou.shape
  obtain ⟨a3, c3, e3⟩ := hM.tr.shape
  have s1 : same1 v.vs v.vs = true := by rw [e1]; simp
  have s2 : same1 v.vo v.vo = true := by rw [e2]; simp
  have s3 : same1 v.vt v.vt = true := by rw [e3]; simp
  have hbq : Nat.beq m H.nx = false := Bool.eq_false_iff.2 fun h => by have := Nat.eq_of_beq_eq_true h; omega
  have hend : endedM c = (c.over || decide (rows.length = 0)) := by
    unfold endedM
    cases ho : c.over with
    | true => rfl
    | false =>
      obtain ⟨fs, hall, htd⟩ := hfs ho
      rw [Bool.false_or, Bool.false_or, Bool.eq_iff_iff, List.isEmpty_iff, decide_eq_true_eq, htd]
      constructor
      · intro q
        rcases List.eq_nil_or_concat fs with rfl | ⟨fs0, f, hfs'⟩
        · rw [all2_nil hall]; rfl
        · rw [List.concat_eq_append] at hfs'
          subst hfs'
          obtain ⟨_, _, rfl, _, _, _, _, _, _, _, hne, _⟩ := all2_last hall
          rw [flatF_snoc] at q
          simp at q
          obtain ⟨l, k⟩ := f
          cases l with
          | nil => exact absurd rfl hne
          | cons s l => rw [items_cons] at q; simp at q
      · intro q
        have : rows = [] := List.eq_nil_of_length_eq_zero q
        subst this
        cases hall
        rfl
  rw [m6] at r13
  rw [hvf] at r0
  have hrr : ((rows.length : Int) = 0) ↔ rows = [] := by rw [← List.length_eq_zero_iff]; omega
  cases ho : c.over with
  | true =>
    rw [ho] at r13 hend
    simp (maxSteps := 4000000) -implicitDefEqProofs +contextual [-X.ev, a23, hH1, l6, r13]
    apply Vx_callM
    · (simp -implicitDefEqProofs [-X.ev]; rfl)
    refine (key).mono ?_
    rintro xx H2 ⟨cs, rfl, hc, X2⟩
    have x2 := X2.nx
    have hcs : cs.length = 7 := by obtain ⟨_, _, _, e, _⟩ := hc.is; rw [e]; rfl
    obtain ⟨H3, t3, M3, nx3, n03, g3⟩ := st_get (X2.get gR) (by rw [X2.n0, X1.n0]; exact hw) (k := 0) (vs := cs) (by simp [hcs])
    have hsp := splice_all [Value.int .i64 0, .slice none 0 0, .slice none 0 0, .slice none 0 0, .int .i64 0, .int .i64 0, .int .i64 0] cs (by rw [hcs]; rfl)
    rw [hsp] at g3
    have l3 : H3.ldn ⟨H.nx, 0, none⟩ 7 = some cs := by rw [ldn_get g3 (by rw [n03, X2.n0, X1.n0]; exact hw) (by omega)]; simp [List.take_of_length_le (Nat.le_of_eq hcs)]
    have l62 := X2.ldn l6
    have r13n := ld_ldn.1 r13
    have r13n2 := X2.ldn r13n
    have x2n := X2.n0
    simp (maxSteps := 4000000) -implicitDefEqProofs +contextual [-X.ev, hcs, t3, l3, hend, l6, l62, r13n, r13n2, s1, s2, s3, x2, x2n, nx3, n03, okD_of, chain_2, chain_1, ckO_2, adrOf, hbq]
    refine ⟨?_, X1.trans X2 |>.mod M3 (fun b hb => by omega)⟩
    obtain ⟨us, uo, ut, e, a, b, cc, dd⟩ := hc.is
    exact ⟨us, uo, ut, e, a.mod M3 (fun q hq e => by have := dd q (.inl hq); have := AH.get_lt gR; omega), b.mod M3 (fun q hq e => by have := dd q (.inr (.inl hq)); have := AH.get_lt gR; omega), cc.mod M3 (fun q hq e => by have := dd q (.inr (.inr hq)); have := AH.get_lt gR; omega), fun q hq => by have := dd q hq; omega⟩
  | false =>
    rw [ho] at r13 hend
    obtain ⟨F, hF⟩ : ∃ F, endedM c = F := ⟨_, rfl⟩
    rw [hF] at hend ⊢
    have hd : decide (rows = []) = F := by rw [hend, Bool.false_or, Bool.eq_iff_iff, decide_eq_true_eq, decide_eq_true_eq, List.length_eq_zero_iff]
    have hd2 : decide (rows.length = 0) = F := by rw [hend, Bool.false_or]
    have hd3 : decide ((rows.length : Int) = 0) = F := by rw [← hd2, Bool.eq_iff_iff, decide_eq_true_eq, decide_eq_true_eq]; omega
    have r0n := r0
    simp (maxSteps := 4000000) -implicitDefEqProofs +contextual [-X.ev, a23, hH1, l6, r13]
    apply Vx_callM
    · (simp -implicitDefEqProofs [-X.ev]; rfl)
    refine (key).mono ?_
    rintro xx H2 ⟨cs, rfl, hc, X2⟩
    have x2 := X2.nx
    have hcs : cs.length = 7 := by obtain ⟨_, _, _, e, _⟩ := hc.is; rw [e]; rfl
    obtain ⟨H3, t3, M3, nx3, n03, g3⟩ := st_get (X2.get gR) (by rw [X2.n0, X1.n0]; exact hw) (k := 0) (vs := cs) (by simp [hcs])
    have hsp := splice_all [Value.int .i64 0, .slice none 0 0, .slice none 0 0, .slice none 0 0, .int .i64 0, .int .i64 0, .int .i64 0] cs (by rw [hcs]; rfl)
    rw [hsp] at g3
    have l3 : H3.ldn ⟨H.nx, 0, none⟩ 7 = some cs := by rw [ldn_get g3 (by rw [n03, X2.n0, X1.n0]; exact hw) (by omega)]; simp [List.take_of_length_le (Nat.le_of_eq hcs)]
    have l62 := X2.ldn l6
    have r13n := ld_ldn.1 r13
    have r13n2 := X2.ldn r13n
    have r02 := X2.ld r0
    have x2n := X2.n0
    simp (maxSteps := 4000000) -implicitDefEqProofs +contextual [-X.ev, hcs, t3, l3, hd, r02, l6, l62, r13n, r13n2, s1, s2, s3, x2, x2n, nx3, n03, okD_of, chain_2, chain_1, ckO_2, adrOf, hbq]
    refine ⟨?_, X1.trans X2 |>.mod M3 (fun b hb => by omega)⟩
    obtain ⟨us, uo, ut, e, a, b, cc, dd⟩ := hc.is
    exact ⟨us, uo, ut, e, a.mod M3 (fun q hq e => by have := dd q (.inl hq); have := AH.get_lt gR; omega), b.mod M3 (fun q hq e => by have := dd q (.inr (.inl hq)); have := AH.get_lt gR; omega), cc.mod M3 (fun q hq e => by have := dd q (.inr (.inr hq)); have := AH.get_lt gR; omega), fun q hq => by have := dd q hq; omega⟩
end Go.Proofs.YtoijnpfpjpefgaaGreat.A
/- mach.Run. -/
set_option linter.unusedVariables false
set_option linter.unusedSimpArgs false
set_option maxRecDepth 10000
namespace Go.Proofs.YtoijnpfpjpefgaaGreat.A
open Go
abbrev zR : List Value := [.int .i64 0, .slice none 0 0, .slice none 0 0, .slice none 0 0, .int .i64 0, .int .i64 0, .int .i64 0]
def runP (p : Prg) (fuel : Int) (t : Sta) : RunM := if chkR p fuel t = 0 then (finM p t.picks (beginM p fuel t)).run else zeroRun
theorem RunO.len {H : AH} {n : Nat} {cs : List Value} {r : RunM} (h : RunO H n cs r) : cs.length = 7 := by obtain ⟨_, _, _, e, _⟩ := h.is; rw [e]; rfl
theorem RunO.mod {H H' : AH} {n : Nat} {S : Nat → Prop} {cs : List Value} {r : RunM} (h : RunO H n cs r) (M : Mod S H H') (hS : ∀ b, S b → b < n) : RunO H' n cs r := by
  obtain ⟨us, uo, ut, e, a, b, c, d⟩ := h.is
  exact ⟨us, uo, ut, e, a.mod M (fun q hq e => by have := d q (.inl hq); have := hS q e; omega), b.mod M (fun q hq e => by have := d q (.inr (.inl hq)); have := hS q e; omega), c.mod M (fun q hq e => by have := d q (.inr (.inr hq)); have := hS q e; omega), d⟩
theorem RunO.le {H : AH} {n k : Nat} {cs : List Value} {r : RunM} (h : RunO H n cs r) (hk : k ≤ n) : RunO H k cs r := by
  obtain ⟨us, uo, ut, e, a, b, c, d⟩ := h.is
  exact ⟨us, uo, ut, e, a, b, c, fun q hq => Nat.le_trans hk (d q hq)⟩
theorem MRun_ca {p : Prg} {t : Sta} {c d : List Value} {fuel : Int} {H : AH} (hw : H.n0 ≤ H.nx) (hp : PrgC H c p) (ht : StaC H d t) :
    Ca E O 15 [.agg c.toArray, .int .i64 fuel, .agg d.toArray] H (fun x H' => ∃ cs, x = .tuple #[.agg cs.toArray, .int .i64 (chkR p fuel t)] ∧ RunO H' H.nx cs (runP p fuel t) ∧ Ext H H') := by
  refine Ca.bodyV (F := a15) rfl rfl rfl ?_
  have hc := hp.len
  have hd : d.length = 2 := by obtain ⟨vs, vp, e, _⟩ := ht.is; rw [e]; rfl
  have X1 := Ext.alloc H (.cells c.length c)
  have q : (H.alloc (.cells c.length c)).ldn ⟨H.nx, 0, none⟩ 3 = some c := ld_box hw 3 (by assumption)
  generalize hH1 : H.alloc (.cells c.length c) = H1 at X1 q
  have hwH1 := X1.wf hw
  have X2 := Ext.alloc H1 (.cells d.length d)
  have r : (H1.alloc (.cells d.length d)).ldn ⟨H1.nx, 0, none⟩ 2 = some d := ld_box hwH1 2 (by assumption)
  generalize hH2 : H1.alloc (.cells d.length d) = H2 at X2 r
  have hwH2 := X2.wf hwH1
  replace q := X2.ldn q
  have X3 := Ext.alloc H2 (.cells 7 zR)
  have gR := get_new H2 (.cells 7 zR)
  obtain ⟨H3, hH3⟩ : ∃ H3, H2.alloc (.cells 7 zR) = H3 := ⟨_, rfl⟩
  rw [hH3] at X3 gR
  have hw3 := X3.wf hwH2
  have X := (X1.trans X2).trans X3
  replace q := X3.ldn q
  replace r := X3.ldn r
  have x1 := X1.nx
  have x2 := X2.nx
  have ltR := AH.get_lt gR
  have n03 : H3.n0 = H.n0 := X.n0
  have r0' : H3.n0 ≤ H2.nx := by rw [n03]; omega
  have k1 := New_ca (fuel := fuel) hw3 (hp.ext X) (ht.ext X)
  simp (maxSteps := 4000000) -implicitDefEqProofs +contextual [-X.ev, a15, hH1, hH2, hH3, q, r]
  apply Vx_callM
  · (simp -implicitDefEqProofs [-X.ev]; rfl)
  refine (k1).mono ?_
  rintro x H4 hx
  by_cases hk : chkR p fuel t = 0
  case neg =>
    rw [if_neg hk] at hx
    obtain ⟨rfl, X4⟩ := hx
    obtain ⟨H5, t5, M5, nx5, n05, g5⟩ := st_get (X4.get gR) (by rw [X4.n0]; exact r0') (k := 0) (vs := zR) (by simp)
    rw [splice_all _ _ rfl] at g5
    have l5 : H5.ldn ⟨H2.nx, 0, none⟩ 7 = some zR := by rw [ldn_get g5 (by rw [n05, X4.n0]; exact r0') (by simp)]; rfl
    have hbu : buildV zR [] = some (.agg zR.toArray) := rfl
    simp (maxSteps := 4000000) -implicitDefEqProofs +contextual [-X.ev, hk, hbu, t5, l5]
    have XX := (X.trans X4).mod M5 (fun b hb => by omega)
    exact ⟨by rw [runP, if_neg hk]; exact RunO.zero _ _, XX⟩
  rw [if_pos hk] at hx
  obtain ⟨m, rfl, G, v, hM, X4, hfoot, hG⟩ := hx
  obtain ⟨fin, hfin⟩ : ∃ f, finM p t.picks (beginM p fuel t) = f := ⟨_, rfl⟩
  simp (maxSteps := 4000000) -implicitDefEqProofs +contextual [-X.ev]
  refine Vk_loop (fun k fr H' => fr.get 8 = .pointer (some ⟨m, 0, none⟩) ∧ fr.get 6 = .pointer (some ⟨H2.nx, 0, none⟩) ∧ Ext H3 H' ∧ ∃ v c', MacC G H' m p t.picks v c' ∧ finM p t.picks c' = fin ∧ (∀ b, Mf m v b → H3.nx ≤ b) ∧ k = c'.fuel.toNat) ?_ _ ⟨by simp, by simp, X4, v, _, hM, hfin, hfoot, rfl⟩
  rintro k fr H5 ⟨f8, f6, X5, v5, c5, hM5, hfin5, hfoot5, rfl⟩
  simp (maxSteps := 4000000) -implicitDefEqProofs +contextual [-X.ev, f8]
  apply Vx_callM
  · (simp -implicitDefEqProofs [-X.ev]; rfl)
  refine (Step_ca hM5).mono ?_
  rintro x H6 ⟨rfl, v6, hM6, M6, hn6, hsm6⟩
  have X6 : Ext H3 H6 := X5.mod M6 hfoot5
  have hfoot6 : ∀ b, Mf m v6 b → H3.nx ≤ b := fun b hb => by
    rcases hn6 b hb with q | q
    · exact hfoot5 b q
    · have := X5.nx; omega
  cases hgo : (!endedM c5 && !(stepM p t.picks c5).over) with
  | true =>
    obtain ⟨g1, g2, g3⟩ := fin_go hM5.inv.fuel.1 hgo
    simp (maxSteps := 4000000) -implicitDefEqProofs +contextual [-X.ev, hgo, f8, f6]
    exact ⟨_, by omega, X6, v6, _, hM6, g1.trans hfin5, hfoot6, rfl⟩
  | false =>
    have hs : stepM p t.picks c5 = fin := (fin_stop hgo).symm.trans hfin5
    rw [hs] at hM6
    simp (maxSteps := 4000000) -implicitDefEqProofs +contextual [-X.ev, hgo, f8, f6]
    apply Vx_callM
    · (simp -implicitDefEqProofs [-X.ev]; rfl)
    refine (mRun_ca hM6).mono ?_
    rintro x H7 ⟨cs, rfl, hr, X7⟩
    have hcs := hr.len
    have hw7 := (X6.trans X7).wf hw3
    obtain ⟨H8, s8, X8, nx8, n08, g8⟩ := var_new hw7 (z := 7) (c := zR) (vs := cs) (by rw [hcs]; rfl)
    have X38 := (X6.trans X7).trans X8
    have l8 : H8.ldn ⟨H7.nx, 0, none⟩ 7 = some cs := by rw [ldn_get g8 (by rw [n08]; exact hw7) (by omega)]; simp [List.take_of_length_le (Nat.le_of_eq hcs)]
    obtain ⟨H9, t9, M9, nx9, n09, g9⟩ := st_get (X38.get gR) (by rw [X38.n0]; exact r0') (k := 0) (vs := cs) (by simp [hcs])
    rw [splice_all _ _ (by rw [hcs]; rfl)] at g9
    have l9 : H9.ldn ⟨H2.nx, 0, none⟩ 7 = some cs := by rw [ldn_get g9 (by rw [n09, X38.n0]; exact r0') (by omega)]; simp [List.take_of_length_le (Nat.le_of_eq hcs)]
    have x38 := X6.nx
    simp (maxSteps := 4000000) -implicitDefEqProofs +contextual [-X.ev, hcs, s8, l8, f6, t9, l9]
    refine ⟨cs, ⟨rfl, hk.symm⟩, ?_, (X.trans X38).mod M9 (fun b hb => by omega)⟩
    rw [runP, if_pos hk, hfin]
    exact ((hr.ext X8).mod M9 (fun b hb => by omega)).le (by omega)
end Go.Proofs.YtoijnpfpjpefgaaGreat.A
/- The law MachCost over the machine. -/
set_option linter.unusedVariables false
set_option linter.unusedSimpArgs false
set_option maxRecDepth 10000
namespace Go.Proofs.YtoijnpfpjpefgaaGreat.A
open Go
theorem act_en {p : Prg} {ps : List Int} {c : CfM} {k : Int} {s : Stm} {vals : List Int} {next : List Itm} (h : c.over = false) (h1 : c.en = 0) (h2 : c.wh = 0) :
    (actM p ps c k s vals next).cost = c.cost ∧ (((actM p ps c k s vals next).over = false ∧ (actM p ps c k s vals next).en = 0 ∧ (actM p ps c k s vals next).wh = 0) ∨
      ((actM p ps c k s vals next).over = true ∧ ((actM p ps c k s vals next).en = 1 ∨ (actM p ps c k s vals next).en = 2 ∨ (actM p ps c k s vals next).en = 4) ∧ (actM p ps c k s vals next).wh = k)) := by
  obtain ⟨op, n, args, thn, els⟩ := s
  unfold actM
  by_cases o0 : op = 0
  · simp only [if_pos o0, setM]; exact ⟨by first | trivial | rfl, .inl ⟨h, h1, h2⟩⟩
  simp only [if_neg o0]
  by_cases o1 : op = 1
  · simp only [if_pos o1]; exact ⟨trivial, .inl ⟨h, h1, h2⟩⟩
  simp only [if_neg o1]
  by_cases o2 : op = 2
  · simp only [if_pos o2]; exact ⟨trivial, .inl ⟨h, h1, h2⟩⟩
  simp only [if_neg o2]
  by_cases o3 : op = 3
  · simp only [if_pos o3]; exact ⟨trivial, .inl ⟨h, h1, h2⟩⟩
  simp only [if_neg o3]
  by_cases o4 : op = 4
  · simp only [if_pos o4]
    by_cases u : ps.length ≤ c.used
    · simp only [if_pos u]; exact ⟨rfl, .inr ⟨rfl, .inr (.inr rfl), rfl⟩⟩
    · simp only [if_neg u, setM]; exact ⟨by first | trivial | rfl, .inl ⟨h, h1, h2⟩⟩
  simp only [if_neg o4]
  by_cases o5 : op = 5
  · simp only [if_pos o5]
    by_cases u : vAt vals 0 = 0
    · simp only [if_pos u]; exact ⟨rfl, .inr ⟨rfl, .inl rfl, rfl⟩⟩
    · simp only [if_neg u]; exact ⟨by first | trivial | rfl, .inl ⟨h, h1, h2⟩⟩
  simp only [if_neg o5]
  by_cases u : vAt vals 0 = 0
  · simp only [if_pos u]; exact ⟨rfl, .inr ⟨rfl, .inr (.inl rfl), rfl⟩⟩
  · simp only [if_neg u]; exact ⟨by first | trivial | rfl, .inl ⟨h, h1, h2⟩⟩
theorem step_cases {p : Prg} {ps : List Int} {c : CfM} (hi : Inv p ps c) (h : c.over = false) (h1 : c.en = 0) (h2 : c.wh = 0) :
    (endedM c = true ∧ stepM p ps c = c) ∨ (endedM c = false ∧ (stepM p ps c).over = false ∧ (stepM p ps c).en = 0 ∧ (stepM p ps c).wh = 0 ∧ c.cost + 1 ≤ (stepM p ps c).cost ∧ (stepM p ps c).fuel = c.fuel - 1) ∨
      (endedM c = false ∧ (stepM p ps c).over = true ∧ 1 ≤ (stepM p ps c).en ∧ (stepM p ps c).en ≤ 4 ∧ 0 ≤ (stepM p ps c).wh ∧ (stepM p ps c).wh < countS p.body ∧ c.cost ≤ (stepM p ps c).cost ∧ ((stepM p ps c).en = 3 → c.fuel = 0)) := by
  cases he : endedM c with
  | true => exact .inl ⟨rfl, ended_step he⟩
  | false =>
    right
    have hs : stepM p ps c = if c.over = true then c else match c.todo with
      | [] => c
      | (k, s) :: next => if c.fuel = 0 then stopM c 3 k else actM p ps (begunM p c s next) k s (valL p.w p.vars [c.store] s.args) next := rfl
    rw [if_neg (by rw [h]; decide)] at hs
    cases ht : c.todo with
    | nil => simp [endedM, h, ht] at he
    | cons it next =>
      obtain ⟨k, s⟩ := it
      rw [ht] at hs
      simp only at hs
      obtain ⟨hk1, hk2, _, _⟩ := hi.todo (k, s) (by rw [ht]; simp)
      have pc := countSt_pos s
      have pa := nodesL_pos s.args
      simp only at hk1 hk2
      by_cases hf : c.fuel = 0
      · rw [if_pos hf] at hs
        rw [hs]
        exact .inr ⟨rfl, rfl, by show (1 : Int) ≤ 3; omega, by show (3 : Int) ≤ 4; omega, hk1, by show k < _; omega, Int.le_refl _, fun _ => hf⟩
      · rw [if_neg hf] at hs
        obtain ⟨a1, a2⟩ := act_en (p := p) (ps := ps) (c := begunM p c s next) (k := k) (s := s) (vals := valL p.w p.vars [c.store] s.args) (next := next) h h1 h2
        have a3 := act_fuel (p := p) (ps := ps) (c := begunM p c s next) (k := k) (s := s) (vals := valL p.w p.vars [c.store] s.args) (next := next)
        rw [← hs] at a1 a2 a3
        have b1 : (begunM p c s next).cost = c.cost + 1 + nodesL s.args := rfl
        have b2 : (begunM p c s next).fuel = c.fuel - 1 := rfl
        rcases a2 with ⟨q1, q2, q3⟩ | ⟨q1, q2, q3⟩
        · exact .inl ⟨rfl, q1, q2, q3, by omega, by omega⟩
        · exact .inr ⟨rfl, q1, by omega, by omega, by omega, by omega, by omega, fun q => by omega⟩
theorem MachCost_ca {p : Prg} {t : Sta} {c d : List Value} {fuel : Int} {H : AH} (hw : H.n0 ≤ H.nx) (hfi : I64 fuel) (hp : PrgC H c p) (ht : StaC H d t) :
    Ca E O 7 [.agg c.toArray, .int .i64 fuel, .agg d.toArray] H (fun x _ => x = .bool true) := by
  have hp' := hp
  have ht' := ht
  obtain ⟨vv, vb, rb, rfl, hi, hv, hvo, hr, hl, hbl⟩ := hp.is
  obtain ⟨vs, vp, rfl, ss, sp, l1, l2, _, _⟩ := ht.is
  refine Ca.bodyV (F := a7) rfl rfl rfl ?_
  obtain ⟨u1, c1, hvv⟩ := hv.len
  obtain ⟨u2, c2, hvb⟩ := hr.len
  obtain ⟨u3, c3, hvs⟩ := ss.len
  obtain ⟨u4, c4, hvp⟩ := sp.len
  rw [hl.length] at hvb
  have X1 := Ext.alloc H (.cells 3 [.int .i64 p.w, vv, vb])
  have q0 : (H.alloc (.cells 3 [.int .i64 p.w, vv, vb])).ld ⟨H.nx, 0, none⟩ = some (.int .i64 p.w) := ld_new hw rfl
  have q1 : (H.alloc (.cells 3 [.int .i64 p.w, vv, vb])).ld ⟨H.nx, 1, none⟩ = some vv := ld_new hw rfl
  have q2 : (H.alloc (.cells 3 [.int .i64 p.w, vv, vb])).ld ⟨H.nx, 2, none⟩ = some vb := ld_new hw rfl
  have q : (H.alloc (.cells 3 [.int .i64 p.w, vv, vb])).ldn ⟨H.nx, 0, none⟩ 3 = some [.int .i64 p.w, vv, vb] := ld_box hw 3 rfl
  generalize hH1 : H.alloc (.cells 3 [.int .i64 p.w, vv, vb]) = H1 at X1 q0 q1 q2 q
  have hwH1 := X1.wf hw
  have X2 := Ext.alloc H1 (.cells 2 [vs, vp])
  have r0 : (H1.alloc (.cells 2 [vs, vp])).ld ⟨H1.nx, 0, none⟩ = some vs := ld_new hwH1 rfl
  have r1 : (H1.alloc (.cells 2 [vs, vp])).ld ⟨H1.nx, 1, none⟩ = some vp := ld_new hwH1 rfl
  have r : (H1.alloc (.cells 2 [vs, vp])).ldn ⟨H1.nx, 0, none⟩ 2 = some [vs, vp] := ld_box hwH1 2 rfl
  generalize hH2 : H1.alloc (.cells 2 [vs, vp]) = H2 at X2 r0 r1 r
  have hwH2 := X2.wf hwH1
  replace q0 := X2.ld q0
  replace q1 := X2.ld q1
  replace q2 := X2.ld q2
  replace q := X2.ldn q
  have X := X1.trans X2
  simp (maxSteps := 4000000) -implicitDefEqProofs +contextual [-X.ev, a7, hH1, hH2, q2]
  apply Vx_callM
  · (simp -implicitDefEqProofs [-X.ev]; rfl)
  refine (PFits_ca hwH2 hbl (hr.ext X) (hl.ext X) (by omega)).mono ?_
  rintro x H3 ⟨rfl, X3⟩
  by_cases h1 : nodesS p.body ≤ 600
  case neg =>
    simp (maxSteps := 4000000) -implicitDefEqProofs +contextual [-X.ev, h1]
    apply Vx_callM
    · (simp -implicitDefEqProofs [-X.ev]; rfl)
    refine (awake_ca H3).mono ?_
    rintro x H4 ⟨rfl, rfl⟩
    simp (maxSteps := 4000000) -implicitDefEqProofs +contextual [-X.ev]
  have X03 := X.trans X3
  have hw3 := X3.wf hwH2
  replace q0 := X3.ld q0
  replace q1 := X3.ld q1
  replace q2 := X3.ld q2
  replace q := X3.ldn q
  replace r := X3.ldn r
  simp (maxSteps := 4000000) -implicitDefEqProofs +contextual [-X.ev, h1, q, r]
  apply Vx_callM
  · (simp -implicitDefEqProofs [-X.ev]; rfl)
  refine (RCheck_ca (fuel := fuel) hw3 (hp'.ext X03) (ht'.ext X03)).mono ?_
  rintro x H4 ⟨rfl, X4⟩
  by_cases hk : chkR p fuel t = 0
  case neg =>
    simp (maxSteps := 4000000) -implicitDefEqProofs +contextual [-X.ev, hk]
    apply Vx_callM
    · (simp -implicitDefEqProofs [-X.ev]; rfl)
    refine (awake_ca H4).mono ?_
    rintro x H5 ⟨rfl, rfl⟩
    simp (maxSteps := 4000000) -implicitDefEqProofs +contextual [-X.ev]
  obtain ⟨hinv, _, hf1, hf2, _⟩ := inv_begin hk
  have X04 := X03.trans X4
  have hw4 := X4.wf hw3
  replace q0 := X4.ld q0
  replace q1 := X4.ld q1
  replace q2 := X4.ld q2
  replace q := X4.ldn q
  replace r := X4.ldn r
  simp (maxSteps := 4000000) -implicitDefEqProofs +contextual [-X.ev, hk, q, r]
  apply Vx_callM
  · (simp -implicitDefEqProofs [-X.ev]; rfl)
  refine (New_ca (fuel := fuel) hw4 (hp'.ext X04) (ht'.ext X04)).mono ?_
  rintro x H5 hx
  rw [if_pos hk] at hx
  obtain ⟨m, rfl, G, v, hM, X5, hfoot, hG⟩ := hx
  simp (maxSteps := 4000000) -implicitDefEqProofs +contextual [-X.ev]
  refine Vk_loop (fun k fr H' => Ext H4 H' ∧ ∃ (v : MV) (c' : CfM) (n : Nat), MacC G H' m p t.picks v c' ∧ (∀ b, Mf m v b → H4.nx ≤ b) ∧ c'.over = false ∧ c'.en = 0 ∧ c'.wh = 0 ∧ (n : Int) + c'.fuel = fuel ∧ (n : Int) ≤ c'.cost ∧ k = c'.fuel.toNat ∧ fr.get 1 = .int .i64 fuel ∧ fr.get 3 = .pointer (some ⟨H.nx, 0, none⟩) ∧ fr.get 7 = .pointer (some ⟨m, 0, none⟩) ∧ fr.get 9 = .int .i64 n ∧ fr.get 10 = .int .i64 n) ?_ _ ⟨X5, v, beginM p fuel t, 0, hM, hfoot, rfl, rfl, rfl, by show ((0 : Nat) : Int) + fuel = fuel; omega, by show ((0 : Nat) : Int) ≤ 0; omega, rfl, by simp, by simp, by simp, by simp, by simp⟩
  clear hinv
  rintro k fr H6 ⟨X6, v6, c6, n, hM6, hfoot6, ho6, he6, hh6, hn6, hc6, rfl, f1, f3, f7, f9, f10⟩
  have hfu := hM6.inv.fuel
  have w1 : IntKind.i64.wrap (fuel + 1) = fuel + 1 := wrap_in ⟨by omega, by omega⟩
  have hle : (n : Int) ≤ fuel + 1 := by omega
  simp (maxSteps := 4000000) -implicitDefEqProofs +contextual [-X.ev, f1, f7, f9, f10, w1, hle]
  apply Vx_callM
  · (simp -implicitDefEqProofs [-X.ev]; rfl)
  refine (Step_ca hM6).mono ?_
  rintro x H7 ⟨rfl, v7, hM7, M7, hn7, hsm7⟩
  have X7 : Ext H4 H7 := X6.mod M7 hfoot6
  have hfoot7 : ∀ b, Mf m v7 b → H4.nx ≤ b := fun b hb => by
    rcases hn7 b hb with q | q
    · exact hfoot6 b q
    · have := X6.nx; omega
  obtain ⟨c7, hc7⟩ : ∃ c7, stepM p t.picks c6 = c7 := ⟨_, rfl⟩
  have hcs := step_cases hM6.inv ho6 he6 hh6
  rw [hc7] at hcs hM7 ⊢
  have fin : (endedM c6 = true ∨ c7.over = true) → ∃ en wh cost : Int, c7.en = en ∧ c7.wh = wh ∧ c7.cost = cost ∧ endedM c7 = true ∧ (n : Int) ≤ cost ∧ ((en = 0 ∧ wh = 0) ∨ (1 ≤ en ∧ en ≤ 4 ∧ 0 ≤ wh ∧ wh < countS p.body ∧ (en = 3 → (n : Int) = fuel))) := by
    intro hh
    refine ⟨_, _, _, rfl, rfl, rfl, ?_⟩
    rcases hcs with ⟨q1, q2⟩ | ⟨q1, q2, _⟩ | ⟨q1, q2, q3, q4, q5, q6, q7, q8⟩
    · rw [q2]; exact ⟨q1, hc6, .inl ⟨he6, hh6⟩⟩
    · rcases hh with hh | hh
      · rw [q1] at hh; cases hh
      · rw [q2] at hh; cases hh
    · exact ⟨by simp [endedM, q2], by omega, .inr ⟨q3, q4, q5, q6, fun q => by have := q8 q; omega⟩⟩
  by_cases hgo : endedM c6 = false ∧ c7.over = false
  · obtain ⟨g1, g2⟩ := hgo
    obtain ⟨e1, e2, e3, e4⟩ : c7.en = 0 ∧ c7.wh = 0 ∧ c6.cost + 1 ≤ c7.cost ∧ c7.fuel = c6.fuel - 1 := by
      rcases hcs with ⟨q1, _⟩ | ⟨_, _, q⟩ | ⟨_, q, _⟩
      · rw [g1] at q1; cases q1
      · exact q
      · rw [g2] at q; cases q
    have hfu7 := hM7.inv.fuel
    have w2 : IntKind.i64.wrap ((n : Int) + 1) = (n : Int) + 1 := wrap_in ⟨by omega, by omega⟩
    simp (maxSteps := 4000000) -implicitDefEqProofs +contextual [-X.ev, g1, g2, f1, f3, f7, f9, f10, w2]
    exact ⟨c7.fuel.toNat, by omega, X7, v7, c7, hM7, hfoot7, g2, e1, e2, n + 1, by omega, by omega, rfl, by omega⟩
  · have hor : endedM c6 = true ∨ c7.over = true := by
      cases ha : endedM c6 with
      | true => exact .inl rfl
      | false =>
        cases hb : c7.over with
        | true => exact .inr rfl
        | false => exact absurd ⟨ha, hb⟩ hgo
    have hb : (!endedM c6 && !c7.over) = false := by rcases hor with q | q <;> simp [q]
    obtain ⟨en, wh, cost, r1, r2, r3, r4, r5, r6⟩ := fin hor
    simp (maxSteps := 4000000) -implicitDefEqProofs +contextual [-X.ev, hb, f1, f3, f7, f9, f10]
    apply Vx_callM
    · (simp -implicitDefEqProofs [-X.ev]; rfl)
    refine (mRun_ca hM7).mono ?_
    rintro x H8 ⟨cs, rfl, hrun, X8⟩
    obtain ⟨us, uo, ut, rfl, os, oo, ot, hfr⟩ := hrun.is
    have hw8 := (X7.trans X8).wf hw4
    have hst : isStore p.w p.vars c7.store = true := hM7.inv.store
    have er : c7.run.en = en ∧ c7.run.wh = wh ∧ c7.run.cost = cost := ⟨r1, r2, r3⟩
    rw [er.1, er.2.1, er.2.2]
    obtain ⟨H9, sH9, X9, nxH9, n0H9, z, lH9⟩ := st_new (H := H8) hw8 (z := 7) (c := [.int .i64 0, .slice none 0 0, .slice none 0 0, .slice none 0 0, .int .i64 0, .int .i64 0, .int .i64 0]) (vs := [.int .i64 en, us, uo, ut, .int .i64 cost, .int .i64 c7.run.used, .int .i64 wh]) rfl
    have z0 : H9.ld ⟨H8.nx, 0, none⟩ = some (.int .i64 en) := lH9 0 _ rfl
    have z1 : H9.ld ⟨H8.nx, 1, none⟩ = some us := lH9 1 _ rfl
    have z2 : H9.ld ⟨H8.nx, 2, none⟩ = some uo := lH9 2 _ rfl
    have z3 : H9.ld ⟨H8.nx, 3, none⟩ = some ut := lH9 3 _ rfl
    have z4 : H9.ld ⟨H8.nx, 4, none⟩ = some (.int .i64 cost) := lH9 4 _ rfl
    have z5 : H9.ld ⟨H8.nx, 5, none⟩ = some (.int .i64 c7.run.used) := lH9 5 _ rfl
    have z6 : H9.ld ⟨H8.nx, 6, none⟩ = some (.int .i64 wh) := lH9 6 _ rfl
    clear lH9
    replace z : H9.ldn ⟨H8.nx, 0, none⟩ 7 = some [.int .i64 en, us, uo, ut, .int .i64 cost, .int .i64 c7.run.used, .int .i64 wh] := z
    have hwH9 := X9.wf hw8
    have X49 := (X7.trans X8).trans X9
    have q0' := X49.ld q0
    have q1' := X49.ld q1
    have q2' := X49.ld q2
    have hng : ¬ fuel < (n : Int) := by omega
    have hnc : ¬ cost < (n : Int) := by omega
    have hsl : c7.store.length < 2 ^ 60 := by have := (small_inv hM7.inv).1; show c7.run.store.length < _; omega
    have X09 := X04.trans X49
    simp (maxSteps := 4000000) -implicitDefEqProofs +contextual [-X.ev, sH9, r4, f9, f1, hng, z4, hnc, f3, q0', q1', z1]
    apply Vx_callM
    · (simp -implicitDefEqProofs [-X.ev]; rfl)
    refine (Store_ca (w := p.w) (l := c7.store) (hv.ext X09) hvo.1 (Ints.ext X9 os.ints) hsl).mono ?_
    rintro x H9 ⟨rfl, rfl⟩
    have zn6 := ld_ldn.1 z6
    have key := RCount_ca _ p.body vb rb H9 (Nat.lt_succ_self _) (hr.ext X09) (StL.ext X09 hl) hbl (by omega)
    rcases r6 with ⟨e0, w0⟩ | ⟨e1, e2, e3, e4, e5⟩
    · subst e0 w0
      simp (maxSteps := 4000000) -implicitDefEqProofs +contextual [-X.ev, hst, z0, z6, f9, f1]
      apply Vx_callM
      · (simp -implicitDefEqProofs [-X.ev]; rfl)
      refine (awake_ca H9).mono ?_
      rintro x Ha ⟨rfl, rfl⟩
      simp (maxSteps := 4000000) -implicitDefEqProofs +contextual [-X.ev]
    · have g0 : ¬ en = 0 := by omega
      have g1 : 0 < en := by omega
      by_cases h3 : en = 3
      · have hnf := e5 h3
        subst h3
        simp (maxSteps := 4000000) -implicitDefEqProofs +contextual [-X.ev, hst, z0, z6, f9, f1, hnf, e3, f3, q2']
        apply Vx_callM
        · (simp -implicitDefEqProofs [-X.ev]; rfl)
        refine (key).mono ?_
        rintro x H9 ⟨rfl, rfl⟩
        simp (maxSteps := 4000000) -implicitDefEqProofs +contextual [-X.ev, e4]
        apply Vx_callM
        · (simp -implicitDefEqProofs [-X.ev]; rfl)
        refine (awake_ca H9).mono ?_
        rintro x H9 ⟨rfl, rfl⟩
        simp (maxSteps := 4000000) -implicitDefEqProofs +contextual [-X.ev, okD_of, chain_2, chain_1, zn6]
      · simp (maxSteps := 4000000) -implicitDefEqProofs +contextual [-X.ev, hst, z0, z6, f9, f1, h3, g0, g1, e2, e3, f3, q2']
        apply Vx_callM
        · (simp -implicitDefEqProofs [-X.ev]; rfl)
        refine (key).mono ?_
        rintro x H9 ⟨rfl, rfl⟩
        simp (maxSteps := 4000000) -implicitDefEqProofs +contextual [-X.ev, e4]
        apply Vx_callM
        · (simp -implicitDefEqProofs [-X.ev]; rfl)
        refine (awake_ca H9).mono ?_
        rintro x H9 ⟨rfl, rfl⟩
        simp (maxSteps := 4000000) -implicitDefEqProofs +contextual [-X.ev, okD_of, chain_2, chain_1, zn6]
end Go.Proofs.YtoijnpfpjpefgaaGreat.A
