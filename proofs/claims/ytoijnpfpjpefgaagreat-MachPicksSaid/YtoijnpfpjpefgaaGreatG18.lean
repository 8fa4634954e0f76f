/- Texts that stand one behind the other: S60, S61, S62. -/
import Derived.Test.YtoijnpfpjpefgaaGreatG17
/- Words that a run does not pick (plain). -/
set_option linter.unusedVariables false
set_option linter.unusedSimpArgs false
set_option maxRecDepth 10000
namespace Go.Proofs.YtoijnpfpjpefgaaGreat.A
open Go
/-- The same words up to some number. -/
def AgreeP (ps ps' : List Int) (U : Nat) : Prop := U ≤ ps.length ∧ U ≤ ps'.length ∧ ∀ i, i < U → vAt ps' i = vAt ps i
theorem act_picks {p : Prg} {ps ps' : List Int} {U : Nat} {c : CfM} {k : Int} {s : Stm} {vals : List Int} {next : List Itm} (h : AgreeP ps ps' U) (he : (actM p ps c k s vals next).over = true → (actM p ps c k s vals next).en ≠ 4) (ho : c.over = false) (hU : (actM p ps c k s vals next).used ≤ U) : actM p ps' c k s vals next = actM p ps c k s vals next := by
  obtain ⟨op, n, args, thn, els⟩ := s
  unfold actM at he hU ⊢
  by_cases o0 : op = 0
  · simp only [if_pos o0]
  simp only [if_neg o0] at he hU ⊢
  by_cases o1 : op = 1
  · simp only [if_pos o1]
  simp only [if_neg o1] at he hU ⊢
  by_cases o2 : op = 2
  · simp only [if_pos o2]
  simp only [if_neg o2] at he hU ⊢
  by_cases o3 : op = 3
  · simp only [if_pos o3]
  simp only [if_neg o3] at he hU ⊢
  by_cases o4 : op = 4
  · simp only [if_pos o4] at he hU ⊢
    by_cases u : ps.length ≤ c.used
    · simp only [if_pos u] at he
      exact absurd rfl (he rfl)
    · simp only [if_neg u] at he hU ⊢
      have hu : c.used + 1 ≤ U := hU
      have u' : ¬ ps'.length ≤ c.used := by have := h.2.1; omega
      simp only [if_neg u']
      rw [h.2.2 c.used (by omega)]
  simp only [if_neg o4] at he hU ⊢
theorem step_picks {p : Prg} {ps ps' : List Int} {U : Nat} {c : CfM} (h : AgreeP ps ps' U) (he : (stepM p ps c).over = true → (stepM p ps c).en ≠ 4) (ho : c.over = false) (hU : (stepM p ps c).used ≤ U) : stepM p ps' c = stepM p ps c := by
  have hne : ¬ c.over = true := by rw [ho]; decide
  have e1 : ∀ qs, stepM p qs c = match c.todo with
    | [] => c
    | (k, s) :: next => if c.fuel = 0 then stopM c 3 k else actM p qs (begunM p c s next) k s (valL p.w p.vars [c.store] s.args) next := fun qs => by
    have : stepM p qs c = if c.over = true then c else match c.todo with
      | [] => c
      | (k, s) :: next => if c.fuel = 0 then stopM c 3 k else actM p qs (begunM p c s next) k s (valL p.w p.vars [c.store] s.args) next := rfl
    rw [this, if_neg hne]
  rw [e1] at he hU
  rw [e1, e1]
  cases ht : c.todo with
  | nil => rfl
  | cons it next =>
    obtain ⟨k, s⟩ := it
    rw [ht] at he hU
    simp only at he hU ⊢
    by_cases hf : c.fuel = 0
    · rw [if_pos hf, if_pos hf]
    · rw [if_neg hf] at he hU
      rw [if_neg hf, if_neg hf]
      exact act_picks h he ho hU
theorem picks_law {p : Prg} {ps ps' : List Int} {U : Nat} (h : AgreeP ps ps' U) : ∀ (n : Nat) (c : CfM), Inv p ps c → c.fuel = n → c.over = false → c.en = 0 → c.wh = 0 → (finM p ps c).en ≠ 4 → (finM p ps c).used ≤ U → finM p ps' c = finM p ps c := by
  intro n
  induction n with
  | zero =>
    intro c hi hn ho h0 hw he hU
    have hpre := iter_pre (p := p) (ps := ps) c.fuel.toNat (stepM p ps c)
    have hfin : finM p ps c = iterM p ps c.fuel.toNat (stepM p ps c) := rfl
    rw [← hfin] at hpre
    have hu := hpre.2.2.2
    rcases step_cases hi ho h0 hw with ⟨q1, q2⟩ | ⟨q1, q2, _⟩ | ⟨q1, q2, _⟩
    · have f1 : finM p ps c = c := ended_iter q1 _
      have f2 : finM p ps' c = c := ended_iter q1 _
      rw [f1, f2]
    · have := step_fuel q1 q2; omega
    · have f1 : finM p ps c = stepM p ps c := fin_stop (by simp [q2])
      have hs := step_picks (p := p) (c := c) h (fun _ => by rw [← f1]; exact he) ho (by omega)
      have f2 : finM p ps' c = stepM p ps' c := fin_stop (by rw [hs]; simp [q2])
      rw [f1, f2, hs]
  | succ n ih =>
    intro c hi hn ho h0 hw he hU
    have hpre := iter_pre (p := p) (ps := ps) c.fuel.toNat (stepM p ps c)
    have hfin : finM p ps c = iterM p ps c.fuel.toNat (stepM p ps c) := rfl
    rw [← hfin] at hpre
    have hu := hpre.2.2.2
    rcases step_cases hi ho h0 hw with ⟨q1, q2⟩ | ⟨q1, q2, q3, q4, q5, q6⟩ | ⟨q1, q2, _⟩
    · have f1 : finM p ps c = c := ended_iter q1 _
      have f2 : finM p ps' c = c := ended_iter q1 _
      rw [f1, f2]
    · have hs := step_picks (p := p) (c := c) h (fun q => by rw [q2] at q; cases q) ho (by omega)
      have g : (!endedM c && !(stepM p ps c).over) = true := by simp [q1, q2]
      have k1 := (fin_go (p := p) (ps := ps) (c := c) (by omega) g).1
      have k2 := (fin_go (p := p) (ps := ps') (c := c) (by omega) (by rw [hs]; exact g)).1
      rw [← k1, ← k2, hs]
      exact ih _ (inv_step hi) (by omega) q2 q3 q4 (by rw [k1]; exact he) (by rw [k1]; exact hU)
    · have f1 : finM p ps c = stepM p ps c := fin_stop (by simp [q2])
      have hs := step_picks (p := p) (c := c) h (fun _ => by rw [← f1]; exact he) ho (by omega)
      have f2 : finM p ps' c = stepM p ps' c := fin_stop (by rw [hs]; simp [q2])
      rw [f1, f2, hs]
end Go.Proofs.YtoijnpfpjpefgaaGreat.A
/- The law MachPicks over the machine. -/
set_option linter.unusedVariables false
set_option linter.unusedSimpArgs false
set_option maxRecDepth 10000
namespace Go.Proofs.YtoijnpfpjpefgaaGreat.A
open Go Go.ChangeShapes
theorem act_nopick {p : Prg} {ps : List Int} {c : CfM} {k : Int} {s : Stm} {vals : List Int} {next : List Itm} (h0 : c.en = 0) (he : (actM p ps c k s vals next).en = 4) : ps.length ≤ (actM p ps c k s vals next).used := by
  obtain ⟨op, n, args, thn, els⟩ := s
  unfold actM at he ⊢
  by_cases o0 : op = 0
  · simp only [if_pos o0, setM] at he; omega
  simp only [if_neg o0] at he ⊢
  by_cases o1 : op = 1
  · simp only [if_pos o1] at he; omega
  simp only [if_neg o1] at he ⊢
  by_cases o2 : op = 2
  · simp only [if_pos o2] at he; omega
  simp only [if_neg o2] at he ⊢
  by_cases o3 : op = 3
  · simp only [if_pos o3] at he; omega
  simp only [if_neg o3] at he ⊢
  by_cases o4 : op = 4
  · simp only [if_pos o4] at he ⊢
    by_cases u : ps.length ≤ c.used
    · simp only [if_pos u]; exact u
    · simp only [if_neg u, setM] at he; omega
  simp only [if_neg o4] at he ⊢
  by_cases o5 : op = 5
  · simp only [if_pos o5] at he
    by_cases u : vAt vals 0 = 0
    · simp only [if_pos u, stopM] at he; omega
    · simp only [if_neg u] at he; omega
  simp only [if_neg o5] at he
  by_cases u : vAt vals 0 = 0
  · simp only [if_pos u, stopM] at he; omega
  · simp only [if_neg u] at he; omega
theorem step_nopick {p : Prg} {ps : List Int} {c : CfM} (ho : c.over = false) (h0 : c.en = 0) (he : (stepM p ps c).en = 4) : ps.length ≤ (stepM p ps c).used := by
  have e1 : stepM p ps c = match c.todo with
    | [] => c
    | (k, s) :: next => if c.fuel = 0 then stopM c 3 k else actM p ps (begunM p c s next) k s (valL p.w p.vars [c.store] s.args) next := by
    have : stepM p ps c = if c.over = true then c else match c.todo with
      | [] => c
      | (k, s) :: next => if c.fuel = 0 then stopM c 3 k else actM p ps (begunM p c s next) k s (valL p.w p.vars [c.store] s.args) next := rfl
    rw [this, if_neg (by rw [ho]; decide)]
  rw [e1] at he ⊢
  cases ht : c.todo with
  | nil => rw [ht] at he; simp only at he; omega
  | cons it next =>
    obtain ⟨k, s⟩ := it
    rw [ht] at he
    simp only at he ⊢
    by_cases hf : c.fuel = 0
    · rw [if_pos hf] at he; simp only [stopM] at he; omega
    · rw [if_neg hf] at he ⊢
      exact act_nopick h0 he
theorem fin_nopick {p : Prg} {ps : List Int} : ∀ (n : Nat) (c : CfM), Inv p ps c → c.fuel = n → c.over = false → c.en = 0 → c.wh = 0 → (finM p ps c).en = 4 → ps.length ≤ (finM p ps c).used := by
  intro n
  induction n with
  | zero =>
    intro c hi hn ho h0 hw he
    rcases step_cases hi ho h0 hw with ⟨q1, q2⟩ | ⟨q1, q2, _⟩ | ⟨q1, q2, _⟩
    · have f1 : finM p ps c = c := ended_iter q1 _
      rw [f1] at he; omega
    · have := step_fuel q1 q2; omega
    · have f1 : finM p ps c = stepM p ps c := fin_stop (by simp [q2])
      rw [f1] at he ⊢
      exact step_nopick ho h0 he
  | succ n ih =>
    intro c hi hn ho h0 hw he
    rcases step_cases hi ho h0 hw with ⟨q1, q2⟩ | ⟨q1, q2, q3, q4, q5, q6⟩ | ⟨q1, q2, _⟩
    · have f1 : finM p ps c = c := ended_iter q1 _
      rw [f1] at he; omega
    · have k1 := (fin_go (p := p) (ps := ps) (c := c) (by omega) (by simp [q1, q2])).1
      rw [← k1] at he ⊢
      exact ih _ (inv_step hi) (by omega) q2 q3 q4 he
    · have f1 : finM p ps c = stepM p ps c := fin_stop (by simp [q2])
      rw [f1] at he ⊢
      exact step_nopick ho h0 he
def CapS (v : Value) : Prop := ∃ a n c, v = .slice a n c ∧ n ≤ c ∧ (c = 0 ∨ ∀ x, a = some x → x.spot = none)
theorem cap_clean {n0 : Nat} {c v : Value} (h : c = .slice none 0 0 ∨ ∃ a len cap, c = .slice (some a) len cap ∧ len ≤ cap) (hc : cleanOld n0 c = some v) : CapS v := by
  rcases h with rfl | ⟨a, len, cap, rfl, hl⟩
  · simp [cleanOld, flat] at hc; subst hc; exact ⟨_, _, _, rfl, Nat.le_refl _, .inl rfl⟩
  · simp only [cleanOld] at hc
    cases h1 : (decide (a.block < n0) && a.spot.isNone) with
    | true => rw [h1] at hc; simp only [cond_true, Option.some.injEq] at hc; subst hc; exact ⟨_, _, _, rfl, hl, .inr fun x hx => by cases hx; simp only [Bool.and_eq_true] at h1; exact Option.isNone_iff_eq_none.1 h1.2⟩
    | false =>
      rw [h1] at hc
      simp only [cond_false] at hc
      cases h2 : Nat.beq len 0 with
      | true => rw [h2] at hc; simp only [cond_true, Option.some.injEq] at hc; subst hc; exact ⟨_, _, _, rfl, Nat.le_refl _, .inl rfl⟩
      | false => rw [h2] at hc; simp at hc
/-- The front of a list of words. -/
theorem cutI {H : AH} {v : Value} {l : List Int} {n : Nat} (h : Ints H v l) (hc : CapS v) (hn : n ≤ l.length) : ∃ a c, aslice 1 H v none (some (.int .i64 n)) none = some (.slice a n c) ∧ Ints H (.slice a n c) (l.take n) := by
  obtain ⟨a, m, c, rfl, hmc, hsp⟩ := hc
  obtain ⟨a', c', e, k⟩ := h.is
  cases e
  rw [List.length_map] at hmc
  have h1 : (n : Int) ≤ (c : Int) := by omega
  have h2 : n ≤ c := by omega
  have hr : ∀ (a2 : Option Addr) (c2 : Nat), (∀ (i : Nat) (r : List Value), ((l.map fun n => [Value.int .i64 n]).take n)[i]? = some r → ∃ b o, a2 = some ⟨b, o, none⟩ ∧ H.ldn ⟨b, o + i * 1, none⟩ 1 = some r) → Ints H (.slice a2 n c2) (l.take n) := fun a2 c2 hh => ⟨a2, c2, by simp [hn], fun i r hi => hh i r (by simpa using hi)⟩
  have hk : ∀ (i : Nat) (r : List Value), ((l.map fun n => [Value.int .i64 n]).take n)[i]? = some r → ∃ b o, a = some ⟨b, o, none⟩ ∧ H.ldn ⟨b, o + i * 1, none⟩ 1 = some r := fun i r hi => k i r (by
    rw [List.getElem?_take] at hi
    split at hi
    · exact hi
    · cases hi)
  cases a with
  | none => exact ⟨none, c, by simp [aslice, abounds, abnd, h1, h2]; rfl, hr _ _ hk⟩
  | some a =>
    by_cases hc0 : c = 0
    · subst hc0
      have hn0 : n = 0 := by omega
      subst hn0
      exact ⟨some a, 0, by simp [aslice, abounds, abnd]; rfl, hr _ _ (by simp)⟩
    · cases hs : a.spot with
      | none =>
        obtain ⟨b, o, s⟩ := a
        simp only at hs
        subst hs
        exact ⟨some ⟨b, o, none⟩, c, by simp [aslice, abounds, abnd, h1, h2, hc0]; rfl, hr _ _ hk⟩
      | some z =>
        rcases hsp with q | q
        · exact absurd q hc0
        · rw [q a rfl] at hs; cases hs
/-- A start's picks may be cut. -/
theorem rd_start_cap {T : Type} {enc : TypeId × Value → T} {W : World} (n : Nat) (cs : List Value) (d : DataW T) (h : Rd enc Tryz.prog W n 28 cs d) (hw : Wt' Tryz.prog 28 d) {l : List Value} (hc : cleanL W.heap.size cs = some l) : ∃ vs vp, l = [vs, vp] ∧ CapS vp := by
  obtain ⟨hl, m, hm, hf⟩ := rd_struct Tryz.underlying28 h hw
  rw [cT] at hl
  obtain ⟨c0, c1, rfl⟩ := list2 hl
  obtain ⟨d1, h1, w1⟩ := hf 1 _ rfl
  simp only [List.getElem_toArray, List.getElem_cons_zero, List.getElem_cons_succ] at h1 w1
  rw [cIs] at h1
  obtain ⟨ps, h1⟩ := h1
  have h1' : DataW.trod enc Tryz.prog W 0 (fun _ => true) true m 26 [c1] = some (d1, ps) := by simpa using h1
  simp only [cleanL] at hc
  cases h2 : cleanOld W.heap.size c0 with
  | none => rw [h2] at hc; simp at hc
  | some x0 =>
    cases h3 : cleanOld W.heap.size c1 with
    | none => rw [h2, h3] at hc; simp at hc
    | some x1 =>
      rw [h2, h3] at hc
      simp only [Option.some.injEq] at hc
      refine ⟨x0, x1, hc.symm, cap_clean ?_ h3⟩
      rcases DataW.trod_slice Tryz.underlying26 h1' with ⟨e, _⟩ | ⟨a, len, cap, _, _, _, _, e, _, _, hlc, _⟩
      · simp only [List.cons.injEq, and_true] at e; exact .inl e
      · simp only [List.cons.injEq, and_true] at e; exact .inr ⟨a, len, cap, e, hlc⟩
end Go.Proofs.YtoijnpfpjpefgaaGreat.A
/- The law MachPicks over the machine. -/
set_option linter.unusedVariables false
set_option linter.unusedSimpArgs false
set_option maxRecDepth 10000
namespace Go.Proofs.YtoijnpfpjpefgaaGreat.A
open Go Go.RowKit Go.WideShapes Go.ChangeShapes
theorem rd_ints2 {T : Type} {enc : TypeId × Value → T} {W : World} {n : Nat} {c : Value} {d : DataW T} (h : Rd enc Tryz.prog W n 26 [c] d) (hw : Wt' Tryz.prog 26 d) : ∃ v l, cleanL W.heap.size [c] = some [v] ∧ Ints (H0 W) v l ∧ l.length + 512 ≤ 2 ^ 44 ∧ ∀ n ∈ l, I64 n := by
  obtain ⟨v, rows, ys, g1, g2, g3, g4⟩ := rd_rows (C := fun l (y : Int) => l = [.int .i64 y] ∧ I64 y) Tryz.underlying26 (by rw [cI]; omega) (by decide +kernel) h hw (fun k cs' d' hk hr hwd => by
    obtain ⟨m, e, b⟩ := rd_int Tryz.underlying3 hr
    subst e
    exact ⟨_, m, cleanL_int rfl, rfl, wf_i64 b⟩)
  have hy : ∀ {rows : List (List Value)} {ys : List Int}, All2 (fun l (y : Int) => l = [.int .i64 y] ∧ I64 y) rows ys → rows = ys.map (fun n => [.int .i64 n]) ∧ ∀ v ∈ ys, I64 v := by
    intro rows ys h
    induction h with
    | nil => exact ⟨rfl, by simp⟩
    | cons a b ih =>
      refine ⟨by rw [a.1, ih.1]; rfl, fun v hv => ?_⟩
      rcases List.mem_cons.1 hv with rfl | hv
      · exact a.2
      · exact ih.2 v hv
  obtain ⟨e1, e2⟩ := hy g3
  rw [cI, e1] at g2
  refine ⟨v, ys, g1, g2, ?_, e2⟩
  have hb : Tryz.prog.bytesOf 3 = 8 := by kernel_rfl
  rw [hb, g3.length] at g4
  have : reachBytes = 140737488351232 := rfl
  omega
theorem MachPicks_ca {p : Prg} {t : Sta} {c : List Value} {vs vp vm : Value} {fuel : Int} {more : List Int} {H : AH} (hw : H.n0 ≤ H.nx) (hfi : I64 fuel) (hp : PrgC H c p) (ht : StaC H [vs, vp] t) (hcap : CapS vp) (hm : Ints H vm more) (hml : more.length + 512 ≤ 2 ^ 44) (hmi : ∀ n ∈ more, I64 n) :
    Ca E O 6 [.agg c.toArray, .int .i64 fuel, .agg #[vs, vp], vm] H (fun x _ => x = .bool true) := by
  have hp' := hp
  have ht' := ht
  obtain ⟨vv, vb, rb, rfl, hi, hv, hvo, hr, hl, hbl⟩ := hp.is
  obtain ⟨vs', vp', e, ss, sp, l1, l2, is1, is2⟩ := ht.is
  cases e
  refine Ca.bodyV (F := a6) rfl rfl rfl ?_
  obtain ⟨u1, c1, hvv⟩ := hv.len
  obtain ⟨u2, c2, hvb⟩ := hr.len
  obtain ⟨u4, c4, hvp⟩ := sp.len
  rw [hl.length] at hvb
  have X1 := Ext.alloc H (.cells 3 [.int .i64 p.w, vv, vb])
  have q0 : (H.alloc (.cells 3 [.int .i64 p.w, vv, vb])).ld ⟨H.nx, 0, none⟩ = some (.int .i64 p.w) := ld_new hw rfl
  have q1 : (H.alloc (.cells 3 [.int .i64 p.w, vv, vb])).ld ⟨H.nx, 1, none⟩ = some vv := ld_new hw rfl
  have q2 : (H.alloc (.cells 3 [.int .i64 p.w, vv, vb])).ld ⟨H.nx, 2, none⟩ = some vb := ld_new hw rfl
  have q : (H.alloc (.cells 3 [.int .i64 p.w, vv, vb])).ldn ⟨H.nx, 0, none⟩ 3 = some [.int .i64 p.w, vv, vb] := ld_box hw 3 rfl
  generalize hH1 : H.alloc (.cells 3 [.int .i64 p.w, vv, vb]) = H1 at X1 q0 q1 q2 q
  have hwH1 := X1.wf hw
  have X2 := Ext.alloc H1 (.cells 2 [vs, vp])
  have r0 : (H1.alloc (.cells 2 [vs, vp])).ld ⟨H1.nx, 0, none⟩ = some vs := ld_new hwH1 rfl
  have r1 : (H1.alloc (.cells 2 [vs, vp])).ld ⟨H1.nx, 1, none⟩ = some vp := ld_new hwH1 rfl
  have r : (H1.alloc (.cells 2 [vs, vp])).ldn ⟨H1.nx, 0, none⟩ 2 = some [vs, vp] := ld_box hwH1 2 rfl
  generalize hH2 : H1.alloc (.cells 2 [vs, vp]) = H2 at X2 r0 r1 r
  have hwH2 := X2.wf hwH1
  replace q0 := X2.ld q0
  replace q1 := X2.ld q1
  replace q2 := X2.ld q2
  replace q := X2.ldn q
  have X := X1.trans X2
  simp (maxSteps := 4000000) -implicitDefEqProofs +contextual [-X.ev, a6, hH1, hH2, q2]
  apply Vx_callM
  · (simp -implicitDefEqProofs [-X.ev]; rfl)
  refine (PFits_ca hwH2 hbl (hr.ext X) (hl.ext X) (by omega)).mono ?_
  rintro x H3 ⟨rfl, X3⟩
  by_cases h1 : nodesS p.body ≤ 600
  case neg =>
    simp (maxSteps := 4000000) -implicitDefEqProofs +contextual [-X.ev, h1]
    apply Vx_callM
    · (simp -implicitDefEqProofs [-X.ev]; rfl)
    refine (awake_ca H3).mono ?_
    rintro x H4 ⟨rfl, rfl⟩
    simp (maxSteps := 4000000) -implicitDefEqProofs +contextual [-X.ev]
  have X03 := X.trans X3
  have hw3 := X3.wf hwH2
  replace q0 := X3.ld q0
  replace q1 := X3.ld q1
  replace q2 := X3.ld q2
  replace r0 := X3.ld r0
  replace r1 := X3.ld r1
  replace q := X3.ldn q
  replace r := X3.ldn r
  simp (maxSteps := 4000000) -implicitDefEqProofs +contextual [-X.ev, h1, q, r]
  apply Vx_callM
  · (simp -implicitDefEqProofs [-X.ev]; rfl)
  refine (RCheck_ca (fuel := fuel) hw3 (hp'.ext X03) (ht'.ext X03)).mono ?_
  rintro x H4 ⟨rfl, X4⟩
  by_cases hk : chkR p fuel t = 0
  case neg =>
    simp (maxSteps := 4000000) -implicitDefEqProofs +contextual [-X.ev, hk]
    apply Vx_callM
    · (simp -implicitDefEqProofs [-X.ev]; rfl)
    refine (awake_ca H4).mono ?_
    rintro x H5 ⟨rfl, rfl⟩
    simp (maxSteps := 4000000) -implicitDefEqProofs +contextual [-X.ev]
  obtain ⟨hinv, _, hf1, hf2, _⟩ := inv_begin hk
  have X04 := X03.trans X4
  have hw4 := X4.wf hw3
  replace q0 := X4.ld q0
  replace q1 := X4.ld q1
  replace q2 := X4.ld q2
  replace r0 := X4.ld r0
  replace r1 := X4.ld r1
  replace q := X4.ldn q
  replace r := X4.ldn r
  simp (maxSteps := 4000000) -implicitDefEqProofs +contextual [-X.ev, hk, q, r]
  apply Vx_callM
  · (simp -implicitDefEqProofs [-X.ev]; rfl)
  refine (MRun_ca (fuel := fuel) hw4 (hp'.ext X04) (ht'.ext X04)).mono ?_
  rintro x H5 ⟨cs, rfl, ra, X5⟩
  have hw5 := X5.wf hw4
  have sa := runP_small hk
  obtain ⟨fin, hfin⟩ : ∃ f, finM p t.picks (beginM p fuel t) = f := ⟨_, rfl⟩
  have hA : runP p fuel t = fin.run := by rw [runP, if_pos hk, hfin]
  rw [hA] at ra sa
  have hifin : Inv p t.picks fin := by rw [← hfin]; exact inv_iter _ hinv
  have hus := hifin.used
  have hnp := fin_nopick (p := p) (ps := t.picks) fuel.toNat (beginM p fuel t) hinv (by show fuel = _; omega) rfl rfl rfl
  have hpl := fun (ps' : List Int) (h : AgreeP t.picks ps' fin.used) (h4 : fin.en ≠ 4) => picks_law (p := p) h fuel.toNat (beginM p fuel t) hinv (by show fuel = _; omega) rfl rfl rfl (by rw [hfin]; exact h4) (by rw [hfin]; exact Nat.le_refl _)
  rw [hfin] at hnp hpl
  obtain ⟨vs1, vo1, vt1, rfl, os1, oo1, ot1, f1⟩ := ra.is
  obtain ⟨U, hU⟩ : ∃ U, fin.used = U := ⟨_, rfl⟩
  have hru : fin.run.used = (U : Int) := by rw [← hU]; rfl
  obtain ⟨en, hen⟩ : ∃ en, fin.en = en := ⟨_, rfl⟩
  have hre : fin.run.en = en := hen
  rw [hU] at hus hnp hpl
  rw [hen] at hnp hpl
  rw [hru, hre] at ra ⊢
  obtain ⟨H6, sH6, X6, nxH6, n0H6, y, lH6⟩ := st_new (H := H5) hw5 (z := 7) (c := [.int .i64 0, .slice none 0 0, .slice none 0 0, .slice none 0 0, .int .i64 0, .int .i64 0, .int .i64 0]) (vs := [.int .i64 en, vs1, vo1, vt1, .int .i64 fin.run.cost, .int .i64 (U : Int), .int .i64 fin.run.wh]) rfl
  have y0 : H6.ld ⟨H5.nx, 0, none⟩ = some (.int .i64 en) := lH6 0 _ rfl
  have y1 : H6.ld ⟨H5.nx, 1, none⟩ = some vs1 := lH6 1 _ rfl
  have y2 : H6.ld ⟨H5.nx, 2, none⟩ = some vo1 := lH6 2 _ rfl
  have y3 : H6.ld ⟨H5.nx, 3, none⟩ = some vt1 := lH6 3 _ rfl
  have y4 : H6.ld ⟨H5.nx, 4, none⟩ = some (.int .i64 fin.run.cost) := lH6 4 _ rfl
  have y5 : H6.ld ⟨H5.nx, 5, none⟩ = some (.int .i64 (U : Int)) := lH6 5 _ rfl
  have y6 : H6.ld ⟨H5.nx, 6, none⟩ = some (.int .i64 fin.run.wh) := lH6 6 _ rfl
  clear lH6
  replace y : H6.ldn ⟨H5.nx, 0, none⟩ 7 = some [.int .i64 en, vs1, vo1, vt1, .int .i64 fin.run.cost, .int .i64 (U : Int), .int .i64 fin.run.wh] := y
  have hwH6 := X6.wf hw5
  have X46 := X5.trans X6
  replace r0 := X46.ld r0
  replace r1 := X46.ld r1
  replace q := X46.ldn q
  replace r := X46.ldn r
  have X06 := X04.trans X46
  have R1 : RunR H6 [.int .i64 en, vs1, vo1, vt1, .int .i64 fin.run.cost, .int .i64 (U : Int), .int .i64 fin.run.wh] fin.run := by
    have := (RunO.toR ra sa).ext X6
    exact this
  have r1' := r1
  rw [hvp] at r1'
  have ng : ¬ (t.picks.length : Int) < (U : Int) := by omega
  by_cases h4 : en = 4
  · have hul : U = t.picks.length := by have := hnp h4; omega
    subst h4
    subst hul
    have nlt : ¬ (t.picks.length : Int) < 0 := by omega
    simp (maxSteps := 4000000) -implicitDefEqProofs +contextual [-X.ev, sH6, hk, y5, r1', y0, nlt]
    apply Vx_callM
    · (simp -implicitDefEqProofs [-X.ev]; rfl)
    refine (awake_ca H6).mono ?_
    rintro x H9 ⟨rfl, rfl⟩
    simp (maxSteps := 4000000) -implicitDefEqProofs +contextual [-X.ev]
  · obtain ⟨ca, cc, hcut, hci⟩ := cutI (n := U) (Ints.ext X06 sp) hcap hus.1
    have hcut' := hcut
    rw [hvp] at hcut'
    have nlt : ¬ (U : Int) < 0 := by omega
    have X7 := Ext.alloc H6 (.cells 2 [.slice none 0 0, .slice none 0 0])
    have gz := get_new H6 (.cells 2 [.slice none 0 0, .slice none 0 0])
    obtain ⟨H7, hH7⟩ : ∃ H7, H6.alloc (.cells 2 [.slice none 0 0, .slice none 0 0]) = H7 := ⟨_, rfl⟩
    rw [hH7] at X7 gz
    have hw7 := X7.wf hwH6
    have hltk : (t.picks.take U).length = U := by simp; omega
    simp (maxSteps := 4000000) -implicitDefEqProofs +contextual [-X.ev, sH6, hk, y5, r1', y0, nlt, ng, h4, r0, hcut', hH7]
    apply Vx_callM
    · (simp -implicitDefEqProofs [-X.ev]; rfl)
    refine (RCopy_ca hw7 (Ints.ext X7 hci) (by omega)).mono ?_
    rintro x H8 ⟨o8, X8, k8⟩
    have hw8 := X8.wf hw7
    have X08 := X06.trans (X7.trans X8)
    have hm8 : Rows H8 1 vm (intRows more) := Rows.ext X08 hm
    obtain ⟨s', H9, ha, o9, M9, k9⟩ := app_own (bytes := 8) hw8 o8 hm8 (by simp only [intRows, List.length_map]; rw [hltk]; omega) (by simp only [intRows, List.length_map]; rw [hltk]; omega)
    rw [← intRows_append] at o9
    have x7 := X7.nx
    have x8 := X8.nx
    have ltz := AH.get_lt gz
    have gz8 := X8.get gz
    have gz9 := M9.get (fun q => by have := k8 _ q; omega) gz8
    have n09 : H9.n0 = H.n0 := M9.n0.trans X08.n0
    obtain ⟨sa', sc', hs'⟩ := o9.shape
    obtain ⟨H10, s10, M10, nx10, n010, g10⟩ := st_get gz9 (by rw [n09, ← X06.n0]; exact hwH6) (k := 0) (vs := [vs, s']) (by simp)
    rw [show splice [Value.slice none 0 0, .slice none 0 0] 0 [vs, s'] = [vs, s'] from rfl] at g10
    have X9 : Ext H6 H9 := (X7.trans X8).mod M9 (fun b hb => by have := k8 b hb; omega)
    have XX : Ext H6 H10 := X9.mod M10 (fun b hb => by omega)
    have l10 : H10.ldn ⟨H6.nx, 0, none⟩ 2 = some [vs, s'] := by rw [ldn_get g10 (by rw [n010, n09, ← X06.n0]; exact hwH6) (by simp)]; rfl
    obtain ⟨va, vc, hvs⟩ := ss.len
    have hbu : buildV [.slice none 0 0, .slice none 0 0] [(0, 1, vs), (1, 1, s')] = some (.agg #[vs, s']) := by rw [hvs, hs']; rfl
    have r0n := ld_ldn.1 r0
    have r0n8 := (X7.trans X8).ldn r0n
    have r0n9 := X9.ldn r0n
    have svs : same1 vs vs = true := by rw [hvs]; simp
    have m9x := M9.nx
    have m9n := M9.n0
    have x8n := X8.n0
    have x7n := X7.n0
    have i1 : isTup vs = false := by rw [hvs]; rfl
    obtain ⟨t', ht2⟩ : ∃ t' : Sta, (⟨t.store, t.picks.take U ++ more⟩ : Sta) = t' := ⟨_, rfl⟩
    have o10 : Own H10 1 s' (intRows (t.picks.take U ++ more)) := o9.mod M10 (fun b hb q => by
      rcases k9 b hb with u | u
      · have := k8 b u; omega
      · omega)
    have hlen : (t.picks.take U ++ more).length < 2 ^ 60 := by rw [List.length_append, hltk]; omega
    have hSta : StaC H10 [vs, s'] t' := by
      subst ht2
      exact ⟨vs, s', rfl, Ints.ext (X06.trans XX) ss, o10.ints, l1, hlen, is1, fun n hn => by
        rcases List.mem_append.1 hn with q | q
        · exact is2 n (List.mem_of_mem_take q)
        · exact hmi n q⟩
    have hw10 := XX.wf hwH6
    replace q := XX.ldn q
    have yy := XX.ldn y
    simp (maxSteps := 4000000) -implicitDefEqProofs +contextual [-X.ev, ha, hbu, s10, r0n, r0n8, r0n9, svs, gz, gz8, gz9, sameB, m9x, m9n, x7, x8, x8n, x7n, nx10, n010, okD_of, chain_2, chain_1, l10, q]
    apply Vx_callM
    · (simp -implicitDefEqProofs [-X.ev]; rfl)
    refine (RCheck_ca (fuel := fuel) hw10 (hp'.ext (X06.trans XX)) hSta).mono ?_
    rintro x H11 ⟨rfl, X11⟩
    by_cases hk2 : chkR p fuel t' = 0
    case neg =>
      simp (maxSteps := 4000000) -implicitDefEqProofs +contextual [-X.ev, hk2]
      apply Vx_callM
      · (simp -implicitDefEqProofs [-X.ev]; rfl)
      refine (awake_ca H11).mono ?_
      rintro x H12 ⟨rfl, rfl⟩
      simp (maxSteps := 4000000) -implicitDefEqProofs +contextual [-X.ev]
    have hw11 := X11.wf hw10
    have l11 := X11.ldn l10
    replace q := X11.ldn q
    have sb := runP_small hk2
    have hB : runP p fuel t' = fin.run := by
      rw [runP, if_pos hk2]
      have e1 : beginM p fuel t' = beginM p fuel t := by rw [← ht2]; rfl
      have e2 : t'.picks = t.picks.take U ++ more := by rw [← ht2]
      rw [e1, e2, hpl _ ⟨hus.1, by rw [List.length_append, hltk]; omega, fun i hi => by
        unfold vAt
        rw [List.getElem?_append_left (by omega), List.getElem?_take, if_pos hi]⟩ h4]
    simp (maxSteps := 4000000) -implicitDefEqProofs +contextual [-X.ev, hk2, q, l11]
    apply Vx_callM
    · (simp -implicitDefEqProofs [-X.ev]; rfl)
    refine (MRun_ca (fuel := fuel) hw11 (hp'.ext ((X06.trans XX).trans X11)) (hSta.ext X11)).mono ?_
    rintro x H12 ⟨cs2, rfl, rb2, X12⟩
    have hw12 := X12.wf hw11
    rw [hB] at rb2 sb
    have hcs2 := rb2.len
    obtain ⟨H13, s13, X13, nx13, n013, g13⟩ := var_new hw12 (z := 7) (c := zR) (vs := cs2) (by rw [hcs2]; rfl)
    have l13 : H13.ldn ⟨H12.nx, 0, none⟩ 7 = some cs2 := by rw [ldn_get g13 (by rw [n013]; exact hw12) (by omega)]; simp [List.take_of_length_le (Nat.le_of_eq hcs2)]
    have X613 := XX.trans (X11.trans (X12.trans X13))
    have y13 := X613.ldn y
    simp (maxSteps := 4000000) -implicitDefEqProofs +contextual [-X.ev, hcs2, s13, hk2, l13, y13]
    apply Vx_callM
    · (simp -implicitDefEqProofs [-X.ev]; rfl)
    refine (SameRun_ca (X13.wf hw12) (R1.ext X613) ((RunO.toR rb2 sb).ext X13)).mono ?_
    rintro x H14 ⟨rfl, X14⟩
    simp (maxSteps := 4000000) -implicitDefEqProofs +contextual [-X.ev]
    apply Vx_callM
    · (simp -implicitDefEqProofs [-X.ev]; rfl)
    refine (awake_ca H14).mono ?_
    rintro x H15 ⟨rfl, rfl⟩
    simp (maxSteps := 4000000) -implicitDefEqProofs +contextual [-X.ev]
end Go.Proofs.YtoijnpfpjpefgaaGreat.A
