/- Specs: starts (the reference). -/
import Derived.Test.YtoijnpfpjpefgaaGreatS13
set_option linter.unusedVariables false
set_option linter.unusedSimpArgs false
namespace Go.Proofs.YtoijnpfpjpefgaaGreat.A
open Go
theorem Ints.ext {H H' : AH} (E : Ext H H') {v : Value} {l : List Int} (h : Ints H v l) : Ints H' v l := Rows.ext E h
def isStore (w : Int) (V : List Vr) (l : List Int) : Bool := decide ((l.length : Int) = wsum (V.map (·.cells))) && l.all (isWord w)
theorem Store_ca {w : Int} {v vs : Value} {V : List Vr} {l : List Int} {H : AH} (hv : Vars H v V) (hV : V.length < 2 ^ 60) (hs : Ints H vs l) (hl : l.length < 2 ^ 60) :
    Ca E O 24 [.int .i64 w, v, vs] H (fun x H' => x = .bool (isStore w V l) ∧ H' = H) := by
  refine Ca.bodyK (F := a24) rfl rfl rfl ?_
  obtain ⟨a1, c1, hvs⟩ := hs.len
  obtain ⟨a2, c2, hvv⟩ := hv.len
  have hf := First_ca hv hV V.length (Nat.le_refl _)
  have hws := Words_ca w vs l H hs hl
  rw [hvv, hvs] at *
  simp -implicitDefEqProofs [a24, aop]
  refine Wr_call ?_
  simp -implicitDefEqProofs
  refine hf.mono ?_
  rintro x H' ⟨rfl, rfl⟩
  rw [List.take_length]
  by_cases q : (l.length : Int) = wsum (V.map (·.cells))
  case neg => simp -implicitDefEqProofs [aop, q, isStore]
  simp -implicitDefEqProofs [aop, q]
  refine Wr_call ?_
  simp -implicitDefEqProofs
  refine hws.mono ?_
  rintro x H'' ⟨rfl, rfl⟩
  simp -implicitDefEqProofs [aop, q, isStore]
structure Sta where
  store : List Int
  picks : List Int
structure StaC (H : AH) (c : List Value) (s : Sta) : Prop where
  is : ∃ vs vp, c = [vs, vp] ∧ Ints H vs s.store ∧ Ints H vp s.picks ∧ s.store.length < 2 ^ 60 ∧ s.picks.length < 2 ^ 60 ∧ (∀ n ∈ s.store, I64 n) ∧ ∀ n ∈ s.picks, I64 n
theorem StaC.ext {H H' : AH} (E : Ext H H') {c : List Value} {s : Sta} (h : StaC H c s) : StaC H' c s := by
  obtain ⟨vs, vp, e, a, b, f, g⟩ := h.is
  exact ⟨vs, vp, e, a.ext E, b.ext E, f, g⟩
def isSta (p : Prg) (s : Sta) : Bool := isStore p.w p.vars s.store && (decide (s.picks.length ≤ 16) && s.picks.all (isWord p.w))
theorem Start_ca {p : Prg} {t : Sta} {c d : List Value} {H : AH} (hw : H.n0 ≤ H.nx) (hp : PrgC H c p) (ht : StaC H d t) :
    Ca E O 42 [.agg c.toArray, .agg d.toArray] H (fun x H' => x = .bool (isSta p t) ∧ Ext H H') := by
  obtain ⟨vv, vb, rb, rfl, hi, hv, hvo, hr, hl, hbl⟩ := hp.is
  obtain ⟨vs, vp, rfl, ss, sp, l1, l2, _, _⟩ := ht.is
  refine Ca.bodyK (F := a42) rfl rfl rfl ?_
  have X0 := Ext.alloc H (.cells 3 [.int .i64 p.w, vv, vb])
  have d0 : (H.alloc (.cells 3 [.int .i64 p.w, vv, vb])).ld ⟨H.nx, 0, none⟩ = some (.int .i64 p.w) := ld_new hw rfl
  have d1 : (H.alloc (.cells 3 [.int .i64 p.w, vv, vb])).ld ⟨H.nx, 1, none⟩ = some vv := ld_new hw rfl
  generalize hH1 : H.alloc (.cells 3 [.int .i64 p.w, vv, vb]) = H1 at X0 d0 d1
  have hw1 := X0.wf hw
  have X1 := Ext.alloc H1 (.cells 2 [vs, vp])
  have e0 : (H1.alloc (.cells 2 [vs, vp])).ld ⟨H1.nx, 0, none⟩ = some vs := ld_new hw1 rfl
  have e1 : (H1.alloc (.cells 2 [vs, vp])).ld ⟨H1.nx, 1, none⟩ = some vp := ld_new hw1 rfl
  generalize hH2 : H1.alloc (.cells 2 [vs, vp]) = H2 at X1 e0 e1
  have X := X0.trans X1
  obtain ⟨a1, c1, hvp⟩ := sp.len
  have e1' := e1
  rw [hvp] at e1'
  simp -implicitDefEqProofs [a42, aop, hH1, hH2, X1.ld d0, X1.ld d1, e0]
  refine Wr_call ?_
  simp -implicitDefEqProofs
  refine (Store_ca (hv.ext X) hvo.1 (ss.ext X) l1).mono ?_
  rintro x H3 ⟨rfl, rfl⟩
  cases q1 : isStore p.w p.vars t.store with
  | false =>
    simp -implicitDefEqProofs [aop, q1, isSta]
    exact X
  | true =>
    by_cases q2 : t.picks.length ≤ 16
    case neg =>
      have q2' : ¬ (t.picks.length : Int) ≤ 16 := by omega
      simp -implicitDefEqProofs [aop, q1, q2, q2', e1', isSta]
      exact X
    have q2' : (t.picks.length : Int) ≤ 16 := by omega
    have hws := Words_ca p.w vp t.picks H3 (sp.ext X) l2
    rw [hvp] at hws
    simp -implicitDefEqProofs [aop, q1, q2, q2', e1', X1.ld d0]
    refine Wr_call ?_
    simp -implicitDefEqProofs
    refine hws.mono ?_
    rintro x H4 ⟨rfl, rfl⟩
    simp -implicitDefEqProofs [aop, q1, q2, isSta]
    exact X
/-- The error of a program, fuel and a start. -/
def chkR (p : Prg) (fuel : Int) (t : Sta) : Int := if isPrg p = false then 30 else if fuel < 0 ∨ 4096 < fuel then 1 else if isSta p t = false then 50 else 0
theorem RCheck_ca {p : Prg} {t : Sta} {c d : List Value} {fuel : Int} {H : AH} (hw : H.n0 ≤ H.nx) (hp : PrgC H c p) (ht : StaC H d t) :
    Ca E O 14 [.agg c.toArray, .int .i64 fuel, .agg d.toArray] H (fun x H' => x = .int .i64 (chkR p fuel t) ∧ Ext H H') := by
  refine Ca.bodyK (F := a14) rfl rfl rfl ?_
  have hd : d.length = 2 := by obtain ⟨vs, vp, e, _⟩ := ht.is; rw [e]; rfl
  have X0 := Ext.alloc H (.cells c.length c)
  have d0 := ld_box hw (z := c.length) (c := c) 3 hp.len
  generalize hH1 : H.alloc (.cells c.length c) = H1 at X0 d0
  have hw1 := X0.wf hw
  have X1 := Ext.alloc H1 (.cells d.length d)
  have e0 := ld_box hw1 (z := d.length) (c := d) 2 hd
  generalize hH2 : H1.alloc (.cells d.length d) = H2 at X1 e0
  have X := X0.trans X1
  simp -implicitDefEqProofs [a14, aop, hH1, hH2, X1.ldn d0]
  refine Wr_call ?_
  simp -implicitDefEqProofs
  refine (PIs_ca (X.wf hw) (hp.ext X)).mono ?_
  rintro x H3 ⟨rfl, X3⟩
  cases q1 : isPrg p with
  | false =>
    simp -implicitDefEqProofs [aop, q1, chkR]
    exact X.trans X3
  | true =>
    by_cases q2 : fuel < 0
    · simp -implicitDefEqProofs [aop, q1, q2, chkR]
      exact X.trans X3
    by_cases q3 : 4096 < fuel
    · simp -implicitDefEqProofs [aop, q1, q2, q3, chkR]
      exact X.trans X3
    simp -implicitDefEqProofs [aop, q1, q2, q3, (X1.trans X3).ldn d0, X3.ldn e0]
    refine Wr_call ?_
    simp -implicitDefEqProofs
    refine (Start_ca ((X.trans X3).wf hw) (hp.ext (X.trans X3)) (ht.ext (X.trans X3))).mono ?_
    rintro x H4 ⟨rfl, X4⟩
    cases q4 : isSta p t with
    | false =>
      simp -implicitDefEqProofs [aop, q1, q2, q3, q4, chkR]
      exact X.trans (X3.trans X4)
    | true =>
      simp -implicitDefEqProofs [aop, q1, q2, q3, q4, chkR]
      exact X.trans (X3.trans X4)
end Go.Proofs.YtoijnpfpjpefgaaGreat.A
