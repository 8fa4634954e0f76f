/- Programs and starts among the arguments. -/
import Derived.Test.YtoijnpfpjpefgaaGreatS14
import Derived.Test.YtoijnpfpjpefgaaGreatAbsR
set_option linter.unusedVariables false
set_option linter.unusedSimpArgs false
namespace Go.Proofs.YtoijnpfpjpefgaaGreat.A
open Go
section
variable {T : Type} {enc : TypeId × Value → T} {W : World}
theorem rb60 {n k : Nat} (h : n * k ≤ reachBytes) (hk : 0 < k) : n < 2 ^ 60 := by
  have h1 : n * 1 ≤ n * k := Nat.mul_le_mul_left _ hk
  have : reachBytes < 2 ^ 47 := reachBytes_lt
  omega
theorem cE : Tryz.prog.cellsOf 114 = 4 := by kernel_rfl
theorem cS : Tryz.prog.cellsOf 92 = 5 := by kernel_rfl
theorem cV : Tryz.prog.cellsOf 89 = 3 := by kernel_rfl
theorem cP : Tryz.prog.cellsOf 25 = 3 := by kernel_rfl
theorem cT : Tryz.prog.cellsOf 28 = 2 := by kernel_rfl
theorem cI : Tryz.prog.cellsOf 3 = 1 := by kernel_rfl
theorem cZ : Tryz.prog.cellsOf 9 = 1 := by kernel_rfl
theorem cEs : Tryz.prog.cellsOf 90 = 1 := by kernel_rfl
theorem cSs : Tryz.prog.cellsOf 23 = 1 := by kernel_rfl
theorem cVs : Tryz.prog.cellsOf 22 = 1 := by kernel_rfl
theorem cIs : Tryz.prog.cellsOf 26 = 1 := by kernel_rfl
theorem list1 {α : Type} {l : List α} (h : l.length = 1) : ∃ a, l = [a] := by
  match l, h with
  | [a], _ => exact ⟨a, rfl⟩
theorem list2 {α : Type} {l : List α} (h : l.length = 2) : ∃ a b, l = [a, b] := by
  match l, h with
  | [a, b], _ => exact ⟨a, b, rfl⟩
theorem list3 {α : Type} {l : List α} (h : l.length = 3) : ∃ a b c, l = [a, b, c] := by
  match l, h with
  | [a, b, c], _ => exact ⟨a, b, c, rfl⟩
theorem list4 {α : Type} {l : List α} (h : l.length = 4) : ∃ a b c d, l = [a, b, c, d] := by
  match l, h with
  | [a, b, c, d], _ => exact ⟨a, b, c, d, rfl⟩
theorem list5 {α : Type} {l : List α} (h : l.length = 5) : ∃ a b c d e, l = [a, b, c, d, e] := by
  match l, h with
  | [a, b, c, d, e], _ => exact ⟨a, b, c, d, e, rfl⟩
theorem exl_of {H : AH} : ∀ {rows : List (List Value)} {ys : List Exp}, All2 (ExC H) rows ys → ExL H rows ys
  | _, _, .nil => .nil
  | _, _, .cons a b => .cons a (exl_of b)
theorem stl_of {H : AH} : ∀ {rows : List (List Value)} {ys : List Stm}, All2 (StC H) rows ys → StL H rows ys
  | _, _, .nil => .nil
  | _, _, .cons a b => .cons a (stl_of b)
theorem rd_expr : ∀ (n : Nat) (cs : List Value) (d : DataW T), Rd enc Tryz.prog W n 114 cs d → Wt' Tryz.prog 114 d → ∃ l e, cleanL W.heap.size cs = some l ∧ ExC (H0 W) l e := by
  intro n
  induction n using Nat.strongRecOn with
  | _ n ih =>
    intro cs d h hw
    obtain ⟨hl, m, hm, hf⟩ := rd_struct Tryz.underlying114 h hw
    rw [cE] at hl
    obtain ⟨c0, c1, c2, c3, rfl⟩ := list4 hl
    obtain ⟨d0, h0, w0⟩ := hf 0 _ rfl
    obtain ⟨d1, h1, w1⟩ := hf 1 _ rfl
    obtain ⟨d2, h2, w2⟩ := hf 2 _ rfl
    obtain ⟨d3, h3, w3⟩ := hf 3 _ rfl
    simp only [List.getElem_toArray, List.getElem_cons_zero, List.getElem_cons_succ] at h0 h1 h2 h3 w0 w1 w2 w3
    rw [cI] at h0 h1 h2
    rw [cEs] at h3
    obtain ⟨op, e0, b0⟩ := rd_int Tryz.underlying3 h0
    obtain ⟨nn, e1, b1⟩ := rd_int Tryz.underlying3 h1
    obtain ⟨cp, e2, b2⟩ := rd_int Tryz.underlying3 h2
    obtain ⟨v, rows, ys, g1, g2, g3, g4⟩ := rd_rows (C := ExC (H0 W)) Tryz.underlying90 (by rw [cE]; omega) (by decide +kernel) h3 w3 (fun k cs' d' hk hr hwd => ih k (by omega) cs' d' hr hwd)
    rw [cE] at g2
    simp at e0 e1 e2
    subst e0; subst e1; subst e2
    refine ⟨[.int .i64 op, .int .i64 nn, .int .i64 cp, v], .mk op nn cp ys, cleanL_int (cleanL_int (cleanL_int (by simpa using g1))), .mk (wf_i64 b0) (wf_i64 b1) (wf_i64 b2) ?_ g2 (exl_of g3)⟩
    rw [← g3.length]
    exact rb60 g4 (by decide +kernel)
theorem rd_stmt : ∀ (n : Nat) (cs : List Value) (d : DataW T), Rd enc Tryz.prog W n 92 cs d → Wt' Tryz.prog 92 d → ∃ l e, cleanL W.heap.size cs = some l ∧ StC (H0 W) l e := by
  intro n
  induction n using Nat.strongRecOn with
  | _ n ih =>
    intro cs d h hw
    obtain ⟨hl, m, hm, hf⟩ := rd_struct Tryz.underlying92 h hw
    rw [cS] at hl
    obtain ⟨c0, c1, c2, c3, c4, rfl⟩ := list5 hl
    obtain ⟨d0, h0, w0⟩ := hf 0 _ rfl
    obtain ⟨d1, h1, w1⟩ := hf 1 _ rfl
    obtain ⟨d2, h2, w2⟩ := hf 2 _ rfl
    obtain ⟨d3, h3, w3⟩ := hf 3 _ rfl
    obtain ⟨d4, h4, w4⟩ := hf 4 _ rfl
    simp only [List.getElem_toArray, List.getElem_cons_zero, List.getElem_cons_succ] at h0 h1 h2 h3 h4 w0 w1 w2 w3 w4
    rw [cI] at h0 h1
    rw [cEs] at h2
    rw [cSs] at h3 h4
    obtain ⟨op, e0, b0⟩ := rd_int Tryz.underlying3 h0
    obtain ⟨nn, e1, b1⟩ := rd_int Tryz.underlying3 h1
    obtain ⟨va, ra, ya, p1, p2, p3, p4⟩ := rd_rows (C := ExC (H0 W)) Tryz.underlying90 (by rw [cE]; omega) (by decide +kernel) h2 w2 (fun k cs' d' hk hr hwd => rd_expr k cs' d' hr hwd)
    obtain ⟨vt, rt, yt, q1, q2, q3, q4⟩ := rd_rows (C := StC (H0 W)) Tryz.underlying23 (by rw [cS]; omega) (by decide +kernel) h3 w3 (fun k cs' d' hk hr hwd => ih k (by omega) cs' d' hr hwd)
    obtain ⟨ve, re, ye, r1, r2, r3, r4⟩ := rd_rows (C := StC (H0 W)) Tryz.underlying23 (by rw [cS]; omega) (by decide +kernel) h4 w4 (fun k cs' d' hk hr hwd => ih k (by omega) cs' d' hr hwd)
    rw [cE] at p2
    rw [cS] at q2 r2
    simp at e0 e1
    subst e0; subst e1
    refine ⟨[.int .i64 op, .int .i64 nn, va, vt, ve], .mk op nn ya yt ye, cleanL_int (cleanL_int (cleanL_cons (by simpa using p1) (cleanL_cons (by simpa using q1) (by simpa using r1)))), .mk (wf_i64 b0) (wf_i64 b1) ?_ ?_ ?_ p2 (exl_of p3) q2 (stl_of q3) r2 (stl_of r3)⟩
    · rw [← p3.length]; exact rb60 p4 (by decide +kernel)
    · rw [← q3.length]; exact rb60 q4 (by decide +kernel)
    · rw [← r3.length]; exact rb60 r4 (by decide +kernel)
theorem rd_var (n : Nat) (cs : List Value) (d : DataW T) (h : Rd enc Tryz.prog W n 89 cs d) (hw : Wt' Tryz.prog 89 d) : ∃ l y, cleanL W.heap.size cs = some l ∧ (l = Vr.row y ∧ y.name.size < 2 ^ 60) := by
  obtain ⟨hl, m, hm, hf⟩ := rd_struct Tryz.underlying89 h hw
  rw [cV] at hl
  obtain ⟨c0, c1, c2, rfl⟩ := list3 hl
  obtain ⟨d0, h0, w0⟩ := hf 0 _ rfl
  obtain ⟨d1, h1, w1⟩ := hf 1 _ rfl
  obtain ⟨d2, h2, w2⟩ := hf 2 _ rfl
  simp only [List.getElem_toArray, List.getElem_cons_zero, List.getElem_cons_succ] at h0 h1 h2 w0 w1 w2
  rw [cZ] at h0
  rw [cI] at h1 h2
  obtain ⟨s, e0, b0⟩ := rd_str Tryz.underlying9 h0 w0
  obtain ⟨a, e1, b1⟩ := rd_int Tryz.underlying3 h1
  obtain ⟨b, e2, b2⟩ := rd_int Tryz.underlying3 h2
  simp at e0 e1 e2
  subst e0; subst e1; subst e2
  have : reachBytes < 2 ^ 47 := reachBytes_lt
  exact ⟨_, ⟨s, a, b⟩, cleanL_str (cleanL_int (cleanL_int rfl)), rfl, by show s.size < 2 ^ 60; omega⟩
theorem vars_of : ∀ {rows : List (List Value)} {ys : List Vr}, All2 (fun l y => l = Vr.row y ∧ y.name.size < 2 ^ 60) rows ys → rows = ys.map Vr.row ∧ ∀ v ∈ ys, v.name.size < 2 ^ 60
  | _, _, .nil => ⟨rfl, by simp⟩
  | _, _, .cons a b => by
    obtain ⟨h1, h2⟩ := vars_of b
    refine ⟨by rw [a.1, h1]; rfl, fun v hv => ?_⟩
    rcases List.mem_cons.1 hv with rfl | hv
    · exact a.2
    · exact h2 v hv
theorem rd_ints {n : Nat} {c : Value} {d : DataW T} (h : Rd enc Tryz.prog W n 26 [c] d) (hw : Wt' Tryz.prog 26 d) : ∃ v l, cleanL W.heap.size [c] = some [v] ∧ Ints (H0 W) v l ∧ l.length < 2 ^ 44 ∧ ∀ n ∈ l, I64 n := by
  obtain ⟨v, rows, ys, g1, g2, g3, g4⟩ := rd_rows (C := fun l (y : Int) => l = [.int .i64 y] ∧ I64 y) Tryz.underlying26 (by rw [cI]; omega) (by decide +kernel) h hw (fun k cs' d' hk hr hwd => by
    obtain ⟨m, e, b⟩ := rd_int Tryz.underlying3 hr
    subst e
    exact ⟨_, m, cleanL_int rfl, rfl, wf_i64 b⟩)
  have hy : ∀ {rows : List (List Value)} {ys : List Int}, All2 (fun l (y : Int) => l = [.int .i64 y] ∧ I64 y) rows ys → rows = ys.map (fun n => [.int .i64 n]) ∧ ∀ v ∈ ys, I64 v := by
    intro rows ys h
    induction h with
    | nil => exact ⟨rfl, by simp⟩
    | cons a b ih =>
      refine ⟨by rw [a.1, ih.1]; rfl, fun v hv => ?_⟩
      rcases List.mem_cons.1 hv with rfl | hv
      · exact a.2
      · exact ih.2 v hv
  obtain ⟨e1, e2⟩ := hy g3
  rw [cI, e1] at g2
  refine ⟨v, ys, g1, g2, ?_, e2⟩
  have hb : Tryz.prog.bytesOf 3 = 8 := by kernel_rfl
  rw [hb, g3.length] at g4
  have : reachBytes < 2 ^ 47 := reachBytes_lt
  omega
theorem rd_prog (n : Nat) (cs : List Value) (d : DataW T) (h : Rd enc Tryz.prog W n 25 cs d) (hw : Wt' Tryz.prog 25 d) : ∃ l p, cleanL W.heap.size cs = some l ∧ PrgC (H0 W) l p := by
  obtain ⟨hl, m, hm, hf⟩ := rd_struct Tryz.underlying25 h hw
  rw [cP] at hl
  obtain ⟨c0, c1, c2, rfl⟩ := list3 hl
  obtain ⟨d0, h0, w0⟩ := hf 0 _ rfl
  obtain ⟨d1, h1, w1⟩ := hf 1 _ rfl
  obtain ⟨d2, h2, w2⟩ := hf 2 _ rfl
  simp only [List.getElem_toArray, List.getElem_cons_zero, List.getElem_cons_succ] at h0 h1 h2 w0 w1 w2
  rw [cI] at h0
  rw [cVs] at h1
  rw [cSs] at h2
  obtain ⟨w, e0, b0⟩ := rd_int Tryz.underlying3 h0
  obtain ⟨vv, rv, yv, p1, p2, p3, p4⟩ := rd_rows (C := fun l y => l = Vr.row y ∧ y.name.size < 2 ^ 60) Tryz.underlying22 (by rw [cV]; omega) (by decide +kernel) h1 w1 (fun k cs' d' hk hr hwd => rd_var k cs' d' hr hwd)
  obtain ⟨vb, rb, yb, q1, q2, q3, q4⟩ := rd_rows (C := StC (H0 W)) Tryz.underlying23 (by rw [cS]; omega) (by decide +kernel) h2 w2 (fun k cs' d' hk hr hwd => rd_stmt k cs' d' hr hwd)
  obtain ⟨e1, e2⟩ := vars_of p3
  rw [cV, e1] at p2
  rw [cS] at q2
  simp at e0
  subst e0
  refine ⟨_, ⟨w, yv, yb⟩, cleanL_int (cleanL_cons (by simpa using p1) (by simpa using q1)), ⟨vv, vb, rb, rfl, wf_i64 b0, p2, ⟨?_, e2⟩, q2, stl_of q3, ?_⟩⟩
  · rw [← p3.length]; exact rb60 p4 (by decide +kernel)
  · rw [← q3.length]; exact rb60 q4 (by decide +kernel)
theorem rd_start (n : Nat) (cs : List Value) (d : DataW T) (h : Rd enc Tryz.prog W n 28 cs d) (hw : Wt' Tryz.prog 28 d) : ∃ l s, cleanL W.heap.size cs = some l ∧ StaC (H0 W) l s := by
  obtain ⟨hl, m, hm, hf⟩ := rd_struct Tryz.underlying28 h hw
  rw [cT] at hl
  obtain ⟨c0, c1, rfl⟩ := list2 hl
  obtain ⟨d0, h0, w0⟩ := hf 0 _ rfl
  obtain ⟨d1, h1, w1⟩ := hf 1 _ rfl
  simp only [List.getElem_toArray, List.getElem_cons_zero, List.getElem_cons_succ] at h0 h1 w0 w1
  rw [cIs] at h0 h1
  obtain ⟨vs, ls, p1, p2, p3, p4⟩ := rd_ints (by simpa using h0) w0
  obtain ⟨vp, lp, q1, q2, q3, q4⟩ := rd_ints (by simpa using h1) w1
  exact ⟨_, ⟨ls, lp⟩, cleanL_cons p1 q1, ⟨vs, vp, rfl, p2, q2, by show ls.length < 2 ^ 60; omega, by show lp.length < 2 ^ 60; omega, p4, q4⟩⟩
end
end Go.Proofs.YtoijnpfpjpefgaaGreat.A
