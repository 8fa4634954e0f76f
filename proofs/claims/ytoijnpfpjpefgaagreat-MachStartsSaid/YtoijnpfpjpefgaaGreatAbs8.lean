/- Copies, makes, aggregates, maps. -/
import Derived.Test.YtoijnpfpjpefgaaGreatAbs7
set_option linter.unusedVariables false
set_option linter.unusedSimpArgs false
namespace Go.Proofs.YtoijnpfpjpefgaaGreat.A
open Go Go.RowKit
section
variable {P : Program} {w0 w : World} {φ : Phi} {H : AH}

theorem ok_first {sz n : Nat} {x x' : Value} {c : List Value} (R : Rel w0 φ H w) (hx : V φ x x') (h : firstA H sz n x = some c) :
    ∃ c', (Builtin.firstCells sz n x').run P w = .ok c'.toArray w ∧ VL φ c c' ∧ c.all one = true := by
  unfold firstA at h
  split at h
  · rename_i a n' cp
    simp only [nb, Bool.cond_decide] at h
    obtain ⟨a', c', rfl, ha⟩ := V.sln hx
    split at h
    · rename_i h0
      cases h
      refine ⟨[], ?_, .nil, rfl⟩
      cases a' <;> simp [Builtin.firstCells, loadCells, loadCellsFrom, h0]
    · rcases V.sl1 hx with ⟨l, c'', hsp, hl, _, _, _, he⟩ | ⟨hsp, _⟩
      · simp at he
        obtain ⟨rfl, rfl⟩ := he
        obtain ⟨_, h1, h2, vs', h3, h4, h5⟩ := R.ldn h hl
        exact ⟨vs', run_firstCells_some w sz n _ n' c' vs' h3 h5, h4, h1⟩
      · exfalso
        obtain ⟨b, o, sp⟩ := a
        dsimp only at hsp
        subst hsp
        simp [AH.ldn] at h
  · cases h
    rw [hx.sl0]
    exact ⟨[], by simp [Builtin.firstCells], .nil, rfl⟩
  · rename_i s
    cases h
    rw [hx.string]
    refine ⟨_, ?_, VL_bytes _, ?_⟩
    · simp [Builtin.firstCells]
      apply Array.ext'
      simp
    · rw [List.all_eq_true]
      intro u hu
      obtain ⟨_, _, rfl⟩ := List.mem_map.1 hu
      rfl
  · cases h

theorem ok_copy {sz : Nat} {d s d' s' v : Value} {H' : AH} {t tx ty e : TypeId} (R : Rel w0 φ H w) (ht : P.underlying t = some (.slice e)) (hsz : tsize P e = some sz) (hd : V φ d d') (hs : V φ s s') (h : acopy sz H d s = some (v, H')) {r : Result Next}
    (er : r = ((Builtin.copy_ #[t, tx] ty #[d', s']).run P w).andThen fun v w => .ok (.value v) w) : OpOk w0 φ H w (.v v) H' r := by
  unfold acopy at h
  split at h
  case h_2 => cases h
  rename_i base dl dc m hm
  dsimp only at h
  cases hf : firstA H sz (Nat.min m dl) s with
  | none => simp [hf] at h
  | some c =>
    simp only [hf, Option.bind_some] at h
    obtain ⟨c', hc1, hc2, hc3⟩ := ok_first (P := P) R hs hf
    obtain ⟨base', dc', rfl, hb⟩ := V.sln hd
    have hlen : (Builtin.lenOf s').run P w = .ok m w := by
      unfold lenA at hm
      split at hm
      · simp at hm; subst hm
        obtain ⟨a', c', rfl, _⟩ := V.sln hs
        rfl
      · simp at hm; subst hm
        rw [hs.string]; rfl
      · cases hm
    have run : ∀ {w' : World}, (match base' with | some a => (storeCells a c').run P w | none => .ok () w) = .ok () w' → (Builtin.copy_ #[t, tx] ty #[.slice base' dl dc', s']).run P w = .ok (goInt (Nat.min m dl : Nat)) w' := by
      intro w' hw
      cases base' with
      | none => simp at hw; subst hw; simp [Builtin.copy_, run_underlying ht, hlen, run_tsize hsz, hc1]
      | some a => simp only at hw; simp [Builtin.copy_, run_underlying ht, hlen, run_tsize hsz, hc1, hw]
    cases base with
    | none =>
      obtain rfl := hb.2 rfl
      simp at h
      obtain ⟨rfl, rfl⟩ := h
      rw [run (w' := w) rfl] at er
      exact .pure R (.same rfl) er
    | some a =>
      simp only at h
      cases c with
      | nil =>
        simp at h
        obtain ⟨rfl, rfl⟩ := h
        cases hc2
        rw [run (w' := w) (by cases base' <;> simp [storeCells])] at er
        exact .pure R (.same rfl) er
      | cons c0 cr =>
        simp only [List.isEmpty_cons, cond_false] at h
        cases hst : H.st a (c0 :: cr) with
        | none => simp [hst] at h
        | some H1 =>
          simp [hst] at h
          obtain ⟨rfl, rfl⟩ := h
          rcases V.sl1 hd with ⟨l, c'', hsp, hl, _, _, _, he⟩ | ⟨hsp, _⟩
          · simp at he
            obtain ⟨rfl, rfl⟩ := he
            obtain ⟨b, o, sp⟩ := a
            dsimp only at *
            subst hsp
            obtain ⟨a', w', e1, e2, R', G⟩ := ok_st (P := P) R (.ptr hl) hst hc2 hc3
            simp at e1
            subst e1
            rw [run (w' := w') e2] at er
            exact ⟨φ, w', _, er, R', G, .inl ⟨_, rfl, .same rfl⟩⟩
          · exfalso
            obtain ⟨b, o, sp⟩ := a
            dsimp only at hsp
            subst hsp
            simp [AH.st] at hst

theorem made_eq (z : Array Value) (m : Nat) (hm : z.size = m) : ∀ n, (madeCells z (n * m)).toList = (List.replicate n z.toList).flatten
  | 0 => by simp [madeCells]
  | n + 1 => by
    have ih := made_eq z m hm n
    simp only [madeCells, Array.toList_map, Array.toList_range] at ih ⊢
    rw [show (n + 1) * m = n * m + m by rw [Nat.succ_mul], List.range_add, List.map_append, ih, List.replicate_succ', List.flatten_append]
    congr 1
    simp only [List.map_map, List.flatten_cons, List.flatten_nil, List.append_nil]
    apply List.ext_getElem?
    intro j
    by_cases hj : j < m
    · have : j < z.size := by omega
      simp [hj, hm, Nat.mod_eq_of_lt hj, Nat.add_comm, this, getElem!_pos]
    · rw [List.getElem?_eq_none (by simp; omega), List.getElem?_eq_none (by simp; omega)]
theorem all_replicate {z : List Value} (h : z.all flat = true) : ∀ n, ((List.replicate n z).flatten).all flat = true
  | 0 => rfl
  | n + 1 => by simp only [List.replicate_succ, List.flatten_cons, List.all_append, h, all_replicate h n]; rfl

theorem ok_mksl {sz bytes : Nat} {z : List Value} {k : IntKind} {n : Int} {t e : TypeId} {i : TypeInfo} (R : Rel w0 φ H w) (h00 : φ.m H.nx = none) (ht : P.underlying t = some (.slice e)) (hi : P.info? e = some i) (hz : tzero P e = some z) (hsz : i.size = sz) (hby : i.bytes = bytes)
    (h0 : 0 ≤ n) (hw : IntKind.i64.wrap n = n) (hb : (bytes : Int) * n ≤ 2 ^ 47) {r : Result Next} (er : r = ((Instr.makeSlice t (.int k n) (.int k n)).run P w).andThen fun v w => .ok (.value v) w) :
    OpOk w0 φ H w (.v (.slice (some ⟨H.nx, 0, none⟩) n.toNat n.toNat)) (H.alloc (.cells sz (List.replicate n.toNat z).flatten)) r := by
  obtain ⟨i', zv, hi', hzv, hzl, hzf, hzn⟩ := run_tzero hz
  rw [hi] at hi'
  cases hi'
  subst hsz hby
  have h63 : n ≤ 9223372036854775807 := by rw [IntKind.wrap_i64] at hw; omega
  have hzs : zv.cells.size = i.size := by rw [← hzn, ← hzl]; simp
  rw [run_make w t e i zv ht hi hzv k k n n h0 (Int.le_refl _) (by omega) h63] at er
  have hm := made_eq zv.cells i.size hzs n.toNat
  rw [hzl] at hm
  have hfl := all_replicate hzf n.toNat
  obtain ⟨R', G⟩ := R.new h00 (w' := w.alloc (.cells (madeCells zv.cells (n.toNat * i.size)) e)) (z := i.size) (cs := (List.replicate n.toNat z).flatten) rfl rfl rfl rfl (by rw [← hm]; simp) (CR_of_VL (by rw [hm]; exact VL.same hfl) (all_flat_one hfl))
  refine ⟨_, _, _, er, R', G, .inl ⟨_, rfl, ?_⟩⟩
  have := V.sl (φ := φ.add H.nx ⟨w.heap.size, 0, (madeCells zv.cells (n.toNat * i.size)).size, i.size⟩) (o := 0) (n := n.toNat) (Phi.add_self φ H.nx ⟨w.heap.size, 0, (madeCells zv.cells (n.toNat * i.size)).size, i.size⟩) (Nat.le_refl n.toNat) id (.inl rfl)
  simpa using this

theorem foldl_splice : ∀ (l : List Value) (k off : Nat) (arr : Array Value), off + k + l.length ≤ arr.size →
    ((l.zipIdx k).foldl (fun (cs : Array Value) (x : Value × Nat) => cs.setIfInBounds (off + x.2) x.1) arr).toList = splice arr.toList (off + k) l
  | [], k, off, arr, h => by
    rw [splice_eq _ _ _ (by simpa using h)]
    simp
  | v :: l, k, off, arr, h => by
    simp only [List.zipIdx_cons, List.foldl_cons]
    rw [foldl_splice l (k + 1) off _ (by simp at h ⊢; omega)]
    rw [splice_eq _ _ _ (by simp at h ⊢; omega), splice_eq _ _ _ (by simp at h ⊢; omega)]
    apply List.ext_getElem?
    intro j
    simp only [Array.toList_setIfInBounds, List.length_cons] at *
    by_cases h1 : j < off + k
    · rw [List.append_assoc, List.append_assoc, List.getElem?_append_left (by simp; omega), List.getElem?_append_left (by simp; omega), List.getElem?_take, List.getElem?_take, if_pos (by omega), if_pos h1, List.getElem?_set_ne (by omega)]
    · by_cases h2 : j = off + k
      · subst h2
        rw [List.append_assoc, List.getElem?_append_left (by simp; omega), List.getElem?_take, if_pos (by omega), List.getElem?_set_self (by simp; omega)]
        rw [List.append_assoc, List.getElem?_append_right (by simp; omega), List.cons_append]
        simp
        rw [show off + k - min (off + k) arr.size = 0 by omega]
        rfl
      · by_cases h3 : j < off + k + 1 + l.length
        · rw [List.append_assoc, List.getElem?_append_right (by simp; omega), List.getElem?_append_left (by simp; omega)]
          rw [List.append_assoc, List.getElem?_append_right (by simp; omega), List.getElem?_append_left (by simp; omega)]
          simp
          rw [show j - min (off + k) arr.size = (j - min (off + (k + 1)) arr.size) + 1 by omega]
          simp
        · rw [List.getElem?_append_right (by simp; omega), List.getElem?_append_right (by simp; omega), List.getElem?_drop, List.getElem?_drop]
          rw [List.getElem?_set_ne (by simp; omega)]
          congr 1
          simp
          omega
theorem ok_fill : ∀ {ps : List (Nat × Nat × Value)} {ps' : List (Nat × Value)} {c c2 : List Value} {arr : Array Value} {place : Nat → Option (Nat × Nat)},
    ps.length = ps'.length → (∀ (j : Nat) (p : Nat × Nat × Value), ps[j]? = some p → ∃ p' : Nat × Value, ps'[j]? = some p' ∧ place p'.1 = some (p.1, p.2.1) ∧ V φ p.2.2 p'.2) →
    fillA c ps = some c2 → VL φ c arr.toList → c.all one = true → ∃ arr2, Instr.fill place arr ps' = some arr2 ∧ VL φ c2 arr2.toList ∧ c2.all one = true
  | [], [], c, c2, arr, place, _, _, h, hv, ho => by simp [fillA] at h; subst h; exact ⟨arr, rfl, hv, ho⟩
  | [], _ :: _, _, _, _, _, h, _, _, _, _ => by simp at h
  | _ :: _, [], _, _, _, _, h, _, _, _, _ => by simp at h
  | (off, n, v) :: ps, (i', v') :: ps', c, c2, arr, place, hl, hp, h, hv, ho => by
    obtain ⟨p', e1, e2, e3⟩ := hp 0 (off, n, v) (by simp)
    simp at e1
    subst e1
    dsimp only at e2 e3
    unfold fillA at h
    obtain ⟨hc, h⟩ := bif_some h
    simp only [nb, Bool.and_eq_true, decide_eq_true_eq, Bool.not_eq_true'] at hc
    obtain ⟨⟨hn, hfit⟩, htup⟩ := hc
    have hcl := e3.cells
    have hsize : v'.cells.size = n := by rw [← hn, hcl.length]; simp
    have hal : arr.size = c.length := by rw [hv.length]; simp
    have hspl : VL φ (splice c off (vcells v)) (splice arr.toList off v'.cells.toList) := VL.splice off hv hcl
    have hfold := foldl_splice v'.cells.toList 0 off arr (by simp; omega)
    have harr : (v'.cells.zipIdx.foldl (fun cs (x : Value × Nat) => cs.setIfInBounds (off + x.2) x.1) arr).toList = splice arr.toList off v'.cells.toList := by
      rw [← Array.foldl_toList, Array.toList_zipIdx]
      simpa using hfold
    obtain ⟨arr2, q1, q2, q3⟩ := ok_fill (ps := ps) (ps' := ps') (arr := v'.cells.zipIdx.foldl (fun cs (x : Value × Nat) => cs.setIfInBounds (off + x.2) x.1) arr) (place := place) (by simpa using hl) (fun j p hj => by simpa using hp (j + 1) p (by simpa using hj)) h (by rw [harr]; exact hspl) (by
      rw [splice_eq _ _ _ (by omega)]
      simp only [List.all_append, vcells_one e3 htup, Bool.and_true, Bool.and_eq_true]
      rw [List.all_eq_true] at ho
      exact ⟨List.all_eq_true.2 fun x hx => ho x (List.mem_of_mem_take hx), List.all_eq_true.2 fun x hx => ho x (List.mem_of_mem_drop hx)⟩)
    refine ⟨arr2, ?_, q2, q3⟩
    unfold Instr.fill
    rw [e2]
    simp only
    rw [if_neg (by simp; omega)]
    exact q1

/-! ### Maps -/
theorem Rel.newMap {w0 w w' : World} {φ : Phi} {H : AH} (R : Rel w0 φ H w) (h0 : φ.m H.nx = none) (hh : w'.heap = w.heap.push (.map #[] 0)) (ho : w'.os = w.os) (ht : w'.tape = w.tape) (hp : w'.output = w.output) :
    Rel w0 (φ.add H.nx ⟨w.heap.size, 0, 0, 0⟩) (H.alloc (.map [])) w' ∧ Grow φ H w (φ.add H.nx ⟨w.heap.size, 0, 0, 0⟩) (H.alloc (.map [])) w' := by
  have hle : φ.le (φ.add H.nx ⟨w.heap.size, 0, 0, 0⟩) := Phi.le_add h0
  have hsz : w0.heap.size ≤ w.heap.size := R.below.size
  have hget : ∀ k, k < w.heap.size → w'.heap[k]? = w.heap[k]? := fun k hk => by rw [hh, Array.getElem?_push, if_neg (by omega)]
  have old : ∀ b l, φ.n0 ≤ b → φ.m b = some l → (H.raw b).isSome = true → l.c < w.heap.size := by
    intro b l hb hl hs
    cases hg : H.raw b with
    | none => simp [hg] at hs
    | some blk =>
      cases blk with
      | cells z' c =>
        obtain ⟨_, _, _, a, e', h4, _⟩ := R.cells b l z' c hb hl hg
        exact (Array.getElem?_eq_some_iff.1 h4).1
      | map es =>
        obtain ⟨_, a, e', h4, _⟩ := R.maps b l es hb hl hg
        exact (Array.getElem?_eq_some_iff.1 h4).1
  refine ⟨?_, ?_⟩
  · refine ⟨R.n0, R.le1, by rw [AH.alloc_nx]; have := R.le2; exact Nat.le_succ_of_le this, R.c0, ?_, ?_, ?_, ?_, ?_, ?_⟩
    · refine ⟨ho.trans R.below.os, ht.trans R.below.tape, hp.trans R.below.output, ?_, fun k hk => ?_⟩
      · rw [hh, Array.size_push]; omega
      · rw [hget k (by omega)]; exact R.below.block k hk
    · intro b hb
      exact hle _ _ (R.oldm b hb)
    · intro b z' c hb hg
      have hb' : b < φ.n0 := hb
      rw [AH.raw_alloc, if_neg (by have := R.le2; omega)] at hg
      obtain ⟨e', fz, hw⟩ := R.oldc b z' c hb hg
      exact ⟨e', fz, by rw [hget b (by have := R.le1; have := R.c0; omega)]; exact hw⟩
    · intro b l z' c hb hl hg
      rw [AH.raw_alloc] at hg
      simp only [Phi.add] at hl
      by_cases hbn : b = H.nx
      · rw [if_pos hbn] at hg
        cases hg
      · rw [if_neg hbn] at hg hl
        obtain ⟨h1, h2, h3, a, e', h4, h5, h6⟩ := R.cells b l z' c hb hl hg
        exact ⟨h1, h2, h3, a, e', by rw [hget _ (Array.getElem?_eq_some_iff.1 h4).1]; exact h4, h5, h6.mono hle⟩
    · intro b l es hb hl hg
      rw [AH.raw_alloc] at hg
      simp only [Phi.add] at hl
      by_cases hbn : b = H.nx
      · rw [if_pos hbn] at hg hl
        cases hg
        cases hl
        exact ⟨by show φ.c0 ≤ w.heap.size; rw [R.c0]; exact hsz, #[], 0, by rw [hh]; simp, .nil⟩
      · rw [if_neg hbn] at hg hl
        obtain ⟨h1, a, e', h4, h5⟩ := R.maps b l es hb hl hg
        exact ⟨h1, a, e', by rw [hget _ (Array.getElem?_eq_some_iff.1 h4).1]; exact h4, h5.mono hle⟩
    · intro b1 b2 l1 l2 hb1 hb2 h1 h2 g1 g2 hc12
      rw [AH.raw_alloc] at g1 g2
      simp only [Phi.add] at h1 h2
      by_cases e1 : b1 = H.nx <;> by_cases e2 : b2 = H.nx
      · rw [e1, e2]
      · rw [if_pos e1] at h1
        rw [if_neg e2] at h2 g2
        cases h1
        have := old b2 l2 hb2 h2 g2
        simp at hc12
        omega
      · rw [if_neg e1] at h1 g1
        rw [if_pos e2] at h2
        cases h2
        have := old b1 l1 hb1 h1 g1
        simp at hc12
        omega
      · rw [if_neg e1] at h1 g1
        rw [if_neg e2] at h2 g2
        exact R.inj b1 b2 l1 l2 hb1 hb2 h1 h2 g1 g2 hc12
  · refine ⟨hle, rfl, rfl, by rw [AH.alloc_nx]; exact Nat.le_succ _, ?_, by rw [hh, Array.size_push]; exact Nat.le_succ _, ?_⟩
    · intro b l h k
      simp only [Phi.add] at k
      split at k
      · rename_i hb; subst hb; exact ⟨Nat.le_refl _, by rw [AH.alloc_nx]; exact Nat.lt_succ_self _⟩
      · rw [h] at k; cases k
    · intro c hc hf
      refine ⟨hget c hc, fun b l hl => ?_⟩
      simp only [Phi.add] at hl
      split at hl
      · cases hl
        show w.heap.size ≠ c
        omega
      · exact hf b l hl
theorem Rel.writeMap {w0 w w' : World} {φ : Phi} {H : AH} (R : Rel w0 φ H w) {b ck : Nat} {c c' : List (Value × Value)} {l : Loc} {es' : Array MapEntry} (hb : φ.n0 ≤ b) (hl : φ.m b = some l) (hg : H.get b = some (.map c))
    (hw : w'.heap[l.c]? = some (.map es' ck)) (hk : ∀ k, k ≠ l.c → w'.heap[k]? = w.heap[k]?) (hs : w'.heap.size = w.heap.size) (ho : w'.os = w.os) (ht : w'.tape = w.tape) (hp : w'.output = w.output)
    (hc : ML φ c' es'.toList) :
    Rel w0 φ (H.put b (some (.map c'))) w' ∧ Grow φ H w φ (H.put b (some (.map c'))) w' := by
  have hg := AH.raw_of hg
  obtain ⟨g1, a0, e0, g4, g5⟩ := R.maps b l c hb hl hg
  refine ⟨⟨R.n0, R.le1, R.le2, R.c0, ?_, R.oldm, ?_, ?_, ?_, ?_⟩, ?_⟩
  · refine ⟨ho.trans R.below.os, ht.trans R.below.tape, hp.trans R.below.output, by rw [hs]; exact R.below.size, fun k h => ?_⟩
    rw [hk k (by have := R.c0; omega)]
    exact R.below.block k h
  · intro x z' d hx hgx
    rw [AH.raw_put, if_neg (by omega)] at hgx
    obtain ⟨e', fz, hh⟩ := R.oldc x z' d hx hgx
    refine ⟨e', fz, ?_⟩
    rw [hk x (by have := R.le1; omega)]
    exact hh
  · intro x lx z' d hx hlx hgx
    rw [AH.raw_put] at hgx
    by_cases hxb : x = b
    · rw [if_pos hxb] at hgx; cases hgx
    · rw [if_neg hxb] at hgx
      obtain ⟨h1, h2, h3, a, e', h4, h5, h6⟩ := R.cells x lx z' d hx hlx hgx
      refine ⟨h1, h2, h3, a, e', ?_, h5, h6⟩
      rw [hk]
      · exact h4
      · intro hc
        exact hxb (R.inj x b lx l hx hb hlx hl (by simp [hgx]) (by simp [hg]) hc)
  · intro x lx es hx hlx hgx
    rw [AH.raw_put] at hgx
    by_cases hxb : x = b
    · subst hxb
      rw [if_pos rfl] at hgx
      cases hgx
      rw [hl] at hlx
      cases hlx
      exact ⟨g1, es', ck, hw, hc⟩
    · rw [if_neg hxb] at hgx
      obtain ⟨h1, a, e', h4, h5⟩ := R.maps x lx es hx hlx hgx
      refine ⟨h1, a, e', ?_, h5⟩
      rw [hk]
      · exact h4
      · intro hc
        exact hxb (R.inj x b lx l hx hb hlx hl (by simp [hgx]) (by simp [hg]) hc)
  · intro b1 b2 l1 l2 hb1 hb2 h1 h2 s1 s2 hc12
    have live : ∀ x, ((H.put b (some (.map c'))).raw x).isSome = true → (H.raw x).isSome = true := by
      intro x hx
      rw [AH.raw_put] at hx
      by_cases hxb : x = b
      · subst hxb; simp [hg]
      · rw [if_neg hxb] at hx; exact hx
    exact R.inj b1 b2 l1 l2 hb1 hb2 h1 h2 (live _ s1) (live _ s2) hc12
  · exact ⟨Phi.le_refl _, rfl, rfl, Nat.le_refl _, fun _ _ h k => (by rw [h] at k; cases k), by rw [hs]; exact Nat.le_refl _, fun c hc hf => ⟨hk c (fun e => hf b l hl e.symm), hf⟩⟩

theorem keyOk_flat {kk : Nat} {k : Value} (h : keyOk kk k = true) : flat k = true := by
  rcases kk with _ | _ | _ | kk <;> cases k <;> first | rfl | (simp [keyOk] at h)
theorem sameNow_eq {kk : Nat} {kt : TypeId} {d : TypeDesc} {k k' : Value} {b : Bool} (hd : P.underlying kt = some d) (hk : keyKind P kt = some kk) (ho : keyOk kk k = true) (h : veq? k k' = some b) : Instr.sameNow d k k' = some b ∧ keyOk kk k' = true ∧ (b = true → k = k') := by
  unfold keyKind at hk
  rw [hd] at hk
  cases d <;> simp at hk <;> subst hk
  case int =>
    cases k <;> simp [keyOk] at ho
    cases k' <;> simp [veq?] at h
    rename_i k1 a k2 c
    obtain ⟨rfl, rfl⟩ := h
    exact ⟨by simp [Instr.sameNow], rfl, by simp⟩
  case string =>
    cases k <;> simp [keyOk] at ho
    cases k' <;> simp [veq?] at h
    rename_i a c
    subst h
    refine ⟨?_, rfl, ?_⟩
    · simp [Instr.sameNow, beq_toListBytes, ByteArray.toList_eq]
    · intro hb
      simp at hb
      have : a = c := by
        obtain ⟨⟨a⟩⟩ := a
        obtain ⟨⟨c⟩⟩ := c
        simp at hb
        rw [hb]
      rw [this]
  case bool =>
    cases k <;> simp [keyOk] at ho
    cases k' <;> simp [veq?] at h
    subst h
    exact ⟨by simp [Instr.sameNow], rfl, by simp⟩
theorem ok_find {kk : Nat} {kt : TypeId} {d : TypeDesc} {k : Value} (hd : P.underlying kt = some d) (hk : keyKind P kt = some kk) (ho : keyOk kk k = true) :
    ∀ {es : List (Value × Value)} {l : List MapEntry} {r : Option Value} (i : Nat), ML φ es l → findA k es = some r →
      (r = none ∧ Instr.findNow d k l i = some none) ∨ ∃ v v' j e, r = some v ∧ Instr.findNow d k l i = some (some (i + j, v')) ∧ V φ v v' ∧ l[j]? = some e ∧ e.key = k
  | _, _, r, i, .nil, h => by simp [findA] at h; subst h; exact .inl ⟨rfl, rfl⟩
  | _, _, r, i, .cons (k := k') (v := v) (v' := v') (n := n) hv hl, h => by
    simp only [findA] at h
    cases he : veq? k k' with
    | none => simp [he] at h
    | some b =>
      obtain ⟨hs, hk', hb⟩ := sameNow_eq hd hk ho he
      cases b with
      | true =>
        simp [he] at h
        subst h
        refine .inr ⟨v, v', 0, _, rfl, ?_, hv, rfl, (hb rfl).symm⟩
        simp [Instr.findNow, hs]
      | false =>
        simp only [he] at h
        rcases ok_find hd hk ho (i + 1) hl h with ⟨hr, hf⟩ | ⟨v2, v2', j, e, hr, hf, hv2, hj, hek⟩
        · exact .inl ⟨hr, by simp [Instr.findNow, hs, hf]⟩
        · refine .inr ⟨v2, v2', j + 1, e, hr, ?_, hv2, by simpa using hj, hek⟩
          simp [Instr.findNow, hs, hf]
          omega
theorem ok_upd {kk : Nat} {kt : TypeId} {d : TypeDesc} {k u u' : Value} (hd : P.underlying kt = some d) (hk : keyKind P kt = some kk) (ho : keyOk kk k = true) (hu : V φ u u') :
    ∀ {es es2 : List (Value × Value)} {l : List MapEntry} (i : Nat), ML φ es l → updA k u es = some es2 →
      (Instr.findNow d k l i = some none ∧ ∀ n, ML φ es2 (l ++ [⟨k, u', n⟩])) ∨ ∃ v' j e, Instr.findNow d k l i = some (some (i + j, v')) ∧ l[j]? = some e ∧ e.key = k ∧ ML φ es2 (l.modify j fun e => { e with key := k, val := u' })
  | _, _, _, i, .nil, h => by
    simp [updA] at h
    subst h
    exact .inl ⟨rfl, fun n => .cons hu .nil⟩
  | _, _, _, i, .cons (k := k') (v := v) (v' := v') (n := n) (l := es) (l' := l) hv hl, h => by
    simp only [updA] at h
    cases he : veq? k k' with
    | none => simp [he] at h
    | some b =>
      obtain ⟨hs, hk', hb⟩ := sameNow_eq hd hk ho he
      cases b with
      | true =>
        simp [he] at h
        subst h
        refine .inr ⟨v', 0, _, ?_, rfl, (hb rfl).symm, ?_⟩
        · simp [Instr.findNow, hs]
        · simpa using ML.cons hu hl
      | false =>
        simp only [he] at h
        cases hq : updA k u es with
        | none => simp [hq] at h
        | some es3 =>
          simp [hq] at h
          subst h
          rcases ok_upd hd hk ho hu (i + 1) hl hq with ⟨hf, hm⟩ | ⟨v2', j, e, hf, hj, hek, hm⟩
          · exact .inl ⟨by simp [Instr.findNow, hs, hf], fun n => .cons hv (hm n)⟩
          · refine .inr ⟨v2', j + 1, e, ?_, by simpa using hj, hek, ?_⟩
            · simp [Instr.findNow, hs, hf]
              omega
            · simpa using ML.cons hv hm
theorem run_checkKey {kk : Nat} {kt : TypeId} {d : TypeDesc} (hd : P.underlying kt = some d) (hk : keyKind P kt = some kk) (b : Bool) (n : Nat) (k : Value) (w : World) : (Instr.checkKey b (n + 1) kt k).run P w = .ok () w := by
  unfold keyKind at hk
  rw [hd] at hk
  cases d <;> simp at hk <;> simp [Instr.checkKey, run_underlying hd]
theorem sameBits_refl {kk : Nat} {k : Value} (h : keyOk kk k = true) (n : Nat) : Instr.sameBits n k k = true := by
  rcases kk with _ | _ | _ | kk <;> cases k <;> simp [keyOk] at h <;> simp [Instr.sameBits, beq_toListBytes]
end
end Go.Proofs.YtoijnpfpjpefgaaGreat.A
