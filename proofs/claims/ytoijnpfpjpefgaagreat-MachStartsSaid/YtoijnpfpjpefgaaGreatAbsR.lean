/- What the arguments hold, read out of the memory of before. -/
import Derived.Test.YtoijnpfpjpefgaaGreatAbsQ
import Derived.SizedLaws
import Derived.OpenShut
import Derived.ProofKit
import Derived.ChangeOld
import Derived.ShutString
set_option linter.unusedVariables false
set_option linter.unusedSimpArgs false
namespace Go.Proofs.YtoijnpfpjpefgaaGreat.A
open Go Go.RowKit Go.WideShapes Go.ChangeShapes
section
variable {T : Type} {enc : TypeId × Value → T} {P : Program} {W : World}
def Rd (enc : TypeId × Value → T) (P : Program) (W : World) (n : Nat) (t : TypeId) (cs : List Value) (d : DataW T) : Prop := ∃ ps, DataW.trod enc P W 0 (fun _ => true) true n t cs = some (d, ps)
def Wt' (P : Program) (t : TypeId) (d : DataW T) : Prop := ∀ n ∈ d.weights P t, n ≤ reachBytes
theorem rd_int {n : Nat} {t : TypeId} {k : IntKind} {cs : List Value} {d : DataW T} (ht : P.underlying t = some (.int k)) (h : Rd enc P W n t cs d) : ∃ m, cs = [.int k m] ∧ (Lit.int k m).wf = true := by
  obtain ⟨ps, h⟩ := h
  obtain ⟨m, h1, _, h2⟩ := DataW.trod_int ht h
  exact ⟨m, h1, h2⟩
theorem rd_bool {n : Nat} {t : TypeId} {cs : List Value} {d : DataW T} (ht : P.underlying t = some .bool) (h : Rd enc P W n t cs d) : ∃ m, cs = [.bool m] := by
  obtain ⟨ps, h⟩ := h
  obtain ⟨m, h1, _⟩ := DataW.trod_bool ht h
  exact ⟨m, h1⟩
theorem wf_i64 {m : Int} (h : (Lit.int .i64 m).wf = true) : I64 m := by
  have := bounds_i64 h
  unfold I64; omega
theorem rd_str {n : Nat} {t : TypeId} {cs : List Value} {d : DataW T} (ht : P.underlying t = some .string) (h : Rd enc P W n t cs d) (hw : Wt' P t d) : ∃ s : ByteArray, cs = [.string s] ∧ s.size ≤ reachBytes := by
  obtain ⟨ps, h⟩ := h
  obtain ⟨s, h1, h2, _⟩ := DataW.trod_string ht h
  cases h2
  have := hw s.data.toList.length (by simp [DataW.weights])
  exact ⟨s, h1, by simpa using this⟩
theorem cleanL_one {n0 : Nat} {v x : Value} (h : cleanOld n0 v = some x) : cleanL n0 [v] = some [x] := by simp [cleanL, h]
theorem cell_at {b o : Nat} {v : Value} (h : W.cell? ⟨b, o, none⟩ = some v) : ∃ arr ty fz, W.heap[b]? = some (.cells arr ty fz) ∧ arr[o]? = some v := by
  unfold World.cell? at h
  dsimp only at h
  split at h
  · rename_i c e f hc
    simp at h
    exact ⟨c, e, f, hc, h⟩
  · cases h
theorem ldn_old {b o n : Nat} {cs l : List Value} (hn : 0 < n) (hl : cs.length = n) (h : ∀ j, j < n → W.cell? ⟨b, o + j, none⟩ = cs[j]?) (hc : cleanL W.heap.size cs = some l) : b < W.heap.size ∧ (H0 W).ldn ⟨b, o, none⟩ n = some l := by
  obtain ⟨arr, ty, fz, hb, h0⟩ := cell_at (b := b) (o := o) (v := cs[0]'(by omega)) (by have := h 0 hn; rw [Nat.add_zero] at this; rw [this]; exact List.getElem?_eq_getElem (by omega))
  have hlt := (Array.getElem?_eq_some_iff.1 hb).1
  refine ⟨hlt, ?_⟩
  have hj : ∀ j, j < n → arr[o + j]? = cs[j]? := by
    intro j hj
    have := h j hj
    obtain ⟨arr', _, _, hb', h'⟩ := cell_at (v := cs[j]'(by omega)) (by rw [this]; exact List.getElem?_eq_getElem (by omega))
    rw [hb] at hb'
    cases hb'
    rw [h', List.getElem?_eq_getElem (by omega)]
  have hlen : o + n ≤ arr.toList.length := by
    have := hj (n - 1) (by omega)
    rw [List.getElem?_eq_getElem (by omega)] at this
    have := (Array.getElem?_eq_some_iff.1 this).1
    rw [Array.length_toList]
    omega
  have htake : (arr.toList.drop o).take n = cs := by
    apply List.ext_getElem?
    intro j
    by_cases hj' : j < n
    · rw [List.getElem?_take, if_pos hj', List.getElem?_drop, Array.getElem?_toList, hj j hj']
    · rw [List.getElem?_take, if_neg hj', List.getElem?_eq_none (by omega)]
  have hg : (H0 W).get b = some (.cells 1048576 arr.toList) := by
    rw [AH.get_of hlt, H0_raw]
    unfold memOf
    rw [hb]
  unfold AH.ldn
  dsimp only
  rw [hg]
  simp only [hlen, decide_true, cond_true, htake]
  rw [show decide (b < (H0 W).n0) = true from decide_eq_true hlt, cond_true]
  exact hc
inductive All2 {α β : Type} (C : α → β → Prop) : List α → List β → Prop where
  | nil : All2 C [] []
  | cons {a : α} {b : β} {l : List α} {m : List β} : C a b → All2 C l m → All2 C (a :: l) (b :: m)
theorem All2.length {α β : Type} {C : α → β → Prop} : ∀ {l : List α} {m : List β}, All2 C l m → l.length = m.length
  | _, _, .nil => rfl
  | _, _, .cons _ h => by simp [All2.length h]
theorem all2_of {α β : Type} {C : α → β → Prop} {l : List α} : (∀ (i : Nat) (a : α), l[i]? = some a → ∃ b, C a b) → ∃ m, All2 C l m := by
  induction l with
  | nil => exact fun _ => ⟨[], .nil⟩
  | cons a l ih =>
    intro h
    obtain ⟨b, hb⟩ := h 0 a rfl
    obtain ⟨m, hm⟩ := ih fun i x hx => h (i + 1) x (by simpa using hx)
    exact ⟨b :: m, .cons hb hm⟩
theorem list_of {α : Type} {p : Nat → α → Prop} : ∀ n, (∀ i, i < n → ∃ x, p i x) → ∃ l : List α, l.length = n ∧ ∀ i x, l[i]? = some x → p i x
  | 0, _ => ⟨[], rfl, by simp⟩
  | n + 1, h => by
    obtain ⟨l, hl, hp⟩ := list_of n fun i hi => h i (by omega)
    obtain ⟨x, hx⟩ := h n (by omega)
    refine ⟨l ++ [x], by simp [hl], fun i y hy => ?_⟩
    by_cases hi : i < n
    · rw [List.getElem?_append_left (by omega)] at hy; exact hp i y hy
    · rw [List.getElem?_append_right (by omega)] at hy
      have : i = n := by
        have := (List.getElem?_eq_some_iff.1 hy).1
        simp at this; omega
      subst this
      simp [hl] at hy
      subst hy; exact hx
/-- A slice, its elements by a reader. -/
theorem rd_rows {α : Type} {C : List Value → α → Prop} {t e : TypeId} {fuel : Nat} {cs : List Value} {d : DataW T} (ht : P.underlying t = some (.slice e)) (hce : 0 < P.cellsOf e) (hbe : 0 < P.bytesOf e)
    (h : Rd enc P W fuel t cs d) (hw : Wt' P t d) (rd : ∀ m cs' d', m < fuel → Rd enc P W m e cs' d' → Wt' P e d' → ∃ l y, cleanL W.heap.size cs' = some l ∧ C l y) :
    ∃ v rows ys, cleanL W.heap.size cs = some [v] ∧ Rows (H0 W) (P.cellsOf e) v rows ∧ All2 C rows ys ∧ rows.length * P.bytesOf e ≤ reachBytes := by
  obtain ⟨ps, h⟩ := h
  rcases DataW.trod_slice ht h with ⟨rfl, _⟩ | ⟨a, len, cap, elems, rest, n, hf, rfl, hx, _, hlc, _, hlen, hel, _, _⟩
  · exact ⟨_, [], [], rfl, ⟨_, _, rfl, by simp⟩, .nil, by simp⟩
  cases hx
  have hwt : ∀ m ∈ ((elems.map (·.1)).length + (rest.map (·.1)).length) * P.bytesOf e :: (DataW.weightsAll P e (elems.map (·.1)) ++ DataW.weightsAll P e (rest.map (·.1))), m ≤ reachBytes := by
    intro m hm
    refine hw m ?_
    simp only [DataW.weights, ht]
    exact hm
  have hbytes : len * P.bytesOf e ≤ reachBytes := by
    have := hwt _ (List.mem_cons_self ..)
    rw [List.length_map, hlen] at this
    exact Nat.le_trans (Nat.mul_le_mul_right _ (by omega)) this
  have hall : ∀ (l : List (DataW T)) (x : DataW T), x ∈ l → ∀ m ∈ x.weights P e, m ∈ DataW.weightsAll P e l := by
    intro l
    induction l with
    | nil => intro x hx; cases hx
    | cons y l ih =>
      intro x hx m hm
      simp only [DataW.weightsAll, List.mem_append]
      rcases List.mem_cons.1 hx with rfl | hx
      · exact .inl hm
      · exact .inr (ih x hx m hm)
  by_cases h0 : len = 0
  · subst h0
    cases hs : (decide (a.block < W.heap.size) && a.spot.isNone) with
    | true => exact ⟨.slice (some a) 0 cap, [], [], by simp only [cleanL, cleanOld, hs, cond_true], ⟨_, _, rfl, by simp⟩, .nil, by simp⟩
    | false => exact ⟨.slice (some ⟨0, 0, some 1⟩) 0 0, [], [], by simp [cleanL, cleanOld, hs], ⟨_, _, rfl, by simp⟩, .nil, by simp⟩
  obtain ⟨b, o, spot⟩ := a
  have key : ∀ i, i < len → ∃ cs' d', (∃ m, m < fuel ∧ Rd enc P W m e cs' d') ∧ Wt' P e d' ∧ W.cells? 0 ((⟨b, o, spot⟩ : Addr).add (i * P.cellsOf e)) (P.cellsOf e) = some cs' := by
    intro i hi
    have := hel i hi
    rw [List.getElem?_eq_getElem (by omega)] at this
    obtain ⟨cs', h1, h2⟩ := Option.bind_eq_some_iff.1 this
    refine ⟨cs', (elems[i]'(by omega)).1, ⟨n, by omega, ⟨_, h2⟩⟩, fun m hm => ?_, h1⟩
    refine hwt m (List.mem_cons_of_mem _ (List.mem_append_left _ (hall _ _ ?_ m hm)))
    exact List.mem_map_of_mem (List.getElem_mem _)
  have hspot : spot = none ∧ b < W.heap.size := by
    obtain ⟨cs', d', _, _, hc⟩ := key 0 (by omega)
    obtain ⟨_, hl, hj⟩ := World.cells?_some hc
    have := hj 0 hce
    rw [List.getElem?_eq_getElem (by omega)] at this
    simp only [Nat.zero_mul, Addr.add, if_true] at this
    unfold World.cell? at this
    dsimp only at this
    split at this
    · rename_i c ty fz hcc
      cases spot with
      | none => exact ⟨rfl, (Array.getElem?_eq_some_iff.1 hcc).1⟩
      | some x => simp at this
    · cases this
  obtain ⟨rfl, hb⟩ := hspot
  have hadd : ∀ o k, (⟨b, o, none⟩ : Addr).add k = ⟨b, o + k, none⟩ := by
    intro o k
    unfold Addr.add
    split
    · rename_i hk; subst hk; rfl
    · rfl
  obtain ⟨rows, hrl, hrows⟩ := list_of (p := fun i (r : List Value) => (∃ y, C r y) ∧ (H0 W).ldn ⟨b, o + i * P.cellsOf e, none⟩ (P.cellsOf e) = some r) len (fun i hi => by
    obtain ⟨cs', d', ⟨m, hm, hr⟩, hwd, hc⟩ := key i hi
    obtain ⟨l, y, h1, h2⟩ := rd m cs' d' hm hr hwd
    obtain ⟨_, hl, hj⟩ := World.cells?_some hc
    refine ⟨l, ⟨y, h2⟩, (ldn_old hce hl (fun j hjj => ?_) h1).2⟩
    have := hj j hjj
    rw [hadd, hadd] at this
    exact this)
  obtain ⟨ys, hys⟩ := all2_of (l := rows) (C := C) fun i r hr => (hrows i r hr).1
  refine ⟨.slice (some ⟨b, o, none⟩) len cap, rows, ys, ?_, ⟨_, _, by rw [hrl], fun i r hi => ⟨b, o, rfl, (hrows i r hi).2⟩⟩, hys, by rw [hrl]; exact hbytes⟩
  simp [cleanL, cleanOld, hb]
theorem rd_struct {t : TypeId} {fs : Array Field} {fuel : Nat} {cs : List Value} {d : DataW T} (ht : P.underlying t = some (.struct fs)) (h : Rd enc P W fuel t cs d) (hw : Wt' P t d) :
    cs.length = P.cellsOf t ∧ ∃ m, m < fuel ∧ ∀ (i : Nat) (f : Field), fs[i]? = some f → ∃ di, Rd enc P W m f.type ((cs.drop f.offset).take (P.cellsOf f.type)) di ∧ Wt' P f.type di := by
  obtain ⟨ps, h⟩ := h
  obtain ⟨xs, n, hf, hx, hl, hxs, hfs⟩ := DataW.trod_struct ht h
  cases hx
  refine ⟨hl, n, by omega, fun i f hi => ?_⟩
  have hlt := (Array.getElem?_eq_some_iff.1 hi).1
  have := hfs i f hi
  rw [List.getElem?_eq_getElem (by omega)] at this
  refine ⟨_, ⟨_, this⟩, fun m hm => hw m ?_⟩
  simp only [DataW.weights, ht]
  exact DataW.weights_mem_each (j := i) (t := f.type) (d := (xs[i]'(by omega)).1) (by simp [hi]) (by simp [List.getElem?_eq_getElem (show i < xs.length by omega)]) m hm
theorem cleanL_int {n0 : Nat} {k : IntKind} {m : Int} {cs l : List Value} (h : cleanL n0 cs = some l) : cleanL n0 (.int k m :: cs) = some (.int k m :: l) := by simp [cleanL, cleanOld, flat, h]
theorem cleanL_str {n0 : Nat} {s : ByteArray} {cs l : List Value} (h : cleanL n0 cs = some l) : cleanL n0 (.string s :: cs) = some (.string s :: l) := by simp [cleanL, cleanOld, flat, h]
theorem cleanL_cons {n0 : Nat} {c v : Value} {cs l : List Value} (h1 : cleanL n0 [c] = some [v]) (h : cleanL n0 cs = some l) : cleanL n0 (c :: cs) = some (v :: l) := by
  simp only [cleanL] at h1 ⊢
  split at h1
  · rename_i x m h2 h3
    simp only [Option.some.injEq] at h3
    subst h3
    simp only [Option.some.injEq, List.cons.injEq, and_true] at h1
    subst h1
    simp [h2, h]
  · cases h1
theorem agg_old {c : Array Value} {l : List Value} (h : cleanL W.heap.size c.toList = some l) : V (phi0 W) (.agg l.toArray) (.agg c) := by
  obtain ⟨h1, h2⟩ := cleanL_V (rel0 W) (l := c.toList) (m := l) h
  exact .agg (by simpa using h1) (by simpa using h2)
end
end Go.Proofs.YtoijnpfpjpefgaaGreat.A
