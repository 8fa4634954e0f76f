/- Each operation of the model does what the machine's operation says. -/
import Derived.Test.YtoijnpfpjpefgaaGreatAbs3
set_option linter.unusedVariables false
set_option linter.unusedSimpArgs false
namespace Go.Proofs.YtoijnpfpjpefgaaGreat.A
open Go Go.RowKit

def FrR (φ : Phi) (fr : Fr) (a : Act) : Prop := ∀ t, V φ (fr.get t) (a.tmps.getD t undef)
theorem FrR.mono {φ ψ : Phi} (h : φ.le ψ) {fr : Fr} {a : Act} (F : FrR φ fr a) : FrR ψ fr a := fun t => (F t).mono h
theorem undefV (φ : Phi) : V φ undef undef := .tuple .nil
theorem FrR.put {φ : Phi} {fr : Fr} {a : Act} (F : FrR φ fr a) {d : Nat} {v v' : Value} (hd : d < a.tmps.size) (h : V φ v v') : FrR φ (fr.put d v) (a.put (some d) v') := by
  intro t
  rw [Fr.get_put]
  simp only [Act.put]
  by_cases ht : t = d
  · subst ht; simp [hd, h]
  · rw [if_neg ht]
    have : (a.tmps.setIfInBounds d v').getD t undef = a.tmps.getD t undef := by
      simp [Array.getElem?_setIfInBounds_ne (Ne.symm ht)]
    rw [this]
    exact F t
theorem FrR.putO {φ : Phi} {fr : Fr} {a : Act} (F : FrR φ fr a) {d : Option Nat} {v v' : Value} (hd : ∀ n, d = some n → n < a.tmps.size) (h : V φ v v') : FrR φ (fr.putO d v) (a.put d v') := by
  cases d with
  | none => exact F
  | some n => exact F.put (hd n rfl) h

theorem cX_V {φ : Phi} {fr : Fr} {a : Act} (F : FrR φ fr a) {x : Operand} {y : X} (h : cX x = some y) : V φ (y.ev fr) (a.eval x) := by
  cases x with
  | tmp t => simp [cX] at h; subst h; exact F t
  | const v =>
    simp only [cX] at h
    split at h
    · rename_i hv; cases h; exact V.same2 hv
    · cases h
  | global g => simp [cX] at h
  | func f => simp [cX] at h; subst h; exact .fn .nil .nil
theorem cXs_VL {φ : Phi} {fr : Fr} {a : Act} (F : FrR φ fr a) : ∀ {l : List Operand} {ys : List X}, cXs l = some ys → VL φ (ys.map (X.ev fr)) (l.map a.eval)
  | [], ys, h => by simp [cXs] at h; subst h; exact .nil
  | x :: l, ys, h => by
    simp only [cXs] at h
    cases hx : cX x with
    | none => simp [hx] at h
    | some y =>
      cases hl : cXs l with
      | none => simp [hx, hl] at h
      | some m =>
        simp [hx, hl] at h
        subst h
        exact .cons (cX_V F hx) (cXs_VL F hl)

def NR (φ : Phi) : ARes → Next → Prop
  | .v x, nx => (∃ x', nx = .value x' ∧ V φ x x') ∨ (nx = .skip ∧ x = undef)
  | .enter f as, nx => ∃ as' : Array Value, nx = .enter f as' ∧ VL φ as as'.toList
def OpOk (w0 : World) (φ : Phi) (H : AH) (w : World) (res : ARes) (H' : AH) (r : Result Next) : Prop :=
  ∃ φ' w' nx, r = .ok nx w' ∧ Rel w0 φ' H' w' ∧ Grow φ H w φ' H' w' ∧ NR φ' res nx

section
variable {P : Program} {w0 w : World} {φ : Phi} {H : AH}
theorem OpOk.pure {x : Value} {x' : Value} {r : Result Next} (R : Rel w0 φ H w) (h : V φ x x') (hr : r = .ok (.value x') w) : OpOk w0 φ H w (.v x) H r :=
  ⟨φ, w, _, hr, R, Grow.refl _ _ _, .inl ⟨x', rfl, h⟩⟩

theorem run_tsize {t : TypeId} {n : Nat} (h : tsize P t = some n) (w : World) : (sizeOf t).run P w = .ok n w := by
  unfold tsize at h
  cases hi : P.info? t with
  | none => simp [hi] at h
  | some i => simp [hi] at h; subst h; simp [sizeOf, typeInfo, hi]
theorem run_tagg {t : TypeId} {b : Bool} (h : tagg P t = some b) (w : World) : (isAgg t).run P w = .ok b w := by
  unfold tagg at h
  cases hu : P.underlying t with
  | none => simp [hu] at h
  | some d =>
    cases d <;> simp [hu] at h <;> subst h <;> simp [isAgg, run_underlying hu]
theorem run_tzero {t : TypeId} {l : List Value} (h : tzero P t = some l) : ∃ i z, P.info? t = some i ∧ i.zero = some z ∧ z.cells.toList = l ∧ l.all flat = true ∧ l.length = i.size := by
  unfold tzero at h
  cases hi : P.info? t with
  | none => simp [hi] at h
  | some i =>
    rw [hi, Option.bind_some] at h
    cases hz : i.zero with
    | none => rw [hz] at h; cases h
    | some z =>
      rw [hz, Option.bind_some] at h
      dsimp only at h
      split at h
      · rename_i hc
        cases h
        simp at hc
        refine ⟨i, z, rfl, hz, rfl, ?_, by simpa using hc.2⟩
        simpa using hc.1
      · cases h

theorem CR_of_VL {φ : Phi} {cs : List Value} {arr : Array Value} (h : VL φ cs arr.toList) (o : cs.all one = true) : CR φ 0 cs arr := by
  intro j v hj
  obtain ⟨v', e, hv⟩ := h.get j v hj
  refine ⟨List.all_eq_true.1 o v (List.mem_of_getElem? hj), v', ?_, hv⟩
  simpa using e

theorem ok_move {fr : Fr} {a : Act} (F : FrR φ fr a) (R : Rel w0 φ H w) {x : Operand} {y : X} (h : cX x = some y) {res : ARes} {H' : AH} (hr : aop (.mv y) (X.ev fr) H = some (res, H')) {r : Result Next} (e : r = .ok (.value (a.eval x)) w) : OpOk w0 φ H w res H' r := by
  simp only [aop] at hr
  cases hr
  exact .pure R (cX_V F h) e

theorem ok_alloc {t : TypeId} {z : List Value} (hz : tzero P t = some z) (R : Rel w0 φ H w) (h0 : φ.m H.nx = none) : 
    ∃ i v, P.info? t = some i ∧ i.zero = some v ∧ OpOk w0 φ H w (.v (.pointer (some ⟨H.nx, 0, none⟩))) (H.alloc (.cells z.length z)) (.ok (.value (.pointer (some ⟨w.heap.size, 0, none⟩))) { w with heap := w.heap.push (.cells v.cells t) }) := by
  obtain ⟨i, v, hi, hv, hc, hf, hl⟩ := run_tzero hz
  refine ⟨i, v, hi, hv, ?_⟩
  have e : CR φ 0 z v.cells := CR_of_VL (by rw [hc]; exact VL.same hf) (all_flat_one hf)
  obtain ⟨R', G⟩ := R.new h0 (w' := { w with heap := w.heap.push (.cells v.cells t) }) (z := z.length) (cs := z) (arr := v.cells) (e := t) rfl rfl rfl rfl (by rw [← hc]; simp) e
  refine ⟨_, _, _, rfl, R', G, .inl ⟨_, rfl, ?_⟩⟩
  exact .ptr (l := ⟨w.heap.size, 0, v.cells.size, z.length⟩) (by simp [Phi.add])

theorem ok_box {v v' : Value} (R : Rel w0 φ H w) (h0 : φ.m H.nx = none) (h : V φ v v') (ht : isTup v = false) (t : TypeId) :
    OpOk w0 φ H w (.v (.pointer (some ⟨H.nx, 0, none⟩))) (H.alloc (.cells (vcells v).length (vcells v))) (.ok (.value (.pointer (some ⟨w.heap.size, 0, none⟩))) { w with heap := w.heap.push (.cells v'.cells t) }) := by
  obtain ⟨R', G⟩ := R.new h0 (w' := { w with heap := w.heap.push (.cells v'.cells t) }) (z := (vcells v).length) (cs := vcells v) (arr := v'.cells) (e := t) rfl rfl rfl rfl (by rw [h.cells.length]; simp) (CR_of_VL h.cells (vcells_one h ht))
  refine ⟨_, _, _, rfl, R', G, .inl ⟨_, rfl, ?_⟩⟩
  exact .ptr (l := ⟨w.heap.size, 0, v'.cells.size, (vcells v).length⟩) (by simp [Phi.add])

theorem ok_ld {a : Addr} {v x' : Value} (R : Rel w0 φ H w) (hx : V φ (.pointer (some a)) x') (h : H.ld a = some v) :
    ∃ a' v', x' = .pointer (some a') ∧ w.cell? a' = some v' ∧ V φ v v' := by
  obtain ⟨l, hs, hl, rfl⟩ := V.ptr1 hx
  obtain ⟨_, _, v', h1, h2⟩ := R.ld h hl
  exact ⟨_, v', rfl, h1, h2⟩
theorem ok_ldn {a : Addr} {n : Nat} {vs : List Value} {x' : Value} (R : Rel w0 φ H w) (hx : V φ (.pointer (some a)) x') (h : H.ldn a n = some vs) :
    ∃ a' vs', x' = .pointer (some a') ∧ vs'.length = n ∧ vs.all one = true ∧ VL φ vs vs' ∧ ∀ j v', vs'[j]? = some v' → w.cell? (a'.add j) = some v' := by
  obtain ⟨l, hs, hl, rfl⟩ := V.ptr1 hx
  obtain ⟨_, h1, h2, vs', h3, h4, h5⟩ := R.ldn h hl
  exact ⟨_, vs', rfl, h3, h1, h4, h5⟩

theorem splice_eq : ∀ (c : List Value) (k : Nat) (vs : List Value), k + vs.length ≤ c.length → splice c k vs = c.take k ++ vs ++ c.drop (k + vs.length)
  | c, 0, vs, h => by cases c <;> simp [splice]
  | [], k + 1, vs, h => by simp at h
  | x :: c, k + 1, vs, h => by
    simp only [splice, List.take_succ_cons, List.cons_append]
    rw [splice_eq c k vs (by simp at h; omega), show k + 1 + vs.length = (k + vs.length) + 1 by omega, List.drop_succ_cons]
theorem splice_length {c : List Value} {k : Nat} {vs : List Value} (h : k + vs.length ≤ c.length) : (splice c k vs).length = c.length := by
  rw [splice_eq c k vs h]; simp; omega
/-- What a store leaves, cell by cell. -/
theorem CR_splice {s o : Nat} {c vs vs' : List Value} {arr : Array Value} (h : CR φ s c arr) (hs : s + c.length ≤ arr.size) (hv : VL φ vs vs') (ho : vs.all one = true) (hn : o + vs.length ≤ c.length) :
    CR φ s (splice c o vs) (arr.toList.take (s + o) ++ vs' ++ arr.toList.drop (s + o + vs'.length)).toArray := by
  have hl := hv.length
  intro j v hj
  rw [splice_eq c o vs hn] at hj
  by_cases h1 : j < o
  · have : c[j]? = some v := by
      rw [List.append_assoc, List.getElem?_append_left (by simp; omega)] at hj
      rw [List.getElem?_take, if_pos h1] at hj
      exact hj
    obtain ⟨o1, v', e, hv'⟩ := h j v this
    refine ⟨o1, v', ?_, hv'⟩
    rw [List.getElem?_toArray, List.append_assoc, List.getElem?_append_left (by simp; omega), List.getElem?_take, if_pos (by omega)]
    simpa using e
  · by_cases h2 : j < o + vs.length
    · have : vs[j - o]? = some v := by
        rw [List.append_assoc, List.getElem?_append_right (by simp; omega)] at hj
        rw [List.getElem?_append_left (by simp; omega)] at hj
        rw [← hj]
        congr 1
        simp
        omega
      obtain ⟨v', e, hv'⟩ := hv.get _ v this
      refine ⟨List.all_eq_true.1 ho v (List.mem_of_getElem? this), v', ?_, hv'⟩
      rw [List.getElem?_toArray, List.append_assoc, List.getElem?_append_right (by simp; omega), List.getElem?_append_left (by simp; omega), ← e]
      congr 1
      simp
      omega
    · have : c[j]? = some v := by
        rw [List.getElem?_append_right (by simp; omega)] at hj
        rw [List.getElem?_drop] at hj
        rw [← hj]
        congr 1
        simp
        omega
      obtain ⟨o1, v', e, hv'⟩ := h j v this
      refine ⟨o1, v', ?_, hv'⟩
      rw [List.getElem?_toArray, List.getElem?_append_right (by simp; omega), List.getElem?_drop]
      have : arr.toList[s + j]? = some v' := by simpa using e
      rw [← this]
      congr 1
      simp
      omega

theorem ok_st {a : Addr} {vs vs' : List Value} {x' : Value} {H' : AH} (R : Rel w0 φ H w) (hx : V φ (.pointer (some a)) x') (h : H.st a vs = some H') (hv : VL φ vs vs') (ho : vs.all one = true) :
    ∃ a' w', x' = .pointer (some a') ∧ (storeCells a' vs').run P w = .ok () w' ∧ Rel w0 φ H' w' ∧ Grow φ H w φ H' w' := by
  obtain ⟨l, hs, hl, rfl⟩ := V.ptr1 hx
  obtain ⟨b, o, s⟩ := a
  dsimp only at hs hl ⊢
  subst hs
  unfold AH.st at h
  dsimp only at h
  cases hb : H.get b with
  | none => simp [hb] at h
  | some blk =>
    cases blk with
    | map es => simp [hb] at h
    | cells z c =>
      simp only [hb, R.n0] at h
      cases hc : (decide (φ.n0 ≤ b) && decide (o + vs.length ≤ c.length)) with
      | false => simp [hc] at h
      | true =>
        simp only [hc, cond_true, Option.some.injEq] at h
        subst h
        simp at hc
        obtain ⟨g1, g2, g3, arr, e, g4, g5, g6⟩ := R.cells b l z c hc.1 hl (AH.raw_of hb)
        have hlen := hv.length
        have hst := run_storeCells_at P l.c (o + l.s) e vs' 0 arr w g4 (by rw [← hlen]; omega) (hv.one ho)
        simp only [Nat.add_zero] at hst
        refine ⟨_, _, rfl, hst, ?_⟩
        refine R.write hc.1 hl hb (arr' := (arr.toList.take (o + l.s) ++ vs' ++ arr.toList.drop (o + l.s + vs'.length)).toArray) (e := e) (setRow_heap w l.c arr _ e (0, 0) g4) (fun k hk => setRow_other w l.c k _ hk) (setRow_size _ _ _) rfl rfl rfl ?_ ?_ ?_
        · simp; omega
        · rw [splice_length hc.2]; exact g3
        · have := CR_splice g6 (by omega) hv ho hc.2
          rwa [Nat.add_comm l.s o] at this
end
end Go.Proofs.YtoijnpfpjpefgaaGreat.A
