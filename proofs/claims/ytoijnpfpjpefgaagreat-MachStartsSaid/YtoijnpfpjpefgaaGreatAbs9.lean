/- The model's operation follows the machine's: all kinds. -/
import Derived.Test.YtoijnpfpjpefgaaGreatAbs8
set_option linter.unusedVariables false
set_option linter.unusedSimpArgs false
namespace Go.Proofs.YtoijnpfpjpefgaaGreat.A
open Go Go.RowKit
section
variable {P : Program} {w0 w : World} {φ : Phi} {H : AH}

def HasF (P : Program) (f : Nat) : Prop := ∃ fn, P.funcs[f]? = some fn ∧ fn.body.isNone = false ∧ (fn.name == "runtime.NumGoroutine") = false
theorem run_callFunc {f : Nat} (h : HasF P f) (as : Array Value) (w : World) : (callFunc f as).run P w = .ok (.enter f as) w := by
  obtain ⟨fn, h1, h2, h3⟩ := h
  have h3' : ¬ fn.name = "runtime.NumGoroutine" := by simpa using h3
  have h2' : fn.body ≠ none := by intro e; rw [e] at h2; cases h2
  simp [callFunc, h1, h2', h3']
theorem OpOk.enter {f : Nat} {as : List Value} {as' : Array Value} {r : Result Next} (R : Rel w0 φ H w) (h : VL φ as as'.toList) (hr : r = .ok (.enter f as') w) : OpOk w0 φ H w (.enter f as) H r :=
  ⟨φ, w, _, hr, R, Grow.refl _ _ _, as', rfl, h⟩
theorem cXo_VO {φ : Phi} {fr : Fr} {a : Act} (F : FrR φ fr a) {x : Option Operand} {y : Option X} (h : cXo x = some y) : VO φ (y.map (X.ev fr)) (x.map a.eval) := by
  cases x with
  | none => simp [cXo] at h; subst h; exact .none
  | some x =>
    simp only [cXo] at h
    cases hx : cX x with
    | none => simp [hx] at h
    | some z => simp [hx] at h; subst h; exact .some (cX_V F hx)

theorem ok_mx : ∀ {l l' : List Value} {v v' r : Value}, VL φ l l' → V φ v v' → mxA v l = some r → ∃ r', (l'.foldlM Builtin.max2 v').run P w = .ok r' w ∧ V φ r r'
  | _, _, v, v', r, .nil, hv, h => by
    simp [mxA] at h
    subst h
    exact ⟨v', by simp, hv⟩
  | _, _, v, v', r, .cons (v := u) a b, hv, h => by
    cases v <;> cases u <;> simp [mxA] at h
    rw [hv.int, a.int]
    obtain ⟨r', h1, h2⟩ := ok_mx b (.same rfl) h
    refine ⟨r', ?_, h2⟩
    simpa [Builtin.max2] using h1
theorem ok_mn : ∀ {l l' : List Value} {v v' r : Value}, VL φ l l' → V φ v v' → mnA v l = some r → ∃ r', (l'.foldlM Builtin.min2 v').run P w = .ok r' w ∧ V φ r r'
  | _, _, v, v', r, .nil, hv, h => by
    simp [mnA] at h
    subst h
    exact ⟨v', by simp, hv⟩
  | _, _, v, v', r, .cons (v := u) a b, hv, h => by
    cases v <;> cases u <;> simp [mnA] at h
    rw [hv.int, a.int]
    obtain ⟨r', h1, h2⟩ := ok_mn b (.same rfl) h
    refine ⟨r', ?_, h2⟩
    simpa [Builtin.min2] using h1

theorem veq?_V {a b a' b' : Value} {r : Bool} (h : veq? a b = some r) (ha : V φ a a') (hb : V φ b b') : a' = a ∧ b' = b := by
  unfold veq? at h
  split at h
  · exact ⟨ha.int, hb.int⟩
  · exact ⟨ha.string, hb.string⟩
  · exact ⟨ha.bool, hb.bool⟩
  · cases h
theorem run_eq1 {ft : TypeId} {kk : Nat} (hk : keyKind P ft = some kk) {x y : Value} {r : Bool} (ho : keyOk kk x = true) (h : veq? x y = some r) (d : Nat) (w : World) {cs ds : Array Value} {o : Nat} (hx : cs[o]? = some x) (hy : ds[o]? = some y) :
    (part ft cs o).run P w = .ok x w ∧ (part ft ds o).run P w = .ok y w ∧ (Op.equalIn (d + 1) ft x y).run P w = .ok r w := by
  unfold keyKind at hk
  cases hu : P.underlying ft with
  | none => simp [hu] at hk
  | some ty =>
    cases ty <;> simp [hu] at hk <;> subst hk
    case int q =>
      cases x <;> simp [keyOk] at ho
      cases y <;> simp [veq?] at h
      rename_i k a k' b
      obtain ⟨rfl, rfl⟩ := h
      refine ⟨?_, ?_, run_equalIn_int w d ft k q a b hu⟩ <;> simp [part, isAgg, run_underlying hu, hx, hy]
    case string =>
      cases x <;> simp [keyOk] at ho
      cases y <;> simp [veq?] at h
      rename_i a b
      subst h
      refine ⟨?_, ?_, ?_⟩
      · simp [part, isAgg, run_underlying hu, hx]
      · simp [part, isAgg, run_underlying hu, hy]
      · rw [run_equalIn_string w d ft a b hu]; simp [ByteArray.toList_eq]
    case bool =>
      cases x <;> simp [keyOk] at ho
      cases y <;> simp [veq?] at h
      rename_i a b
      subst h
      refine ⟨?_, ?_, run_equalIn_bool' w d ft a b hu⟩ <;> simp [part, isAgg, run_underlying hu, hx, hy]
theorem ok_eqFields {cs ds cs' ds' : Array Value} (hc : VL φ cs.toList cs'.toList) (hd : VL φ ds.toList ds'.toList) (d : Nat) (w : World) : ∀ (fs : List Field) (b : Bool), (fs.all fun f => f.name != "_" && (keyKind P f.type).isSome) = true →
    eqCells cs.toList ds.toList (fs.map fun f => (f.offset, (keyKind P f.type).getD 9)) = some b → (Op.eqFields (d + 1) cs' ds' fs).run P w = .ok b w
  | [], b, _, h => by simp [eqCells] at h; subst h; simp [Op.eqFields]
  | f :: fs, b, hf, h => by
    simp only [List.all_cons, Bool.and_eq_true] at hf
    obtain ⟨⟨hname, hkind⟩, hrest⟩ := hf
    cases hk : keyKind P f.type with
    | none => simp [hk] at hkind
    | some kk =>
      simp only [List.map_cons, hk, Option.getD_some, eqCells] at h
      cases hx : cs.toList[f.offset]? with
      | none => simp [hx] at h
      | some x =>
        cases hy : ds.toList[f.offset]? with
        | none => simp [hx, hy] at h
        | some y =>
          simp only [hx, hy] at h
          obtain ⟨ho, h⟩ := bif_some h
          cases he : veq? x y with
          | none => simp [he] at h
          | some r =>
            obtain ⟨x', hx1, hx2⟩ := hc.get _ _ hx
            obtain ⟨y', hy1, hy2⟩ := hd.get _ _ hy
            obtain ⟨rfl, rfl⟩ := veq?_V he hx2 hy2
            obtain ⟨p1, p2, p3⟩ := run_eq1 (P := P) hk ho he d w (cs := cs') (ds := ds') (o := f.offset) (by simpa using hx1) (by simpa using hy1)
            have hname' : f.name ≠ "_" := by simpa using hname
            simp only [Op.eqFields, if_pos hname', Sem.run_bind, p1, p2, p3, Result.andThen_ok]
            cases r with
            | true =>
              simp only [he] at h
              simpa using ok_eqFields hc hd d w fs b hrest h
            | false =>
              simp only [he] at h
              cases h
              simp
theorem ok_eqs {neg : Bool} {cs ds : Array Value} {x' y' : Value} {b : Bool} {t : TypeId} {fs : Array Field} (R : Rel w0 φ H w) (hu : P.underlying t = some (.struct fs)) (hf : (fs.toList.all fun f => f.name != "_" && (keyKind P f.type).isSome) = true) (hs : P.stoodInHeld t = false) (hg : P.eqGuardType P.depth t = false)
    (h : eqCells cs.toList ds.toList (fs.toList.map fun f => (f.offset, (keyKind P f.type).getD 9)) = some b) (hx : V φ (.agg cs) x') (hy : V φ (.agg ds) y') (xo yo : Operand) {r : Result Next} {op : BinOp} (hop : op = bif neg then .neq else .eql)
    (e : r = ((do eqGuard op t xo yo x' y'; binOp op t x' y' : Sem Value).run P w).andThen fun v w => .ok (.value v) w) : OpOk w0 φ H w (.v (.bool (bif neg then !b else b))) H r := by
  obtain ⟨cs', rfl, hc, _⟩ := hx.agg1
  obtain ⟨ds', rfl, hd, _⟩ := hy.agg1
  have hfo : P.fieldsOf t = fs := by simp [Program.fieldsOf, hu]
  have hu' : P.underlying t = some (.struct (P.fieldsOf t)) := by rw [hfo]; exact hu
  have heq : (Op.equalIn 10000 t (.agg cs') (.agg ds')).run P w = .ok b w := by
    rw [run_equalIn_struct w 9999 t cs' ds' hu' hs, hfo]
    exact ok_eqFields hc hd 9998 w fs.toList b hf h
  refine .pure R (.same rfl) ?_
  rw [e, Sem.run_bind, run_eqGuard_agg w op t xo yo cs' ds' hg]
  simp only [Result.andThen_ok]
  subst hop
  cases neg
  · show ((binOp .eql t (.agg cs') (.agg ds')).run P w).andThen _ = _
    rw [run_eql_struct, heq]
    rfl
  · show ((binOp .neq t (.agg cs') (.agg ds')).run P w).andThen _ = _
    rw [run_neq_struct, heq]
    rfl

theorem cParts_ok {fr : Fr} {a : Act} (F : FrR φ fr a) {place : Nat → Option (Nat × Nat)} : ∀ {ps : List (Nat × Operand)} {l : List (Nat × Nat × X)}, cParts place ps = some l →
    (l.map fun p => (p.1, p.2.1, p.2.2.ev fr)).length = (ps.map fun p => (p.1, a.eval p.2)).length ∧
    ∀ (j : Nat) (p : Nat × Nat × Value), (l.map fun p => (p.1, p.2.1, p.2.2.ev fr))[j]? = some p → ∃ p' : Nat × Value, (ps.map fun p => (p.1, a.eval p.2))[j]? = some p' ∧ place p'.1 = some (p.1, p.2.1) ∧ V φ p.2.2 p'.2
  | [], l, h => by simp [cParts] at h; subst h; exact ⟨rfl, fun j p h => by simp at h⟩
  | (i, x) :: ps, l, h => by
    simp only [cParts] at h
    cases hp : place i with
    | none => simp [hp] at h
    | some on =>
      cases hx : cX x with
      | none => simp [hp, hx] at h
      | some y =>
        cases hl : cParts place ps with
        | none => simp [hp, hx, hl] at h
        | some m =>
          simp [hp, hx, hl] at h
          subst h
          obtain ⟨h1, h2⟩ := cParts_ok F hl
          refine ⟨by simpa using h1, fun j p hj => ?_⟩
          cases j with
          | zero => simp at hj; subst hj; exact ⟨(i, a.eval x), by simp, hp, cX_V F hx⟩
          | succ j => simpa using h2 j p (by simpa using hj)
end
end Go.Proofs.YtoijnpfpjpefgaaGreat.A
