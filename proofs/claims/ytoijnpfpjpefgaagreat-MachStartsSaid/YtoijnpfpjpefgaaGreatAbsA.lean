/- The model's operation follows the machine's: the one theorem. -/
import Derived.Test.YtoijnpfpjpefgaaGreatAbs9
set_option linter.unusedVariables false
set_option linter.unusedSimpArgs false
namespace Go.Proofs.YtoijnpfpjpefgaaGreat.A
open Go Go.RowKit
section
variable {P : Program} {w0 w : World} {φ : Phi} {H : AH}

theorem tsize_size {t : TypeId} {n : Nat} (h : tsize P t = some n) : ∃ i, P.info? t = some i ∧ i.size = n := by
  unfold tsize at h
  cases hi : P.info? t with
  | none => simp [hi] at h
  | some i => simp [hi] at h; exact ⟨i, rfl, h⟩

theorem ok_call {fr : Fr} {a : Act} (F : FrR φ fr a) (R : Rel w0 φ H w) (h00 : φ.m H.nx = none) {c : Call} {ao : AOp} (hc : cCall P c = some ao) {res : ARes} {H' : AH} (h : aop ao (X.ev fr) H = some (res, H')) (hf : ∀ f as, res = .enter f as → HasF P f) (ty : TypeId) :
    OpOk w0 φ H w res H' ((do let d ← resolve a.eval c ty; invoke d.target d.args : Sem Next).run P w) := by
  obtain ⟨callee, args, argTypes⟩ := c
  unfold cCall at hc
  dsimp only at hc
  cases callee with
  | invoke x m => cases hc
  | value x =>
    cases x with
    | func f =>
      simp only at hc
      cases has : cXs args.toList with
      | none => simp [has] at hc
      | some as =>
        simp [has] at hc
        subst hc
        simp only [aop, Option.some.injEq, Prod.mk.injEq] at h
        obtain ⟨rfl, rfl⟩ := h
        refine .enter R (as' := args.map a.eval) (by simpa using cXs_VL F has) ?_
        have := run_callFunc (hf f _ rfl) (args.map a.eval) w
        simp [resolve, Act.eval, Deferred.ofValue, invoke, this]
    | tmp t =>
      simp only [cX] at hc
      cases has : cXs args.toList with
      | none => simp [has] at hc
      | some as =>
        simp [has] at hc
        subst hc
        simp only [aop] at h
        have hv := F t
        simp only [X.ev] at h
        cases hq : fr.get t <;> simp [hq] at h
        rename_i fn first cap
        cases fn <;> simp at h
        obtain ⟨rfl, rfl⟩ := h
        rename_i f
        rw [hq] at hv
        obtain ⟨a', b', e, h1, h2⟩ := V.fn1 hv
        have e' : a.eval (.tmp t) = .func (.func f) a' b' := e
        refine .enter R (as' := a' ++ args.map a.eval ++ b') (by simpa using h1.append ((cXs_VL F has).append h2)) ?_
        have := run_callFunc (hf f _ rfl) (a' ++ args.map a.eval ++ b') w
        simp [resolve, e', Deferred.ofValue, invoke]
        simpa using this
    | const v =>
      simp only [cX] at hc
      split at hc
      · rename_i y as hy has
        cases hc
        split at hy
        · rename_i hfl
          cases hy
          simp only [aop, X.ev] at h
          cases v <;> simp at h
          simp [flat2, flat] at hfl
        · cases hy
      · cases hc
    | global g => simp [cX] at hc
  | builtin b =>
    simp only at hc
    split at hc
    · -- len
      rename_i x t rest hargs htys
      have harg : args = #[x] := Array.ext' (by simpa using hargs)
      have ht0 : argTypes[0]? = some t := by rw [← Array.getElem?_toList, htys]; rfl
      subst harg
      split at hc
      · rename_i y hu hy
        cases hc
        have hv := cX_V F hy
        simp only [aop] at h
        cases hq : y.ev fr <;> simp [hq] at h
        obtain ⟨rfl, rfl⟩ := h
        rw [hq] at hv
        refine .pure R (.same rfl) ?_
        simp [resolve, invoke, builtin, Builtin.len_, ht0, run_underlying hu, hv.string]
        rfl
      · rename_i e y hu hy
        cases hc
        have hv := cX_V F hy
        simp only [aop] at h
        cases hq : y.ev fr <;> simp [hq] at h
        obtain ⟨rfl, rfl⟩ := h
        rw [hq] at hv
        obtain ⟨a', c', e', _⟩ := V.sln hv
        refine .pure R (.same rfl) ?_
        simp [resolve, invoke, builtin, Builtin.len_, ht0, run_underlying hu, e']
        rfl
      · rename_i n e y hu hy
        cases hc
        simp only [aop, Option.some.injEq, Prod.mk.injEq] at h
        obtain ⟨rfl, rfl⟩ := h
        refine .pure R (.same rfl) ?_
        simp [resolve, invoke, builtin, Builtin.len_, ht0, run_underlying hu]
        rfl
      · cases hc
    · -- append
      rename_i s x t u hargs htys
      have harg : args = #[s, x] := Array.ext' (by simpa using hargs)
      have htt : argTypes = #[t, u] := Array.ext' (by simpa using htys)
      subst harg htt
      have key : ∀ {e : TypeId} {y z : X}, P.underlying t = some (.slice e) → ((∃ e', P.underlying u = some (.slice e')) ∨ P.underlying u = some .string) → cX s = some y → cX x = some z →
          (match P.info? e with | some i => if i.size = 0 ∨ i.bytes = 0 ∨ (tzero P e).isNone then none else some (AOp.app i.size i.bytes y z) | none => none) = some ao → OpOk w0 φ H w res H' ((do let d ← resolve a.eval { callee := .builtin .append, args := #[s, x], argTypes := #[t, u] } ty; invoke d.target d.args : Sem Next).run P w) := by
        intro e y z hu hk hy hz hc
        cases hi : P.info? e with
        | none => simp [hi] at hc
        | some i =>
          simp only [hi] at hc
          split at hc
          · cases hc
          · rename_i hne
            cases hc
            have hzz : (tzero P e).isSome = true := by
              cases ht : tzero P e with
              | none => exact absurd (.inr (.inr (by simp [ht]))) hne
              | some l => rfl
            obtain ⟨l, hl⟩ := Option.isSome_iff_exists.1 hzz
            obtain ⟨i', zv, hi', hzv, hzl, _, hzn⟩ := run_tzero hl
            rw [hi] at hi'
            cases hi'
            simp only [aop] at h
            cases hq : aappend i.size i.bytes H (y.ev fr) (z.ev fr) with
            | none => simp [hq] at h
            | some r =>
              obtain ⟨v, H1⟩ := r
              simp [hq] at h
              obtain ⟨rfl, rfl⟩ := h
              refine ok_app (P := P) (t := t) (tx := u) (ty := ty) (e := e) (i := i) (z := zv) R h00 hu hi hzv (by rw [← hzn, ← hzl]; simp) rfl (fun e => hne (.inl e)) rfl hk (cX_V F hy) (cX_V F hz) hq ?_
              simp [resolve, invoke, builtin]
      split at hc
      · rename_i e e' y z hu hk hy hz; exact key hu (.inl ⟨e', hk⟩) hy hz hc
      · rename_i e y z hu hk hy hz; exact key hu (.inr hk) hy hz hc
      · cases hc
    · -- copy
      rename_i s x t u hargs htys
      have harg : args = #[s, x] := Array.ext' (by simpa using hargs)
      have htt : argTypes = #[t, u] := Array.ext' (by simpa using htys)
      subst harg htt
      split at hc
      · rename_i e y z hu hy hz
        cases hn : tsize P e with
        | none => simp [hn] at hc
        | some n =>
          simp [hn] at hc
          subst hc
          simp only [aop] at h
          cases hq : acopy n H (y.ev fr) (z.ev fr) with
          | none => simp [hq] at h
          | some r =>
            obtain ⟨v, H1⟩ := r
            simp [hq] at h
            obtain ⟨rfl, rfl⟩ := h
            refine ok_copy (P := P) (t := t) (tx := u) (ty := ty) (e := e) R hu hn (cX_V F hy) (cX_V F hz) hq ?_
            simp [resolve, invoke, builtin]
      · cases hc
    · -- max
      rename_i x l hargs
      have harg : args.toList = x :: l := hargs
      split at hc
      · rename_i y ys hy hys
        cases hc
        simp only [aop] at h
        cases hq : mxA (y.ev fr) (ys.map (X.ev fr)) with
        | none => simp [hq] at h
        | some v =>
          simp [hq] at h
          obtain ⟨rfl, rfl⟩ := h
          obtain ⟨r', h1, h2⟩ := ok_mx (P := P) (w := w) (cXs_VL F hys) (cX_V F hy) hq
          refine .pure R h2 ?_
          simp [resolve, invoke, builtin, Builtin.max_, harg, h1]
      · cases hc
    · -- min
      rename_i x l hargs
      have harg : args.toList = x :: l := hargs
      split at hc
      · rename_i y ys hy hys
        cases hc
        simp only [aop] at h
        cases hq : mnA (y.ev fr) (ys.map (X.ev fr)) with
        | none => simp [hq] at h
        | some v =>
          simp [hq] at h
          obtain ⟨rfl, rfl⟩ := h
          obtain ⟨r', h1, h2⟩ := ok_mn (P := P) (w := w) (cXs_VL F hys) (cX_V F hy) hq
          refine .pure R h2 ?_
          simp [resolve, invoke, builtin, Builtin.min_, harg, h1]
      · cases hc
    · cases hc

theorem ok_mup {fr : Fr} {a : Act} (F : FrR φ fr a) (R : Rel w0 φ H w) {t : TypeId} {m k x : Operand} {ao : AOp} {res : ARes} {H' : AH}
    (hc : (match P.underlying t, cX m, cX k, cX x with | some (.map kt _), some a, some b, some c => (keyKind P kt).map fun kk => AOp.mup kk a b c | _, _, _, _ => none) = some ao) (h : aop ao (X.ev fr) H = some (res, H')) :
    OpOk w0 φ H w res H' ((do Instr.mapUpdate t (a.eval m) (a.eval k) (a.eval x); pure .skip : Sem Next).run P w) := by
  split at hc
  case h_2 => cases hc
  rename_i kt e m' k' x' hu hm hk hx
  cases hkk : keyKind P kt with
  | none => simp [hkk] at hc
  | some kk =>
    simp [hkk] at hc
    subst hc
    have h1 := cX_V F hm
    have h2 := cX_V F hk
    have h3 := cX_V F hx
    have hkd : ∃ d, P.underlying kt = some d := by
      unfold keyKind at hkk
      cases hd : P.underlying kt with
      | none => simp [hd] at hkk
      | some d => exact ⟨d, rfl⟩
    obtain ⟨d, hd⟩ := hkd
    simp only [aop] at h
    split at h
    case h_2 => cases h
    rename_i r hq
    split at h
    case h_2 => cases h
    rename_i es hg
    obtain ⟨hch, h⟩ := bif_some h
    simp only [Bool.and_eq_true, decide_eq_true_eq] at hch
    rw [hq] at h1
    obtain ⟨l, hl, e1⟩ := V.mp1 h1
    have hn0 : φ.n0 ≤ r := by rw [← R.n0]; exact hch.1.2
    obtain ⟨_, es', ck, hw, hml⟩ := R.maps r l es hn0 hl (AH.raw_of hg)
    have hkeq : a.eval k = k'.ev fr := by
      have hf := keyOk_flat hch.1.1
      have hch1 := hch.1.1
      cases h2' : k'.ev fr <;> rw [h2'] at hf h2 hch1 <;> simp [flat] at hf <;> first
        | exact h2.int
        | exact h2.string
        | exact h2.bool
        | (rcases kk with _ | _ | _ | kk <;> simp [keyOk] at hch1)
    have hck : (Instr.checkKey false 10000 kt (k'.ev fr)).run P w = .ok () w := run_checkKey (P := P) hd hkk false 9999 _ w
    have hobj : (getObj l.c).run P w = .ok (.map es' ck) w := by simp [getObj, Sem.run, hw]
    have hlt : l.c < w.heap.size := (Array.getElem?_eq_some_iff.1 hw).1
    have set : ∀ ob : Obj, (setObj l.c ob).run P w = .ok () { w with heap := w.heap.setIfInBounds l.c ob } := by intro ob; simp [setObj, Sem.run, hw]
    cases hup : updA (k'.ev fr) (x'.ev fr) es with
    | none => simp [hup] at h
    | some es2 =>
      simp only [hup, Option.map_some, Option.some.injEq, Prod.mk.injEq] at h
      obtain ⟨rfl, rfl⟩ := h
      have done : ∀ (es'' : Array MapEntry) (ck' : Nat), ML φ es2 es''.toList → (Instr.mapUpdate t (a.eval m) (a.eval k) (a.eval x)).run P w = .ok () { w with heap := w.heap.setIfInBounds l.c (.map es'' ck') } →
          OpOk w0 φ H w (.v undef) (H.put r (some (.map es2))) ((do Instr.mapUpdate t (a.eval m) (a.eval k) (a.eval x); pure .skip : Sem Next).run P w) := by
        intro es'' ck' hml2 hrun
        obtain ⟨R', G⟩ := R.writeMap (w' := { w with heap := w.heap.setIfInBounds l.c (.map es'' ck') }) (es' := es'') (ck := ck') hn0 hl hg (by simp [hlt]) (fun q hq => by simp [Array.getElem?_setIfInBounds_ne (Ne.symm hq)]) (by simp) rfl rfl rfl hml2
        exact ⟨φ, _, _, by rw [Sem.run_bind, hrun]; rfl, R', G, .inr ⟨rfl, rfl⟩⟩
      rcases ok_upd (P := P) hd hkk hch.1.1 h3 0 hml hup with ⟨hfn, hm2⟩ | ⟨v', j, en, hfn, hj, hek, hm2⟩
      · refine done (es'.push ⟨k'.ev fr, a.eval x, ck⟩) (ck + 1) (by simpa using hm2 ck) ?_
        rw [e1, hkeq]
        simp [Instr.mapUpdate, run_underlying hu, hobj, hck, Instr.findKey, run_underlying hd, hfn, set]
      · refine done (es'.modify j fun e => { e with key := k'.ev fr, val := a.eval x }) ck (by simpa using hm2) ?_
        rw [e1, hkeq]
        have hj' : es'[j]? = some en := by simpa using hj
        simp [Instr.mapUpdate, run_underlying hu, hobj, hck, Instr.findKey, run_underlying hd, hfn, set, hj', hek, Instr.keyThatStays, sameBits_refl hch.1.1]

theorem andThen_eta {α : Type} (r : Result α) : r.andThen (fun a w => .ok a w) = r := by cases r <;> rfl
theorem opSim {fr : Fr} {a : Act} (F : FrR φ fr a) (R : Rel w0 φ H w) (h00 : φ.m H.nx = none) {o : Oper} {ao : AOp} (hc : cOp P o = some ao) {res : ARes} {H' : AH} (h : aop ao (X.ev fr) H = some (res, H')) (hf : ∀ f as, res = .enter f as → HasF P f) :
    OpOk w0 φ H w res H' ((execOp a.eval o).run P w) := by
  obtain ⟨dst, op, ty, pos, after, guard⟩ := o
  unfold cOp at hc
  unfold execOp
  dsimp only at hc ⊢
  cases op <;> simp only at hc ⊢
  case move x =>
    cases hx : cX x with
    | none => simp [hx] at hc
    | some y => simp [hx] at hc; subst hc; exact ok_move F R hx h (by simp)
  case assign x =>
    cases hx : cX x with
    | none => simp [hx] at hc
    | some y => simp [hx] at hc; subst hc; exact ok_move F R hx h (by simp)
  case pick c x y =>
    split at hc
    · rename_i c' x' y' hc1 hx hy
      cases hc
      simp only [aop] at h
      have hv := cX_V F hc1
      cases hq : c'.ev fr <;> simp [hq] at h
      rename_i b
      obtain ⟨rfl, rfl⟩ := h
      rw [hq] at hv
      cases b
      · exact .pure R (cX_V F hy) (by simp [hv.bool, asBool])
      · exact .pure R (cX_V F hx) (by simp [hv.bool, asBool])
    · cases hc
  case alloc e =>
    cases hz : tzero P e with
    | none => simp [hz] at hc
    | some z =>
      simp [hz] at hc
      subst hc
      simp only [aop, Option.some.injEq, Prod.mk.injEq] at h
      obtain ⟨rfl, rfl⟩ := h
      obtain ⟨i, v, hi, hv, hok⟩ := ok_alloc hz R h00
      have : ((do pure (Next.value (← Instr.alloc e true (.tuple #[]))) : Sem Next)).run P w = .ok (.value (.pointer (some ⟨w.heap.size, 0, none⟩))) { w with heap := w.heap.push (.cells v.cells e) } := by
        simp [Instr.alloc, zeroValue, typeInfo, hi, hv, newVar, newRow]
      rw [this]
      exact hok
  case box e x =>
    cases hx : cX x with
    | none => simp [hx] at hc
    | some y =>
      simp [hx] at hc
      subst hc
      simp only [aop] at h
      cases ht : isTup (y.ev fr) with
      | true => simp [ht] at h
      | false =>
        simp [ht] at h
        obtain ⟨rfl, rfl⟩ := h
        have := ok_box R h00 (cX_V F hx) ht e
        have hr : ((do pure (Next.value (← Instr.box e (a.eval x))) : Sem Next)).run P w = .ok (.value (.pointer (some ⟨w.heap.size, 0, none⟩))) { w with heap := w.heap.push (.cells (a.eval x).cells e) } := by
          simp [Instr.box, newVar, newRow]
        rw [hr]
        exact this
  case build t ps =>
    have key : ∀ {place : Nat → Option (Nat × Nat)} {z : List Value} {l : List (Nat × Nat × X)}, tzero P t = some z → cParts place ps.toList = some l → AOp.build z l = ao →
        (∀ zv, (P.info? t).bind (·.zero) = some zv → ∀ cells, Instr.fill place zv.cells (ps.map fun p => (p.1, a.eval p.2)).toList = some cells → (Instr.build t (ps.map fun p => (p.1, a.eval p.2))).run P w = .ok (.agg cells) w) →
        OpOk w0 φ H w res H' ((do pure (Next.value (← Instr.build t (ps.map fun p => (p.1, a.eval p.2)))) : Sem Next).run P w) := by
      intro place z l hz hl hao hrun
      subst hao
      obtain ⟨i, zv, hi, hzv, hzl, hzf, hzn⟩ := run_tzero hz
      obtain ⟨e1, e2⟩ := cParts_ok F hl
      simp only [aop, List.map_map] at h
      cases hq : fillA z (l.map fun p => (p.1, p.2.1, p.2.2.ev fr)) with
      | none => simp [hq] at h
      | some c =>
        simp [hq] at h
        obtain ⟨rfl, rfl⟩ := h
        obtain ⟨arr2, q1, q2, q3⟩ := ok_fill (φ := φ) (ps := l.map fun p => (p.1, p.2.1, p.2.2.ev fr)) (ps' := ps.toList.map fun p => (p.1, a.eval p.2)) (place := place) (arr := zv.cells) e1 e2 hq (by rw [hzl]; exact VL.same hzf) (all_flat_one hzf)
        have := hrun zv (by simp [hi, hzv]) arr2 (by simpa using q1)
        refine .pure R (.agg (a' := arr2) (by simpa using q3) (by simpa using q2)) ?_
        simp [this]
    split at hc
    · rename_i fs z hu hz
      split at hc
      · rename_i pl hpl
        cases hl : cParts (fun i => pl[i]?) ps.toList with
        | none => simp [hl] at hc
        | some l =>
          simp [hl] at hc
          refine key hz hl hc ?_
          intro zv hzv cells hfill
          cases hi : P.info? t with
          | none => simp [hi] at hzv
          | some i =>
            simp [hi] at hzv
            refine run_build w t _ cells ?_
            unfold Program.built
            simp [hi, hu, hzv, hpl]
            simpa using hfill
      · cases hc
    · rename_i n e z hu hz
      split at hc
      · rename_i n hn
        cases hl : cParts (fun i => some (i * n, n)) ps.toList with
        | none => simp [hl] at hc
        | some l =>
          simp [hl] at hc
          refine key hz hl hc ?_
          intro zv hzv cells hfill
          cases hi : P.info? t with
          | none => simp [hi] at hzv
          | some i =>
            simp [hi] at hzv
            simp [Instr.build, zeroValue, typeInfo, hi, hzv, run_underlying hu, run_tsize hn]
            simp at hfill
            simp [hfill]
      · cases hc
    · cases hc
  case buildSlice t len ps =>
    split at hc
    · rename_i e hu
      split at hc
      · rename_i n z hn hz
        split at hc
        · cases hc
        · rename_i hlen
          cases hl : cParts (fun i => some (i * n, n)) ps.toList with
          | none => simp [hl] at hc
          | some l =>
            simp [hl] at hc
            subst hc
            obtain ⟨i, zv, hi, hzv, hzl, hzf, hzn⟩ := run_tzero hz
            obtain ⟨i', hi', hsn⟩ := tsize_size hn
            rw [hi] at hi'
            cases hi'
            obtain ⟨e1, e2⟩ := cParts_ok F hl
            simp only [aop, List.map_map] at h
            have hfl := all_replicate hzf len
            have hmade := made_eq zv.cells n (by rw [← hsn, ← hzn, ← hzl]; simp) len
            rw [hzl] at hmade
            cases hq : fillA (List.replicate len z).flatten (l.map fun p => (p.1, p.2.1, p.2.2.ev fr)) with
            | none => simp [hq] at h
            | some c =>
              simp [hq] at h
              obtain ⟨rfl, rfl⟩ := h
              obtain ⟨arr2, q1, q2, q3⟩ := ok_fill (φ := φ) (ps := l.map fun p => (p.1, p.2.1, p.2.2.ev fr)) (ps' := ps.toList.map fun p => (p.1, a.eval p.2)) (place := fun i => some (i * n, n)) (arr := madeCells zv.cells (len * n)) e1 e2 hq (by rw [hmade]; exact VL.same hfl) (all_flat_one hfl)
              have hr : ((do pure (Next.value (← Instr.buildSlice t len (ps.map fun p => (p.1, a.eval p.2)))) : Sem Next)).run P w = .ok (.value (.slice (some ⟨w.heap.size, 0, none⟩) len len)) { w with heap := w.heap.push (.cells arr2 e) } := by
                have h24 : ¬ (2 ^ 24 < len * n) := by omega
                have hcells : (Instr.fill (fun i => some (i * n, n)) (madeCells (if len * n = 0 then #[] else zv.cells) (len * n)) (ps.toList.map fun p => (p.1, a.eval p.2))) = some arr2 := by
                  by_cases h0 : len * n = 0
                  · rw [if_pos h0, h0]
                    rw [h0] at q1
                    have : madeCells (#[] : Array Value) 0 = madeCells zv.cells 0 := by simp [madeCells]
                    rw [this]
                    exact q1
                  · rw [if_neg h0]; exact q1
                by_cases h0 : len * n = 0
                · rw [if_pos h0] at hcells
                  simp only [madeCells] at hcells
                  simp [Instr.buildSlice, run_underlying hu, run_tsize hn, h0]
                  rw [h0] at hcells
                  simp at hcells
                  simp [hcells, newRow]
                · rw [if_neg h0] at hcells
                  simp only [madeCells] at hcells
                  simp [Instr.buildSlice, run_underlying hu, run_tsize hn, h0, h24, zeroValue, typeInfo, hi, hzv]
                  simp [hcells, newRow]
              rw [hr]
              obtain ⟨R', G⟩ := R.new h00 (w' := { w with heap := w.heap.push (.cells arr2 e) }) (z := n) (cs := c) (arr := arr2) (e := e) rfl rfl rfl rfl (by rw [q2.length]; simp) (CR_of_VL q2 q3)
              refine ⟨_, _, _, rfl, R', G, .inl ⟨_, rfl, ?_⟩⟩
              have := V.sl (φ := φ.add H.nx ⟨w.heap.size, 0, arr2.size, n⟩) (o := 0) (n := len) (Phi.add_self φ H.nx ⟨w.heap.size, 0, arr2.size, n⟩) (Nat.le_refl len) id (.inl rfl)
              simpa using this
      · cases hc
    · cases hc
  case load t x =>
    split at hc
    · rename_i y hag hx
      cases hn : tsize P t with
      | none => simp [hn] at hc
      | some n =>
        simp [hn] at hc
        subst hc
        have hv := cX_V F hx
        simp only [aop] at h
        cases hq : y.ev fr <;> simp [hq] at h
        rename_i p
        cases p <;> simp at h
        rename_i ad
        cases hld : H.ldn ad n with
        | none => simp [hld] at h
        | some vs =>
          simp [hld] at h
          obtain ⟨rfl, rfl⟩ := h
          rw [hq] at hv
          obtain ⟨a', vs', e1, e2, e3, e4, e5⟩ := ok_ldn R hv hld
          refine .pure R (.agg (a' := vs'.toArray) (by simpa using e3) (by simpa using e4)) ?_
          have := run_loadCells_list (P := P) w a' vs' e5
          rw [e2] at this
          simp [Instr.loadAt, e1, Instr.sureAddr, loadVar, run_tagg hag, run_tsize hn, this]
    · rename_i y hag hx
      cases hc
      have hv := cX_V F hx
      simp only [aop] at h
      cases hq : y.ev fr <;> simp [hq] at h
      rename_i p
      cases p <;> simp at h
      rename_i ad
      cases hld : H.ld ad with
      | none => simp [hld] at h
      | some v =>
        simp [hld] at h
        obtain ⟨rfl, rfl⟩ := h
        rw [hq] at hv
        obtain ⟨a', v', e1, e2, e3⟩ := ok_ld R hv hld
        refine .pure R e3 ?_
        simp [Instr.loadAt, e1, Instr.sureAddr, loadVar, run_tagg hag, e2]
    · cases hc
  case store t x v =>
    split at hc
    · rename_i y z hx hv
      cases hn : tsize P t with
      | none => simp [hn] at hc
      | some n =>
        simp [hn] at hc
        subst hc
        have h1 := cX_V F hx
        have h2 := cX_V F hv
        simp only [aop] at h
        cases hq : y.ev fr <;> simp [hq] at h
        rename_i p
        cases p <;> simp at h
        rename_i ad
        rw [hq] at h1
        cases hch : (Nat.beq (vcells (z.ev fr)).length n && !isTup (z.ev fr)) with
        | false => simp [hch] at h
        | true =>
          simp only [hch, cond_true] at h
          simp [nb] at hch
          cases hst : H.st ad (vcells (z.ev fr)) with
          | none => simp [hst] at h
          | some H1 =>
            simp [hst] at h
            obtain ⟨rfl, rfl⟩ := h
            obtain ⟨a', w', e1, e2, R', G⟩ := ok_st (P := P) R h1 hst h2.cells (vcells_one h2 hch.2)
            refine ⟨φ, w', _, ?_, R', G, .inr ⟨rfl, rfl⟩⟩
            have hlen : (a.eval v).cells.size = n := by rw [← hch.1, h2.cells.length]; simp
            simp [Instr.storeAt, e1, Instr.sureAddr, storeVar, run_tsize hn, hlen, e2]
    · cases hc
  case nilCheck x =>
    cases hx : cX x with
    | none => simp [hx] at hc
    | some y =>
      simp [hx] at hc
      subst hc
      have hv := cX_V F hx
      simp only [aop] at h
      cases hq : y.ev fr <;> simp [hq] at h
      rename_i p
      cases p <;> simp at h
      obtain ⟨rfl, rfl⟩ := h
      rw [hq] at hv
      obtain ⟨l, h1, h2, h3⟩ := V.ptr1 hv
      refine .pure R hv ?_
      simp [h3]
  case binOp op t x y ty2 =>
    split at hc
    · rename_i x' y' hx hy
      have h1 := cX_V F hx
      have h2 := cX_V F hy
      have hbin : ∀ v, abin op (x'.ev fr) (y'.ev fr) = some v → res = .v v ∧ H' = H → OpOk w0 φ H w res H' ((do pure (Next.value (← (do eqGuard op t x y (a.eval x) (a.eval y); binOp op t (a.eval x) (a.eval y)))) : Sem Next).run P w) := by
        rintro v hv ⟨rfl, rfl⟩
        refine ok_bin (P := P) R hv h1 h2 t x y ?_
        rw [Sem.run_bind]
        rfl
      have hb2 : ao = .bin op x' y' → OpOk w0 φ H w res H' ((do pure (Next.value (← (do eqGuard op t x y (a.eval x) (a.eval y); binOp op t (a.eval x) (a.eval y)))) : Sem Next).run P w) := by
        rintro rfl
        simp only [aop] at h
        cases hq : abin op (x'.ev fr) (y'.ev fr) with
        | none => simp [hq] at h
        | some v => simp [hq] at h; exact hbin v hq ⟨h.1.symm, h.2.symm⟩
      have heq : ∀ k neg, eqKind P t = some k → (op = bif neg then .neq else .eql) → ao = .eqk k neg x' y' → OpOk w0 φ H w res H' ((do pure (Next.value (← (do eqGuard op t x y (a.eval x) (a.eval y); binOp op t (a.eval x) (a.eval y)))) : Sem Next).run P w) := by
        rintro k neg hk hop rfl
        simp only [aop] at h
        cases hq : aeq k (x'.ev fr) (y'.ev fr) with
        | none => simp [hq] at h
        | some b =>
          simp [hq] at h
          obtain ⟨rfl, rfl⟩ := h
          refine ok_eqk (P := P) R hk hq h1 h2 x y hop ?_
          rw [Sem.run_bind]
          rfl
      have heqs : ∀ fs neg, P.underlying t = some (.struct fs) → ((fs.toList.all fun f => f.name != "_" && (keyKind P f.type).isSome) && !P.stoodInHeld t && !P.eqGuardType P.depth t) = true → (op = bif neg then .neq else .eql) → ao = .eqs neg (fs.toList.map fun f => (f.offset, (keyKind P f.type).getD 9)) x' y' →
          OpOk w0 φ H w res H' ((do pure (Next.value (← (do eqGuard op t x y (a.eval x) (a.eval y); binOp op t (a.eval x) (a.eval y)))) : Sem Next).run P w) := by
        rintro fs neg hu hch hop rfl
        simp only [Bool.and_eq_true, Bool.not_eq_true'] at hch
        simp only [aop] at h
        cases hq : x'.ev fr <;> simp only [hq] at h <;> first
          | (cases h; done)
          | skip
        rename_i cs
        cases hq2 : y'.ev fr <;> simp only [hq2] at h <;> first
          | (cases h; done)
          | skip
        rename_i ds
        cases hq3 : eqCells cs.toList ds.toList (fs.toList.map fun f => (f.offset, (keyKind P f.type).getD 9)) with
        | none => simp [hq3] at h
        | some b =>
          simp only [hq3, Option.map_some, Option.some.injEq, Prod.mk.injEq] at h
          obtain ⟨rfl, rfl⟩ := h
          rw [hq] at h1
          rw [hq2] at h2
          refine ok_eqs (P := P) R hu hch.1.1 hch.1.2 hch.2 hq3 h1 h2 x y hop ?_
          rw [Sem.run_bind]
          rfl
      split at hc
      · cases hc; exact hb2 rfl
      · cases hc; exact hb2 rfl
      · rename_i fs hu
        split at hc
        · rename_i hch
          split at hc
          · cases hc; exact heqs fs false hu hch rfl rfl
          · cases hc; exact heqs fs true hu hch rfl rfl
          · cases hc
        · cases hc
      · split at hc
        · rename_i k hk; cases hc; exact heq k false hk rfl rfl
        · rename_i k hk; cases hc; exact heq k true hk rfl rfl
        · cases hc
    · cases hc
  case unOp op t x =>
    cases hx : cX x with
    | none => simp [hx] at hc
    | some y =>
      simp [hx] at hc
      subst hc
      have hv := cX_V F hx
      simp only [aop] at h
      cases hq : aun op (y.ev fr) with
      | none => simp [hq] at h
      | some v =>
        simp [hq] at h
        obtain ⟨rfl, rfl⟩ := h
        unfold aun at hq
        split at hq
        · rename_i b hb
          cases hq
          rw [hb] at hv
          refine .pure R (.same rfl) ?_
          simp [hv.bool, Op.unary]
        · rename_i k n hb
          cases hq
          rw [hb] at hv
          refine .pure R (.same rfl) ?_
          simp [hv.int, Op.unary, Op.intArith]
        · cases hq
  case convert src dst x =>
    split at hc
    · rename_i k1 k y hu1 hu2 hx
      cases hc
      have hv := cX_V F hx
      simp only [aop] at h
      cases hq : y.ev fr <;> simp [hq] at h
      obtain ⟨rfl, rfl⟩ := h
      rw [hq] at hv
      refine .pure R (.same rfl) ?_
      simp [convert, run_underlying hu1, run_underlying hu2, hv.int, Conv.intToInt]
    · rename_i k1 y hu1 hu2 hx
      cases hc
      have hv := cX_V F hx
      simp only [aop] at h
      cases hq : y.ev fr <;> simp [hq] at h
      obtain ⟨rfl, rfl⟩ := h
      rw [hq] at hv
      refine .pure R (.same rfl) ?_
      simp [convert, run_underlying hu1, run_underlying hu2, hv.int, Conv.intToString]
    · cases hc
  case makeFunc fn first cap =>
    cases fn <;> simp only at hc
    case func f =>
      split at hc
      · rename_i xs ys hx hy
        cases hc
        simp only [aop, Option.some.injEq, Prod.mk.injEq] at h
        obtain ⟨rfl, rfl⟩ := h
        refine .pure R (.fn (a' := first.map a.eval) (b' := cap.map a.eval) (by simpa using cXs_VL F hx) (by simpa using cXs_VL F hy)) ?_
        simp [Instr.makeFunc]
      · cases hc
    all_goals cases hc
  case makeMap t r =>
    cases r with
    | some r => cases hc
    | none =>
      cases hc
      simp only [aop, Option.some.injEq, Prod.mk.injEq] at h
      obtain ⟨rfl, rfl⟩ := h
      obtain ⟨R', G⟩ := R.newMap h00 (w' := { w with heap := w.heap.push (.map #[] 0) }) rfl rfl rfl rfl
      refine ⟨_, _, .value (.map (some w.heap.size)), ?_, R', G, .inl ⟨_, rfl, .mp (l := ⟨w.heap.size, 0, 0, 0⟩) (Phi.add_self _ _ _)⟩⟩
      simp [Instr.makeMap]
  case makeSlice t l c =>
    split at hc
    · rename_i e hu
      split at hc
      · rename_i i z x hi hz hx
        split at hc
        · rename_i hch
          cases hc
          have hv := cX_V F hx
          simp only [aop] at h
          cases hq : x.ev fr <;> simp [hq] at h
          rename_i k n
          rw [hq] at hv
          have hlc : a.eval c = a.eval l := by
            have hs := hch.1
            unfold sameOperand at hs
            split at hs
            · simp at hs; rw [hs]
            · simp at hs; obtain ⟨rfl, rfl⟩ := hs; rfl
            · cases hs
          cases hcc : (decide (0 ≤ n) && decide (IntKind.i64.wrap n = n) && decide ((i.bytes : Int) * n ≤ 140737488355328)) with
          | false => rw [hcc] at h; simp at h
          | true =>
            rw [hcc] at h
            simp only [cond_true, Option.some.injEq, Prod.mk.injEq] at h
            obtain ⟨rfl, rfl⟩ := h
            simp only [Bool.and_eq_true, decide_eq_true_eq] at hcc
            refine ok_mksl (P := P) (k := k) R h00 hu hi hz rfl rfl hcc.1.1 hcc.1.2 (by have := hcc.2; omega) ?_
            rw [hlc, hv.int, Sem.run_bind]
            rfl
        · cases hc
      · cases hc
    · cases hc
  case slice t x lo hi mx =>
    split at hc
    · rename_i x' lo' hi' mx' hx hlo hhi hmx
      have key : ∀ sz, ao = .sl sz x' lo' hi' mx' → (∀ v, aslice sz H (x'.ev fr) (lo'.map (X.ev fr)) (hi'.map (X.ev fr)) (mx'.map (X.ev fr)) = some v → (P.underlying t = some .string ∧ ∃ s, x'.ev fr = .string s) ∨ (∃ e, P.underlying t = some (.slice e) ∧ tsize P e = some sz ∧ ∃ a n c, x'.ev fr = .slice a n c)) →
          OpOk w0 φ H w res H' ((do pure (Next.value (← Instr.sliceAt t (a.eval x) (lo.map a.eval) (hi.map a.eval) (mx.map a.eval))) : Sem Next).run P w) := by
        rintro sz rfl hty
        simp only [aop] at h
        cases hq : aslice sz H (x'.ev fr) (lo'.map (X.ev fr)) (hi'.map (X.ev fr)) (mx'.map (X.ev fr)) with
        | none => simp [hq] at h
        | some v =>
          simp [hq] at h
          obtain ⟨rfl, rfl⟩ := h
          obtain ⟨v', e1, e2⟩ := ok_aslice (P := P) (t := t) R (hty v hq) hq (cX_V F hx) (cXo_VO F hlo) (cXo_VO F hhi) (cXo_VO F hmx)
          refine .pure R e2 ?_
          simp [e1]
      split at hc
      · rename_i hu
        cases hc
        refine key 0 rfl (fun v hv => .inl ⟨hu, ?_⟩)
        unfold aslice at hv
        split at hv
        · split at hv
          · cases hv
          · obtain ⟨hb, _⟩ := bif_some hv
            simp [nb] at hb
        · exact ⟨_, by assumption⟩
        · cases hv
      · rename_i e hu
        cases hn : tsize P e with
        | none => simp [hn] at hc
        | some n =>
          simp only [hn] at hc
          split at hc
          · cases hc
          · rename_i hn0
            cases hc
            refine key n rfl (fun v hv => .inr ⟨e, hu, hn, ?_⟩)
            unfold aslice at hv
            split at hv
            · exact ⟨_, _, _, by assumption⟩
            · split at hv
              · cases hv
              · split at hv
                · cases hv
                · obtain ⟨hb, _⟩ := bif_some hv
                  simp [nb] at hb
                  exact absurd hb hn0
            · cases hv
      · cases hc
    · cases hc
  case fieldAddr s x f =>
    split at hc
    · rename_i fs y hu hx
      split at hc
      · rename_i g hg
        split at hc
        · rename_i n hn
          split at hc
          · cases hc
          · rename_i hn0
            cases hc
            have hv := cX_V F hx
            simp only [aop] at h
            cases hq : y.ev fr <;> simp [hq] at h
            rename_i p
            cases p <;> simp at h
            rename_i ad
            obtain ⟨hsp, h⟩ := bif_some h
            simp only [Option.some.injEq, Prod.mk.injEq] at h
            obtain ⟨rfl, rfl⟩ := h
            rw [hq] at hv
            obtain ⟨l, h1, h2, h3⟩ := V.ptr1 hv
            refine .pure R (.ptr h2) ?_
            simp [Instr.fieldAt, run_underlying hu, hg, h3, Instr.sureAddr, fieldPlace, run_tsize hn, hn0, add_lit, Nat.add_assoc, Nat.add_comm, Nat.add_left_comm]
        · cases hc
      · cases hc
    · cases hc
  case indexAddr t x i =>
    split at hc
    · rename_i e y z hu hx hi
      cases hn : tsize P e with
      | none => simp [hn] at hc
      | some n =>
        simp [hn] at hc
        subst hc
        have h1 := cX_V F hx
        have h2 := cX_V F hi
        simp only [aop] at h
        split at h
        case h_2 => cases h
        rename_i ad len cap k j hq hq2
        split at h
        case isFalse => cases h
        rename_i hj
        obtain ⟨hsp, h⟩ := bif_some h
        simp only [Option.some.injEq, Prod.mk.injEq] at h
        obtain ⟨rfl, rfl⟩ := h
        rw [hq] at h1
        rw [hq2] at h2
        rcases V.sl1 h1 with ⟨l, c', _, hl, _, _, _, e1⟩ | ⟨hs, _⟩
        · refine .pure R (.ptr hl) ?_
          simp [Instr.indexAt, h2.int, asIntOf, run_underlying hu, e1, hj, run_tsize hn, add_lit, Nat.add_assoc, Nat.add_comm, Nat.add_left_comm]
        · rw [hs] at hsp; simp at hsp
    · rename_i len e y z hu hx hi
      cases hn : tsize P e with
      | none => simp [hn] at hc
      | some n =>
        simp [hn] at hc
        subst hc
        have h1 := cX_V F hx
        have h2 := cX_V F hi
        simp only [aop] at h
        split at h
        case h_2 => cases h
        rename_i ad k j hq hq2
        split at h
        case isFalse => cases h
        rename_i hj
        obtain ⟨hsp, h⟩ := bif_some h
        simp only [Option.some.injEq, Prod.mk.injEq] at h
        obtain ⟨rfl, rfl⟩ := h
        rw [hq] at h1
        rw [hq2] at h2
        obtain ⟨l, _, hl, e1⟩ := V.ptr1 h1
        refine .pure R (.ptr hl) ?_
        simp [Instr.indexAt, h2.int, asIntOf, run_underlying hu, e1, Instr.sureAddr, hj, run_tsize hn, add_lit, Nat.add_assoc, Nat.add_comm, Nat.add_left_comm]
    · cases hc
  case index t x i =>
    split at hc
    · rename_i y z hu hx hi
      cases hc
      have h1 := cX_V F hx
      have h2 := cX_V F hi
      simp only [aop] at h
      cases hq : y.ev fr <;> simp [hq] at h
      rename_i s
      cases hq2 : z.ev fr <;> simp [hq2] at h
      rename_i k j
      obtain ⟨hj, h⟩ := h
      cases hb : s[j.toNat]? with
      | none => simp [hb] at h
      | some b =>
        simp [hb] at h
        obtain ⟨rfl, rfl⟩ := h
        rw [hq] at h1
        rw [hq2] at h2
        refine .pure R (.same rfl) ?_
        simp [Instr.index, h1.string, h2.int, asIntOf, run_underlying hu, hj, hb]
    · cases hc
  case makeInterface t x =>
    split at hc
    · cases hc
    · rename_i d y hni hu hx
      cases hc
      simp only [aop, Option.some.injEq, Prod.mk.injEq] at h
      obtain ⟨rfl, rfl⟩ := h
      refine .pure R (.iface (cX_V F hx)) ?_
      cases d <;> first
        | (simp [Instr.makeInterface, run_underlying hu]; done)
        | exact absurd rfl (hni _)
    · cases hc
  case extract x i =>
    cases hx : cX x with
    | none => simp [hx] at hc
    | some y =>
      simp [hx] at hc
      subst hc
      have hv := cX_V F hx
      simp only [aop] at h
      cases hq : y.ev fr <;> simp [hq] at h
      rename_i vs
      cases hj : vs[i]? with
      | none => simp [hj] at h
      | some v =>
        simp [hj] at h
        obtain ⟨rfl, rfl⟩ := h
        rw [hq] at hv
        obtain ⟨vs', e1, e2⟩ := V.tup1 hv
        obtain ⟨v', e3, e4⟩ := e2.get i v (by simpa using hj)
        refine .pure R e4 ?_
        have e3' : vs'[i]? = some v' := by simpa using e3
        simp [Instr.extract, e1, e3']
  case call c => exact ok_call F R h00 hc h hf ty
  case lookup t x k ok =>
    split at hc
    · rename_i kt e x' k' hu hx hk
      split at hc
      · rename_i z hz
        split at hc
        · rename_i kk hkk
          split at hc
          · rename_i hfl
            cases hc
            have h1 := cX_V F hx
            have h2 := cX_V F hk
            have hkd : ∃ d, P.underlying kt = some d := by
              unfold keyKind at hkk
              cases hd : P.underlying kt with
              | none => simp [hd] at hkk
              | some d => exact ⟨d, rfl⟩
            obtain ⟨d, hd⟩ := hkd
            have hzero : (zeroValue e).run P w = .ok z w := by
              cases hi : P.info? e with
              | none => simp [hi] at hz
              | some i => simp [hi] at hz; simp [zeroValue, typeInfo, hi, hz]
            simp only [aop] at h
            split at h
            · rename_i hq
              obtain ⟨hko, h⟩ := bif_some h
              simp only [Option.some.injEq, Prod.mk.injEq] at h
              obtain ⟨rfl, rfl⟩ := h
              rw [hq] at h1
              have hck := run_checkKey (P := P) hd hkk true 9999 (a.eval k) w
              have hrun : (Instr.lookup t (a.eval x) (a.eval k) ok).run P w = .ok (if ok then .tuple #[z, .bool false] else z) w := by
                rw [h1.mp0]
                simp [Instr.lookup, run_underlying hu, hck, Instr.findKey, run_underlying hd, Instr.findNow, hzero]
              refine .pure (x' := if ok then .tuple #[z, .bool false] else z) R ?_ (by simp [hrun])
              cases ok
              · exact V.same2 hfl
              · exact .tuple (.cons (V.same2 hfl) (.cons (.same rfl) .nil))
            · rename_i r hq
              split at h
              case h_2 => cases h
              rename_i es hg
              obtain ⟨hch, h⟩ := bif_some h
              simp only [Bool.and_eq_true, decide_eq_true_eq] at hch
              rw [hq] at h1
              obtain ⟨l, hl, e1⟩ := V.mp1 h1
              obtain ⟨_, es', ck, hw, hml⟩ := R.maps r l es (by rw [← R.n0]; exact hch.2) hl (AH.raw_of hg)
              have hkeq : a.eval k = k'.ev fr := by
                have hf := keyOk_flat hch.1
                cases h2' : k'.ev fr <;> rw [h2'] at hf h2 hch <;> simp [flat] at hf <;> first
                  | exact h2.int
                  | exact h2.string
                  | exact h2.bool
                  | (rcases kk with _ | _ | _ | kk <;> simp [keyOk] at hch)
              have hck := run_checkKey (P := P) hd hkk es'.isEmpty 9999 (a.eval k) w
              cases hfa : findA (k'.ev fr) es with
              | none => simp [hfa] at h
              | some ro =>
                have hobj : (getObj l.c).run P w = .ok (.map es' ck) w := by simp [getObj, Sem.run, hw]
                have hck' : (Instr.checkKey es'.isEmpty 10000 kt (a.eval k)).run P w = .ok () w := hck
                rcases ok_find (P := P) hd hkk hch.1 0 hml hfa with ⟨rfl, hfn⟩ | ⟨v, v', j, en, rfl, hfn, hvv, _, _⟩
                · simp only [hfa, Option.some.injEq, Prod.mk.injEq] at h
                  obtain ⟨rfl, rfl⟩ := h
                  have hrun : (Instr.lookup t (a.eval x) (a.eval k) ok).run P w = .ok (if ok then .tuple #[z, .bool false] else z) w := by
                    rw [e1]
                    rw [hkeq] at hck' ⊢
                    simp [Instr.lookup, run_underlying hu, hobj, hck', Instr.findKey, run_underlying hd, hfn, hzero]
                  refine .pure (x' := if ok then .tuple #[z, .bool false] else z) R ?_ (by simp [hrun])
                  cases ok
                  · exact V.same2 hfl
                  · exact .tuple (.cons (V.same2 hfl) (.cons (.same rfl) .nil))
                · simp only [hfa, Option.some.injEq, Prod.mk.injEq] at h
                  obtain ⟨rfl, rfl⟩ := h
                  have hrun : (Instr.lookup t (a.eval x) (a.eval k) ok).run P w = .ok (if ok then .tuple #[v', .bool true] else v') w := by
                    rw [e1]
                    rw [hkeq] at hck' ⊢
                    simp [Instr.lookup, run_underlying hu, hobj, hck', Instr.findKey, run_underlying hd, hfn]
                  refine .pure (x' := if ok then .tuple #[v', .bool true] else v') R ?_ (by simp [hrun])
                  cases ok
                  · exact hvv
                  · exact .tuple (.cons hvv (.cons (.same rfl) .nil))
            · cases h
          · cases hc
        · cases hc
      · cases hc
    · cases hc
  case mapUpdate t m k x => exact ok_mup F R hc h
  case insert t m k x => exact ok_mup F R hc h
  all_goals cases hc
end
end Go.Proofs.YtoijnpfpjpefgaaGreat.A
