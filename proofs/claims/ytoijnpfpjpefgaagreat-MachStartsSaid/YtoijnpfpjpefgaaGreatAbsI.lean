/- Calls: the model follows the machine. -/
import Derived.Test.YtoijnpfpjpefgaaGreatAbsH
set_option linter.unusedVariables false
set_option linter.unusedSimpArgs false
namespace Go.Proofs.YtoijnpfpjpefgaaGreat.A
open Go Go.RowKit
section
variable {P : Program}

def resOne (tmps : Array Value) : ResultVar → Sem Value
  | .tmp t => pure (tmps.getD t undef)
  | .cell a t => do loadVar t (← asAddr (tmps.getD a undef))
theorem results_list (fn : Func) (tmps : Array Value) : results fn tmps = (do
    let vs ← fn.results.toList.mapM (resOne tmps)
    pure (if h : vs.toArray.size = 1 then vs.toArray[0] else .tuple vs.toArray)) := by
  have e : results fn tmps = (do
    let vs ← fn.results.mapM (resOne tmps)
    pure (if h : vs.size = 1 then vs[0] else .tuple vs)) := rfl
  rw [e, Array.mapM_eq_mapM_toList]
  simp
theorem res_sim {w0 w : World} {φ : Phi} {H : AH} {fr : Fr} {a : Act} (F : FrR φ fr a) (R : Rel w0 φ H w) : ∀ (l : List ResultVar) (m : List RS) (vs : List Value), cRes P l = some m → RS.all fr H m = some vs →
    ∃ vs', (l.mapM (resOne a.tmps)).run P w = .ok vs' w ∧ VL φ vs vs'
  | [], m, vs, hc, h => by
    simp [cRes] at hc
    subst hc
    simp [RS.all] at h
    subst h
    exact ⟨[], by simp, .nil⟩
  | .tmp t :: l, m, vs, hc, h => by
    simp only [cRes, Option.map_eq_some_iff] at hc
    obtain ⟨m', hm, rfl⟩ := hc
    simp only [RS.all, RS.get] at h
    cases hr : RS.all fr H m' with
    | none => simp [hr] at h
    | some us =>
      simp only [hr, Option.some.injEq] at h
      subst h
      obtain ⟨vs', h1, h2⟩ := res_sim F R l m' us hm hr
      refine ⟨a.tmps.getD t undef :: vs', ?_, .cons (F t) h2⟩
      simp [List.mapM_cons, resOne, h1]
  | .cell t ty :: l, m, vs, hc, h => by
    simp only [cRes] at hc
    split at hc
    · rename_i n m' hag hsz hm
      cases hc
      simp only [RS.all, RS.get] at h
      cases hq : fr.get t <;> simp [hq] at h
      rename_i p
      cases p <;> simp at h
      rename_i ad
      cases hld : H.ldn ad n with
      | none => simp [hld] at h
      | some ws =>
        cases hr : RS.all fr H m' with
        | none => simp [hld, hr] at h
        | some us =>
          simp [hld, hr] at h
          subst h
          obtain ⟨vs', h1, h2⟩ := res_sim F R l m' us hm hr
          have hv := F t
          rw [hq] at hv
          obtain ⟨a', ws', e1, e2, e3, e4, e5⟩ := ok_ldn R hv hld
          have h4 := run_loadCells_list (P := P) w a' ws' e5
          rw [e2] at h4
          refine ⟨.agg ws'.toArray :: vs', ?_, .cons (.agg (by simpa using e3) (by simpa using e4)) h2⟩
          have e1' : a.tmps.getD t undef = .pointer (some a') := e1
          simp only [List.mapM_cons, resOne, e1']
          simp [asAddr, loadVar, run_tagg hag, run_tsize hsz, h4, h1]
    · rename_i n m' hag hsz hm
      cases hc
      simp only [RS.all, RS.get] at h
      cases hq : fr.get t <;> simp [hq] at h
      rename_i p
      cases p <;> simp at h
      rename_i ad
      cases hld : H.ld ad with
      | none => simp [hld] at h
      | some v =>
        cases hr : RS.all fr H m' with
        | none => simp [hld, hr] at h
        | some us =>
          simp [hld, hr] at h
          subst h
          obtain ⟨vs', h1, h2⟩ := res_sim F R l m' us hm hr
          have hv := F t
          rw [hq] at hv
          obtain ⟨a', v', e1, e2, e3⟩ := ok_ld R hv hld
          refine ⟨v' :: vs', ?_, .cons e3 h2⟩
          have e1' : a.tmps.getD t undef = .pointer (some a') := e1
          simp only [List.mapM_cons, resOne, e1']
          simp [asAddr, loadVar, run_tagg hag, e2, h1]
    · cases hc
theorem results_sim {w0 w : World} {φ : Phi} {H : AH} {fr : Fr} {a : Act} (F : FrR φ fr a) (R : Rel w0 φ H w) {fn : Func} {m : List RS} {vs : List Value} (hc : cRes P fn.results.toList = some m) (h : RS.all fr H m = some vs) :
    ∃ v', (results fn a.tmps).run P w = .ok v' w ∧ V φ (outOf vs) v' := by
  obtain ⟨vs', h1, h2⟩ := res_sim F R _ _ _ hc h
  rw [results_list]
  simp only [Sem.run_bind, h1, Result.andThen_ok, Sem.run_pure]
  cases h2 with
  | nil => exact ⟨_, rfl, .tuple .nil⟩
  | cons x y =>
    cases y with
    | nil => exact ⟨_, rfl, x⟩
    | cons y z =>
      refine ⟨_, rfl, ?_⟩
      simp only [List.size_toArray, List.length_cons]
      rw [dif_neg (by omega)]
      exact .tuple (.cons x (.cons y z))
theorem Fr.get_ofFrom : ∀ (l : List Value) (i : Nat) (f : Fr) (t : Nat), (Fr.ofFrom i l f).get t = if i ≤ t ∧ t < i + l.length then l.getD (t - i) undef else f.get t
  | [], i, f, t => by
    simp only [Fr.ofFrom, List.length_nil]
    rw [if_neg (by omega)]
  | v :: l, i, f, t => by
    simp only [Fr.ofFrom, List.length_cons]
    rw [Fr.get_ofFrom l, Fr.get_put]
    by_cases h1 : t = i
    · subst h1
      rw [if_neg (by omega), if_pos rfl, if_pos (by omega)]
      simp
    · by_cases h2 : i + 1 ≤ t ∧ t < i + 1 + l.length
      · rw [if_pos h2, if_pos (by omega)]
        obtain ⟨k, hk⟩ : ∃ k, t - i = k + 1 := ⟨t - i - 1, by omega⟩
        rw [hk, show t - (i + 1) = k by omega]
        simp
      · rw [if_neg h2, if_neg h1, if_neg (by omega)]
theorem Fr.get_nil (t : Nat) : (⟨.nil⟩ : Fr).get t = undef := by
  unfold Fr.get
  cases t <;> rfl
theorem Fr.get_of (l : List Value) (t : Nat) : (Fr.of l).get t = l.getD t undef := by
  unfold Fr.of
  rw [Fr.get_ofFrom, Fr.get_nil]
  split
  · rfl
  · rename_i h
    simp only [List.getD_eq_getElem?_getD]
    rw [List.getElem?_eq_none (by omega)]
    rfl
theorem getD_params {φ : Phi} {as : List Value} {as' : Array Value} (k : Nat) (h : VL φ as as'.toList) (t : Nat) : V φ ((Fr.of as).get t) ((as' ++ Array.replicate k undef).getD t undef) := by
  rw [Fr.get_of]
  have hl := h.length
  simp only [List.getD_eq_getElem?_getD]
  cases ht : as[t]? with
  | some v =>
    obtain ⟨v', e, hv⟩ := h.get t v ht
    have hlt : t < as'.size := by
      have := (List.getElem?_eq_some_iff.1 e).1
      simpa using this
    have e2 : (as' ++ Array.replicate k undef).getD t undef = v' := by
      rw [Array.getD_eq_getD_getElem?, Array.getElem?_append_left hlt]
      simp only [Array.getElem?_toList] at e
      rw [e]
      rfl
    rw [e2]
    exact hv
  | none =>
    have hge := List.getElem?_eq_none_iff.1 ht
    have e2 : (as' ++ Array.replicate k undef).getD t undef = undef := by
      rw [Array.getD_eq_getD_getElem?, Array.getElem?_append_right (by rw [← Array.length_toList, ← hl]; exact hge)]
      rw [Array.getElem?_replicate]
      split <;> rfl
    rw [e2]
    exact undefV _

/-- The functions' codes are the program's. -/
def EnvOk (P : Program) (E : Env) : Prop := ∀ f F, E f = some F → ∃ fn, P.funcs[f]? = some fn ∧ cFunc P fn = some F
abbrev Orc := Nat → Option (List Value → AH → Option (Value × AH))
def OrcOk (P : Program) (O : Orc) : Prop := ∀ f g, O f = some g → ∀ as H v H', g as H = some (v, H') → HasF P f ∧ SimF P f as H v H'
theorem runF_ok (hm : P.follows .mixedOrders = true) {E : Env} {O : Orc} (hE : EnvOk P E) (hO : OrcOk P O) : ∀ n, CallOk P (runF E O n)
  | 0 => fun f as H v H' h => by simp [runF] at h
  | n + 1 => fun f as H v H' h => by
    have ih := runF_ok hm hE hO n
    simp only [runF] at h
    cases ho : O f with
    | some g =>
      simp only [ho] at h
      exact hO f g ho as H v H' h
    | none =>
      simp only [ho] at h
      cases he : E f with
      | none => simp [he] at h
      | some F =>
        simp only [he] at h
        obtain ⟨hlen, h⟩ := bif_some h
        obtain ⟨fn, hf, hc⟩ := hE f F he
        unfold cFunc at hc
        cases hb : fn.body with
        | none => simp [hb] at hc
        | some c =>
          simp only [hb] at hc
          split at hc
          case h_2 => cases hc
          rename_i x r hx hr
          split at hc
          case isTrue => cases hc
          rename_i hname
          cases hc
          simp only [Bool.or_eq_true, not_or, Bool.not_eq_true, decide_eq_false_iff_not, Nat.not_lt] at hname
          refine ⟨⟨fn, hf, by rw [hb]; rfl, hname.1⟩, ?_⟩
          intro w0 φ w as' R R0 hv
          refine calls_of_wp hf hb ?_
          have hsz : as'.size = fn.params.size + fn.nfree := by
            have := hv.length
            rw [nb] at hlen
            simp at hlen this
            omega
          cases hcode : codeR (runF E O n) n x (Fr.of as) H with
          | none => simp [hcode] at h
          | some q =>
            obtain ⟨ex, fr, H1⟩ := q
            have hw := codeSim ih (drawOk hm ih) n c x (w0 := w0) (w := w) (φ := φ) (a := { tmps := as' ++ Array.replicate (fn.ntmps - as'.size) undef, defers := [] }) hx hcode (fun t => getD_params _ hv t) R R0 (by simp; omega) rfl
            refine wp_mono hw ?_
            rintro e a2 w2 ⟨rfl, φ2, R2, G2, F2, hs2, hd2⟩
            cases ex with
            | exit i => simp [hcode] at h
            | normal =>
              simp only [hcode] at h
              cases hra : RS.all fr H1 r with
              | none => simp [hra] at h
              | some vs =>
                simp only [hra, Option.some.injEq, Prod.mk.injEq] at h
                obtain ⟨rfl, rfl⟩ := h
                obtain ⟨v', h1, h2⟩ := results_sim F2 R2 hr hra
                exact ⟨hd2, v', h1, φ2, v', rfl, h2, R2, G2⟩
            | ret =>
              simp only [hcode] at h
              cases hra : RS.all fr H1 r with
              | none => simp [hra] at h
              | some vs =>
                simp only [hra, Option.some.injEq, Prod.mk.injEq] at h
                obtain ⟨rfl, rfl⟩ := h
                obtain ⟨v', h1, h2⟩ := results_sim F2 R2 hr hra
                exact ⟨hd2, v', h1, φ2, v', rfl, h2, R2, G2⟩
end
end Go.Proofs.YtoijnpfpjpefgaaGreat.A
