/- Regions that draw their order: what the compiler has checked. -/
import Derived.Test.YtoijnpfpjpefgaaGreatAbsF
set_option linter.unusedVariables false
set_option linter.unusedSimpArgs false
namespace Go.Proofs.YtoijnpfpjpefgaaGreat.A
open Go

theorem nth_eq {α : Type} : ∀ (l : List α) (n : Nat), nth l n = l[n]?
  | [], n => by simp [nth]
  | x :: l, 0 => by simp [nth]
  | x :: l, n + 1 => by simp [nth, nth_eq l n]
theorem opsT_spec {call : Cl} : ∀ (l : List AO) (fr : Fr) (H : AH) (ss : List (Fr × AH)), opsT call l fr H = some ss →
    ss.length = l.length ∧ lastS (fr, H) ss = (((fr, H) :: ss)[l.length]?).getD (fr, H) ∧
    ∀ t o, l[t]? = some o → ∃ s s', ((fr, H) :: ss)[t]? = some s ∧ ((fr, H) :: ss)[t + 1]? = some s' ∧ aone call o s.1 s.2 = some s'
  | [], fr, H, ss, h => by
    simp only [opsT, Option.some.injEq] at h
    subst h
    exact ⟨rfl, rfl, fun t o h => (by simp at h)⟩
  | o :: l, fr, H, ss, h => by
    simp only [opsT] at h
    cases h1 : aone call o fr H with
    | none => simp [h1] at h
    | some r =>
      obtain ⟨fr', H'⟩ := r
      simp only [h1] at h
      cases h2 : opsT call l fr' H' with
      | none => simp [h2] at h
      | some ss' =>
        simp only [h2, Option.some.injEq] at h
        subst h
        obtain ⟨e1, e2, e3⟩ := opsT_spec l fr' H' ss' h2
        refine ⟨by simp [e1], ?_, fun t o' ho => ?_⟩
        · simp only [lastS, e2, List.length_cons, List.getElem?_cons_succ]
          cases hq : ((fr', H') :: ss')[l.length]? with
          | some q => rfl
          | none =>
            have := List.getElem?_eq_none_iff.1 hq
            simp only [List.length_cons, e1] at this
            omega
        · cases t with
          | zero =>
            simp only [List.getElem?_cons_zero, Option.some.injEq] at ho
            subst ho
            exact ⟨_, _, rfl, rfl, h1⟩
          | succ t =>
            obtain ⟨s, s', a1, a2, a3⟩ := e3 t o' (by simpa using ho)
            exact ⟨s, s', by simpa using a1, by simpa using a2, a3⟩
theorem chain_spec : ∀ (l : List (Fr × AH)), chain l = true → ∀ t s s', l[t]? = some s → l[t + 1]? = some s' → s'.2.n0 = s.2.n0 ∧ s.2.nx ≤ s'.2.nx
  | [], _, t, s, s', h, _ => by simp at h
  | [a], _, t, s, s', _, h => by simp at h
  | a :: b :: l, hc, t, s, s', h1, h2 => by
    simp only [chain, Bool.and_eq_true, nb, decide_eq_true_eq, Nat.ble_eq] at hc
    cases t with
    | zero =>
      simp at h1 h2
      subst h1
      subst h2
      exact ⟨hc.1.1.symm, hc.1.2⟩
    | succ t => exact chain_spec (b :: l) hc.2 t s s' (by simpa using h1) (by simpa using h2)

theorem rowsA_spec {l : List AO} {dp : List (List Nat)} : ∀ (ord : List Nat) (am : List (Nat × Nat)) (t : Nat) (r : Row), (rowsA l dp ord am)[t]? = some r →
    l[r.j]? = some r.o ∧ r.k = knd r.o.o ∧ dp[r.j]? = some r.dep ∧
      ∀ i, r.m.testBit i = true → ∃ e ∈ r.dep, e = i ∨ (∃ q < t, ∃ r' : Row, (rowsA l dp ord am)[q]? = some r' ∧ r'.j = e ∧ r'.m.testBit i = true) ∨ (lookM e am).testBit i = true
  | [], am, t, r, h => by simp [rowsA] at h
  | j :: ord, am, t, r, h => by
    simp only [rowsA] at h ⊢
    cases hl : nth l j with
    | none => simp [hl] at h
    | some o =>
      cases hd : nth dp j with
      | none => simp [hl, hd] at h
      | some d =>
        simp only [hl, hd] at h ⊢
        cases t with
        | zero =>
          simp only [List.getElem?_cons_zero, Option.some.injEq] at h
          subst h
          refine ⟨by rw [← nth_eq]; exact hl, rfl, by rw [← nth_eq]; exact hd, fun i hi => ?_⟩
          have key : ∀ (d : List Nat), (maskOf am d).testBit i = true → ∃ e ∈ d, e = i ∨ (lookM e am).testBit i = true := by
            intro d
            induction d with
            | nil => intro h; simp [maskOf] at h
            | cons e d ih =>
              intro h
              simp only [maskOf, Nat.testBit_or, Bool.or_eq_true] at h
              rcases h with h | h | h
              · obtain ⟨e', h1, h2⟩ := ih h
                exact ⟨e', List.mem_cons_of_mem _ h1, h2⟩
              · refine ⟨e, List.mem_cons_self, .inl ?_⟩
                rw [Nat.one_shiftLeft, Nat.testBit_two_pow] at h
                simpa using h
              · exact ⟨e, List.mem_cons_self, .inr h⟩
          obtain ⟨e, h1, h2⟩ := key d hi
          exact ⟨e, h1, h2.imp id .inr⟩
        | succ t =>
          simp only [List.getElem?_cons_succ] at h
          obtain ⟨h1, h2, h3, h4⟩ := rowsA_spec ord _ t r h
          refine ⟨h1, h2, h3, fun i hi => ?_⟩
          obtain ⟨e, he, h5⟩ := h4 i hi
          refine ⟨e, he, ?_⟩
          rcases h5 with h5 | ⟨q, hq, r', h6, h7, h8⟩ | h5
          · exact .inl h5
          · exact .inr (.inl ⟨q + 1, by omega, r', by simpa using h6, h7, h8⟩)
          · simp only [lookM, nb, Bool.cond_decide] at h5
            split at h5
            · rename_i hje
              exact .inr (.inl ⟨0, by omega, _, rfl, hje, h5⟩)
            · exact .inr (.inr h5)
theorem linOk_spec : ∀ (rs : List Row) (done : List Nat), linOk rs done = true → ∀ (t : Nat) (r : Row), rs[t]? = some r →
    (r.j ∉ done ∧ ∀ (q : Nat) (r' : Row), q < t → rs[q]? = some r' → r'.j ≠ r.j) ∧ ∀ e ∈ r.dep, e ∈ done ∨ ∃ q < t, ∃ r' : Row, rs[q]? = some r' ∧ r'.j = e
  | [], _, _, t, r, h => by simp at h
  | y :: rs, done, h, t, r, hr => by
    simp only [linOk, Bool.and_eq_true, Bool.not_eq_true', List.all_eq_true] at h
    obtain ⟨⟨h1, h2⟩, h3⟩ := h
    cases t with
    | zero =>
      simp only [List.getElem?_cons_zero, Option.some.injEq] at hr
      subst hr
      refine ⟨⟨fun hm => ?_, fun q _ hq => by omega⟩, fun e he => .inl (memN_iff.1 (h2 e he))⟩
      rw [memN_iff.2 hm] at h1
      cases h1
    | succ t =>
      simp only [List.getElem?_cons_succ] at hr
      obtain ⟨⟨h4, h5⟩, h6⟩ := linOk_spec rs _ h3 t r hr
      refine ⟨⟨fun hm => h4 (List.mem_cons_of_mem _ hm), fun q r' hq hr' => ?_⟩, fun e he => ?_⟩
      · cases q with
        | zero =>
          simp only [List.getElem?_cons_zero, Option.some.injEq] at hr'
          subst hr'
          exact fun e => h4 (by rw [← e]; exact List.mem_cons_self)
        | succ q => exact h5 q r' (by omega) (by simpa using hr')
      · rcases h6 e he with h7 | ⟨q, hq, r', h8, h9⟩
        · rcases List.mem_cons.1 h7 with rfl | h7
          · exact .inr ⟨0, by omega, y, rfl, rfl⟩
          · exact .inl h7
        · exact .inr ⟨q + 1, by omega, r', by simpa using h8, h9⟩
theorem pw_spec : ∀ (rs : List Row), pw rs = true → ∀ (p q : Nat) (x y : Row), p < q → rs[p]? = some x → rs[q]? = some y → pairB x y = true
  | [], _, p, q, x, y, _, h, _ => by simp at h
  | z :: rs, h, p, q, x, y, hpq, hx, hy => by
    simp only [pw, Bool.and_eq_true, List.all_eq_true] at h
    cases q with
    | zero => omega
    | succ q =>
      simp only [List.getElem?_cons_succ] at hy
      cases p with
      | zero =>
        simp only [List.getElem?_cons_zero, Option.some.injEq] at hx
        subst hx
        exact h.1 y (List.mem_of_getElem? hy)
      | succ p => exact pw_spec rs h.2 p q x y (by omega) (by simpa using hx) hy
theorem conRow_spec {p : Nat} {x : Row} : ∀ (rs : List Row) (q0 q : Nat) (y : Row), rs[q]? = some y → ∀ c ∈ con1 p (q0 + q) x y, c ∈ conRow p x q0 rs
  | [], q0, q, y, h, c, _ => by simp at h
  | z :: rs, q0, q, y, h, c, hc => by
    simp only [conRow]
    cases q with
    | zero =>
      simp only [List.getElem?_cons_zero, Option.some.injEq] at h
      subst h
      exact List.mem_append_left _ (by simpa using hc)
    | succ q =>
      exact List.mem_append_right _ (conRow_spec rs (q0 + 1) q y (by simpa using h) c (by rwa [show q0 + 1 + q = q0 + (q + 1) by omega]))
theorem consD_spec : ∀ (rs : List Row) (p0 p q : Nat) (x y : Row), p < q → rs[p]? = some x → rs[q]? = some y → ∀ c ∈ con1 (p0 + p) (p0 + q) x y, c ∈ consD p0 rs
  | [], _, p, q, x, y, _, h, _, _, _ => by simp at h
  | z :: rs, p0, p, q, x, y, hpq, hx, hy, c, hc => by
    simp only [consD]
    cases q with
    | zero => omega
    | succ q =>
      simp only [List.getElem?_cons_succ] at hy
      cases p with
      | zero =>
        simp only [List.getElem?_cons_zero, Option.some.injEq] at hx
        subst hx
        exact List.mem_append_left _ (conRow_spec rs (p0 + 1) q y hy c (by rwa [show p0 + 1 + q = p0 + (q + 1) by omega]))
      | succ p =>
        refine List.mem_append_right _ (consD_spec rs (p0 + 1) p q x y (by omega) (by simpa using hx) hy c ?_)
        rwa [show p0 + 1 + p = p0 + (p + 1) by omega, show p0 + 1 + q = p0 + (q + 1) by omega]
theorem upTo_mem {n i : Nat} (h : i < n) : i ∈ upTo n := by
  induction n with
  | zero => omega
  | succ n ih =>
    simp only [upTo, List.mem_cons]
    by_cases e : i = n
    · exact .inl e
    · exact .inr (ih (by omega))
def noRow : Row := ⟨⟨none, none, .mkmap⟩, .pure, 0, [], 0⟩
def rowAt (rs : List Row) (t : Nat) : Row := (rs[t]?).getD noRow
def ancR (rs : List Row) (p q : Nat) : Prop := (rowAt rs q).m.testBit (rowAt rs p).j = true
theorem rowAt_get {rs : List Row} {t : Nat} (h : t < rs.length) : rs[t]? = some (rowAt rs t) := by
  unfold rowAt
  rw [List.getElem?_eq_getElem h]
  rfl
/-- The states of the canonical run. -/
def stF (s0 : Fr × AH) (ss : List (Fr × AH)) (t : Nat) : Fr := (((s0 :: ss)[t]?).getD s0).1
def stH (s0 : Fr × AH) (ss : List (Fr × AH)) (t : Nat) : AH := (((s0 :: ss)[t]?).getD s0).2
theorem run_of {call : Cl} {rs : List Row} (hk : ∀ (t : Nat) (r : Row), rs[t]? = some r → r.k = knd r.o.o) (hpw : pw rs = true) {fr : Fr} {H : AH} {ss : List (Fr × AH)} (hT : opsT call (rs.map (·.o)) fr H = some ss) (hch : chain ((fr, H) :: ss) = true)
    (hck : (consD 0 rs).all (chk1 (rs.map (·.o)) ((fr, H) :: ss)) = true) :
    Run call (fun t => (rowAt rs t).o) rs.length (stF (fr, H) ss) (stH (fr, H) ss) (ancR rs) := by
  obtain ⟨hlen, _, hst⟩ := opsT_spec _ _ _ _ hT
  have st : ∀ t, t < rs.length → ∃ s s', ((fr, H) :: ss)[t]? = some s ∧ ((fr, H) :: ss)[t + 1]? = some s' ∧ aone call (rowAt rs t).o s.1 s.2 = some s' :=
    fun t ht => hst t (rowAt rs t).o (by rw [List.getElem?_map, rowAt_get ht]; rfl)
  have con : ∀ p q, p < q → q < rs.length → ∀ c ∈ con1 p q (rowAt rs p) (rowAt rs q), chk1 (rs.map (·.o)) ((fr, H) :: ss) c = true := by
    intro p q hpq hq c hc
    exact List.all_eq_true.1 hck c (consD_spec rs 0 p q _ _ hpq (rowAt_get (by omega)) (rowAt_get hq) c (by simpa using hc))
  have un : ∀ p q k, p < q → q < rs.length → (rowAt rs p).o.wanted (stF (fr, H) ss p) = true → (rowAt rs q).o.wanted (stF (fr, H) ss q) = true → chk1 (rs.map (·.o)) ((fr, H) :: ss) (k, p, q) = true →
      (match k with
        | 0 => match loadOf (rowAt rs p).o (stF (fr, H) ss p) (stH (fr, H) ss p) with | some x => sameAt (stH (fr, H) ss (q + 1)) x | none => false
        | 1 => sameB ((stH (fr, H) ss (p + 1)).get (stH (fr, H) ss p).nx) ((stH (fr, H) ss (q + 1)).get (stH (fr, H) ss p).nx)
        | _ => match adrOf (rowAt rs p).o (stF (fr, H) ss p), adrOf (rowAt rs q).o (stF (fr, H) ss q) with | some b, some b' => !Nat.beq b b' | _, _ => true) = true := by
    intro p q k hpq hq wp wq h
    obtain ⟨s1, s2, a1, a2, _⟩ := st p (by omega)
    obtain ⟨s3, s4, a3, a4, _⟩ := st q hq
    have e1 : (rs.map (·.o))[p]? = some (rowAt rs p).o := by rw [List.getElem?_map, rowAt_get (by omega)]; rfl
    have e2 : (rs.map (·.o))[q]? = some (rowAt rs q).o := by rw [List.getElem?_map, rowAt_get hq]; rfl
    unfold stF stH at *
    rw [a1, Option.getD_some] at wp
    rw [a3, Option.getD_some] at wq
    unfold chk1 at h
    simp only [nth_eq, e1, e2, a1, a2, a3, a4, wp, wq, Bool.not_true, Bool.false_or] at h
    rw [a1, a2, a3, a4]
    simp only [Option.getD_some]
    exact h
  refine ⟨fun t ht => ?_, fun t ht => ?_, fun t ht => ?_, fun p q hpq hq => ?_, ?_, ?_, ?_⟩
  · obtain ⟨s, s', h1, h2, h3⟩ := st t ht
    unfold stF stH
    rw [h1, h2]
    exact h3
  · obtain ⟨s, s', h1, h2, h3⟩ := st t ht
    unfold stH
    rw [h1, h2]
    exact (chain_spec _ hch t s s' h1 h2).1
  · obtain ⟨s, s', h1, h2, h3⟩ := st t ht
    unfold stH
    rw [h1, h2]
    exact (chain_spec _ hch t s s' h1 h2).2
  · have := pw_spec rs hpw p q _ _ hpq (rowAt_get (by omega)) (rowAt_get hq)
    simp only [pairB, Bool.or_eq_true, Bool.and_eq_true] at this
    rw [← hk p _ (rowAt_get (by omega)), ← hk q _ (rowAt_get hq)]
    rcases this with h | ⟨⟨h1, h2⟩, h3⟩
    · exact .inl h
    · exact .inr ⟨h1, h2, h3⟩
  · intro p q hpq hq hn wp wq kp kq
    rw [← hk p _ (rowAt_get (by omega))] at kp
    rw [← hk q _ (rowAt_get hq)] at kq
    have := un p q 0 hpq hq wp wq (con p q hpq hq _ (by
      unfold con1
      rw [show (rowAt rs q).m.testBit (rowAt rs p).j = false from Bool.eq_false_iff.2 hn, kp, kq]
      simp))
    simp only at this
    split at this
    · rename_i x hx
      exact ⟨x, hx, this⟩
    · cases this
  · intro p q hpq hq hn wp wq kp kq
    rw [← hk p _ (rowAt_get (by omega))] at kp
    rw [← hk q _ (rowAt_get hq)] at kq
    have := un p q 1 hpq hq wp wq (con p q hpq hq _ (by
      unfold con1
      rw [show (rowAt rs q).m.testBit (rowAt rs p).j = false from Bool.eq_false_iff.2 hn, kp, kq]
      simp))
    exact (sameB_eq this).symm
  · intro p q hpq hq hn wp wq kp kq b b' hb hb'
    rw [← hk p _ (rowAt_get (by omega))] at kp
    rw [← hk q _ (rowAt_get hq)] at kq
    have := un p q 2 hpq hq wp wq (con p q hpq hq _ (by
      unfold con1
      rw [show (rowAt rs q).m.testBit (rowAt rs p).j = false from Bool.eq_false_iff.2 hn, kq]
      rcases kp with kp | kp | kp <;> rw [kp] <;> simp))
    simp only [hb, hb', nb] at this
    simpa using this
end Go.Proofs.YtoijnpfpjpefgaaGreat.A
