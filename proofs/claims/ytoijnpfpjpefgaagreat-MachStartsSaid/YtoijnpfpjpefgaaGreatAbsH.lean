/- Regions that draw their order: the model follows the machine. -/
import Derived.Test.YtoijnpfpjpefgaaGreatAbsG
set_option linter.unusedVariables false
set_option linter.unusedSimpArgs false
namespace Go.Proofs.YtoijnpfpjpefgaaGreat.A
open Go Go.RowKit
section
variable {P : Program}

theorem Rel.of_raw {w0 w : World} {φ : Phi} {H H1 : AH} (R : Rel w0 φ H w) (h : ∀ b, φ.m b ≠ none → H1.raw b = H.raw b) (h0 : H1.n0 = H.n0) (hx : φ.n0 ≤ H1.nx) : Rel w0 φ H1 w where
  n0 := h0.trans R.n0
  le1 := R.le1
  le2 := hx
  c0 := R.c0
  below := R.below
  oldm := R.oldm
  oldc := fun b z cs hb hg => R.oldc b z cs hb (by rw [← h b (by rw [R.oldm b hb]; simp)]; exact hg)
  cells := fun b l z cs hb hl hg => R.cells b l z cs hb hl (by rw [← h b (by rw [hl]; simp)]; exact hg)
  maps := fun b l es hb hl hg => R.maps b l es hb hl (by rw [← h b (by rw [hl]; simp)]; exact hg)
  inj := fun b1 b2 l1 l2 hb1 hb2 h1 h2 s1 s2 hc => R.inj b1 b2 l1 l2 hb1 hb2 h1 h2 (by rw [← h b1 (by rw [h1]; simp)]; exact s1) (by rw [← h b2 (by rw [h2]; simp)]; exact s2) hc
theorem Grow.comp {φ φ1 φ2 : Phi} {H HN Hx Hy : AH} {w w1 w2 : World} (h : Grow φ H w φ1 HN w1) (k : Grow φ1 Hx w1 φ2 Hy w2) (h1 : H.nx ≤ Hx.nx) (h2 : Hy.nx ≤ HN.nx) : Grow φ H w φ2 HN w2 where
  le := Phi.le_trans h.le k.le
  n0 := k.n0.trans h.n0
  c0 := k.c0.trans h.c0
  nx := h.nx
  new := fun b l e e2 => by
    cases e1 : φ1.m b with
    | none => exact ⟨Nat.le_trans h1 (k.new b l e1 e2).1, Nat.lt_of_lt_of_le (k.new b l e1 e2).2 h2⟩
    | some l1 => exact h.new b l1 e e1
  size := Nat.le_trans h.size k.size
  fr := fun c hc hf => by
    obtain ⟨e1, f1⟩ := h.fr c hc hf
    obtain ⟨e2, f2⟩ := k.fr c (Nat.lt_of_lt_of_le hc h.size) f1
    exact ⟨e2.trans e1, f2⟩

theorem adr_ptr {φ : Phi} {fr : Fr} {a : Act} (F : FrR φ fr a) {x : X} (h : xok x = true) {d : Addr} (e : x.ev fr = .pointer (some d)) : φ.m d.block ≠ none := by
  cases x with
  | t n =>
    have := F n
    rw [show fr.get n = .pointer (some d) from e] at this
    obtain ⟨l, _, hl, _⟩ := this.ptr1
    rw [hl]; simp
  | k v => rw [show v = .pointer (some d) from e] at h; cases h
  | f n => cases e
theorem adr_map {φ : Phi} {fr : Fr} {a : Act} (F : FrR φ fr a) {x : X} (h : xok x = true) {d : Nat} (e : x.ev fr = .map (some d)) : φ.m d ≠ none := by
  cases x with
  | t n =>
    have := F n
    rw [show fr.get n = .map (some d) from e] at this
    obtain ⟨l, hl, _⟩ := this.mp1
    rw [hl]; simp
  | k v => rw [show v = .map (some d) from e] at h; cases h
  | f n => cases e
theorem adr_sl {φ : Phi} {fr : Fr} {a : Act} (F : FrR φ fr a) {x : X} (h : xok x = true) {d : Addr} {n c : Nat} (e : x.ev fr = .slice (some d) n c) (hs : d.spot = none) : φ.m d.block ≠ none := by
  cases x with
  | t m =>
    have := F m
    rw [show fr.get m = .slice (some d) n c from e] at this
    rcases this.sl1 with ⟨l, c', _, hl, _⟩ | ⟨h1, _⟩
    · rw [hl]; simp
    · rw [hs] at h1; cases h1
  | k v => rw [show v = .slice (some d) n c from e] at h; cases h
  | f n => cases e
theorem adr_dm {φ : Phi} {fr : Fr} {a : Act} (F : FrR φ fr a) {o : AO} (h : o.o.xs.all xok = true) {b : Nat} (e : adrOf o fr = some b) : φ.m b ≠ none := by
  unfold adrOf at e
  cases hp : o.o <;> simp only [hp, AOp.xs, List.all_cons, Bool.and_eq_true] at h e <;> (try (cases e; done))
  case st n x v =>
    split at e <;> cases e
    rename_i hx
    exact adr_ptr F h.1 hx
  case ld x =>
    split at e <;> cases e
    rename_i hx
    exact adr_ptr F h.1 hx
  case ldn n x =>
    split at e <;> cases e
    rename_i hx
    exact adr_ptr F h.1 hx
  case look kk z x k ok =>
    split at e <;> cases e
    rename_i hx
    exact adr_map F h.1 hx
  case sl sz x lo hi mx =>
    split at e
    · rename_i hx
      obtain ⟨hs, e⟩ := bif_some e
      cases e
      exact adr_sl F h.1 hx (by simpa using hs)
    · cases e

/-! ### All the steps -/
def unD (S : Nat → Bool) : Nat → Nat
  | 0 => 0
  | m + 1 => unD S m + (bif S m then 0 else 1)
theorem unD_zero {S : Nat → Bool} : ∀ {m : Nat}, unD S m = 0 → ∀ t, t < m → S t = true
  | 0, _, t, h => by omega
  | m + 1, h, t, ht => by
    simp only [unD] at h
    by_cases e : t = m
    · subst e
      cases hS : S t with
      | true => rfl
      | false => rw [hS] at h; simp at h
    · exact unD_zero (m := m) (by omega) t (by omega)
theorem unD_le {S S' : Nat → Bool} : ∀ {m : Nat}, (∀ t, t < m → S t = true → S' t = true) → unD S' m ≤ unD S m
  | 0, _ => Nat.le_refl _
  | m + 1, h => by
    have := unD_le (S := S) (S' := S') (m := m) fun t ht => h t (by omega)
    simp only [unD]
    cases hS : S m with
    | true => rw [h m (by omega) hS]; simpa using this
    | false => cases S' m <;> simp <;> omega
theorem unD_ins {S : Nat → Bool} {t : Nat} (hS : S t = false) : ∀ {m : Nat}, t < m → unD (ins S t) m + 1 ≤ unD S m
  | 0, h => by omega
  | m + 1, h => by
    simp only [unD]
    by_cases e : t = m
    · subst e
      rw [ins_self, hS]
      have := unD_le (S := S) (S' := ins S t) (m := t) fun p _ hp => by
        by_cases e : p = t
        · subst e; exact ins_self
        · rw [ins_ne e]; exact hp
      simp; omega
    · rw [ins_ne (fun h => e h.symm)]
      have := unD_ins hS (m := m) (by omega)
      omega
theorem unD_all {m : Nat} : unD (fun _ => false) m = m := by
  induction m with
  | zero => rfl
  | succ m ih => simp [unD, ih]
/-- The places that are done. -/
def Sof (rs : List Row) (listed : Array Bool) (t : Nat) : Bool := listed.getD (rowAt rs t).j false
structure InvD (w0 w : World) (φ : Phi) (O : Nat → AO) (n : Nat) (sF : Nat → Fr) (sH : Nat → AH) (nt : Nat) (S : Nat → Bool) (φ1 : Phi) (a1 : Act) (w1 : World) : Prop where
  rel : Rel w0 φ1 (mkH O sF sH S n (sH n).nx) w1
  frr : FrR φ1 (frS O sF S n) a1
  size : a1.tmps.size = nt
  defs : a1.defers = []
  dom : Dom O n sF sH S (fun b => φ1.m b ≠ none)
  grow : Grow φ (sH 0) w φ1 (sH n) w1
theorem stepD {call : Cl} (hcall : CallOk P call) {O : Nat → AO} {n : Nat} {sF : Nat → Fr} {sH : Nat → AH} {anc : Nat → Nat → Prop} (R : Run call O n sF sH anc) {w0 w : World} {φ : Phi} (hb : φ.n0 ≤ (sH 0).nx) {nt : Nat} {S : Nat → Bool} {t : Nat} (C : Cls n anc S t)
    {φ1 : Phi} {a1 : Act} {w1 : World} (I : InvD w0 w φ O n sF sH nt S φ1 a1 w1) {opsA : Array Oper} {j : Nat} {o : Oper} (hj : opsA[j]? = some o) (hc : cAO P nt opsA o = some (O t)) (hx : (O t).o.xs.all xok = true)
    {Q : Exit → Act → World → Prop} {K : Act → World → Prop} (hK : ∀ φ2 a2 w2, InvD w0 w φ O n sF sH nt (ins S t) φ2 a2 w2 → K a2 w2) : wpOp P opsA Q j K a1 w1 := by
  obtain ⟨Hx, Hy, St⟩ := R.stepAt I.dom C (fun _ b hb => adr_dm I.frr hx (by rw [adr_xs (R.agree C)]; exact hb))
  have hlo : φ1.n0 ≤ Hx.nx := by rw [I.grow.n0]; exact Nat.le_trans hb St.lo
  refine oneSim hcall hj hc I.frr (I.rel.of_raw (fun b hb => St.pre b hb) St.n0x hlo) (Classical.not_not.1 St.out) (fun hk b hb => Classical.not_not.1 (St.fresh hk b hb)) I.size I.defs St.run ?_
  intro φ2 v v' w2 R2 G2 hv hfr F2 hs2 hd2
  refine hK φ2 _ w2 ⟨?_, ?_, hs2, hd2, ?_, I.grow.comp G2 St.lo St.hi⟩
  · refine R2.of_raw (fun b _ => St.post b) St.n0y.symm ?_
    show φ2.n0 ≤ (sH n).nx
    rw [G2.n0, I.grow.n0]
    exact Nat.le_trans hb (R.nxle (Nat.zero_le n) (Nat.le_refl _))
  · intro x
    rw [R.frS_ins C x]
    exact F2 x
  · refine ⟨fun b hb => ?_, fun p hp hS w k b had => ?_⟩
    · by_cases h1 : φ1.m b = none
      · obtain ⟨l, hl⟩ : ∃ l, φ2.m b = some l := by
          cases h2 : φ2.m b with
          | none => exact absurd h2 hb
          | some l => exact ⟨l, rfl⟩
        have h3 := G2.new b l h1 hl
        have h4 := St.new b h3.1 h3.2
        exact .inr ⟨t, C.lt, ins_self, h4.1, h4.2⟩
      · rcases I.dom.dom b h1 with h | ⟨p, hp, hS, h2, h3⟩
        · exact .inl h
        · refine .inr ⟨p, hp, ?_, h2, h3⟩
          by_cases e : p = t
          · subst e; exact ins_self
          · rw [ins_ne e]; exact hS
    · have up : ∀ b, φ1.m b ≠ none → φ2.m b ≠ none := by
        intro b h
        cases h1 : φ1.m b with
        | none => exact absurd h1 h
        | some l => rw [G2.le _ _ h1]; simp
      by_cases e : p = t
      · subst e
        exact up b (adr_dm I.frr hx (by rw [adr_xs (R.agree C)]; exact had))
      · rw [ins_ne e] at hS
        exact up b (I.dom.sts p hp hS w k b had)

theorem cAOs_get {nt : Nat} {opsA : Array Oper} : ∀ {l : List Oper} {aos : List AO}, cAOs P nt opsA l = some aos → aos.length = l.length ∧ ∀ (j : Nat) (o : Oper) (ao : AO), l[j]? = some o → aos[j]? = some ao → cAO P nt opsA o = some ao
  | [], aos, h => by
    simp [cAOs] at h
    subst h
    exact ⟨rfl, fun j o ao h => (by simp at h)⟩
  | x :: l, aos, h => by
    simp only [cAOs] at h
    cases h1 : cAO P nt opsA x with
    | none => simp [h1] at h
    | some y =>
      cases h2 : cAOs P nt opsA l with
      | none => simp [h1, h2] at h
      | some m =>
        simp only [h1, h2, Option.some.injEq] at h
        subst h
        obtain ⟨e1, e2⟩ := cAOs_get h2
        refine ⟨by simp [e1], fun j o ao ho ha => ?_⟩
        cases j with
        | zero =>
          simp at ho ha
          subst ho
          subst ha
          exact h1
        | succ j => exact e2 j o ao (by simpa using ho) (by simpa using ha)
theorem mem_dps {o : Oper} {i : Nat} : i ∈ dps o ↔ ∃ e ∈ o.after, Region.binds .any e = true ∧ e.on = i := by
  unfold dps
  rw [List.mem_filterMap]
  constructor
  · rintro ⟨e, he, h⟩
    cases hb : Region.binds .any e with
    | false => rw [hb] at h; cases h
    | true => rw [hb] at h; cases h; exact ⟨e, by simpa using he, hb, rfl⟩
  · rintro ⟨e, he, hb, rfl⟩
    exact ⟨e, by simpa using he, by rw [hb]; rfl⟩

theorem drawOk (hm : P.follows .mixedOrders = true) {call : Cl} (hcall : CallOk P call) : DrawOk P call := by
  intro nt id opsA ac hc l ck hac w0 w φ H H' fr fr' a h F R R0 hs hd
  obtain ⟨aos, ord, hl, hok, hac'⟩ := cDraw_rows hc
  generalize hrs : rowsA aos (opsA.toList.map dps) ord [] = rs at hok hac'
  rw [hac'] at hac
  cases hac
  simp only [rowsOk, Bool.and_eq_true, nb, decide_eq_true_eq, List.all_eq_true] at hok
  obtain ⟨⟨⟨⟨hxok, hlen⟩, hsur⟩, hlin⟩, hpw⟩ := hok
  obtain ⟨halen, haget⟩ := cAOs_get hl
  have hn : rs.length = opsA.size := by rw [hlen, halen]; simp
  -- the rows
  have row : ∀ t, t < rs.length → ∃ o, opsA[(rowAt rs t).j]? = some o ∧ cAO P nt opsA o = some (rowAt rs t).o ∧ (rowAt rs t).dep = dps o ∧ (rowAt rs t).o.o.xs.all xok = true := by
    intro t ht
    have hg := rowAt_get ht
    obtain ⟨h1, h2, h3, _⟩ := rowsA_spec ord [] t (rowAt rs t) (by rw [hrs]; exact hg)
    rw [List.getElem?_map] at h3
    cases ho : opsA.toList[(rowAt rs t).j]? with
    | none => simp [ho] at h3
    | some o =>
      simp [ho] at h3
      exact ⟨o, by simpa using ho, haget _ o _ ho h1, h3.symm, List.all_eq_true.2 (hxok _ (List.mem_of_getElem? hg))⟩
  have masks : ∀ t, t < rs.length → ∀ i, (rowAt rs t).m.testBit i = true → ∃ e ∈ (rowAt rs t).dep, e = i ∨ ∃ q < t, (rowAt rs q).j = e ∧ (rowAt rs q).m.testBit i = true := by
    intro t ht i hi
    obtain ⟨_, _, _, h4⟩ := rowsA_spec ord [] t (rowAt rs t) (by rw [hrs]; exact rowAt_get ht)
    obtain ⟨e, he, h5⟩ := h4 i hi
    refine ⟨e, he, ?_⟩
    rcases h5 with h5 | ⟨q, hq, r', h6, h7, h8⟩ | h5
    · exact .inl h5
    · rw [hrs] at h6
      have : rowAt rs q = r' := by unfold rowAt; rw [h6]; rfl
      exact .inr ⟨q, hq, by rw [this]; exact h7, by rw [this]; exact h8⟩
    · simp [lookM] at h5
  have lin : ∀ t, t < rs.length → (∀ q, q < t → (rowAt rs q).j ≠ (rowAt rs t).j) ∧ ∀ e ∈ (rowAt rs t).dep, ∃ q < t, (rowAt rs q).j = e := by
    intro t ht
    obtain ⟨⟨_, h1⟩, h2⟩ := linOk_spec rs [] hlin t _ (rowAt_get ht)
    refine ⟨fun q hq => h1 q _ hq (rowAt_get (by omega)), fun e he => ?_⟩
    rcases h2 e he with h3 | ⟨q, hq, r', h4, h5⟩
    · cases h3
    · exact ⟨q, hq, by unfold rowAt; rw [h4]; exact h5⟩
  have sur : ∀ i, i < opsA.size → ∃ t, t < rs.length ∧ (rowAt rs t).j = i := by
    intro i hi
    have := memN_iff.1 (hsur i (upTo_mem (by rw [halen]; simpa using hi)))
    obtain ⟨r, hr, e⟩ := List.mem_map.1 this
    obtain ⟨t, ht, e2⟩ := List.mem_iff_getElem.1 hr
    refine ⟨t, ht, ?_⟩
    unfold rowAt
    rw [List.getElem?_eq_getElem ht, Option.getD_some, e2]
    exact e
  have jlt : ∀ t, t < rs.length → (rowAt rs t).j < opsA.size := by
    intro t ht
    obtain ⟨o, ho, _⟩ := row t ht
    exact (Array.getElem?_eq_some_iff.1 ho).1
  -- the canonical run
  unfold opsD at h
  cases hT : opsT call (rs.map (·.o)) fr H with
  | none => simp [hT] at h
  | some ss =>
    simp only [hT] at h
    obtain ⟨hck, h⟩ := bif_some h
    simp only [Bool.and_eq_true] at hck
    have Rn := run_of (fun t r hr => (rowsA_spec ord [] t r (by rw [hrs]; exact hr)).2.1) hpw hT hck.1 hck.2
    have hlast := (opsT_spec _ _ _ _ hT).2.1
    rw [List.length_map] at hlast
    simp only [Option.some.injEq] at h
    rw [hlast] at h
    have hFn : stF (fr, H) ss rs.length = fr' := by unfold stF; rw [h]
    have hHn : stH (fr, H) ss rs.length = H' := by unfold stH; rw [h]
    have hF0 : stF (fr, H) ss 0 = fr := rfl
    have hH0 : stH (fr, H) ss 0 = H := rfl
    generalize stF (fr, H) ss = sF at *
    generalize stH (fr, H) ss = sH at *
    -- all orders
    have main : ∀ (fuel : Nat) (listed : Array Bool) (φ1 : Phi) (a1 : Act) (w1 : World), listed.size = opsA.size → unD (Sof rs listed) rs.length ≤ fuel →
        (∀ (j : Nat) (o : Oper), opsA[j]? = some o → listed.getD j false = true → ∀ e ∈ dps o, listed.getD e false = true) →
        InvD w0 w φ (fun t => (rowAt rs t).o) rs.length sF sH nt (Sof rs listed) φ1 a1 w1 →
        wpAny P .any opsA (Post w0 φ w H nt .normal fr' H') fuel listed a1 w1 := by
      have fin : ∀ (listed : Array Bool) (φ1 : Phi) (a1 : Act) (w1 : World), (∀ t, t < rs.length → Sof rs listed t = true) →
          InvD w0 w φ (fun t => (rowAt rs t).o) rs.length sF sH nt (Sof rs listed) φ1 a1 w1 → Post w0 φ w H nt .normal fr' H' .normal a1 w1 := by
        intro listed φ1 a1 w1 hall I
        refine ⟨rfl, φ1, ?_, ?_, ?_, I.size, I.defs⟩
        · rw [← hHn]
          refine I.rel.of_raw (fun b _ => ?_) (by rw [Rn.n0s _ (Nat.le_refl _)]; rfl) ?_
          · rw [mkH_raw, ← Rn.gS_all (Nat.le_refl _)]
            exact gS_eq fun p hp _ => (hall p hp).symm
          · rw [I.grow.n0]
            exact Nat.le_trans R.le2 (by rw [← hH0]; exact Rn.nxle (Nat.zero_le _) (Nat.le_refl _))
        · rw [← hHn, ← hH0]; exact I.grow
        · intro x
          rw [← hFn, ← Rn.frS_all (Nat.le_refl _)]
          rw [frS_eq (S := fun _ => true) (S' := Sof rs listed) fun p hp _ => (hall p hp).symm]
          exact I.frr x
      intro fuel
      induction fuel with
      | zero =>
        intro listed φ1 a1 w1 hsz hun hcd I
        have hall := unD_zero (Nat.le_zero.1 hun)
        refine ⟨?_, fin listed φ1 a1 w1 hall I⟩
        rw [List.eq_nil_iff_forall_not_mem]
        intro i hi
        obtain ⟨h0, o, ho, _⟩ := mem_ready.1 hi
        obtain ⟨t, ht, rfl⟩ := sur i (Array.getElem?_eq_some_iff.1 ho).1
        have h1 := hall t ht
        unfold Sof at h1
        have hlt : (rowAt rs t).j < listed.size := by rw [hsz]; exact jlt t ht
        simp [hlt] at h0 h1
        rw [h0] at h1
        cases h1
      | succ fuel ih =>
        intro listed φ1 a1 w1 hsz hun hcd I
        refine ⟨fun hr => ?_, fun i hi => ?_⟩
        · refine fin listed φ1 a1 w1 ?_ I
          intro t
          induction t using Nat.strongRecOn with
          | _ t iht =>
            intro ht
            cases hS : Sof rs listed t with
            | true => rfl
            | false =>
              exfalso
              obtain ⟨o, ho, _, hdep, _⟩ := row t ht
              have : (rowAt rs t).j ∈ Region.ready .any opsA listed := by
                refine mem_ready.2 ⟨?_, o, ho, fun e he hb => ?_⟩
                · have hlt : (rowAt rs t).j < listed.size := by rw [hsz]; exact jlt t ht
                  unfold Sof at hS
                  simp [hlt] at hS ⊢
                  exact hS
                · obtain ⟨q, hq, e2⟩ := (lin t ht).2 e.on (by rw [hdep]; exact mem_dps.2 ⟨e, he, hb, rfl⟩)
                  have := iht q hq (by omega)
                  unfold Sof at this
                  rw [e2] at this
                  exact this
              rw [hr] at this
              cases this
        · obtain ⟨h0, o', ho', hdeps⟩ := mem_ready.1 hi
          obtain ⟨t, ht, rfl⟩ := sur i (Array.getElem?_eq_some_iff.1 ho').1
          obtain ⟨o, ho, hcao, hdep, hx⟩ := row t ht
          rw [ho] at ho'
          cases ho'
          have hlt : (rowAt rs t).j < listed.size := by rw [hsz]; exact jlt t ht
          have hSt : Sof rs listed t = false := by
            unfold Sof
            simp [hlt] at h0 ⊢
            exact h0
          have closed : ∀ q, q < rs.length → (∀ e ∈ (rowAt rs q).dep, listed.getD e false = true) → ∀ i, (rowAt rs q).m.testBit i = true → listed.getD i false = true := by
            intro q
            induction q using Nat.strongRecOn with
            | _ q ihq =>
              intro hq hdq i hi
              obtain ⟨e, he, h5⟩ := masks q hq i hi
              rcases h5 with rfl | ⟨p, hp, h6, h7⟩
              · exact hdq _ he
              · refine ihq p hp (by omega) (fun e' he' => ?_) i h7
                obtain ⟨op, hop, _, hdp, _⟩ := row p (by omega)
                exact hcd _ op hop (by rw [h6]; exact hdq e he) e' (by rw [← hdp]; exact he')
          have C : Cls rs.length (ancR rs) (Sof rs listed) t := by
            refine ⟨ht, hSt, fun p hp ha => ?_, fun p q hpq hq hSq ha => ?_⟩
            · refine closed t ht (fun e he => ?_) _ ha
              rw [hdep] at he
              obtain ⟨ed, h1, h2, rfl⟩ := mem_dps.1 he
              exact hdeps ed h1 h2
            · refine closed q hq (fun e he => ?_) _ ha
              obtain ⟨oq, hoq, _, hdq, _⟩ := row q hq
              exact hcd _ oq hoq hSq e (by rw [← hdq]; exact he)
          have hSof : ∀ p, p < rs.length → Sof rs (listed.setIfInBounds (rowAt rs t).j true) p = ins (Sof rs listed) t p := by
            intro p hp
            unfold Sof
            by_cases e : p = t
            · subst e
              rw [ins_self]
              simp [hlt]
            · rw [ins_ne e]
              refine getD_set_ne false ?_
              rcases Nat.lt_or_gt_of_ne e with h1 | h1
              · exact fun h2 => (lin t ht).1 p h1 h2.symm
              · exact (lin p hp).1 t h1
          refine stepD (O := fun t => (rowAt rs t).o) hcall Rn (by rw [hH0]; exact R.le2) C I ho hcao hx ?_
          intro φ2 a2 w2 I2
          refine ih _ φ2 a2 w2 (by simp [hsz]) ?_ ?_ ?_
          · have h1 := unD_ins hSt ht
            have h2 : unD (Sof rs (listed.setIfInBounds (rowAt rs t).j true)) rs.length ≤ unD (ins (Sof rs listed) t) rs.length :=
              unD_le fun p hp h => by rw [hSof p hp]; exact h
            omega
          · intro j oj hoj hj e he
            by_cases ej : (rowAt rs t).j = j
            · subst ej
              rw [ho] at hoj
              cases hoj
              obtain ⟨ed, h1, h2, rfl⟩ := mem_dps.1 he
              exact getD_set_true (hdeps ed h1 h2)
            · rw [getD_set_ne false ej] at hj
              exact getD_set_true (hcd j oj hoj hj e he)
          · have eF : ∀ x, (frS (fun t => (rowAt rs t).o) sF (Sof rs (listed.setIfInBounds (rowAt rs t).j true)) rs.length).get x = (frS (fun t => (rowAt rs t).o) sF (ins (Sof rs listed) t) rs.length).get x :=
              fun x => frS_eq fun p hp _ => hSof p hp
            refine ⟨I2.rel.of_raw (fun b _ => gS_eq fun p hp _ => hSof p hp) rfl I2.rel.le2, fun x => by rw [eF]; exact I2.frr x, I2.size, I2.defs, ⟨fun b hb => ?_, fun p hp hS => ?_⟩, I2.grow⟩
            · rcases I2.dom.dom b hb with h1 | ⟨p, hp, hS, h2⟩
              · exact .inl h1
              · exact .inr ⟨p, hp, by rw [hSof p hp]; exact hS, h2⟩
            · rw [hSof p hp] at hS
              exact I2.dom.sts p hp hS
    refine wp_region_any hm ?_
    have hS0 : ∀ t, Sof rs (Array.replicate opsA.size false) t = false := by
      intro t
      unfold Sof
      by_cases h : (rowAt rs t).j < opsA.size <;> simp [h]
    refine main opsA.size _ φ a _ (by simp) ?_ ?_ ?_
    · rw [← hn]
      have : unD (Sof rs (Array.replicate opsA.size false)) rs.length ≤ unD (fun _ => false) rs.length := unD_le fun p _ h => by cases h
      rw [unD_all] at this
      rwa [hn] at this ⊢
    · intro j o _ h
      exfalso
      by_cases h2 : j < opsA.size <;> simp [h2] at h
    · have R' : Rel w0 φ H { w with drawn := w.drawn + 1 } := R.drew rfl rfl rfl rfl
      refine ⟨R'.of_raw (fun b _ => ?_) (by show (sH 0).n0 = _; rw [hH0]) ?_, fun x => ?_, hs, hd, ⟨fun b hb => .inl ?_, fun p hp hS => ?_⟩, ?_⟩
      · rw [mkH_raw, gS_stop (t := 0) (Nat.zero_le _)]
        · show (sH 0).raw b = _; rw [hH0]
        · intro p _ _ h; rw [hS0] at h; cases h
      · refine Nat.le_trans R.le2 ?_
        rw [← hH0]
        exact Rn.nxle (Nat.zero_le _) (Nat.le_refl _)
      · rw [frS_stop (t := 0) (Nat.zero_le _)]
        · show V φ ((sF 0).get x) _; rw [hF0]; exact F x
        · intro p _ _ h; rw [hS0] at h; cases h
      · rw [hH0]
        rcases Nat.lt_or_ge b H.nx with h1 | h1
        · exact h1
        · exact absurd (R0 b h1) hb
      · rw [hS0] at hS; cases hS
      · have G : Grow φ H w φ H { w with drawn := w.drawn + 1 } := Grow.of_heap rfl
        rw [hH0]
        refine ⟨G.le, G.n0, G.c0, ?_, fun b l h1 h2 => (by rw [h1] at h2; cases h2), G.size, G.fr⟩
        rw [← hH0]
        exact Rn.nxle (Nat.zero_le _) (Nat.le_refl _)
end
end Go.Proofs.YtoijnpfpjpefgaaGreat.A
