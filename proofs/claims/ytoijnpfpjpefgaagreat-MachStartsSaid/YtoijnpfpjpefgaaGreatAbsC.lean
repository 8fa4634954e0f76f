/- Regions that draw their order: what the operations look at, on the machine alone. -/
import Derived.Test.YtoijnpfpjpefgaaGreatAbsB
set_option linter.unusedVariables false
set_option linter.unusedSimpArgs false
namespace Go.Proofs.YtoijnpfpjpefgaaGreat.A
open Go

theorem aop_congr {p : AOp} {ρ ρ' : X → Value} (h : ∀ x ∈ p.xs, ρ x = ρ' x) (H : AH) : aop p ρ H = aop p ρ' H := by
  have ml : ∀ (l : List X), (∀ x ∈ l, ρ x = ρ' x) → l.map ρ = l.map ρ' := fun l hl => List.map_congr_left hl
  have mp : ∀ (l : List (Nat × Nat × X)), (∀ x ∈ l.map (fun p => p.2.2), ρ x = ρ' x) → (l.map fun p => (p.1, p.2.1, ρ p.2.2)) = l.map fun p => (p.1, p.2.1, ρ' p.2.2) :=
    fun l hl => List.map_congr_left fun p hp => by rw [hl _ (List.mem_map.2 ⟨p, hp, rfl⟩)]
  have mo : ∀ (l : Option X), (∀ x ∈ l.toList, ρ x = ρ' x) → l.map ρ = l.map ρ' := fun l hl => by cases l <;> simp_all
  cases p
  case build z ps => simp only [aop]; rw [mp ps h]
  case bsl a b c ps => simp only [aop]; rw [mp ps h]
  case mkf f a b =>
    simp only [aop]
    rw [ml a fun x hx => h x (by simp [AOp.xs, hx]), ml b fun x hx => h x (by simp [AOp.xs, hx])]
  case call f as => simp only [aop]; rw [ml as h]
  case callv x as =>
    simp only [aop]
    rw [ml as fun x hx => h x (by simp [AOp.xs, hx]), h x (by simp [AOp.xs])]
  case mxl x as =>
    simp only [aop]
    rw [ml as fun x hx => h x (by simp [AOp.xs, hx]), h x (by simp [AOp.xs])]
  case mnl x as =>
    simp only [aop]
    rw [ml as fun x hx => h x (by simp [AOp.xs, hx]), h x (by simp [AOp.xs])]
  case sl sz x lo hi mx =>
    simp only [aop]
    rw [h x (by simp [AOp.xs]), mo lo fun x hx => h x (by simp [AOp.xs] at hx ⊢; simp [hx]), mo hi fun x hx => h x (by simp [AOp.xs] at hx ⊢; simp [hx]), mo mx fun x hx => h x (by simp [AOp.xs] at hx ⊢; simp [hx])]
  all_goals
    simp only [AOp.xs, List.mem_cons, List.not_mem_nil, or_false, forall_eq_or_imp, forall_eq, implies_true, false_imp_iff] at h
    simp only [aop, h]

theorem aslice_lo0 {sz : Nat} {H H1 : AH} {x : Value} {hi mx : Option Value} : aslice sz H1 x none hi mx = aslice sz H x none hi mx := by
  cases x <;> try rfl
  rename_i a len cap
  simp only [aslice]
  cases hb : abounds len cap none hi mx with
  | none => rfl
  | some r =>
    obtain ⟨l, h, m⟩ := r
    have hl : l = 0 := by
      unfold abounds at hb
      simp only [Option.bind_eq_some_iff] at hb
      obtain ⟨_, _, _, _, _, e, e2⟩ := hb
      simp at e e2
      omega
    subst hl
    simp

theorem kind_pure {p : AOp} {ρ : X → Value} {H H' : AH} {r : ARes} (hk : knd p = .pure) (h : aop p ρ H = some (r, H')) :
    H' = H ∧ ∀ H1 : AH, aop p ρ H1 = some (r, H1) := by
  cases p
  case sl sz x lo hi mx =>
    cases lo with
    | some l => simp [knd] at hk
    | none =>
      simp only [aop, Option.map_none, Option.map_eq_some_iff] at h ⊢
      obtain ⟨v, hv, e⟩ := h
      cases e
      exact ⟨rfl, fun H1 => ⟨v, aslice_lo0.trans hv, rfl⟩⟩
  case eqk k neg x y =>
    simp only [aop, Option.map_eq_some_iff] at h ⊢
    obtain ⟨b, hb, e⟩ := h
    cases e
    exact ⟨rfl, fun H1 => ⟨b, hb, rfl⟩⟩
  case eqs neg offs x y =>
    simp only [aop] at h ⊢
    split at h
    · simp only [Option.map_eq_some_iff] at h ⊢
      obtain ⟨b, hb, e⟩ := h
      cases e
      exact ⟨rfl, fun H1 => ⟨b, hb, rfl⟩⟩
    · cases h
  all_goals first
    | (simp [knd] at hk; done)
    | (simp only [aop, Bool.cond_eq_ite, Option.map_eq_some_iff] at h ⊢
       (repeat' split at h) <;> simp_all <;> try (obtain ⟨_, _, h1, h2⟩ := h; simp_all))

theorem kind_alloc {p : AOp} {ρ : X → Value} {H H' : AH} {r : ARes} (hk : knd p = .alloc) (h : aop p ρ H = some (r, H')) :
    ∃ blk, H' = H.alloc blk ∧ ∀ H1 : AH, H1.nx = H.nx → aop p ρ H1 = some (r, H1.alloc blk) := by
  cases p
  case sl sz x lo hi mx => cases lo <;> simp [knd] at hk
  all_goals first
    | (simp [knd] at hk; done)
    | skip
  case alloc z =>
    simp only [aop, Option.some.injEq, Prod.mk.injEq] at h ⊢
    obtain ⟨rfl, rfl⟩ := h
    exact ⟨_, rfl, fun H1 e => ⟨by rw [e], rfl⟩⟩
  case box x =>
    simp only [aop, Bool.cond_eq_ite] at h ⊢
    split at h
    · cases h
    · rename_i ht
      simp only [Option.some.injEq, Prod.mk.injEq] at h
      obtain ⟨rfl, rfl⟩ := h
      exact ⟨_, rfl, fun H1 e => by rw [if_neg ht, e]⟩
  case bsl len sz z ps =>
    simp only [aop, Option.map_eq_some_iff] at h ⊢
    obtain ⟨c, hc, e⟩ := h
    cases e
    exact ⟨_, rfl, fun H1 e => ⟨c, hc, by rw [e]⟩⟩
  case mkmap =>
    simp only [aop, Option.some.injEq, Prod.mk.injEq] at h ⊢
    obtain ⟨rfl, rfl⟩ := h
    exact ⟨_, rfl, fun H1 e => ⟨by rw [e], rfl⟩⟩
  case mksl sz bytes z x =>
    simp only [aop, Bool.cond_eq_ite] at h ⊢
    split at h
    · split at h
      · rename_i hc
        simp only [Option.some.injEq, Prod.mk.injEq] at h
        obtain ⟨rfl, rfl⟩ := h
        exact ⟨_, rfl, fun H1 e => by rw [if_pos hc, e]⟩
      · cases h
    · cases h

theorem cleanL_length {n0 : Nat} : ∀ {l m : List Value}, cleanL n0 l = some m → m.length = l.length
  | [], m, h => by simp [cleanL] at h; subst h; rfl
  | v :: l, m, h => by
    simp only [cleanL] at h
    split at h
    · rename_i x m' hx hm
      cases h
      simp [cleanL_length hm]
    · cases h
theorem ldn_some {H : AH} {a : Addr} {n : Nat} {vs : List Value} (h : H.ldn a n = some vs) : (H.get a.block).isSome = true ∧ vs.length = n := by
  unfold AH.ldn at h
  split at h
  case h_2 => cases h
  rename_i z c hs hg
  obtain ⟨hb, h⟩ := bif_some h
  simp at hb
  refine ⟨by simp [hg], ?_⟩
  simp only [Bool.cond_eq_ite] at h
  split at h
  · rw [cleanL_length h]; simp; omega
  · cases h; simp; omega
theorem ldn_same {H H1 : AH} {a : Addr} {n : Nat} (hg : H1.get a.block = H.get a.block) (h0 : H1.n0 = H.n0) : H1.ldn a n = H.ldn a n := by
  unfold AH.ldn
  rw [hg, h0]
theorem ld_ldn {H : AH} {a : Addr} {v : Value} : H.ld a = some v ↔ H.ldn a 1 = some [v] := by
  unfold AH.ld AH.ldn
  cases hs : a.spot with
  | some x => simp
  | none =>
    cases hg : H.get a.block with
    | none => simp
    | some b =>
      cases b with
      | map es => simp
      | cells z c =>
        simp only
        cases hc : c[a.off]? with
        | none =>
          have := List.getElem?_eq_none_iff.1 hc
          have : decide (a.off + 1 ≤ c.length) = false := by simp; omega
          simp [this]
        | some u =>
          have hlt := (List.getElem?_eq_some_iff.1 hc).1
          have h1 : decide (a.off + 1 ≤ c.length) = true := by simp; omega
          have h2 : List.take 1 (List.drop a.off c) = [u] := by
            have := (List.getElem?_eq_some_iff.1 hc).2
            rw [List.drop_eq_getElem_cons hlt, this]
            rfl
          simp only [h1, cond_true, h2]
          cases hd : decide (a.block < H.n0) with
          | false => simp
          | true =>
            simp only [cond_true, cleanL]
            cases cleanOld H.n0 u <;> simp
theorem kind_load {o : AO} {fr : Fr} {H H' : AH} {r : ARes} (hk : knd o.o = .load) (h : aop o.o (X.ev fr) H = some (r, H')) :
    H' = H ∧ ∃ a vs, loadOf o fr H = some (a, vs) ∧ adrOf o fr = some a.block ∧ H.ldn a vs.length = some vs ∧ ∀ H1 : AH, H1.ldn a vs.length = some vs → aop o.o (X.ev fr) H1 = some (r, H1) := by
  obtain ⟨g, d, p⟩ := o
  dsimp only at hk h
  unfold loadOf adrOf
  dsimp only
  cases p
  case sl sz x lo hi mx => cases lo <;> simp [knd] at hk
  all_goals first
    | (simp [knd] at hk; done)
    | skip
  case ld x =>
    simp only [aop] at h ⊢
    split at h
    case h_2 => cases h
    rename_i a ha
    simp only [Option.map_eq_some_iff] at h
    obtain ⟨v, hv, e⟩ := h
    cases e
    have hl := ld_ldn.1 hv
    refine ⟨rfl, a, [v], ?_, rfl, hl, fun H1 h1 => ?_⟩
    · rw [hl]; rfl
    · rw [ld_ldn.2 h1]; rfl
  case ldn n x =>
    simp only [aop] at h ⊢
    split at h
    case h_2 => cases h
    rename_i a ha
    simp only [Option.map_eq_some_iff] at h
    obtain ⟨vs, hv, e⟩ := h
    cases e
    have hl := (ldn_some hv).2
    subst hl
    refine ⟨rfl, a, vs, ?_, rfl, hv, fun H1 h1 => ?_⟩
    · rw [hv]; rfl
    · rw [h1]; rfl
theorem st_form {H H' : AH} {a : Addr} {vs : List Value} (h : H.st a vs = some H') : (H.get a.block).isSome = true ∧ ∃ z c', H' = H.put a.block (some (.cells z c')) ∧
    ∀ H1 : AH, H1.get a.block = H.get a.block → H1.n0 = H.n0 → H1.st a vs = some (H1.put a.block (some (.cells z c'))) := by
  unfold AH.st at h
  split at h
  case h_2 => cases h
  rename_i z c hs hg
  obtain ⟨hb, h⟩ := bif_some h
  cases h
  refine ⟨by simp [hg], z, _, rfl, fun H1 h1 h2 => ?_⟩
  unfold AH.st
  rw [h1, h2, hg, hs]
  simp only [hb, cond_true]
theorem kind_st {o : AO} {fr : Fr} {H H' : AH} {r : ARes} (hk : knd o.o = .st) (h : aop o.o (X.ev fr) H = some (r, H')) :
    ∃ b blk, adrOf o fr = some b ∧ (H.get b).isSome = true ∧ H' = H.put b blk ∧ ∀ H1 : AH, H1.get b = H.get b → H1.n0 = H.n0 → aop o.o (X.ev fr) H1 = some (r, H1.put b blk) := by
  obtain ⟨g, d, p⟩ := o
  dsimp only at hk h
  unfold adrOf
  dsimp only
  cases p
  case sl sz x lo hi mx => cases lo <;> simp [knd] at hk
  all_goals first
    | (simp [knd] at hk; done)
    | skip
  case st n x v =>
    simp only [aop] at h ⊢
    split at h
    case h_2 => cases h
    rename_i a ha
    obtain ⟨hb, h⟩ := bif_some h
    simp only [Option.map_eq_some_iff] at h
    obtain ⟨H2, h2, e⟩ := h
    cases e
    obtain ⟨hs, z, c', rfl, hall⟩ := st_form h2
    refine ⟨a.block, some (.cells z c'), rfl, hs, rfl, fun H1 e1 e2 => ?_⟩
    rw [hb, cond_true, hall H1 e1 e2]
    rfl
theorem zok_none {H : AH} {b sz : Nat} (h : H.get b = none) : H.zok b sz = false := by
  unfold AH.zok; rw [h]
theorem kind_read {o : AO} {fr : Fr} {H H' : AH} {r : ARes} (hk : knd o.o = .read) (h : aop o.o (X.ev fr) H = some (r, H')) :
    H' = H ∧ ∀ H1 : AH, (∀ b, adrOf o fr = some b → (H.get b).isSome = true → H1.get b = H.get b) → H1.n0 = H.n0 → aop o.o (X.ev fr) H1 = some (r, H1) := by
  obtain ⟨g, d, p⟩ := o
  dsimp only at hk h
  unfold adrOf
  dsimp only
  cases p
  case sl sz x lo hi mx =>
    simp only [aop, Option.map_eq_some_iff] at h ⊢
    obtain ⟨v, hv, e⟩ := h
    cases e
    refine ⟨rfl, fun H1 h1 h2 => ⟨v, ?_, rfl⟩⟩
    rw [← hv]
    cases hx : x.ev fr <;> try rfl
    rename_i a len cap
    rw [hx] at hv h1
    simp only [aslice] at hv ⊢
    split
    · rfl
    · cases a with
      | none => rfl
      | some a =>
        rename_i l hh m hab
        rw [hab] at hv
        simp only at hv ⊢
        have hz : (a.spot.isNone && (Nat.beq l 0 || H1.zok a.block sz)) = (a.spot.isNone && (Nat.beq l 0 || H.zok a.block sz)) ∨ H.get a.block = none := by
          cases hsp : a.spot.isNone with
          | false => left; simp
          | true =>
            cases hg : H.get a.block with
            | none => exact .inr rfl
            | some b =>
              left
              have := h1 a.block (by simp [hsp]) (by simp [hg])
              unfold AH.zok
              rw [this]
        rcases hz with hz | hz
        · rw [hz]
        · obtain ⟨h3, hv⟩ := bif_some hv
          rw [h3]
          simp only [cond_true]
          split
          · rfl
          · rename_i hml
            rw [if_neg hml] at hv
            obtain ⟨h4, hv⟩ := bif_some hv
            rw [zok_none hz, Bool.or_false] at h4
            simp only [Bool.and_eq_true] at h4
            simp [h4.1, h4.2]
  case look kk z x k ok =>
    simp only [aop] at h ⊢
    cases hx : x.ev fr <;> simp only [hx] at h ⊢ <;> try (cases h; done)
    rename_i rr
    cases rr with
    | none =>
      simp only at h ⊢
      obtain ⟨h1, h⟩ := bif_some h
      cases h
      exact ⟨rfl, fun H1 _ _ => by rw [h1]; rfl⟩
    | some q =>
      simp only at h ⊢
      cases hg : H.get q with
      | none => simp [hg] at h
      | some b =>
        cases b with
        | cells z c => simp [hg] at h
        | map es =>
          simp only [hg] at h
          obtain ⟨h1, h⟩ := bif_some h
          refine ⟨?_, fun H1 e1 e2 => ?_⟩
          · split at h <;> first | (cases h; rfl) | cases h
          · have := e1 q rfl (by simp [hg])
            rw [this, hg, e2]
            simp only [h1, cond_true]
            split at h
            · cases h; rfl
            · cases h; rfl
            · cases h
  all_goals first
    | (simp [knd] at hk; done)
    | skip
theorem same1_eq : ∀ {a b : Value}, same1 a b = true → a = b := by
  intro a b h
  cases a <;> cases b <;> simp [same1] at h <;> simp_all
  exact ByteArray.ext h
theorem sameL_eq : ∀ {a b : List Value}, sameL a b = true → a = b
  | [], [], _ => rfl
  | a :: l, b :: m, h => by
    simp only [sameL, Bool.and_eq_true] at h
    rw [same1_eq h.1, sameL_eq h.2]
  | [], _ :: _, h => by simp [sameL] at h
  | _ :: _, [], h => by simp [sameL] at h
theorem sameAt_eq {H : AH} {a : Addr} {vs : List Value} (h : sameAt H (a, vs) = true) : H.ldn a vs.length = some vs := by
  unfold sameAt at h
  dsimp only at h
  split at h
  · rename_i m hm
    rw [hm, sameL_eq h]
  · cases h
theorem sameB_eq {x y : Option Blk} (h : sameB x y = true) : x = y := by
  unfold sameB at h
  split at h
  · simp only [Bool.and_eq_true, Nat.beq_eq] at h
    rw [h.1, sameL_eq h.2]
  · rfl
  · cases h
end Go.Proofs.YtoijnpfpjpefgaaGreat.A
