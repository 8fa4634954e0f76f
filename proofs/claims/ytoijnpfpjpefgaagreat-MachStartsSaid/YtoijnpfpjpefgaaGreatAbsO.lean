/- Guarded operations and branches as one rule each; calls that write to a few old blocks. -/
import Derived.Test.YtoijnpfpjpefgaaGreatAbsN
set_option linter.unusedVariables false
set_option linter.unusedSimpArgs false
namespace Go.Proofs.YtoijnpfpjpefgaaGreat.A
open Go
section
variable {E : Env} {O : Orc} {ks : List Ko} {fr : Fr} {H : AH} {Q : Ex → Fr → AH → Prop}
def wantV (b : Bool) : Value → Bool
  | .bool c => c == b
  | _ => false
@[simp] theorem wantV_t (c : Bool) : wantV true (.bool c) = c := by cases c <;> rfl
@[simp] theorem wantV_f (c : Bool) : wantV false (.bool c) = !c := by cases c <;> rfl
@[simp] theorem wantV_u (b : Bool) : wantV b undef = false := rfl
/-- Two ways. -/
def br (c a b : Prop) : Prop := (c → a) ∧ (¬ c → b)
@[congr] theorem br_congr {c c' a a' b b' : Prop} (h1 : c = c') (h2 : c' → a = a') (h3 : ¬ c' → b = b') : br c a b = br c' a' b' := by
  subst h1
  unfold br
  exact propext ⟨fun k => ⟨fun h => h2 h ▸ k.1 h, fun h => h3 h ▸ k.2 h⟩, fun k => ⟨fun h => (h2 h).symm ▸ k.1 h, fun h => (h3 h).symm ▸ k.2 h⟩⟩
@[simp] theorem br_T (a b : Prop) : br True a b = a := propext ⟨fun h => h.1 trivial, fun h => ⟨fun _ => h, fun k => (k trivial).elim⟩⟩
@[simp] theorem br_F (a b : Prop) : br False a b = b := propext ⟨fun h => h.2 id, fun h => ⟨fun k => k.elim, fun _ => h⟩⟩
@[simp] theorem br_TT (c : Prop) : br c True True = True := propext ⟨fun _ => trivial, fun _ => ⟨fun _ => trivial, fun _ => trivial⟩⟩
theorem br_i {c a b : Prop} (h : c → a) (k : ¬ c → b) : br c a b := ⟨h, k⟩
theorem wanted_eq (t : Nat) (b : Bool) (d : Option Nat) (p : AOp) : (AO.mk (some (t, b)) d p).wanted fr = wantV b (fr.get t) := by
  unfold AO.wanted wantV
  simp only
  split <;> rename_i h <;> simp_all
theorem Wr_g (t : Nat) (b : Bool) (d : Option Nat) (p : AOp) (l : List AO) : Wr E O (⟨some (t, b), d, p⟩ :: l) ks fr H Q ↔
    br (wantV b (fr.get t) = true) (Wr E O (⟨none, d, p⟩ :: l) ks fr H Q) (Wr E O l ks (fr.putO d undef) H Q) := by
  by_cases hw : wantV b (fr.get t) = true
  · simp only [hw, br_T]
    exact Wr_on _ _ _ (by unfold wantV at hw; split at hw <;> simp_all)
  · simp only [hw]
    rw [show (false = true) = False by simp, br_F]
    exact Wr_off _ _ _ (by intro h; rw [h] at hw; simp [wantV] at hw)
theorem Wd_g {l0 : List AO} {ck : List (Nat × Nat × Nat)} {acc : List (Fr × AH)} (t : Nat) (b : Bool) (d : Option Nat) (p : AOp) (l : List AO) : Wd E O l0 ck acc (⟨some (t, b), d, p⟩ :: l) ks fr H Q ↔
    br (wantV b (fr.get t) = true) (Wd E O l0 ck acc (⟨none, d, p⟩ :: l) ks fr H Q) (Wd E O l0 ck ((fr.putO d undef, H) :: acc) l ks (fr.putO d undef) H Q) := by
  by_cases hw : wantV b (fr.get t) = true
  · simp only [hw, br_T]
    exact Wd_on _ _ _ (by unfold wantV at hw; split at hw <;> simp_all)
  · simp only [hw]
    rw [show (false = true) = False by simp, br_F]
    exact Wd_off _ _ _ (by intro h; rw [h] at hw; simp [wantV] at hw)
@[simp] theorem putO_some (f : Fr) (d : Nat) (v : Value) : f.putO (some d) v = f.put d v := rfl
@[simp] theorem putO_none (f : Fr) (v : Value) : f.putO none v = f := rfl
def isBl : Value → Bool
  | .bool _ => true
  | _ => false
@[simp] theorem isBl_b (c : Bool) : isBl (.bool c) = true := rfl
theorem Wk_c {x : X} {a b : AC} : Wk E O (.cond x a b) ks fr H Q ↔ isBl (x.ev fr) = true ∧ br (wantV true (x.ev fr) = true) (Wk E O a ks fr H Q) (Wk E O b ks fr H Q) := by
  cases hx : x.ev fr with
  | bool c =>
    cases c
    · simp [Wk_condF hx]
    · simp [Wk_condT hx]
  | _ =>
    refine ⟨?_, fun h => by simp [isBl] at h⟩
    rintro ⟨n, ex, fr', H', e, q⟩
    cases n with
    | zero => simp [codeR] at e
    | succ n =>
      rw [codeR, hx] at e
      cases e
/-- A call: its arguments, then what it does. -/
theorem Wr_callE {d : Nat} {f : Nat} {as : List X} {vs : List Value} {l : List AO} {R : Value → AH → Prop} (ha : as.map (X.ev fr) = vs) (h : Ca E O f vs H R) (k : ∀ x H', R x H' → Wr E O l ks (fr.put d x) H' Q) : Wr E O (⟨none, some d, .call f as⟩ :: l) ks fr H Q :=
  Wr_call (ha ▸ h.mono k)
theorem Wd_callE {l0 : List AO} {ck : List (Nat × Nat × Nat)} {acc : List (Fr × AH)} {d : Nat} {f : Nat} {as : List X} {vs : List Value} {l : List AO} {R : Value → AH → Prop} (ha : as.map (X.ev fr) = vs) (h : Ca E O f vs H R) (k : ∀ x H', R x H' → Wd E O l0 ck ((fr.put d x, H') :: acc) l ks (fr.put d x) H' Q) : Wd E O l0 ck acc (⟨none, some d, .call f as⟩ :: l) ks fr H Q :=
  Wd_call (ha ▸ h.mono k)
end
/-- The second heap differs from the first in these blocks alone. -/
structure Mod (S : Nat → Prop) (H H' : AH) : Prop where
  n0 : H'.n0 = H.n0
  nx : H.nx ≤ H'.nx
  old : ∀ b, b < H.nx → ¬ S b → H'.get b = H.get b
theorem Mod.refl (S : Nat → Prop) (H : AH) : Mod S H H := ⟨rfl, Nat.le_refl _, fun _ _ _ => rfl⟩
theorem Mod.trans {S : Nat → Prop} {a b c : AH} (h : Mod S a b) (k : Mod S b c) : Mod S a c := ⟨k.n0.trans h.n0, Nat.le_trans h.nx k.nx, fun x hx hs => (k.old x (Nat.lt_of_lt_of_le hx h.nx) hs).trans (h.old x hx hs)⟩
theorem Mod.of_ext {S : Nat → Prop} {a b : AH} (h : Ext a b) : Mod S a b := ⟨h.n0, h.nx, fun x hx _ => h.old x hx⟩
theorem Mod.mono {S T : Nat → Prop} {a b : AH} (h : Mod S a b) (k : ∀ x, x < a.nx → S x → T x) : Mod T a b := ⟨h.n0, h.nx, fun x hx ht => h.old x hx fun hs => ht (k x hx hs)⟩
/-- What lay ahead of all that is written to stays. -/
theorem Ext.mod {S : Nat → Prop} {a b c : AH} (h : Ext a b) (k : Mod S b c) (hs : ∀ x, S x → a.nx ≤ x) : Ext a c := ⟨k.n0.trans h.n0, Nat.le_trans h.nx k.nx, fun x hx => (k.old x (Nat.lt_of_lt_of_le hx h.nx) (fun q => absurd (hs x q) (Nat.not_le.2 hx))).trans (h.old x hx)⟩
theorem Mod.get {S : Nat → Prop} {a b : AH} (h : Mod S a b) {x : Nat} (hs : ¬ S x) {y : Blk} (k : a.get x = some y) : b.get x = some y := by rw [h.old x (AH.get_lt k) hs]; exact k
theorem Mod.ldn {S : Nat → Prop} {H H' : AH} (h : Mod S H H') {a : Addr} {n : Nat} {vs : List Value} (hs : ¬ S a.block) (k : H.ldn a n = some vs) : H'.ldn a n = some vs := by
  obtain ⟨x, hx⟩ := Option.isSome_iff_exists.1 (ldn_some k).1
  rw [← k]
  exact ldn_same (h.old _ (AH.get_lt hx) hs) h.n0
theorem Mod.ld {S : Nat → Prop} {H H' : AH} (h : Mod S H H') {a : Addr} {v : Value} (hs : ¬ S a.block) (k : H.ld a = some v) : H'.ld a = some v := ld_ldn.2 (h.ldn hs (ld_ldn.1 k))
theorem Mod.wf {S : Nat → Prop} {H H' : AH} (h : Mod S H H') (w : H.n0 ≤ H.nx) : H'.n0 ≤ H'.nx := by rw [h.n0]; exact Nat.le_trans w h.nx
/-- A store into a block known whole. -/
theorem st_get {H : AH} {b z k : Nat} {c vs : List Value} (hg : H.get b = some (.cells z c)) (h0 : H.n0 ≤ b) (hl : k + vs.length ≤ c.length) :
    ∃ H2, H.st ⟨b, k, none⟩ vs = some H2 ∧ Mod (fun x => x = b) H H2 ∧ H2.nx = H.nx ∧ H2.n0 = H.n0 ∧ H2.get b = some (.cells z (splice c k vs)) := by
  have hb := AH.get_lt hg
  refine ⟨H.put b (some (.cells z (splice c k vs))), ?_, ⟨rfl, Nat.le_refl _, fun x hx hs => ?_⟩, rfl, rfl, ?_⟩
  · unfold AH.st
    simp [hg, h0, hl]
  · rw [AH.get_put _ _ _ _ hb, if_neg hs]
  · rw [AH.get_put _ _ _ _ hb, if_pos rfl]
/-- A new variable that is stored into, known whole. -/
theorem var_new {H : AH} (w : H.n0 ≤ H.nx) {z : Nat} {c vs : List Value} (hl : vs.length = c.length) :
    ∃ H2, (H.alloc (.cells z c)).st ⟨H.nx, 0, none⟩ vs = some H2 ∧ Ext H H2 ∧ H2.nx = H.nx + 1 ∧ H2.n0 = H.n0 ∧ H2.get H.nx = some (.cells z vs) := by
  have hg : (H.alloc (.cells z c)).get H.nx = some (.cells z c) := by rw [AH.get_alloc, if_pos rfl]
  obtain ⟨H2, h1, h2, h3, h4, h5⟩ := st_get hg w (k := 0) (vs := vs) (by omega)
  have e : splice c 0 vs = vs := by
    have : splice c 0 vs = vs ++ c.drop vs.length := by cases c <;> rfl
    rw [this, List.drop_eq_nil_of_le (by omega)]; simp
  rw [e] at h5
  exact ⟨H2, h1, (Ext.alloc H _).mod h2 (by rintro x rfl; exact Nat.le_refl _), h3, h4, h5⟩
/-- Loads from a block known whole, made by this run. -/
theorem ldn_get {H : AH} {b z k n : Nat} {c : List Value} (hg : H.get b = some (.cells z c)) (h0 : H.n0 ≤ b) (hl : k + n ≤ c.length) : H.ldn ⟨b, k, none⟩ n = some ((c.drop k).take n) := by
  unfold AH.ldn
  have : ¬ b < H.n0 := Nat.not_lt.2 h0
  simp [hg, hl, this]
theorem ld_get {H : AH} {b z k : Nat} {c : List Value} {v : Value} (hg : H.get b = some (.cells z c)) (h0 : H.n0 ≤ b) (hv : c[k]? = some v) : H.ld ⟨b, k, none⟩ = some v := by
  unfold AH.ld
  have : ¬ b < H.n0 := Nat.not_lt.2 h0
  simp [hg, hv, this]
theorem get_new (H : AH) (x : Blk) : (H.alloc x).get H.nx = some x := by rw [AH.get_alloc, if_pos rfl]
end Go.Proofs.YtoijnpfpjpefgaaGreat.A
