/- Rows of one's own: append. -/
import Derived.Test.YtoijnpfpjpefgaaGreatAbsP
set_option linter.unusedVariables false
set_option linter.unusedSimpArgs false
namespace Go.Proofs.YtoijnpfpjpefgaaGreat.A
open Go
theorem cleanL_append {n0 : Nat} : ∀ {a b x y : List Value}, cleanL n0 a = some x → cleanL n0 b = some y → cleanL n0 (a ++ b) = some (x ++ y)
  | [], b, x, y, h, k => by simp [cleanL] at h; subst h; simpa using k
  | v :: a, b, x, y, h, k => by
    simp only [cleanL] at h
    split at h
    case h_2 => cases h
    rename_i z m hz hm
    cases h
    have := cleanL_append hm k
    simp only [List.cons_append, cleanL, hz, this]
theorem ldn_append {H : AH} {b o n m : Nat} {x y : List Value} (h : H.ldn ⟨b, o, none⟩ n = some x) (k : H.ldn ⟨b, o + n, none⟩ m = some y) : H.ldn ⟨b, o, none⟩ (n + m) = some (x ++ y) := by
  unfold AH.ldn at h k ⊢
  dsimp only at h k ⊢
  cases hg : H.get b with
  | none => simp [hg] at h
  | some z =>
    cases z with
    | map es => simp [hg] at h
    | cells z c =>
      simp only [hg] at h k ⊢
      obtain ⟨h1, h⟩ := bif_some h
      obtain ⟨k1, k⟩ := bif_some k
      simp only [decide_eq_true_eq] at h1 k1
      have e : (c.drop o).take (n + m) = (c.drop o).take n ++ (c.drop (o + n)).take m := by
        rw [List.take_add, List.drop_drop]
      rw [show decide (o + (n + m) ≤ c.length) = true by simp; omega, cond_true, e]
      cases hd : decide (b < H.n0) with
      | false =>
        rw [hd] at h k
        simp only [cond_false, Option.some.injEq] at h k ⊢
        rw [h, k]
      | true =>
        rw [hd] at h k
        simp only [cond_true] at h k ⊢
        exact cleanL_append h k
theorem Rows.rowlen {H : AH} {sz : Nat} {v : Value} {rows : List (List Value)} (h : Rows H sz v rows) : ∀ r ∈ rows, r.length = sz := by
  intro r hr
  obtain ⟨i, hi, rfl⟩ := List.mem_iff_getElem.1 hr
  obtain ⟨b, o, c, e, hl⟩ := h.at (List.getElem?_eq_getElem hi)
  exact (ldn_some hl).2
theorem flatten_length {sz : Nat} : ∀ {rows : List (List Value)}, (∀ r ∈ rows, r.length = sz) → rows.flatten.length = rows.length * sz
  | [], _ => by simp
  | r :: rows, h => by
    rw [List.flatten_cons, List.length_append, h r (by simp), flatten_length fun q hq => h q (by simp [hq]), List.length_cons, Nat.succ_mul]
    omega
theorem ldn_zero {H : AH} {b o : Nat} {z : Nat} {c : List Value} (hg : H.get b = some (.cells z c)) (ho : o ≤ c.length) : H.ldn ⟨b, o, none⟩ 0 = some [] := by
  unfold AH.ldn
  simp [hg, ho, cleanL]
theorem Rows.whole {H : AH} {sz b o c : Nat} {rows : List (List Value)} (h : Rows H sz (.slice (some ⟨b, o, none⟩) rows.length c) rows) : ∀ k, k ≤ rows.length → 0 < k → H.ldn ⟨b, o, none⟩ (k * sz) = some (rows.take k).flatten := by
  intro k
  induction k with
  | zero => intro _ h; omega
  | succ k ih =>
    intro hk _
    obtain ⟨b', o', c', e, hl⟩ := h.at (i := k) (List.getElem?_eq_getElem (by omega))
    cases e
    rw [List.take_add_one, List.getElem?_eq_getElem (by omega), List.flatten_append]
    by_cases hk0 : k = 0
    · subst hk0
      simpa using hl
    · have := ldn_append (ih (by omega) (by omega)) hl
      rw [show (k + 1) * sz = k * sz + sz by rw [Nat.succ_mul], this]
      simp only [Option.toList_some, List.flatten_cons, List.flatten_nil, List.append_nil]
theorem Rows.src {H : AH} {sz : Nat} {v : Value} {rows : List (List Value)} (h : Rows H sz v rows) : srcA H sz v = some rows.flatten ∧ lenA v = some rows.length := by
  obtain ⟨a, c, rfl, k⟩ := h.is
  refine ⟨?_, rfl⟩
  by_cases e : rows = []
  · subst e
    cases a <;> simp [srcA]
  · have hpos : 0 < rows.length := List.length_pos_iff.2 e
    obtain ⟨b, o, rfl, h2⟩ := k 0 _ (List.getElem?_eq_getElem hpos)
    have := Rows.whole (H := H) (sz := sz) (b := b) (o := o) (c := c) (rows := rows) ⟨_, _, rfl, k⟩ rows.length (Nat.le_refl _) hpos
    simp only [srcA, nb]
    rw [show decide (rows.length = 0) = false by simp [e], cond_false, this, List.take_length]
/-- A block of so many rows, known whole, its slice full. -/
structure Own (H : AH) (sz : Nat) (v : Value) (rows : List (List Value)) : Prop where
  is : (v = .slice none 0 0 ∧ rows = []) ∨ ∃ b, v = .slice (some ⟨b, 0, none⟩) rows.length rows.length ∧ H.n0 ≤ b ∧ H.get b = some (.cells sz rows.flatten)
  len : ∀ r ∈ rows, r.length = sz
/-- The block of a slice. -/
def blk (v : Value) (b : Nat) : Prop := ∃ o n c, v = .slice (some ⟨b, o, none⟩) n c
theorem blk_slice (b b' o n c : Nat) : blk (.slice (some ⟨b, o, none⟩) n c) b' ↔ b' = b := by
  unfold blk
  constructor
  · rintro ⟨o', n', c', e⟩; cases e; rfl
  · rintro rfl; exact ⟨_, _, _, rfl⟩
theorem blk_nil (b n c : Nat) : ¬ blk (.slice none n c) b := by rintro ⟨_, _, _, e⟩; cases e
theorem Own.nil (H : AH) (sz : Nat) : Own H sz (.slice none 0 0) [] := ⟨.inl ⟨rfl, rfl⟩, by simp⟩
theorem Own.lt {H : AH} {sz b : Nat} {v : Value} {rows : List (List Value)} (h : Own H sz v rows) (hb : blk v b) : b < H.nx := by
  rcases h.is with ⟨rfl, _⟩ | ⟨b', rfl, _, hg⟩
  · exact absurd hb (blk_nil _ _ _)
  · rw [(blk_slice _ _ _ _ _).1 hb]; exact AH.get_lt hg
theorem Own.ge {H : AH} {sz b : Nat} {v : Value} {rows : List (List Value)} (h : Own H sz v rows) (hb : blk v b) : H.n0 ≤ b := by
  rcases h.is with ⟨rfl, _⟩ | ⟨b', rfl, h0, hg⟩
  · exact absurd hb (blk_nil _ _ _)
  · rw [(blk_slice _ _ _ _ _).1 hb]; exact h0
theorem Own.shape {H : AH} {sz : Nat} {v : Value} {rows : List (List Value)} (h : Own H sz v rows) : ∃ a c, v = .slice a rows.length c := by
  rcases h.is with ⟨rfl, rfl⟩ | ⟨b, rfl, _⟩
  · exact ⟨_, _, rfl⟩
  · exact ⟨_, _, rfl⟩
theorem drop_flatten {sz : Nat} : ∀ {rows : List (List Value)} {i : Nat} {r : List Value}, (∀ r ∈ rows, r.length = sz) → rows[i]? = some r → ((rows.flatten.drop (i * sz)).take sz) = r ∧ i * sz + sz ≤ rows.flatten.length
  | [], i, r, _, h => by simp at h
  | x :: rows, 0, r, hl, h => by
    simp at h; subst h
    have := hl x (by simp)
    simp [this]
  | x :: rows, i + 1, r, hl, h => by
    have hx := hl x (by simp)
    have ih := drop_flatten (fun q hq => hl q (by simp [hq])) (i := i) (r := r) (rows := rows) (by simpa using h)
    rw [List.flatten_cons, Nat.succ_mul, List.length_append, hx]
    refine ⟨?_, by omega⟩
    rw [show i * sz + sz = x.length + i * sz by omega, ← List.drop_drop, List.drop_left]
    exact ih.1
theorem Own.rows {H : AH} {sz : Nat} {v : Value} {rows : List (List Value)} (h : Own H sz v rows) : Rows H sz v rows := by
  rcases h.is with ⟨rfl, rfl⟩ | ⟨b, rfl, h0, hg⟩
  · exact ⟨_, _, rfl, by simp⟩
  · refine ⟨_, _, rfl, fun i r hi => ⟨b, 0, rfl, ?_⟩⟩
    obtain ⟨e1, e2⟩ := drop_flatten h.len hi
    rw [ldn_get hg h0 (by simpa using e2)]
    simpa using e1
theorem Own.mod {S : Nat → Prop} {H H' : AH} {sz : Nat} {v : Value} {rows : List (List Value)} (h : Own H sz v rows) (M : Mod S H H') (hs : ∀ b, blk v b → ¬ S b) : Own H' sz v rows := by
  refine ⟨?_, h.len⟩
  rcases h.is with ⟨rfl, rfl⟩ | ⟨b, rfl, h0, hg⟩
  · exact .inl ⟨rfl, rfl⟩
  · exact .inr ⟨b, rfl, by rw [M.n0]; exact h0, M.get (hs b ((blk_slice _ _ _ _ _).2 rfl)) hg⟩
theorem Own.ext {H H' : AH} {sz : Nat} {v : Value} {rows : List (List Value)} (h : Own H sz v rows) (X : Ext H H') : Own H' sz v rows := h.mod (Mod.of_ext (S := fun _ => False) X) (by simp)
/-- append to rows of one's own. -/
theorem app_own {H : AH} {sz bytes : Nat} {s x : Value} {rows new : List (List Value)} (hw : H.n0 ≤ H.nx) (hs : Own H sz s rows) (hx : Rows H sz x new) (hb : (rows.length + new.length) * bytes ≤ 2 ^ 47) (h62 : rows.length + new.length < 2 ^ 62) :
    ∃ s' H', aappend sz bytes H s x = some (s', H') ∧ Own H' sz s' (rows ++ new) ∧ Mod (blk s) H H' ∧ ∀ b, blk s' b → blk s b ∨ H.nx ≤ b := by
  obtain ⟨hsrc, hlen⟩ := hx.src
  have hl := hx.rowlen
  have hlen2 : ∀ r ∈ rows ++ new, r.length = sz := by
    intro r hr
    rcases List.mem_append.1 hr with h | h
    · exact hs.len r h
    · exact hl r h
  by_cases n0 : new = []
  · subst n0
    refine ⟨s, H, ?_, by simpa using hs, Mod.refl _ _, fun b hb => .inl hb⟩
    rcases hs.is with ⟨rfl, rfl⟩ | ⟨b, rfl, h0, hg⟩
    · simp [aappend, hlen]
    · simp [aappend, hlen]
  have npos : 0 < new.length := List.length_pos_iff.2 n0
  have hnz : ¬ new.length = 0 := by omega
  have hnew : new.flatten.length = new.length * sz := flatten_length hl
  by_cases r0 : rows = []
  · subst r0
    simp only [List.length_nil, Nat.zero_add] at hb h62
    refine ⟨.slice (some ⟨H.nx, 0, none⟩) new.length new.length, H.alloc (.cells sz new.flatten), ?_, ⟨.inr ⟨H.nx, rfl, hw, get_new _ _⟩, hlen2⟩, Mod.of_ext (Ext.alloc _ _), fun b hb => .inr (by rw [(blk_slice _ _ _ _ _).1 hb]; exact Nat.le_refl _)⟩
    rcases hs.is with ⟨rfl, _⟩ | ⟨b, rfl, h0, hg⟩
    · simp [aappend, hlen, hsrc, hnz, n0, hb, h62, nb]
    · simp [aappend, hlen, hsrc, hnz, n0, hb, h62, nb]
  have rpos : 0 < rows.length := List.length_pos_iff.2 r0
  rcases hs.is with ⟨rfl, h⟩ | ⟨b, rfl, h0, hg⟩
  · exact absurd h r0
  have hold : H.ldn ⟨b, 0, none⟩ (rows.length * sz) = some rows.flatten := by
    have := flatten_length hs.len
    rw [ldn_get hg h0 (by omega), ← this]
    simp only [List.drop_zero, List.take_length]
  have hzok : H.zok b sz = true := by simp [AH.zok, hg]
  have a1 : ¬ rows.length + new.length ≤ rows.length := by omega
  have a2 : ¬ rows.length = 0 := by omega
  refine ⟨.slice (some ⟨H.nx, 0, none⟩) (rows ++ new).length (rows ++ new).length, (H.put b none).alloc (.cells sz (rows ++ new).flatten), ?_, ⟨.inr ⟨H.nx, rfl, hw, ?_⟩, hlen2⟩, ⟨rfl, Nat.le_succ _, fun c hc hs => ?_⟩, fun c hc => .inr (by rw [(blk_slice _ _ _ _ _).1 hc]; exact Nat.le_refl _)⟩
  · simp [aappend, hlen, hsrc, hnz, n0, r0, hb, h62, a1, a2, h0, hzok, hold]
  · exact get_new (H.put b none) _
  · rw [blk_slice] at hs
    rw [AH.get_alloc, if_neg (by rw [AH.put_nx]; omega), AH.get_kill, if_neg hs]
end Go.Proofs.YtoijnpfpjpefgaaGreat.A
