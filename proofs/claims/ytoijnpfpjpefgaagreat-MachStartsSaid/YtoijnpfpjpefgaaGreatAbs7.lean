/- Appends and copies. -/
import Derived.Test.YtoijnpfpjpefgaaGreatAbs6
import Derived.Deep.Upon
set_option linter.unusedVariables false
set_option linter.unusedSimpArgs false
namespace Go.Proofs.YtoijnpfpjpefgaaGreat.A
open Go Go.RowKit
section
variable {P : Program} {w0 w : World} {φ : Phi} {H : AH}

theorem VL_bytes {φ : Phi} : ∀ (l : List UInt8), VL φ (l.map fun b => .int .u8 b.toNat) (l.map fun b => .int .u8 b.toNat)
  | [] => .nil
  | b :: l => .cons (.same rfl) (VL_bytes l)
theorem ok_src {sz n : Nat} {x x' : Value} {new : List Value} {tx : TypeId} (R : Rel w0 φ H w) (hx : V φ x x') (hn : lenA x = some n) (h : srcA H sz x = some new)
    (hk : (∃ e', P.underlying tx = some (.slice e')) ∨ P.underlying tx = some .string) :
    ∃ news, Src P sz tx x' n news w ∧ VL φ new news ∧ new.all one = true := by
  unfold srcA at h
  split at h
  · rename_i a n' c
    simp [lenA] at hn
    subst hn
    simp only [nb, Bool.cond_decide] at h
    rcases V.sl1 hx with ⟨l, c', hsp, hl, _, _, _, rfl⟩ | ⟨hsp, rfl, _, a', c', rfl⟩
    · split at h
      · rename_i h0
        cases h
        subst h0
        refine ⟨[], ⟨hk, fun _ => rfl, ?_, ?_, by simp, fun _ h => by cases h⟩, .nil, rfl⟩
        · simp [Builtin.firstCells, loadCells, loadCellsFrom]
        · simp [Builtin.firstCells, loadCells, loadCellsFrom]
      · obtain ⟨_, h1, h2, vs', h3, h4, h5⟩ := R.ldn h hl
        refine ⟨vs', ⟨hk, fun _ => rfl, ?_, ?_, h3, h4.one h1⟩, h4, h1⟩
        · exact run_firstCells_some w sz n' _ n' c' vs' h3 h5
        · exact run_firstCells_some w.drew sz n' _ n' c' vs' h3 (by simpa using h5)
    · simp at h
      subst h
      refine ⟨[], ⟨hk, fun _ => rfl, ?_, ?_, by simp, fun _ h => by cases h⟩, .nil, rfl⟩
      · simp [Builtin.firstCells, loadCells, loadCellsFrom]
      · simp [Builtin.firstCells, loadCells, loadCellsFrom]
  · rename_i n' c
    simp [lenA] at hn
    subst hn
    simp only [nb, Bool.cond_decide] at h
    split at h
    · rename_i h0
      cases h
      subst h0
      rw [hx.sl0]
      refine ⟨[], ⟨hk, fun _ => rfl, ?_, ?_, by simp, fun _ h => by cases h⟩, .nil, rfl⟩
      · simp [Builtin.firstCells]
      · simp [Builtin.firstCells]
    · cases h
  · rename_i s
    simp [lenA] at hn
    subst hn
    simp only [nb, Bool.cond_decide] at h
    split at h
    · rename_i h1
      cases h
      subst h1
      rw [hx.string]
      refine ⟨byteCells s, ⟨hk, fun _ => rfl, firstCells_string s w, firstCells_string s w.drew, by rw [byteCells_length, Nat.mul_one], fun u hu => ?_⟩, VL_bytes _, ?_⟩
      · obtain ⟨_, _, rfl⟩ := List.mem_map.1 hu
        rfl
      · rw [List.all_eq_true]
        intro u hu
        obtain ⟨_, _, rfl⟩ := List.mem_map.1 hu
        rfl
    · cases h
  · cases h

theorem run_append_at (t tx ty e : TypeId) (i : TypeInfo) (ht : P.underlying t = some (.slice e)) (hi : P.info? e = some i) (b off sLen sCap : Nat) (x : Value) (n : Nat) (news : List Value) (hs : Src P i.size tx x n news w) {w' : World}
    (hroom : sLen + n ≤ sCap) (hst : (storeCells ⟨b, off + sLen * i.size, none⟩ news).run P w = .ok () w') :
    (Builtin.append_ #[t, tx] ty #[.slice (some ⟨b, off, none⟩) sLen sCap, x]).run P w = .ok (.slice (some ⟨b, off, none⟩) (sLen + n) sCap) w' := by
  rcases hs.kind with ⟨e', hk⟩ | hk <;> simp [Builtin.append_, run_underlying ht, run_underlying hk, sizeOf, typeInfo, hi, hs.len, hroom, hs.cells, add_lit, hst]

theorem grownCap_ge (w : World) (need old : Nat) (e : TypeId) (h : need < 2 ^ 63) : need ≤ grownCap w need old e := by
  unfold grownCap
  simp [Question.cut]

theorem size_grown (cs : List Value) (z : Array Value) (need cap sz : Nat) (hz : z.size = sz) (hc : cs.length = need * sz) (hn : need ≤ cap) : (cs.toArray ++ Builtin.zeroCells z (cap - need)).size = cap * sz := by
  simp [size_zeroCells, hz, hc]
  rw [← Nat.add_mul]
  congr 1
  omega
theorem CR_grown {φ : Phi} {cs cs' : List Value} (z : Array Value) (n : Nat) (h : VL φ cs cs') (o : cs.all one = true) : CR φ 0 cs (cs'.toArray ++ Builtin.zeroCells z n) := by
  intro j v hj
  obtain ⟨v', e, hv⟩ := h.get j v hj
  refine ⟨List.all_eq_true.1 o v (List.mem_of_getElem? hj), v', ?_, hv⟩
  have : j < cs'.length := (List.getElem?_eq_some_iff.1 e).1
  rw [Nat.zero_add, Array.getElem?_append_left (by simpa using this)]
  simpa using e

theorem ok_app {sz bytes : Nat} {s x s' x' v : Value} {H' : AH} {t tx ty e : TypeId} {i : TypeInfo} {z : Value} (R : Rel w0 φ H w) (h00 : φ.m H.nx = none) (ht : P.underlying t = some (.slice e)) (hi : P.info? e = some i) (hz : i.zero = some z) (hzs : z.cells.size = i.size)
    (hsz : i.size = sz) (hsz0 : sz ≠ 0) (hby : i.bytes = bytes) (hk : (∃ e', P.underlying tx = some (.slice e')) ∨ P.underlying tx = some .string)
    (hs : V φ s s') (hx : V φ x x') (h : aappend sz bytes H s x = some (v, H')) {r : Result Next} (er : r = ((Builtin.append_ #[t, tx] ty #[s', x']).run P w).andThen fun v w => .ok (.value v) w) :
    OpOk w0 φ H w (.v v) H' r := by
  subst hsz hby
  unfold aappend at h
  split at h
  case h_2 => cases h
  rename_i base sl sc n hn
  split at h
  · rename_i h0
    subst h0
    simp only [Bool.cond_decide] at h
    split at h
    case isFalse => cases h
    rename_i hle
    cases h
    obtain ⟨base', sc', rfl, hb⟩ := V.sln hs
    have hle' : sl ≤ sc' := by
      cases base with
      | none => have he := hs.sl0; simp at he; omega
      | some a =>
        rcases V.sl1 hs with ⟨l, c', _, _, hcc, _, _, he⟩ | ⟨_, rfl, _, _⟩
        · simp at he; omega
        · omega
    have hsrc : Src P i.size tx x' 0 [] w := by
      unfold lenA at hn
      split at hn
      · simp at hn
        subst hn
        obtain ⟨a', c', rfl, _⟩ := V.sln hx
        refine ⟨hk, fun _ => rfl, ?_, ?_, by simp, fun _ h => by cases h⟩ <;> cases a' <;> simp [Builtin.firstCells, loadCells, loadCellsFrom]
      · rename_i s
        simp at hn
        rw [hx.string]
        refine ⟨hk, fun _ => ?_, ?_, ?_, by simp, fun _ h => by cases h⟩
        · simp [Builtin.lenOf, hn]
        · simp [Builtin.firstCells]
        · simp [Builtin.firstCells]
      · cases hn
    rw [run_append_nothing w t tx ty e i ht hi base' sl sc' hle' x' hsrc] at er
    exact .pure R hs er
  · rename_i h0
    cases hq : srcA H i.size x with
    | none => simp [hq] at h
    | some new =>
      simp only [hq] at h
      obtain ⟨news, hS, hv, ho⟩ := ok_src (P := P) R hx hn hq hk
      cases hch : (decide ((sl + n) * i.bytes ≤ 2 ^ 47) && decide (sl + n < 2 ^ 62)) with
      | false => simp [hch] at h
      | true =>
        simp only [hch, cond_true] at h
        simp at hch
        obtain ⟨hb47, hb62⟩ := hch
        have hnl : new.length = n * i.size := by rw [hv.length]; exact hS.newsLen
        split at h
        · rename_i hroom
          cases base with
          | none => cases h
          | some a =>
            simp only at h
            cases hzk : (H.zok a.block i.size && a.spot.isNone) with
            | false => simp [hzk] at h
            | true =>
              simp only [hzk, cond_true] at h
              cases hst : H.st ⟨a.block, a.off + sl * i.size, none⟩ new with
              | none => simp [hst] at h
              | some H1 =>
                simp [hst] at h
                obtain ⟨rfl, rfl⟩ := h
                simp at hzk
                rcases V.sl1 hs with ⟨l, c', hsp, hl, hcc, hc0, hcb, rfl⟩ | ⟨hsp, _⟩
                · have hp : V φ (.pointer (some ⟨a.block, a.off + sl * i.size, none⟩)) (.pointer (some ⟨l.c, a.off + sl * i.size + l.s, none⟩)) := .ptr hl
                  obtain ⟨a', w', e1, e2, R', G⟩ := ok_st (P := P) R hp hst hv ho
                  simp at e1
                  subst e1
                  rw [show a.off + sl * i.size + l.s = a.off + l.s + sl * i.size by omega] at e2
                  rw [run_append_at t tx ty e i ht hi l.c (a.off + l.s) sl c' x' n news hS (by omega) e2] at er
                  refine ⟨φ, w', _, er, R', G, .inl ⟨_, rfl, ?_⟩⟩
                  obtain ⟨b, o, sp⟩ := a
                  dsimp only at hsp ⊢
                  subst hsp
                  exact .sl hl hcc hc0 hcb
                · rw [hsp] at hzk; simp at hzk
        · rename_i hroom
          split at h
          · rename_i hsc
            subst hsc
            obtain ⟨hch2, h⟩ := bif_some h
            simp only [Option.some.injEq, Prod.mk.injEq] at h
            obtain ⟨rfl, rfl⟩ := h
            simp only [nb, Bool.and_eq_true, decide_eq_true_eq] at hch2
            obtain ⟨rfl, hsp⟩ := hch2
            have hs' : ∃ base', s' = .slice base' 0 0 := by
              cases base with
              | none => exact ⟨none, hs.sl0⟩
              | some a =>
                rcases V.sl1 hs with ⟨l, c', _, hl, hcc, hc0, hcb, rfl⟩ | ⟨hsp', _⟩
                · exact ⟨_, by rw [hc0 rfl]⟩
                · dsimp only at hsp; rw [hsp'] at hsp; simp at hsp
            obtain ⟨base', rfl⟩ := hs'
            have hold : (Builtin.firstCells i.size 0 (.slice base' 0 0)).run P w.drew = .ok ([] : List Value).toArray w.drew := by
              cases base' <;> simp [Builtin.firstCells, loadCells, loadCellsFrom]
            have hrun := run_append_grow_src w t tx ty e i z ht hi hz base' 0 0 [] hold x' n news hS (by omega) (by omega) (by
              rw [Nat.zero_add] at *
              exact growslice_fits (by omega) (by simpa using hb47))
            rw [hrun] at er
            simp only [Nat.zero_add, List.nil_append] at er
            have hcap : n ≤ grownCap w n 0 e := grownCap_ge w n 0 e (by omega)
            have hasz := size_grown news z.cells n (grownCap w n 0 e) i.size hzs hS.newsLen hcap
            obtain ⟨R', G⟩ := R.new h00 (w' := w.drew.alloc (.cells (news.toArray ++ Builtin.zeroCells z.cells (grownCap w n 0 e - n)) e)) (z := i.size) (cs := new) rfl rfl rfl rfl (by rw [hasz, hnl]; exact Nat.mul_le_mul_right _ hcap) (CR_grown _ _ hv ho)
            refine ⟨_, _, _, er, R', G, .inl ⟨_, rfl, ?_⟩⟩
            refine .sl (Phi.add_self _ _ _) hcap (by omega) (.inr ?_)
            show 0 + 0 + grownCap w n 0 e * i.size ≤ _
            rw [hasz]
            simp
          · rename_i hsc
            cases base with
            | none => cases h
            | some a =>
              simp only at h
              cases hch2 : (decide (H.n0 ≤ a.block) && a.spot.isNone && H.zok a.block i.size) with
              | false => simp [hch2] at h
              | true =>
                simp only [hch2, cond_true] at h
                cases hld : H.ldn a (sl * i.size) with
                | none => simp [hld] at h
                | some old =>
                  simp [hld] at h
                  obtain ⟨rfl, rfl⟩ := h
                  simp at hch2
                  obtain ⟨⟨hn0, hsp⟩, hzk⟩ := hch2
                  rw [R.n0] at hn0
                  rcases V.sl1 hs with ⟨l, c', hsp', hl, hcc, hc0, hcb, rfl⟩ | ⟨hsp', _⟩
                  case inr => rw [hsp'] at hsp; simp at hsp
                  obtain ⟨b, o, sp⟩ := a
                  dsimp only at *
                  subst hsp'
                  unfold AH.zok at hzk
                  cases hg : H.get b with
                  | none => simp [hg] at hzk
                  | some blk =>
                    cases blk with
                    | map es => simp [hg] at hzk
                    | cells zb cb =>
                      simp [hg] at hzk
                      obtain ⟨g1, g2, g3, arr, e0, g4, g5, g6⟩ := R.cells b l zb cb hn0 hl (AH.raw_of hg)
                      obtain ⟨_, hoo, hol, olds, h3, h4, h5⟩ := R.ldn hld hl
                      have hldb : old = (cb.drop o).take (sl * i.size) ∧ o + sl * i.size ≤ cb.length := by
                        unfold AH.ldn at hld
                        simp only [hg, Bool.cond_decide, R.n0] at hld
                        split at hld
                        · rename_i hn
                          rw [if_neg (by omega)] at hld
                          cases hld
                          exact ⟨rfl, hn⟩
                        · cases hld
                      have hall : (old ++ new).all one = true := by simp only [List.all_append, hoo, ho]; rfl
                      by_cases hc : sl + n ≤ c'
                      · -- room in the model alone
                        have hbound : o + l.s + c' * l.z ≤ l.n := by
                          rcases hcb with e1 | e1
                          · omega
                          · exact e1
                        rw [g2] at hbound
                        have hfit : o + l.s + sl * i.size + news.length ≤ arr.size := by
                          rw [g5, hS.newsLen, show o + l.s + sl * i.size + n * i.size = o + l.s + (sl + n) * i.size by rw [Nat.add_mul]; omega]
                          have : (sl + n) * i.size ≤ c' * zb := Nat.mul_le_mul hc hzk
                          omega
                        have hst := run_storeCells_at P l.c (o + l.s + sl * i.size) e0 news 0 arr w g4 (by omega) hS.one
                        simp only [Nat.add_zero] at hst
                        rw [run_append_at t tx ty e i ht hi l.c (o + l.s) sl c' x' n news hS hc hst] at er
                        have hCR : CR φ (l.s + o) (old ++ new) (arr.toList.take (o + l.s + sl * i.size) ++ news ++ arr.toList.drop (o + l.s + sl * i.size + news.length)).toArray := by
                          intro j v hj
                          by_cases hjo : j < old.length
                          · rw [List.getElem?_append_left hjo] at hj
                            have hjc : cb[o + j]? = some v := by
                              rw [hldb.1] at hj
                              have : j < sl * i.size := by omega
                              simpa [List.getElem?_take, this, List.getElem?_drop] using hj
                            obtain ⟨q1, v', q2, q3⟩ := g6 (o + j) v hjc
                            refine ⟨q1, v', ?_, q3⟩
                            rw [List.getElem?_toArray, List.append_assoc, List.getElem?_append_left (by simp; omega), List.getElem?_take, if_pos (by omega)]
                            have : arr.toList[l.s + (o + j)]? = some v' := by simpa using q2
                            rw [← this]
                            congr 1
                            omega
                          · rw [List.getElem?_append_right (by omega)] at hj
                            obtain ⟨v', q2, q3⟩ := hv.get _ v hj
                            refine ⟨List.all_eq_true.1 ho v (List.mem_of_getElem? hj), v', ?_, q3⟩
                            have hjn : j - old.length < news.length := (List.getElem?_eq_some_iff.1 q2).1
                            rw [List.getElem?_toArray, List.append_assoc, List.getElem?_append_right (by simp; omega), List.getElem?_append_left (by simp; omega), ← q2]
                            congr 1
                            simp
                            omega
                        obtain ⟨R', G⟩ := R.move h00 (s2 := l.s + o) (z2 := i.size) (c2 := old ++ new) (w' := w.setRow l.c (arr.toList.take (o + l.s + sl * i.size) ++ news ++ arr.toList.drop (o + l.s + sl * i.size + news.length)).toArray) hn0 hl hg (setRow_heap w l.c arr _ e0 (0, 0) g4) (fun k hk => setRow_other w l.c k _ hk) (setRow_size _ _ _) rfl rfl rfl (by simp; omega)
                          (by rw [List.length_append, hol, hnl]; rw [hS.newsLen, g5] at hfit; omega) hCR
                        refine ⟨_, _, _, er, R', G, .inl ⟨_, rfl, ?_⟩⟩
                        have hcv : V (φ.add H.nx ⟨l.c, l.s + o, l.n, i.size⟩) (.slice (some ⟨H.nx, 0, none⟩) (sl + n) (sl + n)) (.slice (some ⟨l.c, 0 + (l.s + o), none⟩) (sl + n) c') := by
                          refine .sl (l := ⟨l.c, l.s + o, l.n, i.size⟩) (by simp [Phi.add]) hc (by omega) (.inr ?_)
                          show 0 + (l.s + o) + c' * i.size ≤ l.n
                          have : c' * i.size ≤ c' * zb := Nat.mul_le_mul_left _ hzk
                          omega
                        rw [show 0 + (l.s + o) = o + l.s by omega] at hcv
                        exact hcv
                      · -- a new block on both sides
                        have hold : (Builtin.firstCells i.size sl (.slice (some ⟨l.c, o + l.s, none⟩) sl c')).run P w.drew = .ok olds.toArray w.drew := run_firstCells_some w.drew i.size sl _ sl c' olds h3 (by simpa using h5)
                        have hrun := run_append_grow_src w t tx ty e i z ht hi hz (some ⟨l.c, o + l.s, none⟩) sl c' olds hold x' n news hS (by omega) (by omega) (growslice_fits (by omega) (by simpa using hb47))
                        rw [hrun] at er
                        have hcap : sl + n ≤ grownCap w (sl + n) c' e := grownCap_ge w (sl + n) c' e (by omega)
                        have hasz := size_grown (olds ++ news) z.cells (sl + n) (grownCap w (sl + n) c' e) i.size hzs (by rw [List.length_append, h3, hS.newsLen, Nat.add_mul]) hcap
                        have Rk := R.kill (b := b) hn0
                        obtain ⟨R', G⟩ := Rk.new (show φ.m (H.put b none).nx = none from h00) (w' := w.drew.alloc (.cells ((olds ++ news).toArray ++ Builtin.zeroCells z.cells (grownCap w (sl + n) c' e - (sl + n))) e)) (z := i.size) (cs := old ++ new) rfl rfl rfl rfl
                          (by rw [hasz, List.length_append, hol, hnl, ← Nat.add_mul]; exact Nat.mul_le_mul_right _ hcap) (CR_grown _ _ (h4.append hv) hall)
                        refine ⟨_, _, _, er, R', G.same (by rfl) (by rfl), .inl ⟨_, rfl, ?_⟩⟩
                        refine .sl (Phi.add_self _ _ _) hcap (by omega) (.inr ?_)
                        show 0 + 0 + grownCap w (sl + n) c' e * i.size ≤ _
                        rw [hasz]
                        simp
end
end Go.Proofs.YtoijnpfpjpefgaaGreat.A
