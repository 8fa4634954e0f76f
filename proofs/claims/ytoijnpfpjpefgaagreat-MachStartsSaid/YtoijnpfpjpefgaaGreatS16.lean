/- Specs: the program's headings. -/
import Derived.Test.YtoijnpfpjpefgaaGreatS15
set_option linter.unusedVariables false
set_option linter.unusedSimpArgs false
set_option maxRecDepth 10000
namespace Go.Proofs.YtoijnpfpjpefgaaGreat.A
open Go
/-- A map whose keys are texts. -/
def smap (l : List (ByteArray × Value)) : List (Value × Value) := l.map fun p => (.string p.1, p.2)
theorem findA_s (s : ByteArray) : ∀ l : List (ByteArray × Value), findA (.string s) (smap l) = some ((l.find? fun p => strEq s p.1).map (·.2))
  | [] => rfl
  | p :: l => by
    have ih := findA_s s l
    unfold smap at ih ⊢
    simp only [List.map_cons, findA, veq?, List.find?_cons]
    change (match some (strEq s p.1) with | some true => _ | some false => _ | none => _) = _
    cases strEq s p.1
    · exact ih
    · rfl
theorem updA_s (s : ByteArray) (v : Value) : ∀ l : List (ByteArray × Value), (∀ p ∈ l, strEq s p.1 = false) → updA (.string s) v (smap l) = some (smap (l ++ [(s, v)]))
  | [], _ => rfl
  | p :: l, h => by
    have ih := updA_s s v l fun q hq => h q (by simp [hq])
    unfold smap at ih ⊢
    simp only [List.map_cons, updA, veq?, List.cons_append]
    change (match some (strEq s p.1) with | some true => _ | some false => _ | none => _) = _
    rw [h p (by simp)]
    simp [ih]
theorem lookV_f {kk m : Nat} {z k v : Value} {H : AH} {es : List (Value × Value)} (hg : H.get m = some (.map es)) (h0 : H.n0 ≤ m) (hk : keyOk kk k = true) (hf : findA k es = some (some v)) : lookV kk z H (.map (some m)) k false = some v := by
  simp [lookV, hg, h0, hk, hf]
theorem lookV_n {kk m : Nat} {z k : Value} {H : AH} {es : List (Value × Value)} (hg : H.get m = some (.map es)) (h0 : H.n0 ≤ m) (hk : keyOk kk k = true) (hf : findA k es = some none) : lookV kk z H (.map (some m)) k false = some z := by
  simp [lookV, hg, h0, hk, hf]
theorem mupV_m {kk m : Nat} {k v : Value} {H : AH} {es es' : List (Value × Value)} (hg : H.get m = some (.map es)) (h0 : H.n0 ≤ m) (hk : keyOk kk k = true) (ht : isTup v = false) (hu : updA k v es = some es') :
    ∃ H2, mupV kk H (.map (some m)) k v = some H2 ∧ Mod (fun x => x = m) H H2 ∧ H2.nx = H.nx ∧ H2.n0 = H.n0 ∧ H2.get m = some (.map es') := by
  have hb := AH.get_lt hg
  refine ⟨H.put m (some (.map es')), by simp [mupV, hg, h0, hk, ht, hu], ⟨rfl, Nat.le_refl _, fun x hx hs => ?_⟩, rfl, rfl, ?_⟩
  · rw [AH.get_put _ _ _ _ hb, if_neg hs]
  · rw [AH.get_put _ _ _ _ hb, if_pos rfl]
def namesM (l : List Vr) : List (ByteArray × Value) := l.map fun v => (v.name, .bool true)
theorem namesM_find (l : List Vr) (s : ByteArray) : ((namesM l).find? fun p => strEq s p.1).map (·.2) = if l.any (fun v => strEq v.name s) = true then some (.bool true) else none := by
  induction l with
  | nil => rfl
  | cons v l ih =>
    simp only [namesM, List.map_cons, List.find?_cons, List.any_cons]
    have e : strEq s v.name = strEq v.name s := by
      rw [Bool.eq_iff_iff, strEq_iff, strEq_iff]; exact eq_comm
    rcases Bool.eq_false_or_eq_true (strEq v.name s) with q | q
    · rw [q] at e
      simp [e, q]
    · rw [q] at e
      simp only [e, q, Bool.false_or]
      simpa [namesM] using ih
theorem any_take {l : List Vr} {i : Nat} {y : Vr} (hy : l[i]? = some y) : ((l.take i).any fun v => strEq v.name y.name) = !decide (findV l y.name = i) := by
  have hi := (List.getElem?_eq_some_iff.1 hy).1
  cases q : (l.take i).any fun v => strEq v.name y.name with
  | false =>
    have : findV l y.name = i := findV_some hy (by rw [strEq_iff]) fun j z hj hz => by
      rw [List.any_eq_false] at q
      have := q z (List.mem_of_getElem? (i := j) (by rw [List.getElem?_take, if_pos hj]; exact hz))
      simpa using this
    simp [this]
  | true =>
    rw [List.any_eq_true] at q
    obtain ⟨z, hz, hs⟩ := q
    obtain ⟨j, hj, e⟩ := List.mem_iff_getElem.1 hz
    have : ¬ findV l y.name = i := by
      intro hf
      unfold findV at hf
      split at hf
      · rename_i k hk
        rw [List.findIdx?_eq_some_iff_getElem] at hk
        obtain ⟨_, _, hk⟩ := hk
        have hji : j < i := by simp at hj; omega
        have := hk j (by omega)
        rw [List.getElem_take] at e
        rw [e, hs] at this
        simp at this
      · omega
    simp [this]
def okAt (l : List Vr) (i : Nat) : Bool := match l[i]? with | some v => okVar l i v | none => true
theorem isHeading_eq (w : Int) (l : List Vr) : isHeading w l = (isWidth w && (decide (1 ≤ l.length) && (decide (l.length ≤ 18) && ((List.range l.length).all (okAt l) && decide (wsum (l.map (·.cells)) ≤ 48))))) := rfl
theorem okAt_some {l : List Vr} {i : Nat} {y : Vr} (h : l[i]? = some y) : okAt l i = okVar l i y := by unfold okAt; rw [h]
set_option maxHeartbeats 1000000 in
theorem Head_ca {v : Value} {l : List Vr} {H : AH} (hw : H.n0 ≤ H.nx) (hv : Vars H v l) (hok : VarsOk l) (w : Int) : Ca E O 102 [.int .i64 w, v] H (fun x H' => x = .int .i64 (if isHeading w l = true then 0 else 1) ∧ Ext H H') := by
  refine Ca.bodyV (F := a102) rfl rfl rfl ?_
  obtain ⟨a, c, hva⟩ := hv.len
  have hsz := hok.1
  have X0 := Ext.alloc H (.map [])
  have g0 := get_new H (.map [])
  generalize hH0 : H.alloc (.map []) = H0 at X0 g0
  simp (maxSteps := 4000000) -implicitDefEqProofs +contextual [-X.ev, a102, hva, hH0]
  have z1 : isHeading w l = true → 1 ≤ w ∧ w ≤ 8 ∧ 1 ≤ l.length ∧ l.length ≤ 18 := by
    intro h; simp [isHeading, isWidth] at h; omega
  have nf : ¬ (1 ≤ w ∧ w ≤ 8 ∧ 1 ≤ l.length ∧ l.length ≤ 18) → isHeading w l = false := fun q => by
    rw [Bool.eq_false_iff]; exact fun h => q (z1 h)
  refine br_i (fun q => ?_) (fun q1 => br_i (fun q => ?_) (fun q2 => br_i (fun q => ?_) (fun q3 => br_i (fun q => ?_) (fun q4 => ?_))))
  · exact ⟨nf (by omega), Ext.refl _⟩
  · exact ⟨nf (by omega), Ext.refl _⟩
  · exact ⟨nf (by omega), Ext.refl _⟩
  · exact ⟨nf (by omega), Ext.refl _⟩
  refine Vk_loop (fun k fr H1 => Ext H H1 ∧ H1.get H.nx = some (.map (smap (namesM (l.take (l.length - k))))) ∧ k ≤ l.length ∧ ∃ i : Nat, i + k = l.length ∧ fr.get 26 = v ∧ fr.get 27 = .int .i64 l.length ∧ fr.get 28 = .int .i64 i ∧ fr.get 5 = .map (some H.nx) ∧ fr.get 6 = .int .i64 (wsum ((l.take i).map (·.cells))) ∧ ∀ j y, j < i → l[j]? = some y → okVar l j y = true) ?_ l.length ⟨X0, by simpa [namesM, smap] using g0, Nat.le_refl _, 0, by simp, by simp [hva], by simp, by simp, by simp, by simp [wsum], fun j y hj => by omega⟩
  rintro k fr H1 ⟨X1, gm, hk, i, hi, f26, f27, f28, f5, f6, hall⟩
  rw [show l.length - k = i by omega] at gm
  have hw1 := X1.wf hw
  have hn0 : H1.n0 ≤ H.nx := by rw [X1.n0]; exact hw
  have notOk : ∀ y, l[i]? = some y → okVar l i y = false → isHeading w l = false := by
    intro y hy hn
    have : ((List.range l.length).all (okAt l)) = false := by
      rw [List.all_eq_false]
      refine ⟨i, ?_, ?_⟩
      · have := (List.getElem?_eq_some_iff.1 hy).1; simpa using this
      · rw [okAt_some hy]; simp [hn]
    simp only [isHeading_eq, this, Bool.false_and, Bool.and_false]
  by_cases h : i < l.length
  · obtain ⟨y, hy⟩ : ∃ y, l[i]? = some y := ⟨_, List.getElem?_eq_getElem h⟩
    obtain ⟨b, o, c', hv', hldn, _⟩ := (hv.ext X1).at hy
    have hname := hok.2 y (List.mem_of_getElem? hy)
    have f26v := f26
    rw [hv'] at f26
    obtain ⟨H2, sH2, X2, nxH2, n0H2, d, lH2⟩ := st_new (H := H1) hw1 (z := 3) (c := [.string ⟨#[]⟩, .int .i64 0, .int .i64 0]) (vs := [.string y.name, .int .i64 y.level, .int .i64 y.cells]) rfl
    have d0 : H2.ld ⟨H1.nx, 0, none⟩ = some (.string y.name) := lH2 0 _ rfl
    have d1 : H2.ld ⟨H1.nx, 1, none⟩ = some (.int .i64 y.level) := lH2 1 _ rfl
    have d2 : H2.ld ⟨H1.nx, 2, none⟩ = some (.int .i64 y.cells) := lH2 2 _ rfl
    clear lH2
    replace d : H2.ldn ⟨H1.nx, 0, none⟩ 3 = some [.string y.name, .int .i64 y.level, .int .i64 y.cells] := d
    have hwH2 := X2.wf hw1
    have gm2 := X2.get gm
    have h0 : H2.n0 ≤ H.nx := by rw [n0H2]; exact hn0
    have key : isHeading w l = true → okVar l i y = true := fun hh => by
      cases e : okVar l i y with
      | true => rfl
      | false => rw [notOk y hy e] at hh; cases hh
    have lk : lookV 1 (.bool false) H2 (.map (some H.nx)) (.string y.name) false = some (.bool (!decide (findV l y.name = i))) := by
      have hf := findA_s y.name (namesM (l.take i))
      rw [namesM_find, any_take hy] at hf
      by_cases e : findV l y.name = i
      · rw [lookV_n gm2 h0 rfl (by simpa [e] using hf)]; simp [e]
      · rw [lookV_f gm2 h0 rfl (by simpa [e] using hf)]; simp [e]
    simp (maxSteps := 4000000) -implicitDefEqProofs +contextual [-X.ev, f26, f27, f28, f5, f6, h, hldn, Vr.row, sH2, d0]
    apply Vx_callM
    · (simp -implicitDefEqProofs [-X.ev]; rfl)
    refine (isName_ca y.name hname H2).mono ?_
    rintro x H3 ⟨rfl, rfl⟩
    have X3 := X1.trans X2
    cases n1 : isName y.name with
    | false =>
      simp (maxSteps := 4000000) -implicitDefEqProofs +contextual [-X.ev, f26, f27, f28, f5, f6]
      rw [notOk y hy (by simp [okVar, n1])]
      exact ⟨rfl, X3⟩
    | true =>
      by_cases hok1 : okVar l i y = true
      · obtain ⟨_, m1, m2, m3, m4, m5⟩ : isName y.name = true ∧ 0 ≤ y.level ∧ y.level ≤ 47 ∧ 1 ≤ y.cells ∧ y.cells ≤ 8 ∧ findV l y.name = i := by simpa [okVar] using hok1
        have m1' : ¬ y.level < 0 := by omega
        have m2' : ¬ 47 < y.level := by omega
        have m3' : ¬ y.cells < 1 := by omega
        have m4' : ¬ 8 < y.cells := by omega
        obtain ⟨H4, sm, X4, nx4, n04, gm4⟩ := mupV_m (v := .bool true) gm2 h0 (kk := 1) (k := .string y.name) rfl rfl (updA_s y.name (.bool true) (namesM (l.take i)) (by
          have := any_take hy
          simp only [m5, decide_true, Bool.not_true] at this
          rw [List.any_eq_false] at this
          intro p hp
          unfold namesM at hp
          obtain ⟨z, hz, rfl⟩ := List.mem_map.1 hp
          have := this z hz
          have e : strEq y.name z.name = strEq z.name y.name := by
            rw [Bool.eq_iff_iff, strEq_iff, strEq_iff]; exact eq_comm
          simpa [e] using this))
        have hne : ¬ H1.nx = H.nx := by have := AH.get_lt gm; omega
        have d2' := X4.ld (a := ⟨H1.nx, 2, none⟩) hne d2
        simp (maxSteps := 4000000) -implicitDefEqProofs +contextual [-X.ev, f26, f27, f28, f5, f6, d0, d1, d2, lk, m5, m1', m2', m3', m4', sm, d2']
        have hbd : -9223372036854775808 ≤ (i : Int) + 1 ∧ (i : Int) + 1 ≤ 9223372036854775807 := by omega
        rw [wrap_in (n := (i : Int) + 1) hbd]
        refine ⟨k - 1, by omega, X3.mod X4 (by rintro x rfl; exact Nat.le_refl _), ?_, by omega, i + 1, by omega, hv'.symm, by simp, ?_, ?_⟩
        · rw [gm4, show l.length - (k - 1) = i + 1 by omega, List.take_add_one, hy]
          simp [namesM]
        · rw [List.take_add_one]
          simp [wsum, List.getElem?_map, hy, List.foldl_append]
        · intro j z hj hz
          by_cases e : j = i
          · subst e; rw [hy] at hz; cases hz; exact hok1
          · exact hall j z (by omega) hz
      · have hok2 : okVar l i y = false := by simpa using hok1
        have hno := notOk y hy hok2
        have hor : ¬ (findV l y.name = i ∧ ¬ y.level < 0 ∧ ¬ 47 < y.level ∧ ¬ y.cells < 1 ∧ ¬ 8 < y.cells) := by
          rintro ⟨a1, a2, a3, a4, a5⟩
          apply hok1
          simp [okVar, n1, a1]
          omega
        by_cases p1 : findV l y.name = i
        case neg => 
          simp (maxSteps := 4000000) -implicitDefEqProofs +contextual [-X.ev, f26, f27, f28, f5, f6, d0, d1, d2, lk, p1, hno, X3]
        by_cases p2 : y.level < 0
        case pos => 
          simp (maxSteps := 4000000) -implicitDefEqProofs +contextual [-X.ev, f26, f27, f28, f5, f6, d0, d1, d2, lk, p1, p2, hno, X3]
        by_cases p3 : 47 < y.level
        case pos => 
          simp (maxSteps := 4000000) -implicitDefEqProofs +contextual [-X.ev, f26, f27, f28, f5, f6, d0, d1, d2, lk, p1, p2, p3, hno, X3]
        by_cases p4 : y.cells < 1
        case pos => 
          simp (maxSteps := 4000000) -implicitDefEqProofs +contextual [-X.ev, f26, f27, f28, f5, f6, d0, d1, d2, lk, p1, p2, p3, p4, hno, X3]
        have p5 : 8 < y.cells := by
          rcases Int.lt_or_le 8 y.cells with e | e
          · exact e
          · exact absurd ⟨p1, p2, p3, p4, by omega⟩ hor
        simp (maxSteps := 4000000) -implicitDefEqProofs +contextual [-X.ev, f26, f27, f28, f5, f6, d0, d1, d2, lk, p1, p2, p3, p4, p5, hno, X3]
  · have hl : i = l.length := by omega
    have hc : isHeading w l = decide (wsum (l.map (·.cells)) ≤ 48) := by
      have a1 : isWidth w = true := by simp [isWidth]; omega
      have a2 : ((List.range l.length).all (okAt l)) = true := by
        rw [List.all_eq_true]
        intro j hj
        cases e : l[j]? with
        | none => unfold okAt; rw [e]
        | some y => rw [okAt_some e]; exact hall j y (by simp at hj; omega) e
      have a3 : 1 ≤ l.length := by omega
      have a4 : l.length ≤ 18 := by omega
      simp only [isHeading_eq, a1, a2, a3, a4, decide_true, Bool.true_and]
    rw [hl, List.take_length] at f6
    simp (maxSteps := 4000000) -implicitDefEqProofs +contextual [-X.ev, f26, f27, f28, f5, f6, h, X1, hc]
end Go.Proofs.YtoijnpfpjpefgaaGreat.A
