/- Specs: headings. -/
import Derived.Test.YtoijnpfpjpefgaaGreatS2
set_option linter.unusedVariables false
set_option linter.unusedSimpArgs false
namespace Go.Proofs.YtoijnpfpjpefgaaGreat.A
open Go
structure Vr where
  name : ByteArray
  level : Int
  cells : Int
def Vr.row (v : Vr) : List Value := [.string v.name, .int .i64 v.level, .int .i64 v.cells]
def Vars (H : AH) (v : Value) (l : List Vr) : Prop := Rows H 3 v (l.map Vr.row)
theorem Vars.ext {H H' : AH} (E : Ext H H') {v : Value} {l : List Vr} (h : Vars H v l) : Vars H' v l := Rows.ext E h
theorem Vars.len {H : AH} {v : Value} {l : List Vr} (h : Vars H v l) : ∃ a c, v = .slice a l.length c := by
  obtain ⟨a, c, e⟩ := Rows.len h
  exact ⟨a, c, by simpa using e⟩
theorem Vars.at {H : AH} {v : Value} {l : List Vr} (h : Vars H v l) {i : Nat} {x : Vr} (hi : l[i]? = some x) :
    ∃ b o c, v = .slice (some ⟨b, o, none⟩) l.length c ∧ H.ldn ⟨b, o + i * 3, none⟩ 3 = some x.row ∧ H.ld ⟨b, o + i * 3, none⟩ = some (.string x.name) ∧ H.ld ⟨b, o + i * 3 + 1, none⟩ = some (.int .i64 x.level) ∧ H.ld ⟨b, o + i * 3 + 2, none⟩ = some (.int .i64 x.cells) := by
  obtain ⟨b, o, c, e, h2⟩ := Rows.at h (i := i) (r := x.row) (by simp [hi])
  exact ⟨b, o, c, by simpa using e, h2, by simpa using ld_of_ldn h2 (j := 0) rfl, ld_of_ldn h2 (j := 1) rfl, ld_of_ldn h2 (j := 2) rfl⟩
def findV (l : List Vr) (s : ByteArray) : Int := match l.findIdx? (fun v => strEq v.name s) with | some i => i | none => -1
theorem findV_some {l : List Vr} {s : ByteArray} {i : Nat} {x : Vr} (hi : l[i]? = some x) (hx : strEq x.name s = true) (hb : ∀ j y, j < i → l[j]? = some y → strEq y.name s = false) : findV l s = i := by
  have : l.findIdx? (fun v => strEq v.name s) = some i := by
    rw [List.findIdx?_eq_some_iff_getElem]
    obtain ⟨h, e⟩ := List.getElem?_eq_some_iff.1 hi
    refine ⟨h, by rw [e]; exact hx, fun j hj => ?_⟩
    rw [hb j _ hj (List.getElem?_eq_getElem (by omega))]
    simp
  unfold findV; rw [this]
theorem findV_none {l : List Vr} {s : ByteArray} (hb : ∀ (j : Nat) (y : Vr), l[j]? = some y → strEq y.name s = false) : findV l s = -1 := by
  have : l.findIdx? (fun v => strEq v.name s) = none := by
    rw [List.findIdx?_eq_none_iff]
    intro x hx
    obtain ⟨j, hj, e⟩ := List.mem_iff_getElem.1 hx
    exact hb j x (by rw [List.getElem?_eq_getElem hj, e])
  unfold findV; rw [this]
theorem Find_ca {v : Value} {l : List Vr} {H : AH} (hv : Vars H v l) (hsz : l.length < 2 ^ 60) (s : ByteArray) : Ca E O 106 [v, .string s] H (fun x H' => x = .int .i64 (findV l s) ∧ H' = H) := by
  refine Ca.bodyK (F := a106) rfl rfl rfl ?_
  simp -implicitDefEqProofs [a106, aop]
  obtain ⟨a, c, hva⟩ := hv.len
  refine Wk_loop (fun k fr H' => H' = H ∧ ∃ i : Nat, i + k = l.length ∧ fr.get 0 = v ∧ fr.get 1 = .string s ∧ fr.get 5 = .int .i64 i ∧ ∀ j y, j < i → l[j]? = some y → strEq y.name s = false) ?_ l.length ⟨rfl, 0, by simp, by simp, by simp, by simp, fun j y hj => by omega⟩
  rintro k fr H' ⟨rfl, i, hi, h0, h1, h5, hall⟩
  by_cases h : i < l.length
  · obtain ⟨y, hy⟩ : ∃ y, l[i]? = some y := ⟨_, List.getElem?_eq_getElem h⟩
    obtain ⟨b, o, c', hv', _, hld, _⟩ := hv.at hy
    rw [hv'] at h0
    simp -implicitDefEqProofs [aop, h0, h1, h5, h, hld]
    cases hw : strEq y.name s with
    | true =>
      simp -implicitDefEqProofs [aop, h0, h1, h5, hw]
      exact (findV_some hy hw hall).symm
    | false =>
      simp -implicitDefEqProofs [aop, h0, h1, h5, hw]
      rw [wrap_in ⟨by omega, by omega⟩]
      refine ⟨k - 1, by omega, i + 1, by omega, hv'.symm, by simp, fun j z hj hz => ?_⟩
      by_cases e : j = i
      · subst e; rw [hy] at hz; cases hz; exact hw
      · exact hall j z (by omega) hz
  · rw [hva] at h0
    simp -implicitDefEqProofs [aop, h0, h1, h5, h]
    refine (findV_none fun j y hj => hall j y ?_ hj).symm
    have := (List.getElem?_eq_some_iff.1 hj).1
    omega
/-- The sum of whole numbers, as the machine adds. -/
def wsum (l : List Int) : Int := l.foldl (fun a c => IntKind.i64.wrap (a + c)) 0
theorem First_ca {v : Value} {l : List Vr} {H : AH} (hv : Vars H v l) (hsz : l.length < 2 ^ 60) (n : Nat) (hn : n ≤ l.length) : Ca E O 61 [v, .int .i64 n] H (fun x H' => x = .int .i64 (wsum ((l.take n).map (·.cells))) ∧ H' = H) := by
  refine Ca.bodyK (F := a61) rfl rfl rfl ?_
  simp -implicitDefEqProofs [a61, aop]
  refine Wk_loop (fun k fr H' => H' = H ∧ ∃ i : Nat, i + k = n ∧ fr.get 0 = v ∧ fr.get 1 = .int .i64 n ∧ fr.get 6 = .int .i64 i ∧ fr.get 5 = .int .i64 (wsum ((l.take i).map (·.cells)))) ?_ n ⟨rfl, 0, by simp, by simp, by simp, by simp, by simp [wsum]⟩
  rintro k fr H' ⟨rfl, i, hi, h0, h1, h6, h5⟩
  by_cases h : i < n
  · obtain ⟨y, hy⟩ : ∃ y, l[i]? = some y := ⟨_, List.getElem?_eq_getElem (by omega)⟩
    obtain ⟨b, o, c', hv', _, _, _, hld⟩ := hv.at hy
    rw [hv'] at h0
    have hil : i < l.length := by omega
    simp -implicitDefEqProofs [aop, h0, h1, h5, h6, h, hld, hil]
    rw [wrap_in (n := (i : Int) + 1) ⟨by omega, by omega⟩]
    refine ⟨k - 1, by omega, i + 1, by omega, hv'.symm, by simp, ?_⟩
    rw [List.take_add_one]
    simp [wsum, List.getElem?_map, hy, List.foldl_append]
  · simp -implicitDefEqProofs [aop, h0, h1, h5, h6, h]
    rw [show i = n by omega]
def okVar (l : List Vr) (i : Nat) (v : Vr) : Bool := isName v.name && (decide (0 ≤ v.level) && (decide (v.level ≤ 47) && (decide (1 ≤ v.cells) && (decide (v.cells ≤ 8) && decide (findV l v.name = i)))))
def isHeading (w : Int) (l : List Vr) : Bool := isWidth w && (decide (1 ≤ l.length) && (decide (l.length ≤ 18) && ((List.range l.length).all (fun i => match l[i]? with | some v => okVar l i v | none => true) && decide (wsum (l.map (·.cells)) ≤ 48))))
theorem okVar_cells {l : List Vr} {i : Nat} {v : Vr} (h : okVar l i v = true) : 1 ≤ v.cells ∧ v.cells ≤ 8 := by
  simp [okVar] at h
  exact ⟨h.2.2.2.1, h.2.2.2.2.1⟩
/-- The texts' sizes. -/
def VarsOk (l : List Vr) : Prop := l.length < 2 ^ 60 ∧ ∀ v ∈ l, v.name.size < 2 ^ 60
theorem Heading_ca {v : Value} {l : List Vr} {H : AH} (hw : H.n0 ≤ H.nx) (hv : Vars H v l) (hok : VarsOk l) (w : Int) : Ca E O 79 [.int .i64 w, v] H (fun x H' => x = .bool (isHeading w l) ∧ Ext H H') := by
  refine Ca.bodyK (F := a79) rfl rfl rfl ?_
  obtain ⟨a, c, hva⟩ := hv.len
  have hsz := hok.1
  simp -implicitDefEqProofs [a79, aop]
  refine Wr_call ?_
  simp -implicitDefEqProofs
  refine (Width_ca w H).mono ?_
  rintro x H' ⟨rfl, rfl⟩
  cases e1 : isWidth w with
  | false => simp -implicitDefEqProofs [aop, isHeading, e1, Ext.refl]
  | true =>
    by_cases h1 : 1 ≤ l.length
    case neg =>
      have h1' : l.length = 0 := by omega
      simp -implicitDefEqProofs [aop, isHeading, e1, hva, h1', Ext.refl]
    by_cases h2 : l.length ≤ 18
    case neg =>
      have h1' : ¬ (l.length : Int) < 1 := by omega
      have h2' : (18 : Int) < l.length := by omega
      have h2'' : 18 < l.length := by omega
      simp -implicitDefEqProofs [aop, isHeading, e1, hva, h1, h1', h2, h2', h2'', Ext.refl]
    have h1' : ¬ (l.length : Int) < 1 := by omega
    have h2' : ¬ (18 : Int) < l.length := by omega
    have h2'' : ¬ 18 < l.length := by omega
    simp -implicitDefEqProofs [aop, e1, hva, h1, h1', h2, h2', h2'']
    refine Wk_loop (fun k fr H1 => Ext H' H1 ∧ ∃ i : Nat, i + k = l.length ∧ fr.get 1 = v ∧ fr.get 6 = .int .i64 i ∧ fr.get 5 = .int .i64 (wsum ((l.take i).map (·.cells))) ∧ ∀ j y, j < i → l[j]? = some y → okVar l j y = true) ?_ l.length ⟨Ext.refl _, 0, by simp, by simp [hva], by simp, by simp [wsum], fun j y hj => by omega⟩
    rintro k fr H1 ⟨X1, i, hi, f1, f6, f5, hall⟩
    have hw1 := X1.wf hw
    have hv1 := hv.ext X1
    have notOk : ∀ y, l[i]? = some y → okVar l i y = false → isHeading w l = false := by
      intro y hy hn
      have : ((List.range l.length).all (fun i => match l[i]? with | some v => okVar l i v | none => true)) = false := by
        rw [List.all_eq_false]
        refine ⟨i, ?_, ?_⟩
        · have := (List.getElem?_eq_some_iff.1 hy).1; simpa using this
        · rw [hy]; simp [hn]
      simp [isHeading, this]
    by_cases h : i < l.length
    · obtain ⟨y, hy⟩ : ∃ y, l[i]? = some y := ⟨_, List.getElem?_eq_getElem h⟩
      obtain ⟨b, o, c', hv', hldn, _⟩ := hv1.at hy
      have hname := hok.2 y (List.mem_of_getElem? hy)
      have f1v := f1
      rw [hv'] at f1
      obtain ⟨H2, hst, X2, nx2, n02, hl2, hld2⟩ := st_new (H := H1) hw1 (z := 3) (c := [.string ⟨#[]⟩, .int .i64 0, .int .i64 0]) (vs := y.row) rfl
      have d0 : H2.ld ⟨H1.nx, 0, none⟩ = some (.string y.name) := hld2 0 _ rfl
      have d1 : H2.ld ⟨H1.nx, 1, none⟩ = some (.int .i64 y.level) := hld2 1 _ rfl
      have d2 : H2.ld ⟨H1.nx, 2, none⟩ = some (.int .i64 y.cells) := hld2 2 _ rfl
      simp -implicitDefEqProofs [aop, f1, f6, h, hldn, vcells, isTup, Vr.row] at hst ⊢
      simp -implicitDefEqProofs [aop, hst, d0]
      refine Wr_call ?_
      simp -implicitDefEqProofs
      refine (Name_ca y.name hname H2).mono ?_
      rintro x H3 ⟨rfl, rfl⟩
      cases n1 : isName y.name with
      | false =>
        simp -implicitDefEqProofs [aop, f1, f6, d0, d1, d2, n1]
        exact ⟨notOk y hy (by simp [okVar, n1]), X1.trans X2⟩
      | true =>
        by_cases n2 : 0 ≤ y.level
        case neg =>
          have n2' : y.level < 0 := by omega
          simp -implicitDefEqProofs [aop, f1, f6, d0, d1, d2, n1, n2, n2']
          exact ⟨notOk y hy (by simp [okVar, n1, n2, n2']), X1.trans X2⟩
        have n2' : ¬ y.level < 0 := by omega
        by_cases n3 : y.level ≤ 47
        case neg =>
          have n3' : 47 < y.level := by omega
          simp -implicitDefEqProofs [aop, f1, f6, d0, d1, d2, n1, n2, n2', n3, n3']
          exact ⟨notOk y hy (by simp [okVar, n1, n2, n2', n3, n3']), X1.trans X2⟩
        have n3' : ¬ 47 < y.level := by omega
        by_cases n4 : 1 ≤ y.cells
        case neg =>
          have n4' : y.cells < 1 := by omega
          simp -implicitDefEqProofs [aop, f1, f6, d0, d1, d2, n1, n2, n2', n3, n3', n4, n4']
          exact ⟨notOk y hy (by simp [okVar, n1, n2, n2', n3, n3', n4, n4']), X1.trans X2⟩
        have n4' : ¬ y.cells < 1 := by omega
        by_cases n5 : y.cells ≤ 8
        case neg =>
          have n5' : 8 < y.cells := by omega
          simp -implicitDefEqProofs [aop, f1, f6, d0, d1, d2, n1, n2, n2', n3, n3', n4, n4', n5, n5']
          exact ⟨notOk y hy (by simp [okVar, n1, n2, n2', n3, n3', n4, n4', n5, n5']), X1.trans X2⟩
        have n5' : ¬ 8 < y.cells := by omega
        simp -implicitDefEqProofs [aop, f1, f6, d0, d1, d2, n1, n2, n2', n3, n3', n4, n4', n5, n5']
        refine Wr_call ?_
        simp -implicitDefEqProofs [f1]
        rw [← hv']
        refine (Find_ca (hv1.ext X2) hsz y.name).mono ?_
        rintro x H4 ⟨rfl, rfl⟩
        by_cases n6 : findV l y.name = i
        case neg =>
          simp -implicitDefEqProofs [aop, f1, f6, d0, d1, d2, n1, n2, n2', n3, n3', n4, n4', n5, n5', n6]
          exact ⟨notOk y hy (by simp [okVar, n1, n2, n2', n3, n3', n4, n4', n5, n5', n6]), X1.trans X2⟩
        simp -implicitDefEqProofs [aop, f1, f5, f6, d0, d1, d2, n1, n2, n2', n3, n3', n4, n4', n5, n5', n6]
        rw [wrap_in (n := (i : Int) + 1) ⟨by omega, by omega⟩]
        refine ⟨k - 1, by omega, X1.trans X2, i + 1, by omega, hv'.symm, by simp, ?_, fun j z hj hz => ?_⟩
        · rw [List.take_add_one]
          simp [wsum, List.getElem?_map, hy, List.foldl_append]
        · by_cases e : j = i
          · subst e; rw [hy] at hz; cases hz
            simp [okVar, n1, n2, n3, n4, n5, n6]
          · exact hall j z (by omega) hz
    · have hil : i = l.length := by omega
      rw [hva] at f1
      simp -implicitDefEqProofs [aop, f1, f5, f6, h]
      refine ⟨?_, X1⟩
      have hall' : ((List.range l.length).all (fun i => match l[i]? with | some v => okVar l i v | none => true)) = true := by
        rw [List.all_eq_true]
        intro j hj
        have hj' : j < l.length := by simpa using hj
        rw [List.getElem?_eq_getElem hj']
        exact hall j _ (by omega) (List.getElem?_eq_getElem hj')
      rw [isHeading, e1, hall', hil]
      have : List.take l.length (l.map fun x => x.cells) = l.map fun x => x.cells := List.take_of_length_le (by simp)
      simp [h1, h2, this]
end Go.Proofs.YtoijnpfpjpefgaaGreat.A
