/- Specs: the program's statements checked. -/
import Derived.Test.YtoijnpfpjpefgaaGreatS19
set_option linter.unusedVariables false
set_option linter.unusedSimpArgs false
set_option maxRecDepth 10000
namespace Go.Proofs.YtoijnpfpjpefgaaGreat.A
open Go
mutual
def countSt : Stm → Int
  | .mk _ _ _ thn els => 1 + countS thn + countS els
def countS : List Stm → Int
  | [] => 0
  | s :: ss => countSt s + countS ss
end
theorem nodesS_take {l : List Stm} {i : Nat} {y : Stm} (h : l[i]? = some y) : nodesS (l.take (i + 1)) = nodesS (l.take i) + nodesSt y := by
  induction l generalizing i with
  | nil => simp at h
  | cons x l ih =>
    cases i with
    | zero => simp at h; subst h; simp [nodesS]
    | succ i => simp only [List.take_succ_cons, nodesS]; rw [ih (by simpa using h)]; omega
theorem countS_take {l : List Stm} {i : Nat} {y : Stm} (h : l[i]? = some y) : countS (l.take (i + 1)) = countS (l.take i) + countSt y := by
  induction l generalizing i with
  | nil => simp at h
  | cons x l ih =>
    cases i with
    | zero => simp at h; subst h; simp [countS]
    | succ i => simp only [List.take_succ_cons, countS]; rw [ih (by simpa using h)]; omega
theorem nodesS_pos (l : List Stm) : 0 ≤ nodesS l := (leftSts_eq l).1
theorem nodesSt_pos : ∀ s : Stm, 1 ≤ nodesSt s
  | .mk op n args thn els => by
    rw [nodesSt]; have := nodesL_pos args; have := nodesS_pos thn; have := nodesS_pos els; omega
theorem nodesS_take_le (l : List Stm) (i : Nat) : 0 ≤ nodesS (l.take i) ∧ nodesS (l.take i) ≤ nodesS l := by
  induction l generalizing i with
  | nil => simp [nodesS]
  | cons x l ih =>
    have h1 := nodesSt_pos x
    have h2 := nodesS_pos l
    cases i with
    | zero => simp only [List.take_zero, nodesS]; omega
    | succ i => simp only [List.take_succ_cons, nodesS]; have := ih i; omega
theorem countS_bound : ∀ l : List Stm, 0 ≤ countS l ∧ countS l ≤ nodesS l := stm_rec fun l ih => by
  induction l with
  | nil => simp [countS, nodesS]
  | cons s ss ihl =>
    obtain ⟨op, n, args, thn, els⟩ := s
    have h1 := ih op n args thn els (by simp)
    have h2 := ihl fun op n args thn els h => ih op n args thn els (by simp [h])
    have := nodesL_pos args
    rw [countS, countSt, nodesS, nodesSt]
    omega
theorem countS_take_le (l : List Stm) (i : Nat) : 0 ≤ countS (l.take i) ∧ countS (l.take i) ≤ nodesS (l.take i) := countS_bound _
theorem depthS_mem {op n : Int} {args : List Exp} {thn els : List Stm} : ∀ {l : List Stm} {k : Int}, Stm.mk op n args thn els ∈ l → 1 + depthS thn 0 ≤ depthS l k ∧ 1 + depthS els 0 ≤ depthS l k
  | x :: l, k, h => by
    rw [depthS]
    have mono : ∀ (l : List Stm) (k : Int), k ≤ depthS l k := by
      intro l
      induction l with
      | nil => intro k; rw [depthS]; omega
      | cons z l ih =>
        obtain ⟨op, n, args, thn, els⟩ := z
        intro k; rw [depthS, depthSt]; have := ih (max (max k (1 + depthS thn 0)) (1 + depthS els 0)); omega
    rcases List.mem_cons.1 h with rfl | h
    · have := mono l (depthSt (.mk op n args thn els) k)
      rw [depthSt] at this ⊢
      omega
    · exact depthS_mem h
theorem depthS_le {l : List Stm} {k m : Int} (hk : k ≤ m) (h : ∀ op n args thn els, Stm.mk op n args thn els ∈ l → 1 + depthS thn 0 ≤ m ∧ 1 + depthS els 0 ≤ m) : depthS l k ≤ m := by
  induction l generalizing k with
  | nil => rw [depthS]; exact hk
  | cons x l ih =>
    obtain ⟨op, n, args, thn, els⟩ := x
    rw [depthS, depthSt]
    have := h op n args thn els (by simp)
    exact ih (by omega) fun op n args thn els hy => h op n args thn els (by simp [hy])
/-- What the program asks of a statement's shape. -/
def shapeP (op : Int) (nt ne : Nat) : Bool := !(decide (0 < nt) && (!decide (op = 1) && !decide (op = 2))) && !(decide (0 < ne) && !decide (op = 1))
theorem headOk_eq {w : Int} {V : List Vr} (hV : isHeading w V = true) (op n : Int) (na nt ne : Nat) : headOk V op n na nt ne = (decide (argsP V op n = na) && shapeP op nt ne) := by
  have hz : ∀ more : Int, 0 ≤ more → varOk V n na more = decide ((if (if 0 ≤ n ∧ n < V.length then cellsAt V n else 0) = 0 then -1 else if 1 < (if 0 ≤ n ∧ n < V.length then cellsAt V n else 0) then more + 1 else more) = (na : Int)) := by
    intro more hm
    unfold varOk
    by_cases h : 0 ≤ n ∧ n < V.length
    · obtain ⟨y, hy⟩ : ∃ y, V[n.toNat]? = some y := ⟨_, List.getElem?_eq_getElem (by omega)⟩
      have hc : cellsAt V n = y.cells := by simp [cellsAt, hy]
      have := isHeading_cells hV hy
      have z0 : ¬ y.cells = 0 := by omega
      rw [if_pos h, hc, if_neg z0]
      simp only [h.1, h.2, decide_true, Bool.true_and]
      by_cases h2 : 1 < y.cells
      · rw [if_pos h2, if_pos h2]; rw [Bool.eq_iff_iff]; simp; omega
      · rw [if_neg h2, if_neg h2]; rw [Bool.eq_iff_iff]; simp; omega
    · rw [if_neg h, if_pos rfl]
      rw [Bool.eq_iff_iff]
      simp
      omega
  unfold headOk argsP shapeP
  by_cases o0 : op = 0
  · subst o0
    rw [hz 1 (by omega)]
    simp only [if_true]
    rw [show (1 : Int) + 1 = 2 by rfl]
    generalize decide ((if (if 0 ≤ n ∧ n < V.length then cellsAt V n else 0) = 0 then (-1 : Int) else if 1 < (if 0 ≤ n ∧ n < V.length then cellsAt V n else 0) then 2 else 1) = na) = A
    rw [Bool.eq_iff_iff]
    cases A <;> simp
  by_cases o4 : op = 4
  · subst o4
    rw [hz 0 (by omega)]
    simp only [if_true, if_neg (show ¬ (4 : Int) = 0 by omega), if_neg (show ¬ (4 : Int) = 1 by omega), if_neg (show ¬ (4 : Int) = 2 by omega), if_neg (show ¬ (4 : Int) = 3 by omega)]
    rw [show (0 : Int) + 1 = 1 by rfl]
    generalize decide ((if (if 0 ≤ n ∧ n < V.length then cellsAt V n else 0) = 0 then (-1 : Int) else if 1 < (if 0 ≤ n ∧ n < V.length then cellsAt V n else 0) then 1 else 0) = na) = A
    rw [Bool.eq_iff_iff]
    cases A <;> simp
  simp only [if_neg o0, if_neg o4]
  rw [Bool.eq_iff_iff]
  by_cases o3 : op = 3
  · subst o3
    rw [if_neg (by omega), if_neg (by omega), if_pos rfl, if_pos rfl]
    by_cases a : n < 0
    · rw [if_pos a]; simp; omega
    · by_cases b : 47 < n
      · rw [if_neg a, if_pos b]; simp; omega
      · rw [if_neg a, if_neg b]; simp; omega
  by_cases o1 : op = 1
  · subst o1
    by_cases a : n = 0
    · simp [a] <;> omega
    · simp [a]
  by_cases o2 : op = 2
  · subst o2
    by_cases a : n = 0
    · simp [a] <;> omega
    · simp [a]
  by_cases o5 : op = 5
  · subst o5
    by_cases a : n = 0
    · simp [a] <;> omega
    · simp [a]
  by_cases o6 : op = 6
  · subst o6
    by_cases a : n = 0
    · simp [a] <;> omega
    · simp [a]
  simp [o3, o1, o2, o5, o6]
theorem argsP_le (V : List Vr) (op n : Int) : argsP V op n ≤ 2 := by
  unfold argsP
  dsimp only
  repeat' split
  all_goals omega
end Go.Proofs.YtoijnpfpjpefgaaGreat.A
