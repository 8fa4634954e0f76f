/-
  NARROWER THAN 'FOR EVERY INPUT', by the rows' own cells (each row's printed sentence says how): MachStarts: loops · MachRuns: loops · MachFuel: loops · MachPicks: loops · MachCost: loops · MachOwn: loops · MachBoth: loops · MachSteps: loops.
  DERIVED. THE GIVEN ROWS OF THIS SEAT. 8 by the template 'for every input the law returns true; each argument reads behind the call as it read before'; 0 by the template 'total and deterministic' (their statements: YtoijnpfpjpefgaaGreatTotals.lean).
  GIVEN WITH THE SEED: the statements are not yours to turn. If you find one false, say at which input.
  Laid BY PROGRAM, IN A SANDBOX (cutbox-rows.mjs): the forced cells as the released guide's own fill.sh prints them over the translation 29dc9a6d8cad3101… (all of the seat's roots in one cut). By AI agents, Wed Nov 11 2026. No macro, syntax, notation, axiom, sorry.
-/
import Derived.Test.YtoijnpfpjpefgaaGreatChecked
import GoSem.Claim
import GoSem.ClaimJoined
import GoSem.ClaimMapViews
import Derived.JoinedTies
import Derived.KernelRfl
namespace Go.Proofs.YtoijnpfpjpefgaaGreat
/- THE CELL 'sum', in the pinned program and in every row, IS THE sha256 OF THE DUMP (.gsa) THAT YtoijnpfpjpefgaaGreatProg.lean LOADS. Nothing in Lean hashes anything: it is a label: what it is worth is what the hold of that sum in a sandbox is worth. -/
noncomputable def Tryz.pinned : Pinned := { name := "ytoijnpfpjpefgaagreat", sum := "29dc9a6d8cad310186103d49bd75382ff84a1161fa820af3d99b318fa144f635", checked := Tryz.checked }
namespace Rows
def none {H : Type} : Left H := { results := [], args := [] }

/-- 'stereopsislaw05.MachStarts': WHATEVER THE INPUT: true; the input reads as it did. -/
def machStartsSpec : ChangeSpec := { name := "machStarts", fn := fun _ => fun
  | [d1, d2] => { results := [.lit (.bool true)], args := [d1, d2] }
  | _ => none }
def machStartsRow : OpenClaim := { program := "ytoijnpfpjpefgaagreat", sum := "29dc9a6d8cad310186103d49bd75382ff84a1161fa820af3d99b318fa144f635", func := "stereopsis/stereopsislaw05.MachStarts", spec := "machStarts", unfollowed := true, recurses := true, loops := true, apart := false }
def MachStartsSaid : Prop := machStartsRow.holds Tryz.pinned (OpenSpec.ofChange machStartsSpec)

/-- ITS FALSE NEIGHBOUR: 'it returns false'. Refute it at one input. -/
def machStartsWrong : ChangeSpec := { name := "machStarts", fn := fun _ => fun
  | [d1, d2] => { results := [.lit (.bool false)], args := [d1, d2] }
  | _ => none }
def MachStartsWrongFalsely : Prop := machStartsRow.holds Tryz.pinned (OpenSpec.ofChange machStartsWrong)

/-- 'stereopsislaw05.MachRuns': WHATEVER THE INPUT: true; the input reads as it did. -/
def machRunsSpec : ChangeSpec := { name := "machRuns", fn := fun _ => fun
  | [d1, d2, d3] => { results := [.lit (.bool true)], args := [d1, d2, d3] }
  | _ => none }
def machRunsRow : OpenClaim := { program := "ytoijnpfpjpefgaagreat", sum := "29dc9a6d8cad310186103d49bd75382ff84a1161fa820af3d99b318fa144f635", func := "stereopsis/stereopsislaw05.MachRuns", spec := "machRuns", unfollowed := true, recurses := true, loops := true, apart := false }
def MachRunsSaid : Prop := machRunsRow.holds Tryz.pinned (OpenSpec.ofChange machRunsSpec)

/-- ITS FALSE NEIGHBOUR: 'it returns false'. Refute it at one input. -/
def machRunsWrong : ChangeSpec := { name := "machRuns", fn := fun _ => fun
  | [d1, d2, d3] => { results := [.lit (.bool false)], args := [d1, d2, d3] }
  | _ => none }
def MachRunsWrongFalsely : Prop := machRunsRow.holds Tryz.pinned (OpenSpec.ofChange machRunsWrong)

/-- 'stereopsislaw05.MachFuel': WHATEVER THE INPUT: true; the input reads as it did. -/
def machFuelSpec : ChangeSpec := { name := "machFuel", fn := fun _ => fun
  | [d1, d2, d3, d4] => { results := [.lit (.bool true)], args := [d1, d2, d3, d4] }
  | _ => none }
def machFuelRow : OpenClaim := { program := "ytoijnpfpjpefgaagreat", sum := "29dc9a6d8cad310186103d49bd75382ff84a1161fa820af3d99b318fa144f635", func := "stereopsis/stereopsislaw05.MachFuel", spec := "machFuel", unfollowed := true, recurses := true, loops := true, apart := false }
def MachFuelSaid : Prop := machFuelRow.holds Tryz.pinned (OpenSpec.ofChange machFuelSpec)

/-- ITS FALSE NEIGHBOUR: 'it returns false'. Refute it at one input. -/
def machFuelWrong : ChangeSpec := { name := "machFuel", fn := fun _ => fun
  | [d1, d2, d3, d4] => { results := [.lit (.bool false)], args := [d1, d2, d3, d4] }
  | _ => none }
def MachFuelWrongFalsely : Prop := machFuelRow.holds Tryz.pinned (OpenSpec.ofChange machFuelWrong)

/-- 'stereopsislaw05.MachPicks': WHATEVER THE INPUT: true; the input reads as it did. -/
def machPicksSpec : ChangeSpec := { name := "machPicks", fn := fun _ => fun
  | [d1, d2, d3, d4] => { results := [.lit (.bool true)], args := [d1, d2, d3, d4] }
  | _ => none }
def machPicksRow : OpenClaim := { program := "ytoijnpfpjpefgaagreat", sum := "29dc9a6d8cad310186103d49bd75382ff84a1161fa820af3d99b318fa144f635", func := "stereopsis/stereopsislaw05.MachPicks", spec := "machPicks", unfollowed := true, recurses := true, loops := true, apart := false }
def MachPicksSaid : Prop := machPicksRow.holds Tryz.pinned (OpenSpec.ofChange machPicksSpec)

/-- ITS FALSE NEIGHBOUR: 'it returns false'. Refute it at one input. -/
def machPicksWrong : ChangeSpec := { name := "machPicks", fn := fun _ => fun
  | [d1, d2, d3, d4] => { results := [.lit (.bool false)], args := [d1, d2, d3, d4] }
  | _ => none }
def MachPicksWrongFalsely : Prop := machPicksRow.holds Tryz.pinned (OpenSpec.ofChange machPicksWrong)

/-- 'stereopsislaw05.MachCost': WHATEVER THE INPUT: true; the input reads as it did. -/
def machCostSpec : ChangeSpec := { name := "machCost", fn := fun _ => fun
  | [d1, d2, d3] => { results := [.lit (.bool true)], args := [d1, d2, d3] }
  | _ => none }
def machCostRow : OpenClaim := { program := "ytoijnpfpjpefgaagreat", sum := "29dc9a6d8cad310186103d49bd75382ff84a1161fa820af3d99b318fa144f635", func := "stereopsis/stereopsislaw05.MachCost", spec := "machCost", unfollowed := true, recurses := true, loops := true, apart := false }
def MachCostSaid : Prop := machCostRow.holds Tryz.pinned (OpenSpec.ofChange machCostSpec)

/-- ITS FALSE NEIGHBOUR: 'it returns false'. Refute it at one input. -/
def machCostWrong : ChangeSpec := { name := "machCost", fn := fun _ => fun
  | [d1, d2, d3] => { results := [.lit (.bool false)], args := [d1, d2, d3] }
  | _ => none }
def MachCostWrongFalsely : Prop := machCostRow.holds Tryz.pinned (OpenSpec.ofChange machCostWrong)

/-- 'stereopsislaw05.MachOwn': WHATEVER THE INPUT: true; the input reads as it did. -/
def machOwnSpec : ChangeSpec := { name := "machOwn", fn := fun _ => fun
  | [d1, d2, d3] => { results := [.lit (.bool true)], args := [d1, d2, d3] }
  | _ => none }
def machOwnRow : OpenClaim := { program := "ytoijnpfpjpefgaagreat", sum := "29dc9a6d8cad310186103d49bd75382ff84a1161fa820af3d99b318fa144f635", func := "stereopsis/stereopsislaw05.MachOwn", spec := "machOwn", unfollowed := true, recurses := true, loops := true, apart := false }
def MachOwnSaid : Prop := machOwnRow.holds Tryz.pinned (OpenSpec.ofChange machOwnSpec)

/-- ITS FALSE NEIGHBOUR: 'it returns false'. Refute it at one input. -/
def machOwnWrong : ChangeSpec := { name := "machOwn", fn := fun _ => fun
  | [d1, d2, d3] => { results := [.lit (.bool false)], args := [d1, d2, d3] }
  | _ => none }
def MachOwnWrongFalsely : Prop := machOwnRow.holds Tryz.pinned (OpenSpec.ofChange machOwnWrong)

/-- 'stereopsislaw05.MachBoth': WHATEVER THE INPUT: true; the input reads as it did. -/
def machBothSpec : ChangeSpec := { name := "machBoth", fn := fun _ => fun
  | [d1, d2, d3, d4] => { results := [.lit (.bool true)], args := [d1, d2, d3, d4] }
  | _ => none }
def machBothRow : OpenClaim := { program := "ytoijnpfpjpefgaagreat", sum := "29dc9a6d8cad310186103d49bd75382ff84a1161fa820af3d99b318fa144f635", func := "stereopsis/stereopsislaw05.MachBoth", spec := "machBoth", unfollowed := true, recurses := true, loops := true, apart := false }
def MachBothSaid : Prop := machBothRow.holds Tryz.pinned (OpenSpec.ofChange machBothSpec)

/-- ITS FALSE NEIGHBOUR: 'it returns false'. Refute it at one input. -/
def machBothWrong : ChangeSpec := { name := "machBoth", fn := fun _ => fun
  | [d1, d2, d3, d4] => { results := [.lit (.bool false)], args := [d1, d2, d3, d4] }
  | _ => none }
def MachBothWrongFalsely : Prop := machBothRow.holds Tryz.pinned (OpenSpec.ofChange machBothWrong)

/-- 'stereopsislaw05.MachSteps': WHATEVER THE INPUT: true; the input reads as it did. -/
def machStepsSpec : ChangeSpec := { name := "machSteps", fn := fun _ => fun
  | [d1, d2, d3, d4] => { results := [.lit (.bool true)], args := [d1, d2, d3, d4] }
  | _ => none }
def machStepsRow : OpenClaim := { program := "ytoijnpfpjpefgaagreat", sum := "29dc9a6d8cad310186103d49bd75382ff84a1161fa820af3d99b318fa144f635", func := "stereopsis/stereopsislaw05.MachSteps", spec := "machSteps", unfollowed := true, recurses := true, loops := true, apart := false }
def MachStepsSaid : Prop := machStepsRow.holds Tryz.pinned (OpenSpec.ofChange machStepsSpec)

/-- ITS FALSE NEIGHBOUR: 'it returns false'. Refute it at one input. -/
def machStepsWrong : ChangeSpec := { name := "machSteps", fn := fun _ => fun
  | [d1, d2, d3, d4] => { results := [.lit (.bool false)], args := [d1, d2, d3, d4] }
  | _ => none }
def MachStepsWrongFalsely : Prop := machStepsRow.holds Tryz.pinned (OpenSpec.ofChange machStepsWrong)

/- THE SECOND FORM. 'bulk': how many values and letters a reading holds, each counted each time it is reached (what is shared counts as often as it is met; a slice's spare places count too). A statement '..UptoSaid' is the law's where the arguments, and the package variables that the reading takes, are together of bulk at most 1048576: NARROWER than '..Said'. Prove '..Said' where nothing that the law and all that it calls make is longer than what came in: it says more and counts as full. Else prove '..UptoSaid'. A law counts once. -/
mutual
def uptoBulk {H : Type} : DataW H → Nat
  | .lit (.string bytes) => bytes.length + 1
  | .lit _ => 1
  | .nil => 1
  | .ptr d => uptoBulk d + 1
  | .slice elems spare => uptoBulkAll elems + uptoBulkAll spare + 1
  | .agg parts => uptoBulkAll parts + 1
  | .iface _ d => uptoBulk d + 1
  | .map entries => uptoBulkEntries entries + 1
  | .held _ => 1
def uptoBulkAll {H : Type} : List (DataW H) → Nat
  | [] => 0
  | d :: r => uptoBulk d + uptoBulkAll r
def uptoBulkEntries {H : Type} : List (Lit × DataW H) → Nat
  | [] => 0
  | x :: r => uptoBulkEntry x + uptoBulkEntries r
def uptoBulkEntry {H : Type} : Lit × DataW H → Nat
  | (.string bytes, d) => bytes.length + uptoBulk d + 1
  | (_, d) => uptoBulk d + 1
 end
def uptoSmall : (H : Type) → List (DataW H) → Bool := fun _ ds => decide (uptoBulkAll ds ≤ 1048576)
def OpenSpec.upto (s : _root_.Go.ChangeSpec) : _root_.Go.OpenSpec := { _root_.Go.OpenSpec.ofChange s with cond := some uptoSmall }

/-- 'stereopsislaw05.MachStarts', WHERE WHAT IT READS IS OF BULK AT MOST 1048576: true; the input reads as it did. -/
def machStartsUptoRow : OpenClaim := { program := "ytoijnpfpjpefgaagreat", sum := "29dc9a6d8cad310186103d49bd75382ff84a1161fa820af3d99b318fa144f635", func := "stereopsis/stereopsislaw05.MachStarts", spec := "machStarts", unfollowed := true, recurses := true, loops := true, apart := false, narrowed := true }
def MachStartsUptoSaid : Prop := machStartsUptoRow.holds Tryz.pinned (OpenSpec.upto machStartsSpec)

/-- 'stereopsislaw05.MachRuns', WHERE WHAT IT READS IS OF BULK AT MOST 1048576: true; the input reads as it did. -/
def machRunsUptoRow : OpenClaim := { program := "ytoijnpfpjpefgaagreat", sum := "29dc9a6d8cad310186103d49bd75382ff84a1161fa820af3d99b318fa144f635", func := "stereopsis/stereopsislaw05.MachRuns", spec := "machRuns", unfollowed := true, recurses := true, loops := true, apart := false, narrowed := true }
def MachRunsUptoSaid : Prop := machRunsUptoRow.holds Tryz.pinned (OpenSpec.upto machRunsSpec)

/-- 'stereopsislaw05.MachFuel', WHERE WHAT IT READS IS OF BULK AT MOST 1048576: true; the input reads as it did. -/
def machFuelUptoRow : OpenClaim := { program := "ytoijnpfpjpefgaagreat", sum := "29dc9a6d8cad310186103d49bd75382ff84a1161fa820af3d99b318fa144f635", func := "stereopsis/stereopsislaw05.MachFuel", spec := "machFuel", unfollowed := true, recurses := true, loops := true, apart := false, narrowed := true }
def MachFuelUptoSaid : Prop := machFuelUptoRow.holds Tryz.pinned (OpenSpec.upto machFuelSpec)

/-- 'stereopsislaw05.MachPicks', WHERE WHAT IT READS IS OF BULK AT MOST 1048576: true; the input reads as it did. -/
def machPicksUptoRow : OpenClaim := { program := "ytoijnpfpjpefgaagreat", sum := "29dc9a6d8cad310186103d49bd75382ff84a1161fa820af3d99b318fa144f635", func := "stereopsis/stereopsislaw05.MachPicks", spec := "machPicks", unfollowed := true, recurses := true, loops := true, apart := false, narrowed := true }
def MachPicksUptoSaid : Prop := machPicksUptoRow.holds Tryz.pinned (OpenSpec.upto machPicksSpec)

/-- 'stereopsislaw05.MachCost', WHERE WHAT IT READS IS OF BULK AT MOST 1048576: true; the input reads as it did. -/
def machCostUptoRow : OpenClaim := { program := "ytoijnpfpjpefgaagreat", sum := "29dc9a6d8cad310186103d49bd75382ff84a1161fa820af3d99b318fa144f635", func := "stereopsis/stereopsislaw05.MachCost", spec := "machCost", unfollowed := true, recurses := true, loops := true, apart := false, narrowed := true }
def MachCostUptoSaid : Prop := machCostUptoRow.holds Tryz.pinned (OpenSpec.upto machCostSpec)

/-- 'stereopsislaw05.MachOwn', WHERE WHAT IT READS IS OF BULK AT MOST 1048576: true; the input reads as it did. -/
def machOwnUptoRow : OpenClaim := { program := "ytoijnpfpjpefgaagreat", sum := "29dc9a6d8cad310186103d49bd75382ff84a1161fa820af3d99b318fa144f635", func := "stereopsis/stereopsislaw05.MachOwn", spec := "machOwn", unfollowed := true, recurses := true, loops := true, apart := false, narrowed := true }
def MachOwnUptoSaid : Prop := machOwnUptoRow.holds Tryz.pinned (OpenSpec.upto machOwnSpec)

/-- 'stereopsislaw05.MachBoth', WHERE WHAT IT READS IS OF BULK AT MOST 1048576: true; the input reads as it did. -/
def machBothUptoRow : OpenClaim := { program := "ytoijnpfpjpefgaagreat", sum := "29dc9a6d8cad310186103d49bd75382ff84a1161fa820af3d99b318fa144f635", func := "stereopsis/stereopsislaw05.MachBoth", spec := "machBoth", unfollowed := true, recurses := true, loops := true, apart := false, narrowed := true }
def MachBothUptoSaid : Prop := machBothUptoRow.holds Tryz.pinned (OpenSpec.upto machBothSpec)

/-- 'stereopsislaw05.MachSteps', WHERE WHAT IT READS IS OF BULK AT MOST 1048576: true; the input reads as it did. -/
def machStepsUptoRow : OpenClaim := { program := "ytoijnpfpjpefgaagreat", sum := "29dc9a6d8cad310186103d49bd75382ff84a1161fa820af3d99b318fa144f635", func := "stereopsis/stereopsislaw05.MachSteps", spec := "machSteps", unfollowed := true, recurses := true, loops := true, apart := false, narrowed := true }
def MachStepsUptoSaid : Prop := machStepsUptoRow.holds Tryz.pinned (OpenSpec.upto machStepsSpec)

end Rows
end Go.Proofs.YtoijnpfpjpefgaaGreat
