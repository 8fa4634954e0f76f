/-
  No cell of these rows narrows 'for every input' (looked for: loops, veiled, ifaces, maps, wideKeys, modest, calm, conditions, laid).
  DERIVED. THE GIVEN ROWS OF THIS SEAT. 6 by the template 'for every input the law returns true; each argument reads behind the call as it read before'; 0 by the template 'total and deterministic' (their statements: YtediokhgklkhnaaTotals.lean).
  GIVEN WITH THE SEED: the statements are not yours to turn. If you find one false, say at which input.
  Laid BY PROGRAM, IN A SANDBOX (cutbox-rows.mjs): the forced cells as the released guide's own fill.sh prints them over the translation 8d22771eab903037… (all of the seat's roots in one cut). By AI agents, Wed Nov 11 2026. No macro, syntax, notation, axiom, sorry.
-/
import Derived.Test.YtediokhgklkhnaaChecked
import GoSem.Claim
import GoSem.ClaimJoined
import GoSem.ClaimMapViews
import Derived.JoinedTies
import Derived.KernelRfl
namespace Go.Proofs.Ytediokhgklkhnaa
/- THE CELL 'sum', in the pinned program and in every row, IS THE sha256 OF THE DUMP (.gsa) THAT YtediokhgklkhnaaProg.lean LOADS. Nothing in Lean hashes anything: it is a label: what it is worth is what the hold of that sum in a sandbox is worth. -/
noncomputable def Try.pinned : Pinned := { name := "ytediokhgklkhnaa", sum := "8d22771eab903037935fc07afee5cb3a0458ec529b5656ff30b22f24906ed73e", checked := Try.checked }
namespace Rows
def none {H : Type} : Left H := { results := [], args := [] }

/-- 'stereopsislaw25.SysForms': WHATEVER THE INPUT: true; the input reads as it did. -/
def sysFormsSpec : ChangeSpec := { name := "sysForms", fn := fun _ => fun
  | [d] => { results := [.lit (.bool true)], args := [d] }
  | _ => none }
def sysFormsRow : OpenClaim := { program := "ytediokhgklkhnaa", sum := "8d22771eab903037935fc07afee5cb3a0458ec529b5656ff30b22f24906ed73e", func := "stereopsis/stereopsislaw25.SysForms", spec := "sysForms", unfollowed := true, recurses := true, apart := false }
def SysFormsSaid : Prop := sysFormsRow.holds Try.pinned (OpenSpec.ofChange sysFormsSpec)

/-- ITS FALSE NEIGHBOUR: 'it returns false'. Refute it at one input. -/
def sysFormsWrong : ChangeSpec := { name := "sysForms", fn := fun _ => fun
  | [d] => { results := [.lit (.bool false)], args := [d] }
  | _ => none }
def SysFormsWrongFalsely : Prop := sysFormsRow.holds Try.pinned (OpenSpec.ofChange sysFormsWrong)

/-- 'stereopsislaw25.SysHas': WHATEVER THE INPUT: true; the input reads as it did. -/
def sysHasSpec : ChangeSpec := { name := "sysHas", fn := fun _ => fun
  | [d1, d2] => { results := [.lit (.bool true)], args := [d1, d2] }
  | _ => none }
def sysHasRow : OpenClaim := { program := "ytediokhgklkhnaa", sum := "8d22771eab903037935fc07afee5cb3a0458ec529b5656ff30b22f24906ed73e", func := "stereopsis/stereopsislaw25.SysHas", spec := "sysHas", unfollowed := true, recurses := true, apart := false }
def SysHasSaid : Prop := sysHasRow.holds Try.pinned (OpenSpec.ofChange sysHasSpec)

/-- ITS FALSE NEIGHBOUR: 'it returns false'. Refute it at one input. -/
def sysHasWrong : ChangeSpec := { name := "sysHas", fn := fun _ => fun
  | [d1, d2] => { results := [.lit (.bool false)], args := [d1, d2] }
  | _ => none }
def SysHasWrongFalsely : Prop := sysHasRow.holds Try.pinned (OpenSpec.ofChange sysHasWrong)

/-- 'stereopsislaw25.SysTraces': WHATEVER THE INPUT: true; the input reads as it did. -/
def sysTracesSpec : ChangeSpec := { name := "sysTraces", fn := fun _ => fun
  | [d1, d2] => { results := [.lit (.bool true)], args := [d1, d2] }
  | _ => none }
def sysTracesRow : OpenClaim := { program := "ytediokhgklkhnaa", sum := "8d22771eab903037935fc07afee5cb3a0458ec529b5656ff30b22f24906ed73e", func := "stereopsis/stereopsislaw25.SysTraces", spec := "sysTraces", unfollowed := true, recurses := true, apart := false }
def SysTracesSaid : Prop := sysTracesRow.holds Try.pinned (OpenSpec.ofChange sysTracesSpec)

/-- ITS FALSE NEIGHBOUR: 'it returns false'. Refute it at one input. -/
def sysTracesWrong : ChangeSpec := { name := "sysTraces", fn := fun _ => fun
  | [d1, d2] => { results := [.lit (.bool false)], args := [d1, d2] }
  | _ => none }
def SysTracesWrongFalsely : Prop := sysTracesRow.holds Try.pinned (OpenSpec.ofChange sysTracesWrong)

/-- 'stereopsislaw25.SysFinite': WHATEVER THE INPUT: true; the input reads as it did. -/
def sysFiniteSpec : ChangeSpec := { name := "sysFinite", fn := fun _ => fun
  | [d] => { results := [.lit (.bool true)], args := [d] }
  | _ => none }
def sysFiniteRow : OpenClaim := { program := "ytediokhgklkhnaa", sum := "8d22771eab903037935fc07afee5cb3a0458ec529b5656ff30b22f24906ed73e", func := "stereopsis/stereopsislaw25.SysFinite", spec := "sysFinite", unfollowed := true, recurses := true, apart := false }
def SysFiniteSaid : Prop := sysFiniteRow.holds Try.pinned (OpenSpec.ofChange sysFiniteSpec)

/-- ITS FALSE NEIGHBOUR: 'it returns false'. Refute it at one input. -/
def sysFiniteWrong : ChangeSpec := { name := "sysFinite", fn := fun _ => fun
  | [d] => { results := [.lit (.bool false)], args := [d] }
  | _ => none }
def SysFiniteWrongFalsely : Prop := sysFiniteRow.holds Try.pinned (OpenSpec.ofChange sysFiniteWrong)

/-- 'stereopsislaw25.SysTrees': WHATEVER THE INPUT: true; the input reads as it did. -/
def sysTreesSpec : ChangeSpec := { name := "sysTrees", fn := fun _ => fun
  | [d1, d2] => { results := [.lit (.bool true)], args := [d1, d2] }
  | _ => none }
def sysTreesRow : OpenClaim := { program := "ytediokhgklkhnaa", sum := "8d22771eab903037935fc07afee5cb3a0458ec529b5656ff30b22f24906ed73e", func := "stereopsis/stereopsislaw25.SysTrees", spec := "sysTrees", unfollowed := true, recurses := true, apart := false }
def SysTreesSaid : Prop := sysTreesRow.holds Try.pinned (OpenSpec.ofChange sysTreesSpec)

/-- ITS FALSE NEIGHBOUR: 'it returns false'. Refute it at one input. -/
def sysTreesWrong : ChangeSpec := { name := "sysTrees", fn := fun _ => fun
  | [d1, d2] => { results := [.lit (.bool false)], args := [d1, d2] }
  | _ => none }
def SysTreesWrongFalsely : Prop := sysTreesRow.holds Try.pinned (OpenSpec.ofChange sysTreesWrong)

/-- 'stereopsislaw25.SysUseful': WHATEVER THE INPUT: true; the input reads as it did. -/
def sysUsefulSpec : ChangeSpec := { name := "sysUseful", fn := fun _ => fun
  | [d] => { results := [.lit (.bool true)], args := [d] }
  | _ => none }
def sysUsefulRow : OpenClaim := { program := "ytediokhgklkhnaa", sum := "8d22771eab903037935fc07afee5cb3a0458ec529b5656ff30b22f24906ed73e", func := "stereopsis/stereopsislaw25.SysUseful", spec := "sysUseful", unfollowed := true, recurses := true, apart := false }
def SysUsefulSaid : Prop := sysUsefulRow.holds Try.pinned (OpenSpec.ofChange sysUsefulSpec)

/-- ITS FALSE NEIGHBOUR: 'it returns false'. Refute it at one input. -/
def sysUsefulWrong : ChangeSpec := { name := "sysUseful", fn := fun _ => fun
  | [d] => { results := [.lit (.bool false)], args := [d] }
  | _ => none }
def SysUsefulWrongFalsely : Prop := sysUsefulRow.holds Try.pinned (OpenSpec.ofChange sysUsefulWrong)

/- THE SECOND FORM. 'bulk': how many values and letters a reading holds, each counted each time it is reached (what is shared counts as often as it is met; a slice's spare places count too). A statement '..UptoSaid' is the law's where the arguments, and the package variables that the reading takes, are together of bulk at most 1048576: NARROWER than '..Said'. Prove '..Said' where nothing that the law and all that it calls make is longer than what came in: it says more and counts as full. Else prove '..UptoSaid'. A law counts once. -/
mutual
def uptoBulk {H : Type} : DataW H → Nat
  | .lit (.string bytes) => bytes.length + 1
  | .lit _ => 1
  | .nil => 1
  | .ptr d => uptoBulk d + 1
  | .slice elems spare => uptoBulkAll elems + uptoBulkAll spare + 1
  | .agg parts => uptoBulkAll parts + 1
  | .iface _ d => uptoBulk d + 1
  | .map entries => uptoBulkEntries entries + 1
  | .held _ => 1
def uptoBulkAll {H : Type} : List (DataW H) → Nat
  | [] => 0
  | d :: r => uptoBulk d + uptoBulkAll r
def uptoBulkEntries {H : Type} : List (Lit × DataW H) → Nat
  | [] => 0
  | x :: r => uptoBulkEntry x + uptoBulkEntries r
def uptoBulkEntry {H : Type} : Lit × DataW H → Nat
  | (.string bytes, d) => bytes.length + uptoBulk d + 1
  | (_, d) => uptoBulk d + 1
 end
def uptoSmall : (H : Type) → List (DataW H) → Bool := fun _ ds => decide (uptoBulkAll ds ≤ 1048576)
def OpenSpec.upto (s : _root_.Go.ChangeSpec) : _root_.Go.OpenSpec := { _root_.Go.OpenSpec.ofChange s with cond := some uptoSmall }

/-- 'stereopsislaw25.SysForms', WHERE WHAT IT READS IS OF BULK AT MOST 1048576: true; the input reads as it did. -/
def sysFormsUptoRow : OpenClaim := { program := "ytediokhgklkhnaa", sum := "8d22771eab903037935fc07afee5cb3a0458ec529b5656ff30b22f24906ed73e", func := "stereopsis/stereopsislaw25.SysForms", spec := "sysForms", unfollowed := true, recurses := true, apart := false, narrowed := true }
def SysFormsUptoSaid : Prop := sysFormsUptoRow.holds Try.pinned (OpenSpec.upto sysFormsSpec)

/-- 'stereopsislaw25.SysHas', WHERE WHAT IT READS IS OF BULK AT MOST 1048576: true; the input reads as it did. -/
def sysHasUptoRow : OpenClaim := { program := "ytediokhgklkhnaa", sum := "8d22771eab903037935fc07afee5cb3a0458ec529b5656ff30b22f24906ed73e", func := "stereopsis/stereopsislaw25.SysHas", spec := "sysHas", unfollowed := true, recurses := true, apart := false, narrowed := true }
def SysHasUptoSaid : Prop := sysHasUptoRow.holds Try.pinned (OpenSpec.upto sysHasSpec)

/-- 'stereopsislaw25.SysTraces', WHERE WHAT IT READS IS OF BULK AT MOST 1048576: true; the input reads as it did. -/
def sysTracesUptoRow : OpenClaim := { program := "ytediokhgklkhnaa", sum := "8d22771eab903037935fc07afee5cb3a0458ec529b5656ff30b22f24906ed73e", func := "stereopsis/stereopsislaw25.SysTraces", spec := "sysTraces", unfollowed := true, recurses := true, apart := false, narrowed := true }
def SysTracesUptoSaid : Prop := sysTracesUptoRow.holds Try.pinned (OpenSpec.upto sysTracesSpec)

/-- 'stereopsislaw25.SysFinite', WHERE WHAT IT READS IS OF BULK AT MOST 1048576: true; the input reads as it did. -/
def sysFiniteUptoRow : OpenClaim := { program := "ytediokhgklkhnaa", sum := "8d22771eab903037935fc07afee5cb3a0458ec529b5656ff30b22f24906ed73e", func := "stereopsis/stereopsislaw25.SysFinite", spec := "sysFinite", unfollowed := true, recurses := true, apart := false, narrowed := true }
def SysFiniteUptoSaid : Prop := sysFiniteUptoRow.holds Try.pinned (OpenSpec.upto sysFiniteSpec)

/-- 'stereopsislaw25.SysTrees', WHERE WHAT IT READS IS OF BULK AT MOST 1048576: true; the input reads as it did. -/
def sysTreesUptoRow : OpenClaim := { program := "ytediokhgklkhnaa", sum := "8d22771eab903037935fc07afee5cb3a0458ec529b5656ff30b22f24906ed73e", func := "stereopsis/stereopsislaw25.SysTrees", spec := "sysTrees", unfollowed := true, recurses := true, apart := false, narrowed := true }
def SysTreesUptoSaid : Prop := sysTreesUptoRow.holds Try.pinned (OpenSpec.upto sysTreesSpec)

/-- 'stereopsislaw25.SysUseful', WHERE WHAT IT READS IS OF BULK AT MOST 1048576: true; the input reads as it did. -/
def sysUsefulUptoRow : OpenClaim := { program := "ytediokhgklkhnaa", sum := "8d22771eab903037935fc07afee5cb3a0458ec529b5656ff30b22f24906ed73e", func := "stereopsis/stereopsislaw25.SysUseful", spec := "sysUseful", unfollowed := true, recurses := true, apart := false, narrowed := true }
def SysUsefulUptoSaid : Prop := sysUsefulUptoRow.holds Try.pinned (OpenSpec.upto sysUsefulSpec)

end Rows
end Go.Proofs.Ytediokhgklkhnaa
