/- Texts that stand one behind the other: Tab. -/
import Derived.Test.YtppcmpmnglaleaaGreatDoorG1
import Derived.Below
import Derived.Lib.ItoaNum
set_option linter.unusedVariables false
namespace Go.Proofs.YtppcmpmnglaleaaGreatDoor.A
open Go Go.RowKit
def Xl:Array Value:=(Lib.pow10Tab.map fun z=>Value.int .u64 z).toArray
def uK (w:World):Prop:=∃e fz,w.heap[0]?=some (.cells Xl e fz)
theorem uK.below {w w':World} (h:uK w) (B:Below w.heap.size w w'):uK w':=by
 obtain ⟨e,fz,h⟩:=h
 exact ⟨e,fz,(B.block _ (al1.1 h).1).trans h⟩
end Go.Proofs.YtppcmpmnglaleaaGreatDoor.A
