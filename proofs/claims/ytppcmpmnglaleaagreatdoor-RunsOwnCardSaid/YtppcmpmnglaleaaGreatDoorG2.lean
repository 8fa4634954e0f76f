/- Texts that stand one behind the other: Tab. -/
import Derived.Test.YtppcmpmnglaleaaGreatDoorG1
import Derived.Below
import Derived.Lib.ItoaNum
set_option linter.unusedVariables false
namespace Go.Proofs.YtppcmpmnglaleaaGreatDoor.A
open Go Go.RowKit
def abv:Array Value:=(Lib.pow10Tab.map fun z=>Value.int .u64 z).toArray
def w9 (w:World):Prop:=∃e fz,w.heap[0]?=some (.cells abv e fz)
theorem w9.below {w w':World} (h:w9 w) (B:Below w.heap.size w w'):w9 w':=by
 obtain ⟨e,a,h⟩:=h;exact ⟨e,a,(B.block _ (aqU.1 h).1).trans h⟩
end Go.Proofs.YtppcmpmnglaleaaGreatDoor.A
