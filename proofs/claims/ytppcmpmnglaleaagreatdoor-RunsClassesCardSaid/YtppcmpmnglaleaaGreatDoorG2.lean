/- Texts that stand one behind the other: Tab. -/
import Derived.Test.YtppcmpmnglaleaaGreatDoorG1
import Derived.Below
import Derived.Lib.ItoaNum
set_option linter.unusedVariables false
namespace Go.Proofs.YtppcmpmnglaleaaGreatDoor.A
open Go Go.RowKit
def afl:Array Value:=(Lib.pow10Tab.map fun z=>Value.int .u64 z).toArray
def yY (w:World):Prop:=∃e fz,w.heap[0]?=some (.cells afl e fz)
theorem yY.below {w w':World} (h:yY w) (B:Below w.heap.size w w'):yY w':=by
 obtain ⟨e,a,h⟩:=h;exact ⟨e,a,(B.block _ (avu.1 h).1).trans h⟩
end Go.Proofs.YtppcmpmnglaleaaGreatDoor.A
