/- Texts that stand one behind the other: Tab. -/
import Derived.Test.YtppcmpmnglaleaaGreatDoorG1
import Derived.Below
import Derived.Lib.ItoaNum
set_option linter.unusedVariables false
namespace Go.Proofs.YtppcmpmnglaleaaGreatDoor.A
open Go Go.RowKit
def abn:Array Value:=(Lib.pow10Tab.map fun z=>Value.int .u64 z).toArray
def wJ (w:World):Prop:=∃e fz,w.heap[0]?=some (.cells abn e fz)
theorem wJ.below {w w':World} (h:wJ w) (B:Below w.heap.size w w'):wJ w':=by
 obtain ⟨e,a,h⟩:=h;exact ⟨e,a,(B.block _ (aq8.1 h).1).trans h⟩
end Go.Proofs.YtppcmpmnglaleaaGreatDoor.A
