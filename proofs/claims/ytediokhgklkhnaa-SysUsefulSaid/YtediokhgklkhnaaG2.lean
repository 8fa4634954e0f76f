/- Texts that stand one behind the other: Tab. -/
import Derived.Test.YtediokhgklkhnaaG1
import Derived.Below
set_option linter.unusedVariables false
namespace Go.Proofs.Ytediokhgklkhnaa.A
open Go Go.RowKit
def p6 (w:World):Prop:=True
theorem p6.below {w w':World} (h:p6 w) (B:Below w.heap.size w w'):p6 w':=trivial
end Go.Proofs.Ytediokhgklkhnaa.A
