/- Texts that stand one behind the other: Tab. -/
import Derived.Test.YtediokhgklkhnaaG1
import Derived.Below
set_option linter.unusedVariables false
namespace Go.Proofs.Ytediokhgklkhnaa.A
open Go Go.RowKit
def me (w:World):Prop:=True
theorem me.below {w w':World} (h:me w) (B:Below w.heap.size w w'):me w':=trivial
end Go.Proofs.Ytediokhgklkhnaa.A
