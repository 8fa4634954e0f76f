/- Texts that stand one behind the other: Tab. -/
import Derived.Test.YtediokhgklkhnaaG1
import Derived.Below
set_option linter.unusedVariables false
namespace Go.Proofs.Ytediokhgklkhnaa.A
open Go Go.RowKit
def oR (w:World):Prop:=True
theorem oR.below {w w':World} (h:oR w) (B:Below w.heap.size w w'):oR w':=trivial
end Go.Proofs.Ytediokhgklkhnaa.A
