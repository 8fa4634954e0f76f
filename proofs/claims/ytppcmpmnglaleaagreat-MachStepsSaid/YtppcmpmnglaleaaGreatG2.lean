/- Texts that stand one behind the other: Tab. -/
import Derived.Test.YtppcmpmnglaleaaGreatG1
import Derived.Below
set_option linter.unusedVariables false
namespace Go.Proofs.YtppcmpmnglaleaaGreat.A
open Go Go.RowKit
def Ce (w:World):Prop:=True
theorem Ce.below {w w':World} (h:Ce w) (B:Below w.heap.size w w'):Ce w':=trivial
end Go.Proofs.YtppcmpmnglaleaaGreat.A
