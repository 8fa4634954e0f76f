/- The fixed calls, by the kernel. -/
import Derived.Test.YtoijnpfpjpefgaaGreatCodeOk
import Derived.Test.YtoijnpfpjpefgaaGreatAbsL
import Derived.KernelRfl
set_option maxRecDepth 100000
namespace Go.Proofs.YtoijnpfpjpefgaaGreat.A
open Go
theorem awake_true : isTrue (runF E (fun _ => none) 300 12 [] He) = true := by kernel_rfl
theorem mixed : Tryz.prog.follows .mixedOrders = true := by kernel_rfl
def O : Orc := orc1 12
theorem O_ok : OrcOk Tryz.prog O := orc1_ok mixed E_ok awake_true
end Go.Proofs.YtoijnpfpjpefgaaGreat.A
