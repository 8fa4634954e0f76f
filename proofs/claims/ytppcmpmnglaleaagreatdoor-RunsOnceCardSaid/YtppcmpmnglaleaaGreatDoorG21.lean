/- Texts that stand one behind the other: Laid. -/
import Derived.Test.YtppcmpmnglaleaaGreatDoorG20
import Derived.Test.YtppcmpmnglaleaaGreatDoorRows
import Derived.LaidLaws
import Derived.LaidHandle
import Derived.RowKit
import Derived.ChangeSame
import Derived.ChangeVars
import Derived.JoinedOf
set_option linter.unusedVariables false
namespace Go.Proofs.YtppcmpmnglaleaaGreatDoor.A
open Go
def Z6:DataW Unit→Option Value
 | .lit (.int k n)=>some (.int k n)
 |_=>none
def cellsD:DataW Unit→Array Value
 | .agg l=>(l.filterMap Z6).toArray
 |_=>#[]
def Kz (c:Array Value):Obj→Obj
 | .cells _ t frozen=>.cells c t frozen
 |o=>o
noncomputable def ri (os:Os):World:=
 let w0:=World.holding Tryz.prog os ⟨#[],#[],[]⟩
 {w0 with heap:=((w0.heap.modify 0 (Kz (cellsD Rows.laid_internal_strconv_uint64pow10))).modify 1 (Kz (cellsD Rows.laid_math_bits_deBruijn32tab))).modify 2 (Kz (cellsD Rows.laid_math_bits_deBruijn64tab))}
theorem zG (os:Os) (args:Array Value):laidMetH Tryz.prog Rows.runsOfRow.laid ((ri os).forCall (fun _ _=>0) ⟨#[],args,[]⟩).memory:=
 laidMetH_of_parts (laidMet_of_run' 8 (by kernel_rfl) (by kernel_rfl)) (by kernel_rfl)
end Go.Proofs.YtppcmpmnglaleaaGreatDoor.A
