/- Texts that stand one behind the other: Laid. -/
import Derived.Test.YtppcmpmnglaleaaGreatDoorG22
import Derived.Test.YtppcmpmnglaleaaGreatDoorRows
import Derived.Lib.LaidTab
import Derived.LaidLaws
import Derived.LaidHandle
import Derived.RowKit
import Derived.ChangeSame
import Derived.ChangeVars
import Derived.JoinedOf
set_option linter.unusedVariables false
namespace Go.Proofs.YtppcmpmnglaleaaGreatDoor.A
open Go
def YF:DataW Unit→Option Value
 | .lit (.int k n)=>some (.int k n)
 |_=>none
def cellsD:DataW Unit→Array Value
 | .agg l=>(l.filterMap YF).toArray
 |_=>#[]
def Jj (c:Array Value):Obj→Obj
 | .cells _ t frozen=>.cells c t frozen
 |o=>o
noncomputable def uV (os:Os):World:=
 let w0:=World.holding Tryz.prog os ⟨#[],#[],[]⟩
 {w0 with heap:=((w0.heap.modify 0 (Jj (cellsD Rows.laid_internal_strconv_uint64pow10))).modify 1 (Jj (cellsD Rows.laid_math_bits_deBruijn32tab))).modify 2 (Jj (cellsD Rows.laid_math_bits_deBruijn64tab))}
theorem Jk (os:Os) (args:Array Value):laidMetH Tryz.prog Rows.runsOfRow.laid ((uV os).forCall (fun _ _=>0) ⟨#[],args,[]⟩).memory:=
 laidMetH_of_parts (laidMet_of_run' 8 (by kernel_rfl) (by kernel_rfl)) (by kernel_rfl)
theorem uW {P:Program} {x:String×DataW Unit} {r:List (String×DataW Unit)} {w:World} (h:laidMet P (x::r) w):laidMet P r w:=by
 obtain ⟨j,a,f,c⟩:=h;obtain ⟨n,d⟩:=x;obtain ⟨g,t,cs,fuel,p,q,_,_,_,_,e,rfl⟩:=a;exact ⟨q,e,List.Nodup.sublist (List.sublist_append_right _ _) f,fun b off i=>c b off (List.mem_append_right _ i)⟩
theorem No {W:World} (h:laidMetH Tryz.prog Rows.runsOfRow.laid W):w9 W:=by
 have a:Lib.TabIs Tryz.prog W "internal/strconv.uint64pow10" .u64 Lib.pow10Tab:=
  Lib.tabIs_of_head (rest:=[]) (n:=20) (g:=0) (t:=222) (e:=212) (by kernel_rfl) (by kernel_rfl) Tryz.underlying222 Tryz.underlying212 (by kernel_rfl) (by kernel_rfl) (uW (uW h))
 unfold Lib.TabIs World.var? at a;rw [show Tryz.prog.globalNamed "internal/strconv.uint64pow10" =some 0 by kernel_rfl]at a;simp only [Option.bind_some]at a;split at a
 ·rename_i cs e c b
  cases a;exact ⟨e,c,b⟩
 ·cases a
end Go.Proofs.YtppcmpmnglaleaaGreatDoor.A
