/- Texts that stand one behind the other: Laid. -/
import Derived.Test.YtppcmpmnglaleaaGreatDoorG22
import Derived.Test.YtppcmpmnglaleaaGreatDoorRows
import Derived.Lib.LaidTab
import Derived.LaidLaws
import Derived.LaidHandle
import Derived.RowKit
import Derived.ChangeSame
import Derived.ChangeVars
import Derived.JoinedOf
set_option linter.unusedVariables false
namespace Go.Proofs.YtppcmpmnglaleaaGreatDoor.A
open Go
def Uj:DataW Unit→Option Value
 | .lit (.int k n)=>some (.int k n)
 |_=>none
def cellsD:DataW Unit→Array Value
 | .agg l=>(l.filterMap Uj).toArray
 |_=>#[]
def Gp (c:Array Value):Obj→Obj
 | .cells _ t frozen=>.cells c t frozen
 |o=>o
noncomputable def ox (os:Os):World:=
 let w0:=World.holding Tryz.prog os ⟨#[],#[],[]⟩
 {w0 with heap:=((w0.heap.modify 0 (Gp (cellsD Rows.laid_internal_strconv_uint64pow10))).modify 1 (Gp (cellsD Rows.laid_math_bits_deBruijn32tab))).modify 2 (Gp (cellsD Rows.laid_math_bits_deBruijn64tab))}
theorem Gq (os:Os) (args:Array Value):laidMetH Tryz.prog Rows.runsOfRow.laid ((ox os).forCall (fun _ _=>0) ⟨#[],args,[]⟩).memory:=
 laidMetH_of_parts (laidMet_of_run' 8 (by kernel_rfl) (by kernel_rfl)) (by kernel_rfl)
theorem sP {P:Program} {x:String×DataW Unit} {r:List (String×DataW Unit)} {w:World} (h:laidMet P (x::r) w):laidMet P r w:=by
 obtain ⟨bs,hv,uD,eD⟩:=h
 obtain ⟨n,d⟩:=x
 obtain ⟨g,t,cs,fuel,p,q,_,_,_,_,hq,rfl⟩:=hv
 exact ⟨q,hq,List.Nodup.sublist (List.sublist_append_right _ _) uD,fun b off hm=>eD b off (List.mem_append_right _ hm)⟩
theorem J6 {W:World} (h:laidMetH Tryz.prog Rows.runsOfRow.laid W):uK W:=by
 have h1:Lib.TabIs Tryz.prog W "internal/strconv.uint64pow10" .u64 Lib.pow10Tab:=
  Lib.tabIs_of_head (rest:=[]) (n:=20) (g:=0) (t:=222) (e:=212) (by kernel_rfl) (by kernel_rfl) Tryz.underlying222 Tryz.underlying212 (by kernel_rfl) (by kernel_rfl) (sP (sP h))
 unfold Lib.TabIs World.var? at h1
 rw [show Tryz.prog.globalNamed "internal/strconv.uint64pow10" =some 0 by kernel_rfl]at h1
 simp only [Option.bind_some]at h1
 split at h1
 ·rename_i cs e fz hh
  cases h1
  exact ⟨e,fz,hh⟩
 ·cases h1
end Go.Proofs.YtppcmpmnglaleaaGreatDoor.A
