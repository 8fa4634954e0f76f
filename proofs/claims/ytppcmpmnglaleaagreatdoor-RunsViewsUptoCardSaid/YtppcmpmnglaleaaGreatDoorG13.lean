/- Texts that stand one behind the other: AbsT. -/
import Derived.Test.YtppcmpmnglaleaaGreatDoorG12
import Derived.Lib.LaidTab
set_option linter.unusedVariables false
set_option linter.unusedSimpArgs false
namespace Go.Proofs.YtppcmpmnglaleaaGreatDoor.A
open Go Go.RowKit
theorem qt {w:World} {k:Nat} {bs:Array Obj}:Below w.heap.size w (Sort.grow (w.drewN k) bs):=⟨rfl,rfl,rfl,by simp [Sort.grow,World.drewN],fun i hi=>by
 show(w.heap++bs)[i]?=w.heap[i]?
 rw [Array.getElem?_append_left hi]⟩
theorem QY {w:World} (h:uK w):Lib.TabIs Tryz.prog w "internal/strconv.uint64pow10" .u64 Lib.pow10Tab:=by
 obtain ⟨e,fz,h⟩:=h
 unfold Lib.TabIs World.var?
 rw [show Tryz.prog.globalNamed "internal/strconv.uint64pow10" =some 0 by kernel_rfl]
 simp only [Option.bind_some,h]
 rfl
def uZ:List Value→AH→Option (Value×AH)
 |[.int .i64 n],H=>bif decide (-9223372036854775808≤n)&&decide (n≤9223372036854775807)then some (.string ⟨(Lib.itoa n).toArray⟩,H)else none
 |_,_=>none
theorem Dp {xs:List Value} {H:AH} {v:Value} {H':AH} (h:uZ xs H=some (v,H')):CT Tryz.prog 84 xs H v H':=by
 intro w0 φ w as' R R0 hv
 unfold uZ at h
 split at h
 case h_2=>cases h
 rename_i n
 obtain ⟨hc,h⟩:=au h
 simp only [alQ,alZ]at hc
 simp only [alO,alV]at h
 obtain ⟨rfl,rfl⟩:=h
 have ha:as'.toList=[.int .i64 n]:=by
  generalize as'.toList=q at hv
  cases hv with
  |cons p q=>cases q;rw [p.int]
 obtain rfl:as'= #[.int .i64 n]:=Array.ext' (by simpa using ha)
 refine (Tryz.strconv_Itoa n hc.1 hc.2 w (QY (R.sV.below R.below))).mono ?_
 rintro x w' ⟨rfl,k,bs,rfl⟩
 exact ⟨φ,_,rfl,.same rfl,R.later qt,bl.le_refl _,rfl,rfl,alR _,fun b l h k=>(by rw [h]at k;cases k),qt.size⟩
def MD:iq:=fun g=>bif Nat.beq g 83 then some qq else bif Nat.beq g 86 then some Dl else bif Nat.beq g 84 then some uZ else none
theorem HD:y8 Tryz.prog MD:=by
 intro g k hk xs H v H' hv
 simp only [MD,nb,Bool.cond_decide]at hk
 split at hk
 ·rename_i e;subst e;cases hk
  exact ⟨⟨_,Tryz.func83,by kernel_rfl,by kernel_rfl⟩,AY rfl rfl hv⟩
 split at hk
 ·rename_i e;subst e;cases hk
  exact ⟨⟨_,Tryz.func86,by kernel_rfl,by kernel_rfl⟩,HC rfl rfl hv⟩
 split at hk
 ·rename_i e;subst e;cases hk
  exact ⟨⟨_,Tryz.func84,by kernel_rfl,by kernel_rfl⟩,Dp hv⟩
 cases hk
end Go.Proofs.YtppcmpmnglaleaaGreatDoor.A
