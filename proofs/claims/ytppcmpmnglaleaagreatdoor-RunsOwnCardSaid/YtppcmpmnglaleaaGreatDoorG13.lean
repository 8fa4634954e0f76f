/- Texts that stand one behind the other: AbsT. -/
import Derived.Test.YtppcmpmnglaleaaGreatDoorG12
import Derived.Lib.LaidTab
set_option linter.unusedVariables false
set_option linter.unusedSimpArgs false
namespace Go.Proofs.YtppcmpmnglaleaaGreatDoor.A
open Go Go.RowKit
theorem sB {w:World} {k:Nat} {a:Array Obj}:Below w.heap.size w (Sort.grow (w.drewN k) a):=⟨rfl,rfl,rfl,by simp [Sort.grow,World.drewN],fun i hi=>by
 show(w.heap++a)[i]?=w.heap[i]?
 rw [Array.getElem?_append_left hi]⟩
theorem UZ {w:World} (h:w9 w):Lib.TabIs Tryz.prog w "internal/strconv.uint64pow10" .u64 Lib.pow10Tab:=by
 obtain ⟨e,a,h⟩:=h;unfold Lib.TabIs World.var?;rw [show Tryz.prog.globalNamed "internal/strconv.uint64pow10" =some 0 by kernel_rfl];simp only [Option.bind_some,h];rfl
def xy:List Value→AH→Option (Value×AH)
 |[.int .i64 n],H=>bif decide (-9223372036854775808≤n)&&decide (n≤9223372036854775807)then some (.string ⟨(Lib.itoa n).toArray⟩,H)else none
 |_,_=>none
theorem FT {xs:List Value} {H:AH} {v:Value} {H':AH} (h:xy xs H=some (v,H')):Fk Tryz.prog 84 xs H v H':=by
 intro g e w a R m d;unfold xy at h;split at h
 case h_2=>cases h
 rename_i n;obtain ⟨c,h⟩:=aw h;simp only [aqJ,aqS]at c;simp only [aqH,aqO]at h;obtain ⟨rfl,rfl⟩:=h
 have f:a.toList=[.int .i64 n]:=by
  generalize a.toList=q at d
  cases d with
  |cons p q=>cases q;rw [p.int]
 obtain rfl:a= #[.int .i64 n]:=Array.ext' (by simpa using f);refine (Tryz.strconv_Itoa n c.1 c.2 w (UZ (R.u7.below R.below))).mono ?_;rintro x i ⟨rfl,k,j,rfl⟩;exact ⟨e,_,rfl,.same rfl,R.later sB,bM.le_refl _,rfl,rfl,aqK _,fun b l h k=>(by rw [h]at k;cases k),sB.size⟩
def Qg:jD:=fun g=>bif Nat.beq g 83 then some sA else bif Nat.beq g 86 then some FP else bif Nat.beq g 84 then some xy else none
theorem Kg:Br Tryz.prog Qg:=by
 intro g k a xs H v c b;simp only [Qg,nb,Bool.cond_decide]at a;split at a
 ·rename_i e;subst e;cases a
  exact ⟨⟨_,Tryz.func83,by kernel_rfl,by kernel_rfl⟩,Dl rfl rfl b⟩
 split at a
 ·rename_i e;subst e;cases a
  exact ⟨⟨_,Tryz.func86,by kernel_rfl,by kernel_rfl⟩,Kf rfl rfl b⟩
 split at a
 ·rename_i e;subst e;cases a
  exact ⟨⟨_,Tryz.func84,by kernel_rfl,by kernel_rfl⟩,FT b⟩
 cases a
end Go.Proofs.YtppcmpmnglaleaaGreatDoor.A
