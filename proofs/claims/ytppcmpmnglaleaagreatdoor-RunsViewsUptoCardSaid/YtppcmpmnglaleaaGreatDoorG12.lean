/- Texts that stand one behind the other: ShM, AbsS. -/
import Derived.Test.YtppcmpmnglaleaaGreatDoorG11
import Derived.Shelf.Strconv.Itoa0
import Derived.Shelf.Strconv.Itoa1
import Derived.Shelf.Strconv.Itoa2
import Derived.Shelf.Strconv.Itoa3
import Derived.Test.YtppcmpmnglaleaaGreatDoorProg
namespace Go.Proofs
open Go.Shelf
def Tryz.tp:Go.Shelf.Ren:=⟨fun|171=>84|243=>117|246=>150|283=>160|284=>161|285=>162|286=>163|129=>170|317=>169|318=>171|319=>172|320=>173|337=>179|338=>180|n=>n,fun|3=>3|9=>9|2=>2|4=>4|171=>211|0=>0|53=>212|37=>136|5=>5|173=>215|212=>222|51=>223|20=>20|213=>224|46=>125|232=>232|233=>233|n=>n,fun|17=>0|18=>1|19=>2|n=>n⟩
theorem Tryz.Dk:Go.Proofs.LaysM.n171 Tryz.prog Tryz.tp:={
 mixed:=by kernel_rfl
 f129:=Tryz.func170.trans (congrArg some (by kernel_rfl))
 f171:=Tryz.func84.trans (congrArg some (by kernel_rfl))
 f243:=Tryz.func117.trans (congrArg some (by kernel_rfl))
 f246:=Tryz.func150.trans (congrArg some (by kernel_rfl))
 f283:=Tryz.func160.trans (congrArg some (by kernel_rfl))
 f284:=Tryz.func161.trans (congrArg some (by kernel_rfl))
 f285:=Tryz.func162.trans (congrArg some (by kernel_rfl))
 f286:=Tryz.func163.trans (congrArg some (by kernel_rfl))
 f317:=Tryz.func169.trans (congrArg some (by kernel_rfl))
 f318:=Tryz.func171.trans (congrArg some (by kernel_rfl))
 f319:=Tryz.func172.trans (congrArg some (by kernel_rfl))
 f320:=Tryz.func173.trans (congrArg some (by kernel_rfl))
 f337:=Tryz.func179.trans (congrArg some (by kernel_rfl))
 f338:=Tryz.func180.trans (congrArg some (by kernel_rfl))
 t0:=Tryz.underlying0
 a0:=Tryz.isAgg0
 z0:=Tryz.sizeOf0
 v0:=Tryz.zeroValue0
 t2:=Tryz.underlying2
 a2:=Tryz.isAgg2
 z2:=Tryz.sizeOf2
 v2:=Tryz.zeroValue2
 t3:=Tryz.underlying3
 a3:=Tryz.isAgg3
 z3:=Tryz.sizeOf3
 v3:=Tryz.zeroValue3
 t4:=Tryz.underlying4
 a4:=Tryz.isAgg4
 z4:=Tryz.sizeOf4
 v4:=Tryz.zeroValue4
 t5:=Tryz.underlying5
 a5:=Tryz.isAgg5
 z5:=Tryz.sizeOf5
 v5:=Tryz.zeroValue5
 t9:=Tryz.underlying9
 a9:=Tryz.isAgg9
 z9:=Tryz.sizeOf9
 v9:=Tryz.zeroValue9
 t20:=Tryz.underlying20
 a20:=Tryz.isAgg20
 z20:=Tryz.sizeOf20
 v20:=Tryz.zeroValue20
 t37:=Tryz.underlying136
 a37:=Tryz.isAgg136
 z37:=Tryz.sizeOf136
 v37:=Tryz.zeroValue136
 t46:=Tryz.underlying125
 a46:=Tryz.isAgg125
 z46:=Tryz.sizeOf125
 v46:=Tryz.zeroValue125
 t51:=Tryz.underlying223
 a51:=Tryz.isAgg223
 z51:=Tryz.sizeOf223
 v51:=Tryz.zeroValue223
 t53:=Tryz.underlying212
 a53:=Tryz.isAgg212
 z53:=Tryz.sizeOf212
 v53:=Tryz.zeroValue212
 t171:=Tryz.underlying211
 a171:=Tryz.isAgg211
 z171:=Tryz.sizeOf211
 v171:=Tryz.zeroValue211
 t173:=Tryz.underlying215
 a173:=Tryz.isAgg215
 z173:=Tryz.sizeOf215
 v173:=Tryz.zeroValue215
 t212:=Tryz.underlying222
 a212:=Tryz.isAgg222
 z212:=Tryz.sizeOf222
 v212:=Tryz.zeroValue222
 t213:=Tryz.underlying224
 a213:=Tryz.isAgg224
 z213:=Tryz.sizeOf224
 t232:=Tryz.underlying232
 a232:=Tryz.isAgg232
 z232:=Tryz.sizeOf232
 v232:=Tryz.zeroValue232
 t233:=Tryz.underlying233
 a233:=Tryz.isAgg233
 z233:=Tryz.sizeOf233
 v233:=Tryz.zeroValue233
 g17:=by kernel_rfl
 g18:=by kernel_rfl
 g19:=by kernel_rfl
 i0:=by kernel_rfl
 i2:=by kernel_rfl
 i3:=by kernel_rfl
 i4:=by kernel_rfl
 i5:=by kernel_rfl
 i9:=by kernel_rfl
 i20:=by kernel_rfl
 i37:=by kernel_rfl
 i46:=by kernel_rfl
 i51:=by kernel_rfl
 i53:=by kernel_rfl
 i171:=by kernel_rfl
 i173:=by kernel_rfl
 i212:=by kernel_rfl
 i232:=by kernel_rfl
 i233:=by kernel_rfl
 m17:=by kernel_rfl
 m18:=by kernel_rfl
 m19:=by kernel_rfl}
open Go.RowKit Go.Sort Go.Lib in
theorem Tryz.strconv_Itoa (n:Int) (h0:-9223372036854775808≤n) (h1:n≤9223372036854775807) (w:World) (Yj:Lib.TabIs Tryz.prog w "internal/strconv.uint64pow10" .u64 Lib.pow10Tab):
 Calls Tryz.prog 84 #[.int .i64 n] w fun e w'=>e= .returned (.string ⟨(Lib.itoa n).toArray⟩)∧∃k os,w'=grow (w.drewN k) os:=Any.strconv_Itoa Tryz.Dk n h0 h1 w Yj
end Go.Proofs
set_option linter.unusedVariables false
set_option linter.unusedSimpArgs false
namespace Go.Proofs.YtppcmpmnglaleaaGreatDoor.A
open Go Go.RowKit
def qq:List Value→AH→Option (Value×AH)
 |[.pointer (some a), .string t],H=>match H.bs with
  |some (b,s)=>bif Nat.beq a.block b&&Nat.beq a.off 0&&a.spot.isNone&&decide (s.size+t.size≤140737488355328)then some (.tuple #[.int .i64 t.size, .nilIface],{H with bs:=some (b,s++t)})else none
  |none=>none
 |_,_=>none
def Dl:List Value→AH→Option (Value×AH)
 |[.pointer (some a)],H=>match H.bs with
  |some (b,s)=>bif Nat.beq a.block b&&Nat.beq a.off 0&&a.spot.isNone then some (.string s,H)else none
  |none=>none
 |_,_=>none
theorem pg (s t:ByteArray):Lib.strCells (s++t)=Lib.strCells s++Lib.strCells t:=by
 simp [Lib.strCells,ByteArray.data_append]
theorem uY {w0 w w':World} {φ:bl} {H:AH} (R:Rel w0 φ H w) {b:Nat} {s s':ByteArray} (e:H.bs=some (b,s)) {l:Loc} (hl:φ.m b=some l)
 (hI:Lib.IsBuilderF BT BY φ.c0 l.c (Lib.strCells s') w') (hB:Below φ.c0 w w') (hO:Lib.OthersKept BY (some l.c) w w'):
 Rel w0 φ {H with bs:=some (b,s')} w'∧Grow φ H w φ {H with bs:=some (b,s')} w':=by
 obtain ⟨h1,h2,l',h3,h4,h5⟩:=R.mr b s e
 obtain rfl:l=l':=by rw [hl]at h3;cases h3;rfl
 have Kw:∀x lx z cs,φ.n0≤x→φ.m x=some lx→H.raw x=some (.cells z cs)→w'.heap[lx.c]?=w.heap[lx.c]?:=by
  intro x lx z cs hx gj hg
  obtain ⟨_,_,_,arr,e',g4,_,_,g7⟩:=R.cells x lx z cs hx gj hg
  obtain ⟨a1,_⟩:=h5.apart x lx hx gj (by rw [hg];rfl)
  rw [g4]
  exact hO _ _ g4 (fun e=>a1 (Option.some.inj e)) (fun c fz e=>by cases e;exact g7 rfl)
 have Kx:∀x lx es,φ.n0≤x→φ.m x=some lx→H.raw x=some (.map es)→w'.heap[lx.c]?=w.heap[lx.c]?:=by
  intro x lx es hx gj hg
  obtain ⟨_,es',ck,g4,_⟩:=R.maps x lx es hx gj hg
  obtain ⟨a1,_⟩:=h5.apart x lx hx gj (by rw [hg];rfl)
  rw [g4]
  exact hO _ _ g4 (fun e=>a1 (Option.some.inj e)) (fun c fz e=>by cases e)
 have MB:φ.c0≤w.heap.size:=by have:=R.below.size;rw [R.c0];exact this
 refine ⟨{
  n0:=R.n0,nE:=R.nE,oD:=R.oD,c0:=R.c0,gg:=R.gg,inj:=R.inj,sV:=R.sV
  below:=R.below.trans (by rw [←R.c0];exact hB)
  iU:=fun x z cs hx hg=>by
   obtain ⟨e',fz,hh⟩:=R.iU x z cs hx hg
   exact ⟨e',fz,by rw [hB.block x (Nat.lt_of_lt_of_le hx R.nE)];exact hh⟩
  cells:=fun x lx z cs hx gj hg=>by
   have hk:=Kw x lx z cs hx gj hg
   obtain ⟨g1,g2,g3,arr,e',g4,g5⟩:=R.cells x lx z cs hx gj hg
   exact ⟨g1,g2,g3,arr,e',hk.trans g4,g5⟩
  maps:=fun x lx es hx gj hg=>by
   have hk:=Kx x lx es hx gj hg
   obtain ⟨g1,es',ck,g4,g5⟩:=R.maps x lx es hx gj hg
   exact ⟨g1,es',ck,hk.trans g4,g5⟩
  mr:=fun b' t eb=>by
   have e1:b=b'∧s'=t:=by simpa using eb
   obtain ⟨rfl,rfl⟩:=e1
   refine ⟨h1,h2,l,hl,h4,hI,fun x lx hx gj hs=>⟨(h5.apart x lx hx gj hs).1,fun v hv ho=>?_⟩⟩
   have row:∃c fz,w'.heap[lx.c]?=some (.cells c BY fz):=by
    have key:∀p,Lib.BuilderAtF BT BY φ.c0 l.c p (Lib.strCells s') w'→∃c fz,w'.heap[lx.c]?=some (.cells c BY fz):=by
     rintro p ⟨_,u,hb,Yk,_⟩
     rw [Lib.cell_of_heap hb]at hv
     have:u=v:=by simpa using hv
     subst this
     rcases Yk.2 with⟨rfl,_⟩|⟨g,cap,cur,fz,rfl,_,q,_⟩
     ·cases ho
     ·cases ho
      exact ⟨_,_,q⟩
    rcases hI with k|k
    ·exact key _ k
    ·exact key _ k
   obtain ⟨c,fz,hc⟩:=row
   cases hg:H.raw x with
   |none=>have uy:(H.raw x).isSome=true:=hs;rw [hg]at uy;cases uy
   |some aN=>
    cases aN with
    |cells z cs=>
     have hk:=Kw x lx z cs hx gj hg
     obtain ⟨_,_,_,arr,e',g4,_,_,g7⟩:=R.cells x lx z cs hx gj hg
     rw [hk,g4]at hc
     cases hc
     exact g7 rfl
    |map es=>
     have hk:=Kx x lx es hx gj hg
     obtain ⟨_,es',ck,g4,_⟩:=R.maps x lx es hx gj hg
     rw [hk,g4]at hc
     cases hc},bl.le_refl _,rfl,rfl,Nat.le_refl _,fun _ _ h k=>(by rw [h]at k;cases k),hB.size⟩
theorem Dn {φ:bl} {a:Addr} {v':Value} {l:Loc} (h:V φ (.pointer (some a)) v') (hl:φ.m a.block=some l) (ho:a.off=0) (hs:l.s=0):v'= .pointer (some ⟨l.c,0,none⟩):=by
 obtain ⟨l',_,h1,rfl⟩:=h.uM
 rw [hl]at h1
 cases h1
 rw [ho,hs]
theorem AY (Ph:BT=138) (CE:BY=5) {xs:List Value} {H:AH} {v:Value} {H':AH} (h:qq xs H=some (v,H')):CT Tryz.prog 83 xs H v H':=by
 intro w0 φ w as' R R0 hv
 unfold qq at h
 split at h
 case h_2=>cases h
 rename_i a t
 split at h
 case h_2=>cases h
 rename_i b s e
 obtain ⟨hc,h⟩:=au h
 simp only [nb,Bool.and_eq_true,decide_eq_true_eq]at hc
 obtain ⟨⟨⟨Qx,ho⟩,_⟩,gA⟩:=hc
 simp only [Option.some.injEq,Prod.mk.injEq]at h
 obtain ⟨rfl,rfl⟩:=h
 obtain ⟨h1,h2,l,h3,h4,h5⟩:=R.mr b s e
 have ha:as'.toList=[.pointer (some ⟨l.c,0,none⟩),.string t]:=by
  generalize as'.toList=q at hv
  cases hv with
  |cons p q=>
   cases q with
   |cons p2 q=>
    cases q
    rw [Dn p (by rw [Qx];exact h3) ho h4,p2.string]
 obtain rfl:as'= #[.pointer (some ⟨l.c,0,none⟩),.string t]:=Array.ext' (by simpa using ha)
 have MB:φ.c0≤w.heap.size:=by have:=R.below.size;rw [R.c0];exact this
 have hI:=h5.is
 rw [Ph,CE]at hI
 refine (Tryz.Builder_WriteString_k φ.c0 l.c (Lib.strCells s) t w hI (by rw [Lib.strCells_length];exact gA) MB).mono ?_
 rintro x w' ⟨rfl,MC,hB,hO⟩
 rw [←pg,←Ph,←CE]at MC
 rw [←CE]at hO
 obtain ⟨R',G⟩:=uY R e h3 (.inr MC) hB hO
 exact ⟨φ,_,rfl,.tuple (.cons (.same rfl) (.cons (.same rfl) .nil)),R',G⟩
theorem HC (Ph:BT=138) (CE:BY=5) {xs:List Value} {H:AH} {v:Value} {H':AH} (h:Dl xs H=some (v,H')):CT Tryz.prog 86 xs H v H':=by
 intro w0 φ w as' R R0 hv
 unfold Dl at h
 split at h
 case h_2=>cases h
 rename_i a
 split at h
 case h_2=>cases h
 rename_i b s e
 obtain ⟨hc,h⟩:=au h
 simp only [nb,Bool.and_eq_true,decide_eq_true_eq]at hc
 obtain ⟨⟨Qx,ho⟩,_⟩:=hc
 simp only [Option.some.injEq,Prod.mk.injEq]at h
 obtain ⟨rfl,rfl⟩:=h
 obtain ⟨h1,h2,l,h3,h4,h5⟩:=R.mr b s e
 have ha:as'.toList=[.pointer (some ⟨l.c,0,none⟩)]:=by
  generalize as'.toList=q at hv
  cases hv with
  |cons p q=>
   cases q
   rw [Dn p (by rw [Qx];exact h3) ho h4]
 obtain rfl:as'= #[.pointer (some ⟨l.c,0,none⟩)]:=Array.ext' (by simpa using ha)
 have MB:φ.c0≤w.heap.size:=by have:=R.below.size;rw [R.c0];exact this
 have hI:=h5.is
 rw [Ph,CE,Lib.strCells_eq]at hI
 refine (Tryz.Builder_String_any_k φ.c0 l.c s.data.toList w hI MB).mono ?_
 rintro x w' ⟨rfl,MC,hB,hO⟩
 rw [←Lib.strCells_eq,←Ph,←CE]at MC
 rw [←CE]at hO
 obtain ⟨R',G⟩:=uY R e h3 MC hB hO
 have eH:({H with bs:=some (b,s)}:AH)=H:=by rw [←e]
 rw [eH]at R' G
 exact ⟨φ,_,rfl,.same rfl,R',G⟩
end Go.Proofs.YtppcmpmnglaleaaGreatDoor.A
