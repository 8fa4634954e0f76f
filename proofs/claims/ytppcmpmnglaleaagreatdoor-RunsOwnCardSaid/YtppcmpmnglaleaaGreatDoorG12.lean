/- Texts that stand one behind the other: ShM, AbsS. -/
import Derived.Test.YtppcmpmnglaleaaGreatDoorG11
import Derived.Shelf.Strconv.Itoa0
import Derived.Shelf.Strconv.Itoa1
import Derived.Shelf.Strconv.Itoa2
import Derived.Shelf.Strconv.Itoa3
import Derived.Test.YtppcmpmnglaleaaGreatDoorProg
namespace Go.Proofs
open Go.Shelf
def Tryz.vC:Go.Shelf.Ren:=⟨fun|171=>84|243=>117|246=>150|283=>160|284=>161|285=>162|286=>163|129=>170|317=>169|318=>171|319=>172|320=>173|337=>179|338=>180|n=>n,fun|3=>3|9=>9|2=>2|4=>4|171=>211|0=>0|53=>212|37=>136|5=>5|173=>215|212=>222|51=>223|20=>20|213=>224|46=>125|232=>232|233=>233|n=>n,fun|17=>0|18=>1|19=>2|n=>n⟩
theorem Tryz.FO:Go.Proofs.LaysM.n171 Tryz.prog Tryz.vC:={
 mixed:=by kernel_rfl
 f129:=Tryz.func170.trans (congrArg some (by kernel_rfl))
 f171:=Tryz.func84.trans (congrArg some (by kernel_rfl))
 f243:=Tryz.func117.trans (congrArg some (by kernel_rfl))
 f246:=Tryz.func150.trans (congrArg some (by kernel_rfl))
 f283:=Tryz.func160.trans (congrArg some (by kernel_rfl))
 f284:=Tryz.func161.trans (congrArg some (by kernel_rfl))
 f285:=Tryz.func162.trans (congrArg some (by kernel_rfl))
 f286:=Tryz.func163.trans (congrArg some (by kernel_rfl))
 f317:=Tryz.func169.trans (congrArg some (by kernel_rfl))
 f318:=Tryz.func171.trans (congrArg some (by kernel_rfl))
 f319:=Tryz.func172.trans (congrArg some (by kernel_rfl))
 f320:=Tryz.func173.trans (congrArg some (by kernel_rfl))
 f337:=Tryz.func179.trans (congrArg some (by kernel_rfl))
 f338:=Tryz.func180.trans (congrArg some (by kernel_rfl))
 t0:=Tryz.underlying0
 a0:=Tryz.isAgg0
 z0:=Tryz.sizeOf0
 v0:=Tryz.zeroValue0
 t2:=Tryz.underlying2
 a2:=Tryz.isAgg2
 z2:=Tryz.sizeOf2
 v2:=Tryz.zeroValue2
 t3:=Tryz.underlying3
 a3:=Tryz.isAgg3
 z3:=Tryz.sizeOf3
 v3:=Tryz.zeroValue3
 t4:=Tryz.underlying4
 a4:=Tryz.isAgg4
 z4:=Tryz.sizeOf4
 v4:=Tryz.zeroValue4
 t5:=Tryz.underlying5
 a5:=Tryz.isAgg5
 z5:=Tryz.sizeOf5
 v5:=Tryz.zeroValue5
 t9:=Tryz.underlying9
 a9:=Tryz.isAgg9
 z9:=Tryz.sizeOf9
 v9:=Tryz.zeroValue9
 t20:=Tryz.underlying20
 a20:=Tryz.isAgg20
 z20:=Tryz.sizeOf20
 v20:=Tryz.zeroValue20
 t37:=Tryz.underlying136
 a37:=Tryz.isAgg136
 z37:=Tryz.sizeOf136
 v37:=Tryz.zeroValue136
 t46:=Tryz.underlying125
 a46:=Tryz.isAgg125
 z46:=Tryz.sizeOf125
 v46:=Tryz.zeroValue125
 t51:=Tryz.underlying223
 a51:=Tryz.isAgg223
 z51:=Tryz.sizeOf223
 v51:=Tryz.zeroValue223
 t53:=Tryz.underlying212
 a53:=Tryz.isAgg212
 z53:=Tryz.sizeOf212
 v53:=Tryz.zeroValue212
 t171:=Tryz.underlying211
 a171:=Tryz.isAgg211
 z171:=Tryz.sizeOf211
 v171:=Tryz.zeroValue211
 t173:=Tryz.underlying215
 a173:=Tryz.isAgg215
 z173:=Tryz.sizeOf215
 v173:=Tryz.zeroValue215
 t212:=Tryz.underlying222
 a212:=Tryz.isAgg222
 z212:=Tryz.sizeOf222
 v212:=Tryz.zeroValue222
 t213:=Tryz.underlying224
 a213:=Tryz.isAgg224
 z213:=Tryz.sizeOf224
 t232:=Tryz.underlying232
 a232:=Tryz.isAgg232
 z232:=Tryz.sizeOf232
 v232:=Tryz.zeroValue232
 t233:=Tryz.underlying233
 a233:=Tryz.isAgg233
 z233:=Tryz.sizeOf233
 v233:=Tryz.zeroValue233
 g17:=by kernel_rfl
 g18:=by kernel_rfl
 g19:=by kernel_rfl
 i0:=by kernel_rfl
 i2:=by kernel_rfl
 i3:=by kernel_rfl
 i4:=by kernel_rfl
 i5:=by kernel_rfl
 i9:=by kernel_rfl
 i20:=by kernel_rfl
 i37:=by kernel_rfl
 i46:=by kernel_rfl
 i51:=by kernel_rfl
 i53:=by kernel_rfl
 i171:=by kernel_rfl
 i173:=by kernel_rfl
 i212:=by kernel_rfl
 i232:=by kernel_rfl
 i233:=by kernel_rfl
 m17:=by kernel_rfl
 m18:=by kernel_rfl
 m19:=by kernel_rfl}
open Go.RowKit Go.Sort Go.Lib in
theorem Tryz.strconv_Itoa (n:Int) (c:-9223372036854775808≤n) (b:n≤9223372036854775807) (w:World) (a:Lib.TabIs Tryz.prog w "internal/strconv.uint64pow10" .u64 Lib.pow10Tab):
 Calls Tryz.prog 84 #[.int .i64 n] w fun e w'=>e= .returned (.string ⟨(Lib.itoa n).toArray⟩)∧∃k os,w'=grow (w.drewN k) os:=Any.strconv_Itoa Tryz.FO n c b w a
end Go.Proofs
set_option linter.unusedVariables false
set_option linter.unusedSimpArgs false
namespace Go.Proofs.YtppcmpmnglaleaaGreatDoor.A
open Go Go.RowKit
def sA:List Value→AH→Option (Value×AH)
 |[.pointer (some a), .string t],H=>match H.bs with
  |some (b,s)=>bif Nat.beq a.block b&&Nat.beq a.off 0&&a.spot.isNone&&decide (s.size+t.size≤140737488355328)then some (.tuple #[.int .i64 t.size, .nilIface],{H with bs:=some (b,s++t)})else none
  |none=>none
 |_,_=>none
def FP:List Value→AH→Option (Value×AH)
 |[.pointer (some a)],H=>match H.bs with
  |some (b,s)=>bif Nat.beq a.block b&&Nat.beq a.off 0&&a.spot.isNone then some (.string s,H)else none
  |none=>none
 |_,_=>none
theorem rf (s t:ByteArray):Lib.strCells (s++t)=Lib.strCells s++Lib.strCells t:=by
 simp [Lib.strCells,ByteArray.data_append]
theorem xw {w0 w w':World} {φ:bM} {H:AH} (R:Rel w0 φ H w) {b:Nat} {s y:ByteArray} (e:H.bs=some (b,s)) {l:Loc} (S:φ.m b=some l)
 (U:Lib.IsBuilderF BT BY φ.c0 l.c (Lib.strCells y) w') (D:Below φ.c0 w w') (T:Lib.OthersKept BY (some l.c) w w'):
 Rel w0 φ {H with bs:=some (b,y)} w'∧Grow φ H w φ {H with bs:=some (b,y)} w':=by
 obtain ⟨Z,h2,l',V,Y,E⟩:=R.oA b s e;obtain rfl:l=l':=by rw [S]at V;cases V;rfl
 have M:∀x a z cs,φ.n0≤x→φ.m x=some a→H.raw x=some (.cells z cs)→w'.heap[a.c]?=w.heap[a.c]?:=by
  intro x a z cs d i f;obtain ⟨_,_,_,arr,A,j,_,_,F⟩:=R.cells x a z cs d i f;obtain ⟨K,_⟩:=E.apart x a d i (by rw [f];rfl);rw [j];exact T _ _ j (fun e=>K (Option.some.inj e)) (fun c n e=>by cases e;exact F rfl)
 have L:∀x a es,φ.n0≤x→φ.m x=some a→H.raw x=some (.map es)→w'.heap[a.c]?=w.heap[a.c]?:=by
  intro x a es d i f;obtain ⟨_,r,J,j,_⟩:=R.maps x a es d i f;obtain ⟨K,_⟩:=E.apart x a d i (by rw [f];rfl);rw [j];exact T _ _ j (fun e=>K (Option.some.inj e)) (fun c n e=>by cases e)
 have Qe:φ.c0≤w.heap.size:=by have:=R.below.size;rw [R.c0];exact this
 refine ⟨{
  n0:=R.n0,pR:=R.pR,qA:=R.qA,c0:=R.c0,iG:=R.iG,inj:=R.inj,u7:=R.u7
  below:=R.below.trans (by rw [←R.c0];exact D)
  j9:=fun x z cs d f=>by
   obtain ⟨A,n,W⟩:=R.j9 x z cs d f;exact ⟨A,n,by rw [D.block x (Nat.lt_of_lt_of_le d R.pR)];exact W⟩
  cells:=fun x a z cs d i f=>by
   have o:=M x a z cs d i f;obtain ⟨I,g2,g3,arr,A,j,G⟩:=R.cells x a z cs d i f;exact ⟨I,g2,g3,arr,A,o.trans j,G⟩
  maps:=fun x a es d i f=>by
   have o:=L x a es d i f;obtain ⟨I,r,J,j,G⟩:=R.maps x a es d i f;exact ⟨I,r,J,o.trans j,G⟩
  oA:=fun b' t eb=>by
   have e1:b=b'∧y=t:=by simpa using eb
   obtain ⟨rfl,rfl⟩:=e1;refine ⟨Z,h2,l,S,Y,U,fun x a d i P=>⟨(E.apart x a d i P).1,fun v N Q=>?_⟩⟩
   have row:∃c n,w'.heap[a.c]?=some (.cells c BY n):=by
    have key:∀p,Lib.BuilderAtF BT BY φ.c0 l.c p (Lib.strCells y) w'→∃c n,w'.heap[a.c]?=some (.cells c BY n):=by
     rintro p ⟨_,u,X,C,_⟩;rw [Lib.cell_of_heap X]at N;have:u=v:=by simpa using N
     subst this;rcases C.2 with⟨rfl,_⟩|⟨g,cap,cur,n,rfl,_,q,_⟩
     ·cases Q
     ·cases Q
      exact ⟨_,_,q⟩
    rcases U with k|k
    ·exact key _ k
    ·exact key _ k
   obtain ⟨c,n,B⟩:=row
   cases f:H.raw x with
   |none=>have O:(H.raw x).isSome=true:=P;rw [f]at O;cases O
   |some aR=>
    cases aR with
    |cells z cs=>
     have o:=M x a z cs d i f;obtain ⟨_,_,_,arr,A,j,_,_,F⟩:=R.cells x a z cs d i f;rw [o,j]at B;cases B;exact F rfl
    |map es=>
     have o:=L x a es d i f;obtain ⟨_,r,J,j,_⟩:=R.maps x a es d i f;rw [o,j]at B
     cases B},bM.le_refl _,rfl,rfl,Nat.le_refl _,fun _ _ h k=>(by rw [h]at k;cases k),D.size⟩
theorem FQ {φ:bM} {a:Addr} {v':Value} {l:Loc} (h:V φ (.pointer (some a)) v') (e:φ.m a.block=some l) (d:a.off=0) (hs:l.s=0):v'= .pointer (some ⟨l.c,0,none⟩):=by
 obtain ⟨f,_,b,rfl⟩:=h.xd;rw [e]at b;cases b;rw [d,hs]
theorem Dl (k:BT=138) (g:BY=5) {xs:List Value} {H:AH} {v:Value} {H':AH} (h:sA xs H=some (v,H')):Fk Tryz.prog 83 xs H v H':=by
 intro J f w d R M i;unfold sA at h;split at h
 case h_2=>cases h
 rename_i a t;split at h
 case h_2=>cases h
 rename_i b s e;obtain ⟨j,h⟩:=aw h;simp only [nb,Bool.and_eq_true,decide_eq_true_eq]at j;obtain ⟨⟨⟨B,A⟩,_⟩,z⟩:=j;simp only [Option.some.injEq,Prod.mk.injEq]at h;obtain ⟨rfl,rfl⟩:=h;obtain ⟨L,h2,l,r,F,E⟩:=R.oA b s e
 have C:d.toList=[.pointer (some ⟨l.c,0,none⟩),.string t]:=by
  generalize d.toList=q at i
  cases i with
  |cons p q=>
   cases q with
   |cons u q=>
    cases q;rw [FQ p (by rw [B];exact r) A F,u.string]
 obtain rfl:d= #[.pointer (some ⟨l.c,0,none⟩),.string t]:=Array.ext' (by simpa using C);have y:f.c0≤w.heap.size:=by have:=R.below.size;rw [R.c0];exact this
 have o:=E.is;rw [k,g]at o;refine (Tryz.Builder_WriteString_k f.c0 l.c (Lib.strCells s) t w o (by rw [Lib.strCells_length];exact z) y).mono ?_;rintro x K ⟨rfl,m,D,n⟩;rw [←rf,←k,←g]at m;rw [←g]at n;obtain ⟨I,G⟩:=xw R e r (.inr m) D n;exact ⟨f,_,rfl,.tuple (.cons (.same rfl) (.cons (.same rfl) .nil)),I,G⟩
theorem Kf (k:BT=138) (g:BY=5) {xs:List Value} {H:AH} {v:Value} {H':AH} (h:FP xs H=some (v,H')):Fk Tryz.prog 86 xs H v H':=by
 intro F f w d R K i;unfold FP at h;split at h
 case h_2=>cases h
 rename_i a;split at h
 case h_2=>cases h
 rename_i b s e;obtain ⟨j,h⟩:=aw h;simp only [nb,Bool.and_eq_true,decide_eq_true_eq]at j;obtain ⟨⟨z,y⟩,_⟩:=j;simp only [Option.some.injEq,Prod.mk.injEq]at h;obtain ⟨rfl,rfl⟩:=h;obtain ⟨J,h2,l,r,D,C⟩:=R.oA b s e
 have A:d.toList=[.pointer (some ⟨l.c,0,none⟩)]:=by
  generalize d.toList=q at i
  cases i with
  |cons p q=>
   cases q;rw [FQ p (by rw [z];exact r) y D]
 obtain rfl:d= #[.pointer (some ⟨l.c,0,none⟩)]:=Array.ext' (by simpa using A);have u:f.c0≤w.heap.size:=by have:=R.below.size;rw [R.c0];exact this
 have o:=C.is;rw [k,g,Lib.strCells_eq]at o;refine (Tryz.Builder_String_any_k f.c0 l.c s.data.toList w o u).mono ?_;rintro x I ⟨rfl,m,B,n⟩;rw [←Lib.strCells_eq,←k,←g]at m;rw [←g]at n;obtain ⟨t,G⟩:=xw R e r m B n;have E:({H with bs:=some (b,s)}:AH)=H:=by rw [←e]
 rw [E]at t G;exact ⟨f,_,rfl,.same rfl,t,G⟩
end Go.Proofs.YtppcmpmnglaleaaGreatDoor.A
