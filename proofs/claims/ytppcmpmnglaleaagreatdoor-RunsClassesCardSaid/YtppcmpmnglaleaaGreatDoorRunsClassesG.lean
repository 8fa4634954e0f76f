/- A text without what this claim does not need: LawRunsClasses. -/
import Derived.Test.YtppcmpmnglaleaaGreatDoorRows
import Derived.Test.YtppcmpmnglaleaaGreatDoorG24
import Derived.Test.YtppcmpmnglaleaaGreatDoorCards
import Derived.Test.YtppcmpmnglaleaaGreatDoorTie
import Derived.SevenTiedAt
set_option linter.unusedVariables false
namespace Go.Proofs.YtppcmpmnglaleaaGreatDoor.sJ
open Go Go.ChangeShapes Go.WideShapes Go.ChangeAt Go.RowKit Go.Proofs.YtppcmpmnglaleaaGreatDoor.A
theorem own:ownKnob Tryz.prog.godebug=none:=by kernel_rfl
theorem laidOut:laidOutB Tryz.prog=true:=by kernel_rfl
set_option maxRecDepth 100000 in
theorem lifted (os:Os) (started:os.Started) (H:Type) (enc:TypeId×Value→H):
 ReturnsInHanded {} Tryz.checked os 8 .any (fun w args=>(Rows.runsClassesSpec.pre enc Tryz.prog Tryz.f8 Rows.runsClassesRow.domain false w args∧laidMetH Tryz.prog Rows.runsClassesRow.laid w)∧sizedMet enc Tryz.prog Tryz.f8 (OpenSpec.ofChange Rows.runsClassesSpec) false w args) (Rows.runsClassesSpec.post enc Tryz.prog Tryz.f8 false true false false):=by
 refine returnsInHanded_of_change_and (C:=Tryz.checked) (X:=fun w _=>laidMetH Tryz.prog Rows.runsClassesRow.laid w) (fun _ _ _ hh h=>h.of_heap hh) own started (by kernel_rfl) Tryz.func8
  (ChangeSpec.witness_at (enc:=enc) (C:=Tryz.checked) (os:=os) (X:=fun w _=>laidMetH Tryz.prog Rows.runsClassesRow.laid w) false (wT os) #[.agg #[.int .i64 0,.slice none 0 0,.slice none 0 0],.int .i64 0,.int .i64 0,.int .i64 0] 8 rfl (by kernel_rfl) (by kernel_rfl) (by kernel_rfl) (by kernel_rfl) (by kernel_rfl) (LY os _)) ?_
 intro W base args V gs before N Q atO O hL _;have s:(DataW.weightsEach Tryz.prog (Tryz.f8.params.toList++Rows.runsClassesSpec.plain.varTypes Tryz.prog) (V++gs)).all (· ≤reachBytes)=true:=O;have d:∀(j:Nat) t v,Tryz.f8.params[j]?=some t→args[j]?=some v→Value.okWide Tryz.prog W .any base t v:=N;have u:=Q;obtain ⟨p,q,f,hV,rfl,hfz,mP⟩:=Q;have R:DataW.TrodAll enc Tryz.prog W 0 (fun _=>true) true Tryz.f8.params.toList args.toList V p:=f;rw [Tryz.params8]at R d s;obtain ⟨G,vs0,d0,ds0,p0,q0,gO,rfl,rfl,U,r0⟩:=trodAll_cons R;obtain ⟨v1,vs1,d1,ds1,p1,q1,rfl,rfl,rfl,T,r1⟩:=trodAll_cons r0;obtain ⟨F,vs2,d2,ds2,I,q2,rfl,rfl,rfl,h2,r2⟩:=trodAll_cons r1;obtain ⟨E,Z,d3,ds3,p3,q3,rfl,rfl,rfl,S,r3⟩:=trodAll_cons r2;obtain ⟨rfl,rfl,rfl⟩:=trodAll_nil r3;obtain rfl:args= #[G,v1,F,E]:=by cases args;simp_all
 obtain ⟨rfl,rfl⟩:=trodVars_none hV;obtain ⟨c0,rfl,sV⟩:=okWide_struct Tryz.underlying25 (d 0 25 G rfl rfl);obtain ⟨i1,rfl⟩:=okWide_int Tryz.underlying3 (d 1 3 v1 rfl rfl);obtain ⟨i2,rfl⟩:=okWide_int Tryz.underlying3 (d 2 3 F rfl rfl);obtain ⟨i3,rfl⟩:=okWide_int Tryz.underlying3 (d 3 3 E rfl rfl);have M:=U;have L:=T;have K:=h2;have J:=S;have o:∀x∈p0,x.block<W.heap.size:=by obtain ⟨m,c⟩:=M;exact DataW.trod_lt m _ _ _ c
 have l:∀x∈p1,x.block<W.heap.size:=by obtain ⟨m,c⟩:=L;exact DataW.trod_lt m _ _ _ c
 have k:∀x∈I,x.block<W.heap.size:=by obtain ⟨m,c⟩:=K;exact DataW.trod_lt m _ _ _ c
 have i:∀x∈p3,x.block<W.heap.size:=by obtain ⟨m,c⟩:=J;exact DataW.trod_lt m _ _ _ c
 obtain ⟨n0,e0⟩:=U;obtain ⟨n1,e1⟩:=T;obtain ⟨n2,e2⟩:=h2;obtain ⟨n3,e3⟩:=S;have g:=List.all_eq_true.1 s;have Y:zN Tryz.prog 25 d0:=fun n b=>by simpa using g n (DataW.weights_mem_each (j:=0) rfl rfl n b)
 have w1:zN Tryz.prog 3 d1:=fun n b=>by simpa using g n (DataW.weights_mem_each (j:=1) rfl rfl n b)
 have w2:zN Tryz.prog 3 d2:=fun n b=>by simpa using g n (DataW.weights_mem_each (j:=2) rfl rfl n b)
 have w3:zN Tryz.prog 3 d3:=fun n b=>by simpa using g n (DataW.weights_mem_each (j:=3) rfl rfl n b)
 obtain ⟨l0,P0,m0,g0,o0⟩:=P.P4 n0 _ d0 ⟨_,e0⟩ Y;obtain ⟨j1,D,z⟩:=kh (enc:=enc) (P:=Tryz.prog) Tryz.underlying3 ⟨_,e1⟩;have g1:lC i1:=by have e:([Value.int .i64 i1]:List Value)=[.int .i64 j1]:=D;cases e;exact wf_i64 z
 obtain ⟨j2,B,Xw⟩:=kh (enc:=enc) (P:=Tryz.prog) Tryz.underlying3 ⟨_,e2⟩;have g2:lC i2:=by have e:([Value.int .i64 i2]:List Value)=[.int .i64 j2]:=B;cases e;exact wf_i64 Xw
 obtain ⟨j3,A,y⟩:=kh (enc:=enc) (P:=Tryz.prog) Tryz.underlying3 ⟨_,e3⟩;have g3:lC i3:=by have e:([Value.int .i64 i3]:List Value)=[.int .i64 j3]:=A;cases e;exact wf_i64 y
 have hv:VL (tY W) [.agg l0.toArray,.int .i64 i1,.int .i64 i2,.int .i64 i3] (#[.agg c0,.int .i64 i1,.int .i64 i2,.int .i64 i3]:Array Value).toList:=(.cons (OF m0) (.cons (.same rfl) (.cons (.same rfl) (.cons (.same rfl) .nil))))
 clear f N O s;refine (zj (QF hL) mixed ahH ahI hv ((P.vU o0 (P.F0 W) (H0 W) id _ (P.st0 W id) (.cons (.agg (P.ju.sy g0)) (.cons (.v _) (.cons (.v _) (.cons (.v _) .nil))))).mono (by rintro x H2 ⟨r,h2,F2,I,⟨rfl,rfl,_⟩,hr,_⟩;cases hr;rfl))).mono fun e W' ⟨he,a⟩=>?_
 subst he;exact ⟨_,rfl,_,_,_,[],_,[],u,trodAll_mk1 (shut_bool Tryz.underlying4 _),(trodAll_cons_mk (Below.trod laidOut (by kernel_rfl) (of_decide_eq_true (by kernel_rfl)) M a o) (trodAll_cons_mk (Below.trod laidOut (by kernel_rfl) (of_decide_eq_true (by kernel_rfl)) L a l) (trodAll_cons_mk (Below.trod laidOut (by kernel_rfl) (of_decide_eq_true (by kernel_rfl)) K a k) (trodAll_cons_mk (Below.trod laidOut (by kernel_rfl) (of_decide_eq_true (by kernel_rfl)) J a i) trodAll_mk0)))),rfl,a.frame _,fun h=>by cases h⟩
theorem over:Rows.runsClassesRow.holds Tryz.pinned (OpenSpec.ofChange Rows.runsClassesSpec):=
 OpenClaim.holds_of_wide 8 Tryz.f8 rfl rfl rfl rfl rfl rfl rfl ⟨rfl,rfl,rfl,rfl,rfl⟩ rfl rfl rfl rfl rfl (by kernel_rfl) Tryz.func8 (by kernel_rfl)
  (of_decide_eq_true (by kernel_rfl)) (by unfold Func.isWrapper;first|(rw [if_pos (by decide+kernel)];kernel_rfl)|(rw [if_neg (by decide+kernel)];exact ⟨rfl,rfl⟩))
  (fun os started H enc _=>lifted os started H enc)
theorem C8:Rows.RunsClassesCardSaid:=
 Claim7.holds_tied_plain_at .later [] [.data,.data,.data] true (true,"3026f21b19b6f59de445bb43a8501b9305d9414549b9f9b31dff8a38d7671d74") false
  over (fun _ h=>by cases h) (by kernel_rfl) (fun _ h=>by cases h) runsClasses_row_tie rfl ⟨rfl,rfl⟩ (by kernel_rfl) rfl
  (fun f fn c b=>by
   obtain rfl:f=8:=Option.some.inj ((show Tryz.prog.funcNamed "stereopsis/stereopsislaw06.RunsClasses" =some 8 by kernel_rfl).symm.trans c)|>.symm;obtain rfl:fn=Tryz.f8:=(Option.some.inj (Tryz.func8.symm.trans b)).symm
   exact ⟨by kernel_rfl,fun j t a=>by
    rw [Tryz.params8]at a;rcases j with _|_|_|_|j
    ·obtain rfl:25=t:=by simpa using a
     exact (show Tryz.prog.wantsStandIn 25=false by kernel_rfl)
    ·obtain rfl:3=t:=by simpa using a
     exact (show Tryz.prog.wantsStandIn 3=false by kernel_rfl)
    ·obtain rfl:3=t:=by simpa using a
     exact (show Tryz.prog.wantsStandIn 3=false by kernel_rfl)
    ·obtain rfl:3=t:=by simpa using a
     exact (show Tryz.prog.wantsStandIn 3=false by kernel_rfl)
    ·simp at a⟩)
  (by kernel_rfl)
end Go.Proofs.YtppcmpmnglaleaaGreatDoor.sJ
namespace Go.Proofs.YtppcmpmnglaleaaGreatDoor
theorem runsClasses_card_holds:Rows.RunsClassesCardSaid:=sJ.C8
end Go.Proofs.YtppcmpmnglaleaaGreatDoor
