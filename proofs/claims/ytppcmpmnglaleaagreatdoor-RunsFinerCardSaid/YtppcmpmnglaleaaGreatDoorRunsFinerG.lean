/- A text without what this claim does not need: LawRunsFiner. -/
import Derived.Test.YtppcmpmnglaleaaGreatDoorRows
import Derived.Test.YtppcmpmnglaleaaGreatDoorG23
import Derived.Test.YtppcmpmnglaleaaGreatDoorCards
import Derived.Test.YtppcmpmnglaleaaGreatDoorTie
import Derived.SevenTiedAt
set_option linter.unusedVariables false
namespace Go.Proofs.YtppcmpmnglaleaaGreatDoor.uz
open Go Go.ChangeShapes Go.WideShapes Go.ChangeAt Go.RowKit Go.Proofs.YtppcmpmnglaleaaGreatDoor.A
theorem own:ownKnob Tryz.prog.godebug=none:=by kernel_rfl
theorem laidOut:laidOutB Tryz.prog=true:=by kernel_rfl
set_option maxRecDepth 100000 in
theorem lifted (os:Os) (started:os.Started) (H:Type) (enc:TypeId×Value→H):
 ReturnsInHanded {} Tryz.checked os 9 .any (fun w args=>(Rows.runsFinerSpec.pre enc Tryz.prog Tryz.f9 Rows.runsFinerRow.domain false w args∧laidMetH Tryz.prog Rows.runsFinerRow.laid w)∧sizedMet enc Tryz.prog Tryz.f9 (OpenSpec.ofChange Rows.runsFinerSpec) false w args) (Rows.runsFinerSpec.post enc Tryz.prog Tryz.f9 false true false false):=by
 refine returnsInHanded_of_change_and (C:=Tryz.checked) (X:=fun w _=>laidMetH Tryz.prog Rows.runsFinerRow.laid w) (fun _ _ _ hh h=>h.of_heap hh) own started (by kernel_rfl) Tryz.func9
  (ChangeSpec.witness_at (enc:=enc) (C:=Tryz.checked) (os:=os) (X:=fun w _=>laidMetH Tryz.prog Rows.runsFinerRow.laid w) false (ux os) #[.agg #[.int .i64 0,.slice none 0 0,.slice none 0 0],.int .i64 0,.int .i64 0,.int .i64 0,.int .i64 0,.int .i64 0] 8 rfl (by kernel_rfl) (by kernel_rfl) (by kernel_rfl) (by kernel_rfl) (by kernel_rfl) (Jj os _)) ?_
 intro W base args ds gs before OS hW apf O8 hL _;have y:(DataW.weightsEach Tryz.prog (Tryz.f9.params.toList++Rows.runsFinerSpec.plain.varTypes Tryz.prog) (ds++gs)).all (· ≤reachBytes)=true:=O8;have c:∀(j:Nat) t v,Tryz.f9.params[j]?=some t→args[j]?=some v→Value.okWide Tryz.prog W .any base t v:=OS;have z:=hW;obtain ⟨p,q,g,hV,rfl,hfz,vr⟩:=hW;have hA:DataW.TrodAll enc Tryz.prog W 0 (fun _=>true) true Tryz.f9.params.toList args.toList ds p:=g;rw [Tryz.params9]at hA c y;obtain ⟨Q,vs0,d0,ds0,p0,q0,hY,rfl,rfl,h0,r0⟩:=trodAll_cons hA;obtain ⟨v1,vs1,d1,ds1,p1,q1,rfl,rfl,rfl,h1,r1⟩:=trodAll_cons r0;obtain ⟨O,vs2,d2,ds2,R,q2,rfl,rfl,rfl,h2,r2⟩:=trodAll_cons r1;obtain ⟨N,vs3,d3,ds3,p3,q3,rfl,rfl,rfl,h3,r3⟩:=trodAll_cons r2;obtain ⟨M,vs4,d4,ds4,p4,q4,rfl,rfl,rfl,h4,r4⟩:=trodAll_cons r3;obtain ⟨L,vs5,d5,ds5,p5,q5,rfl,rfl,rfl,h5,r5⟩:=trodAll_cons r4;obtain ⟨rfl,rfl,rfl⟩:=trodAll_nil r5;obtain rfl:args= #[Q,v1,O,N,M,L]:=by cases args;simp_all
 obtain ⟨rfl,rfl⟩:=trodVars_none hV;obtain ⟨c0,rfl,qd⟩:=okWide_struct Tryz.underlying25 (c 0 25 Q rfl rfl);obtain ⟨i1,rfl⟩:=okWide_int Tryz.underlying3 (c 1 3 v1 rfl rfl);obtain ⟨i2,rfl⟩:=okWide_int Tryz.underlying3 (c 2 3 O rfl rfl);obtain ⟨i3,rfl⟩:=okWide_int Tryz.underlying3 (c 3 3 N rfl rfl);obtain ⟨i4,rfl⟩:=okWide_int Tryz.underlying3 (c 4 3 M rfl rfl);obtain ⟨i5,rfl⟩:=okWide_int Tryz.underlying3 (c 5 3 L rfl rfl);have Z:=h0;have Y:=h1;have V:=h2;have U:=h3;have T:=h4;have S:=h5;have u:∀x∈p0,x.block<W.heap.size:=by obtain ⟨m,b⟩:=Z;exact DataW.trod_lt m _ _ _ b
 have s:∀x∈p1,x.block<W.heap.size:=by obtain ⟨m,b⟩:=Y;exact DataW.trod_lt m _ _ _ b
 have o:∀x∈R,x.block<W.heap.size:=by obtain ⟨m,b⟩:=V;exact DataW.trod_lt m _ _ _ b
 have l:∀x∈p3,x.block<W.heap.size:=by obtain ⟨m,b⟩:=U;exact DataW.trod_lt m _ _ _ b
 have k:∀x∈p4,x.block<W.heap.size:=by obtain ⟨m,b⟩:=T;exact DataW.trod_lt m _ _ _ b
 have i:∀x∈p5,x.block<W.heap.size:=by obtain ⟨m,b⟩:=S;exact DataW.trod_lt m _ _ _ b
 obtain ⟨n0,e0⟩:=h0;obtain ⟨n1,e1⟩:=h1;obtain ⟨n2,e2⟩:=h2;obtain ⟨n3,e3⟩:=h3;obtain ⟨n4,e4⟩:=h4;obtain ⟨n5,e5⟩:=h5;have f:=List.all_eq_true.1 y;have w0:vi Tryz.prog 25 d0:=fun n a=>by simpa using f n (DataW.weights_mem_each (j:=0) rfl rfl n a)
 have w1:vi Tryz.prog 3 d1:=fun n a=>by simpa using f n (DataW.weights_mem_each (j:=1) rfl rfl n a)
 have w2:vi Tryz.prog 3 d2:=fun n a=>by simpa using f n (DataW.weights_mem_each (j:=2) rfl rfl n a)
 have w3:vi Tryz.prog 3 d3:=fun n a=>by simpa using f n (DataW.weights_mem_each (j:=3) rfl rfl n a)
 have w4:vi Tryz.prog 3 d4:=fun n a=>by simpa using f n (DataW.weights_mem_each (j:=4) rfl rfl n a)
 have w5:vi Tryz.prog 3 d5:=fun n a=>by simpa using f n (DataW.weights_mem_each (j:=5) rfl rfl n a)
 obtain ⟨l0,P0,m0,g0,o0⟩:=P.Mr n0 _ d0 ⟨_,e0⟩ w0;obtain ⟨j1,K,E⟩:=gu (enc:=enc) (P:=Tryz.prog) Tryz.underlying3 ⟨_,e1⟩;have g1:jG i1:=by have e:([Value.int .i64 i1]:List Value)=[.int .i64 j1]:=K;cases e;exact wf_i64 E
 obtain ⟨j2,J,TB⟩:=gu (enc:=enc) (P:=Tryz.prog) Tryz.underlying3 ⟨_,e2⟩;have g2:jG i2:=by have e:([Value.int .i64 i2]:List Value)=[.int .i64 j2]:=J;cases e;exact wf_i64 TB
 obtain ⟨j3,I,D⟩:=gu (enc:=enc) (P:=Tryz.prog) Tryz.underlying3 ⟨_,e3⟩;have g3:jG i3:=by have e:([Value.int .i64 i3]:List Value)=[.int .i64 j3]:=I;cases e;exact wf_i64 D
 obtain ⟨j4,G,B⟩:=gu (enc:=enc) (P:=Tryz.prog) Tryz.underlying3 ⟨_,e4⟩;have g4:jG i4:=by have e:([Value.int .i64 i4]:List Value)=[.int .i64 j4]:=G;cases e;exact wf_i64 B
 obtain ⟨j5,F,A⟩:=gu (enc:=enc) (P:=Tryz.prog) Tryz.underlying3 ⟨_,e5⟩;have g5:jG i5:=by have e:([Value.int .i64 i5]:List Value)=[.int .i64 j5]:=F;cases e;exact wf_i64 A
 have hv:VL (rU W) [.agg l0.toArray,.int .i64 i1,.int .i64 i2,.int .i64 i3,.int .i64 i4,.int .i64 i5] (#[.agg c0,.int .i64 i1,.int .i64 i2,.int .i64 i3,.int .i64 i4,.int .i64 i5]:Array Value).toList:=(.cons (Lk m0) (.cons (.same rfl) (.cons (.same rfl) (.cons (.same rfl) (.cons (.same rfl) (.cons (.same rfl) .nil))))))
 clear g OS O8 y;refine (wX (Nj hL) mixed adE adF hv ((P.yP o0 (P.F0 W) (H0 W) id _ (P.st0 W id) (.cons (.agg (P.gO.qw g0)) (.cons (.v _) (.cons (.v _) (.cons (.v _) (.cons (.v _) (.cons (.v _) .nil))))))).mono (by rintro x H2 ⟨r,h2,F2,R,⟨rfl,rfl,_⟩,hr,_⟩;cases hr;rfl))).mono fun e W' ⟨he,d⟩=>?_
 subst he;exact ⟨_,rfl,_,_,_,[],_,[],z,trodAll_mk1 (shut_bool Tryz.underlying4 _),(trodAll_cons_mk (Below.trod laidOut (by kernel_rfl) (of_decide_eq_true (by kernel_rfl)) Z d u) (trodAll_cons_mk (Below.trod laidOut (by kernel_rfl) (of_decide_eq_true (by kernel_rfl)) Y d s) (trodAll_cons_mk (Below.trod laidOut (by kernel_rfl) (of_decide_eq_true (by kernel_rfl)) V d o) (trodAll_cons_mk (Below.trod laidOut (by kernel_rfl) (of_decide_eq_true (by kernel_rfl)) U d l) (trodAll_cons_mk (Below.trod laidOut (by kernel_rfl) (of_decide_eq_true (by kernel_rfl)) T d k) (trodAll_cons_mk (Below.trod laidOut (by kernel_rfl) (of_decide_eq_true (by kernel_rfl)) S d i) trodAll_mk0)))))),rfl,d.frame _,fun h=>by cases h⟩
theorem over:Rows.runsFinerRow.holds Tryz.pinned (OpenSpec.ofChange Rows.runsFinerSpec):=
 OpenClaim.holds_of_wide 9 Tryz.f9 rfl rfl rfl rfl rfl rfl rfl ⟨rfl,rfl,rfl,rfl,rfl⟩ rfl rfl rfl rfl rfl (by kernel_rfl) Tryz.func9 (by kernel_rfl)
  (of_decide_eq_true (by kernel_rfl)) (by unfold Func.isWrapper;first|(rw [if_pos (by decide+kernel)];kernel_rfl)|(rw [if_neg (by decide+kernel)];exact ⟨rfl,rfl⟩))
  (fun os started H enc _=>lifted os started H enc)
theorem AS:Rows.RunsFinerCardSaid:=
 Claim7.holds_tied_plain_at .later [] [.data,.data,.data] true (true,"3026f21b19b6f59de445bb43a8501b9305d9414549b9f9b31dff8a38d7671d74") false
  over (fun _ h=>by cases h) (by kernel_rfl) (fun _ h=>by cases h) runsFiner_row_tie rfl ⟨rfl,rfl⟩ (by kernel_rfl) rfl
  (fun f fn c b=>by
   obtain rfl:f=9:=Option.some.inj ((show Tryz.prog.funcNamed "stereopsis/stereopsislaw06.RunsFiner" =some 9 by kernel_rfl).symm.trans c)|>.symm;obtain rfl:fn=Tryz.f9:=(Option.some.inj (Tryz.func9.symm.trans b)).symm
   exact ⟨by kernel_rfl,fun j t a=>by
    rw [Tryz.params9]at a;rcases j with _|_|_|_|_|_|j
    ·obtain rfl:25=t:=by simpa using a
     exact (show Tryz.prog.wantsStandIn 25=false by kernel_rfl)
    ·obtain rfl:3=t:=by simpa using a
     exact (show Tryz.prog.wantsStandIn 3=false by kernel_rfl)
    ·obtain rfl:3=t:=by simpa using a
     exact (show Tryz.prog.wantsStandIn 3=false by kernel_rfl)
    ·obtain rfl:3=t:=by simpa using a
     exact (show Tryz.prog.wantsStandIn 3=false by kernel_rfl)
    ·obtain rfl:3=t:=by simpa using a
     exact (show Tryz.prog.wantsStandIn 3=false by kernel_rfl)
    ·obtain rfl:3=t:=by simpa using a
     exact (show Tryz.prog.wantsStandIn 3=false by kernel_rfl)
    ·simp at a⟩)
  (by kernel_rfl)
end Go.Proofs.YtppcmpmnglaleaaGreatDoor.uz
namespace Go.Proofs.YtppcmpmnglaleaaGreatDoor
theorem runsFiner_card_holds:Rows.RunsFinerCardSaid:=uz.AS
end Go.Proofs.YtppcmpmnglaleaaGreatDoor
