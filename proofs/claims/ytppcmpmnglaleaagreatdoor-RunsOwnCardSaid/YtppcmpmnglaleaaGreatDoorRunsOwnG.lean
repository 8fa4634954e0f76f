/- A text without what this claim does not need: LawRunsOwn. -/
import Derived.Test.YtppcmpmnglaleaaGreatDoorRows
import Derived.Test.YtppcmpmnglaleaaGreatDoorG23
import Derived.Test.YtppcmpmnglaleaaGreatDoorCards
import Derived.Test.YtppcmpmnglaleaaGreatDoorTie
import Derived.SevenTiedAt
set_option linter.unusedVariables false
namespace Go.Proofs.YtppcmpmnglaleaaGreatDoor.C3
open Go Go.ChangeShapes Go.WideShapes Go.ChangeAt Go.RowKit Go.Proofs.YtppcmpmnglaleaaGreatDoor.A
theorem own:ownKnob Tryz.prog.godebug=none:=by kernel_rfl
theorem laidOut:laidOutB Tryz.prog=true:=by kernel_rfl
set_option maxRecDepth 100000 in
theorem lifted (os:Os) (started:os.Started) (H:Type) (enc:TypeId×Value→H):
 ReturnsInHanded {} Tryz.checked os 7 .any (fun w args=>(Rows.runsOwnSpec.pre enc Tryz.prog Tryz.f7 Rows.runsOwnRow.domain false w args∧laidMetH Tryz.prog Rows.runsOwnRow.laid w)∧sizedMet enc Tryz.prog Tryz.f7 (OpenSpec.ofChange Rows.runsOwnSpec) false w args) (Rows.runsOwnSpec.post enc Tryz.prog Tryz.f7 false true false false):=by
 refine returnsInHanded_of_change_and (C:=Tryz.checked) (X:=fun w _=>laidMetH Tryz.prog Rows.runsOwnRow.laid w) (fun _ _ _ hh h=>h.of_heap hh) own started (by kernel_rfl) Tryz.func7
  (ChangeSpec.witness_at (enc:=enc) (C:=Tryz.checked) (os:=os) (X:=fun w _=>laidMetH Tryz.prog Rows.runsOwnRow.laid w) false (uV os) #[.agg #[.int .i64 0,.slice none 0 0,.slice none 0 0],.int .i64 0,.slice none 0 0] 8 rfl (by kernel_rfl) (by kernel_rfl) (by kernel_rfl) (by kernel_rfl) (by kernel_rfl) (Jk os _)) ?_
 intro W base args R gs before K M apf L hL _;have l:(DataW.weightsEach Tryz.prog (Tryz.f7.params.toList++Rows.runsOwnSpec.plain.varTypes Tryz.prog) (R++gs)).all (· ≤reachBytes)=true:=L;have f:∀(j:Nat) t v,Tryz.f7.params[j]?=some t→args[j]?=some v→Value.okWide Tryz.prog W .any base t v:=K;have s:=M;obtain ⟨p,q,d,hV,rfl,ub,wV⟩:=M;have N:DataW.TrodAll enc Tryz.prog W 0 (fun _=>true) true Tryz.f7.params.toList args.toList R p:=d;rw [Tryz.params7]at N f l;obtain ⟨D,vs0,d0,ds0,p0,q0,iC,rfl,rfl,Q,r0⟩:=trodAll_cons N;obtain ⟨v1,vs1,d1,ds1,p1,q1,rfl,rfl,rfl,O,r1⟩:=trodAll_cons r0;obtain ⟨B,Z,d2,ds2,E,q2,rfl,rfl,rfl,h2,r2⟩:=trodAll_cons r1;obtain ⟨rfl,rfl,rfl⟩:=trodAll_nil r2;obtain rfl:args= #[D,v1,B]:=by cases args;simp_all
 obtain ⟨rfl,rfl⟩:=trodVars_none hV;obtain ⟨c0,rfl,rm⟩:=okWide_struct Tryz.underlying25 (f 0 25 D rfl rfl);obtain ⟨i1,rfl⟩:=okWide_int Tryz.underlying3 (f 1 3 v1 rfl rfl);obtain ⟨T,F,S,rfl⟩:=okWide_slice Tryz.underlying26 (f 2 26 B rfl rfl);have J:=Q;have I:=O;have G:=h2;have k:∀x∈p0,x.block<W.heap.size:=by obtain ⟨m,c⟩:=J;exact DataW.trod_lt m _ _ _ c
 have i:∀x∈p1,x.block<W.heap.size:=by obtain ⟨m,c⟩:=I;exact DataW.trod_lt m _ _ _ c
 have g:∀x∈E,x.block<W.heap.size:=by obtain ⟨m,c⟩:=G;exact DataW.trod_lt m _ _ _ c
 obtain ⟨n0,e0⟩:=Q;obtain ⟨n1,e1⟩:=O;obtain ⟨n2,e2⟩:=h2;have o:=List.all_eq_true.1 l;have Y:xV Tryz.prog 25 d0:=fun n b=>by simpa using o n (DataW.weights_mem_each (j:=0) rfl rfl n b)
 have w1:xV Tryz.prog 3 d1:=fun n b=>by simpa using o n (DataW.weights_mem_each (j:=1) rfl rfl n b)
 have U:xV Tryz.prog 26 d2:=fun n b=>by simpa using o n (DataW.weights_mem_each (j:=2) rfl rfl n b)
 obtain ⟨l0,P0,m0,g0,o0⟩:=P.Mx n0 _ d0 ⟨_,e0⟩ Y;obtain ⟨j1,z,y⟩:=jT (enc:=enc) (P:=Tryz.prog) Tryz.underlying3 ⟨_,e1⟩;have g1:jR i1:=by have e:([Value.int .i64 i1]:List Value)=[.int .i64 j1]:=z;cases e;exact wf_i64 y
 obtain ⟨A,y2,m2,g2,gl2,u⟩:=P.Mw (enc:=enc) (n:=n2) ⟨_,e2⟩ U;have A9:V (q9 W) A (.slice T F S):=by cases (oF (UH W) m2).2 with|cons h _=>exact h
 have hv:VL (q9 W) [.agg l0.toArray,.int .i64 i1,A] (#[.agg c0,.int .i64 i1,.slice T F S]:Array Value).toList:=(.cons (Lp m0) (.cons (.same rfl) (.cons A9 .nil)))
 clear d K L l;refine (xu (No hL) mixed adM adN hv ((P.Em o0 (by omega) u (P.F0 W) (H0 W) id _ (P.st0 W id) (.cons (.agg (P.gY.qS g0)) (.cons (.v _) (.cons (.fs g2) .nil)))).mono (by rintro x H2 ⟨r,h2,F2,E,⟨rfl,rfl,_⟩,hr,_⟩;cases hr;rfl))).mono fun e W' ⟨he,a⟩=>?_
 subst he;exact ⟨_,rfl,_,_,_,[],_,[],s,trodAll_mk1 (shut_bool Tryz.underlying4 _),(trodAll_cons_mk (Below.trod laidOut (by kernel_rfl) (of_decide_eq_true (by kernel_rfl)) J a k) (trodAll_cons_mk (Below.trod laidOut (by kernel_rfl) (of_decide_eq_true (by kernel_rfl)) I a i) (trodAll_cons_mk (Below.trod laidOut (by kernel_rfl) (of_decide_eq_true (by kernel_rfl)) G a g) trodAll_mk0))),rfl,a.frame _,fun h=>by cases h⟩
theorem over:Rows.runsOwnRow.holds Tryz.pinned (OpenSpec.ofChange Rows.runsOwnSpec):=
 OpenClaim.holds_of_wide 7 Tryz.f7 rfl rfl rfl rfl rfl rfl rfl ⟨rfl,rfl,rfl,rfl,rfl⟩ rfl rfl rfl rfl rfl (by kernel_rfl) Tryz.func7 (by kernel_rfl)
  (of_decide_eq_true (by kernel_rfl)) (by unfold Func.isWrapper;first|(rw [if_pos (by decide+kernel)];kernel_rfl)|(rw [if_neg (by decide+kernel)];exact ⟨rfl,rfl⟩))
  (fun os started H enc _=>lifted os started H enc)
theorem AY:Rows.RunsOwnCardSaid:=
 Claim7.holds_tied_plain_at .later [] [.data,.data,.data] true (true,"3026f21b19b6f59de445bb43a8501b9305d9414549b9f9b31dff8a38d7671d74") false
  over (fun _ h=>by cases h) (by kernel_rfl) (fun _ h=>by cases h) runsOwn_row_tie rfl ⟨rfl,rfl⟩ (by kernel_rfl) rfl
  (fun f fn c b=>by
   obtain rfl:f=7:=Option.some.inj ((show Tryz.prog.funcNamed "stereopsis/stereopsislaw06.RunsOwn" =some 7 by kernel_rfl).symm.trans c)|>.symm;obtain rfl:fn=Tryz.f7:=(Option.some.inj (Tryz.func7.symm.trans b)).symm
   exact ⟨by kernel_rfl,fun j t a=>by
    rw [Tryz.params7]at a;rcases j with _|_|_|j
    ·obtain rfl:25=t:=by simpa using a
     exact (show Tryz.prog.wantsStandIn 25=false by kernel_rfl)
    ·obtain rfl:3=t:=by simpa using a
     exact (show Tryz.prog.wantsStandIn 3=false by kernel_rfl)
    ·obtain rfl:26=t:=by simpa using a
     exact (show Tryz.prog.wantsStandIn 26=false by kernel_rfl)
    ·simp at a⟩)
  (by kernel_rfl)
end Go.Proofs.YtppcmpmnglaleaaGreatDoor.C3
namespace Go.Proofs.YtppcmpmnglaleaaGreatDoor
theorem runsOwn_card_holds:Rows.RunsOwnCardSaid:=C3.AY
end Go.Proofs.YtppcmpmnglaleaaGreatDoor
