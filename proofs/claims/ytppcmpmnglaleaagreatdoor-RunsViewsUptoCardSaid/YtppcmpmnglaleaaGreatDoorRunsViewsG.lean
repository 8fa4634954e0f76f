/- A text without what this claim does not need: LawRunsViews. -/
import Derived.Test.YtppcmpmnglaleaaGreatDoorRows
import Derived.Test.YtppcmpmnglaleaaGreatDoorG23
import Derived.Test.YtppcmpmnglaleaaGreatDoorCards
import Derived.Test.YtppcmpmnglaleaaGreatDoorTie
import Derived.SevenTiedAt
import Derived.Deep.DeepHandedRow
set_option linter.unusedVariables false
namespace Go.Proofs.YtppcmpmnglaleaaGreatDoor.sQ
open Go Go.ChangeShapes Go.WideShapes Go.ChangeAt Go.RowKit Go.Proofs.YtppcmpmnglaleaaGreatDoor.A
theorem own:ownKnob Tryz.prog.godebug=none:=by kernel_rfl
theorem laidOut:laidOutB Tryz.prog=true:=by kernel_rfl
set_option maxRecDepth 100000 in
theorem Gr (H:Type) (enc:TypeId×Value→H) (W:World) (base:Nat) (args:Array Value) (ds gs:List (DataW H)) (before:List MemPlace)
 (Ls:∀(j:Nat) t v,Tryz.f5.params[j]?=some t→args[j]?=some v→Value.okWide Tryz.prog W .any base t v)
 (hW:DataW.Whole enc Tryz.prog Tryz.f5.params.toList Rows.runsViewsSpec.vars false W args.toList ds gs before) (Qg:Rows.uptoSmall H (ds++gs)=true)
 (LJ:(DataW.weightsEach Tryz.prog (Tryz.f5.params.toList++Rows.runsViewsSpec.plain.varTypes Tryz.prog) (ds++gs)).all (· ≤reachBytes)=true) (hL:laidMetH Tryz.prog Rows.runsViewsRow.laid W):
 Calls Tryz.prog 5 args W fun e W'=>∃v,e= .returned v∧Rows.runsViewsSpec.post enc Tryz.prog Tryz.f5 false true false false W args v W':=by
 have gA:(DataW.weightsEach Tryz.prog (Tryz.f5.params.toList++Rows.runsViewsSpec.plain.varTypes Tryz.prog) (ds++gs)).all (· ≤reachBytes)=true:=LJ
 have BW:∀(j:Nat) t v,Tryz.f5.params[j]?=some t→args[j]?=some v→Value.okWide Tryz.prog W .any base t v:=Ls
 have hW':=hW
 obtain ⟨p,q,hA0,hV,rfl,hfz,uD⟩:=hW
 have hA:DataW.TrodAll enc Tryz.prog W 0 (fun _=>true) true Tryz.f5.params.toList args.toList ds p:=hA0
 rw [Tryz.params5]at hA BW gA
 obtain ⟨v0,vs0,d0,ds0,p0,q0,fW,rfl,rfl,h0,r0⟩:=trodAll_cons hA
 obtain ⟨v1,vs1,d1,ds1,p1,q1,rfl,rfl,rfl,h1,r1⟩:=trodAll_cons r0
 obtain ⟨v2,vs2,d2,ds2,p2,q2,rfl,rfl,rfl,h2,r2⟩:=trodAll_cons r1
 obtain ⟨rfl,rfl,rfl⟩:=trodAll_nil r2
 obtain rfl:args= #[v0,v1,v2]:=by cases args;simp_all
 obtain ⟨rfl,rfl⟩:=trodVars_none hV
 obtain ⟨i0,rfl⟩:=okWide_int Tryz.underlying3 (BW 0 3 v0 rfl rfl)
 obtain ⟨i1,rfl⟩:=okWide_int Tryz.underlying3 (BW 1 3 v1 rfl rfl)
 obtain ⟨c2,rfl,LK⟩:=okWide_struct Tryz.underlying49 (BW 2 49 v2 rfl rfl)
 have k0:=h0
 have k1:=h1
 have k2:=h2
 have lt0:∀x∈p0,x.block<W.heap.size:=by obtain ⟨m,hm⟩:=k0;exact DataW.trod_lt m _ _ _ hm
 have lt1:∀x∈p1,x.block<W.heap.size:=by obtain ⟨m,hm⟩:=k1;exact DataW.trod_lt m _ _ _ hm
 have lt2:∀x∈p2,x.block<W.heap.size:=by obtain ⟨m,hm⟩:=k2;exact DataW.trod_lt m _ _ _ hm
 obtain ⟨n0,e0⟩:=h0
 obtain ⟨n1,e1⟩:=h1
 obtain ⟨n2,e2⟩:=h2
 have aT:=List.all_eq_true.1 gA
 have w0:wX Tryz.prog 3 d0:=fun n hn=>by simpa using aT n (DataW.weights_mem_each (j:=0) rfl rfl n hn)
 have w1:wX Tryz.prog 3 d1:=fun n hn=>by simpa using aT n (DataW.weights_mem_each (j:=1) rfl rfl n hn)
 have w2:wX Tryz.prog 49 d2:=fun n hn=>by simpa using aT n (DataW.weights_mem_each (j:=2) rfl rfl n hn)
 obtain ⟨j0,ej0,g0'⟩:=fT (enc:=enc) (P:=Tryz.prog) Tryz.underlying3 ⟨_,e0⟩
 have g0:e8 i0:=by have e:([Value.int .i64 i0]:List Value)=[.int .i64 j0]:=ej0;cases e;exact wf_i64 g0'
 obtain ⟨j1,ej1,g1'⟩:=fT (enc:=enc) (P:=Tryz.prog) Tryz.underlying3 ⟨_,e1⟩
 have g1:e8 i1:=by have e:([Value.int .i64 i1]:List Value)=[.int .i64 j1]:=ej1;cases e;exact wf_i64 g1'
 obtain ⟨l2,P2,m2,g2,o2⟩:=P.OV n2 _ d2 ⟨_,e2⟩ w2
 have hv:VL (qo W) [.int .i64 i0,.int .i64 i1,.agg l2.toArray] (#[.int .i64 i0,.int .i64 i1,.agg c2]:Array Value).toList:=(.cons (.same rfl) (.cons (.same rfl) (.cons (ID m2) .nil)))
 clear hA0 Ls LJ gA
 have hk:Rows.uptoBulkAll [d0,d1,d2]≤1048576:=by have:=of_decide_eq_true Qg;simpa using this
 have O3:Rows.uptoBulk d2≤1048576:=Nat.le_trans (P.sN (by simp)) hk
 refine (uW (J6 hL) mixed Zt Zu hv ((P.wP (r:=P2) ⟨o2.1.en,o2.1.cost,o2.1.outs,o2.1.trace,by have:=o2.2.1;have:=O3;omega,by have:=o2.2.2;have:=O3;omega⟩ (P.F0 W) (H0 W) id _ (P.st0 W id) (.cons (.v _) (.cons (.v _) (.cons (.agg (P.fN.oR g2)) .nil)))).mono (by rintro x H2 ⟨r,h2,F2,p2,⟨rfl,rfl,_⟩,hr,_⟩;cases hr;rfl))).mono fun e W' ⟨he,Xk⟩=>?_
 subst he
 exact ⟨_,rfl,_,_,_,[],_,[],hW',trodAll_mk1 (shut_bool Tryz.underlying4 _),(trodAll_cons_mk (Below.trod laidOut (by kernel_rfl) (of_decide_eq_true (by kernel_rfl)) k0 Xk lt0) (trodAll_cons_mk (Below.trod laidOut (by kernel_rfl) (of_decide_eq_true (by kernel_rfl)) k1 Xk lt1) (trodAll_cons_mk (Below.trod laidOut (by kernel_rfl) (of_decide_eq_true (by kernel_rfl)) k2 Xk lt2) trodAll_mk0))),rfl,Xk.frame _,fun h=>by cases h⟩
theorem reads (os:Os) {H:Type} (enc:TypeId×Value→H):DataW.whole enc Tryz.prog ((ox os).forCall (fun _ _=>0) ⟨#[],#[.int .i64 0,.int .i64 0,.agg #[.int .i64 0,.slice none 0 0,.slice none 0 0,.slice none 0 0,.int .i64 0,.int .i64 0,.int .i64 0]],[]⟩).memory Tryz.f5.params.toList Rows.runsViewsSpec.vars false (#[.int .i64 0,.int .i64 0,.agg #[.int .i64 0,.slice none 0 0,.slice none 0 0,.slice none 0 0,.int .i64 0,.int .i64 0,.int .i64 0]]:Array Value).toList 8=some ([.lit (.int .i64 0),.lit (.int .i64 0),.agg [.lit (.int .i64 0),.nil,.nil,.nil,.lit (.int .i64 0),.lit (.int .i64 0),.lit (.int .i64 0)]],[],[]):=by kernel_rfl
set_option maxRecDepth 100000 in
theorem lifted (os:Os) (started:os.Started) (H:Type) (enc:TypeId×Value→H) (F:Stop.Interp):
 ReturnsInHanded {} Tryz.checked os 5 .any ((Rows.OpenSpec.upto Rows.runsViewsSpec).preRow enc Tryz.prog Tryz.f5 Rows.runsViewsUptoRow.domain false Rows.runsViewsUptoRow.laid) (((Rows.OpenSpec.upto Rows.runsViewsSpec).at F).post enc Tryz.prog Tryz.f5 false true false false):=by
 refine returnsInHanded_of_row (C:=Tryz.checked) (s:=Rows.OpenSpec.upto Rows.runsViewsSpec) own started (by kernel_rfl) Tryz.func5
  (witness_row_at (enc:=enc) (C:=Tryz.checked) false (ox os) #[.int .i64 0,.int .i64 0,.agg #[.int .i64 0,.slice none 0 0,.slice none 0 0,.slice none 0 0,.int .i64 0,.int .i64 0,.int .i64 0]] rfl (by kernel_rfl) (by kernel_rfl) (by kernel_rfl)
   (OpenSpec.preRow_of_cond 8 (reads os enc) (by kernel_rfl) (fun k hk=>by cases hk;kernel_rfl) (by kernel_rfl) (Gq os _))) ?_
 intro W base args ds gs before BW hW _ Uk gA hL _ _
 exact Gr H enc W base args ds gs before BW hW (Uk _ rfl) gA hL
theorem over:Rows.runsViewsUptoRow.holds Tryz.pinned (Rows.OpenSpec.upto Rows.runsViewsSpec):=
 OpenClaim.holds_of_cond 5 Tryz.f5 rfl rfl rfl rfl rfl rfl rfl ⟨rfl,rfl,rfl,rfl,rfl⟩ rfl rfl rfl rfl rfl (by kernel_rfl) Tryz.func5 (by kernel_rfl)
  (of_decide_eq_true (by kernel_rfl)) (by unfold Func.isWrapper;first|(rw [if_pos (by decide+kernel)];kernel_rfl)|(rw [if_neg (by decide+kernel)];exact ⟨rfl,rfl⟩))
  (fun os started H enc _ F=>by rw [OpenClaim.pre_eq_preRow];exact lifted os started H enc F)
theorem yK:Rows.RunsViewsUptoCardSaid:=
 Claim7.holds_tied_plain_at .later [] [.data,.data,.data] true (true,"3026f21b19b6f59de445bb43a8501b9305d9414549b9f9b31dff8a38d7671d74") false
  over (fun _ h=>by cases h) (by kernel_rfl) (fun _ h=>by cases h) runsViewsUpto_row_tie rfl ⟨rfl,rfl⟩ (by kernel_rfl) rfl
  (fun f fn hf G6=>by
   obtain rfl:f=5:=Option.some.inj ((show Tryz.prog.funcNamed "stereopsis/stereopsislaw06.RunsViews" =some 5 by kernel_rfl).symm.trans hf)|>.symm
   obtain rfl:fn=Tryz.f5:=(Option.some.inj (Tryz.func5.symm.trans G6)).symm
   exact ⟨by kernel_rfl,fun j t ht=>by
    rw [Tryz.params5]at ht
    rcases j with _|_|_|j
    ·obtain rfl:3=t:=by simpa using ht
     exact (show Tryz.prog.wantsStandIn 3=false by kernel_rfl)
    ·obtain rfl:3=t:=by simpa using ht
     exact (show Tryz.prog.wantsStandIn 3=false by kernel_rfl)
    ·obtain rfl:49=t:=by simpa using ht
     exact (show Tryz.prog.wantsStandIn 49=false by kernel_rfl)
    ·simp at ht⟩)
  (by kernel_rfl)
end Go.Proofs.YtppcmpmnglaleaaGreatDoor.sQ
namespace Go.Proofs.YtppcmpmnglaleaaGreatDoor
theorem runsViews_upto_card_holds:Rows.RunsViewsUptoCardSaid:=sQ.yK
end Go.Proofs.YtppcmpmnglaleaaGreatDoor
