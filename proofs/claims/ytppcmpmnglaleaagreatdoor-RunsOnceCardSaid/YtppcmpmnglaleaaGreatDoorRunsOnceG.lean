/- A text without what this claim does not need: LawRunsOnce. -/
import Derived.Test.YtppcmpmnglaleaaGreatDoorRows
import Derived.Test.YtppcmpmnglaleaaGreatDoorG21
import Derived.Test.YtppcmpmnglaleaaGreatDoorCards
import Derived.Test.YtppcmpmnglaleaaGreatDoorTie
import Derived.SevenTiedAt
set_option linter.unusedVariables false
namespace Go.Proofs.YtppcmpmnglaleaaGreatDoor.aaE
open Go Go.ChangeShapes Go.WideShapes Go.ChangeAt Go.RowKit Go.Proofs.YtppcmpmnglaleaaGreatDoor.A
theorem own:ownKnob Tryz.prog.godebug=none:=by kernel_rfl
theorem laidOut:laidOutB Tryz.prog=true:=by kernel_rfl
set_option maxRecDepth 100000 in
theorem lifted (os:Os) (started:os.Started) (H:Type) (enc:TypeId×Value→H):
 ReturnsInHanded {} Tryz.checked os 6 .any (fun w args=>(Rows.runsOnceSpec.pre enc Tryz.prog Tryz.f6 Rows.runsOnceRow.domain false w args∧laidMetH Tryz.prog Rows.runsOnceRow.laid w)∧sizedMet enc Tryz.prog Tryz.f6 (OpenSpec.ofChange Rows.runsOnceSpec) false w args) (Rows.runsOnceSpec.post enc Tryz.prog Tryz.f6 false true false false):=by
 refine returnsInHanded_of_change_and (C:=Tryz.checked) (X:=fun w _=>laidMetH Tryz.prog Rows.runsOnceRow.laid w) (fun _ _ _ hh h=>h.of_heap hh) own started (by kernel_rfl) Tryz.func6
  (ChangeSpec.witness_at (enc:=enc) (C:=Tryz.checked) (os:=os) (X:=fun w _=>laidMetH Tryz.prog Rows.runsOnceRow.laid w) false (ri os) #[.agg #[.int .i64 0,.slice none 0 0,.slice none 0 0],.int .i64 0,.agg #[.slice none 0 0,.slice none 0 0]] 8 rfl (by kernel_rfl) (by kernel_rfl) (by kernel_rfl) (by kernel_rfl) (by kernel_rfl) (zG os _)) ?_
 intro W base args ds gs before zH hW ajc DZ hL _
 have iu:(DataW.weightsEach Tryz.prog (Tryz.f6.params.toList++Rows.runsOnceSpec.plain.varTypes Tryz.prog) (ds++gs)).all (· ≤reachBytes)=true:=DZ
 have zI:∀(j:Nat) t v,Tryz.f6.params[j]?=some t→args[j]?=some v→Value.okWide Tryz.prog W .any base t v:=zH
 have hW':=hW
 obtain ⟨p,q,Z7,hV,rfl,hfz,nz⟩:=hW
 have hA:DataW.TrodAll enc Tryz.prog W 0 (fun _=>true) true Tryz.f6.params.toList args.toList ds p:=Z7
 rw [Tryz.params6]at hA zI iu
 obtain ⟨v0,vs0,d0,ds0,p0,q0,fS,rfl,rfl,h0,r0⟩:=trodAll_cons hA
 obtain ⟨v1,vs1,d1,ds1,p1,q1,rfl,rfl,rfl,h1,r1⟩:=trodAll_cons r0
 obtain ⟨v2,vs2,d2,ds2,p2,q2,rfl,rfl,rfl,h2,r2⟩:=trodAll_cons r1
 obtain ⟨rfl,rfl,rfl⟩:=trodAll_nil r2
 obtain rfl:args= #[v0,v1,v2]:=by cases args;simp_all
 obtain ⟨rfl,rfl⟩:=trodVars_none hV
 obtain ⟨c0,rfl,rT⟩:=okWide_struct Tryz.underlying25 (zI 0 25 v0 rfl rfl)
 obtain ⟨i1,rfl⟩:=okWide_int Tryz.underlying3 (zI 1 3 v1 rfl rfl)
 obtain ⟨c2,rfl,hc2⟩:=okWide_struct Tryz.underlying56 (zI 2 56 v2 rfl rfl)
 have k0:=h0
 have k1:=h1
 have k2:=h2
 have lt0:∀x∈p0,x.block<W.heap.size:=by obtain ⟨m,hm⟩:=k0;exact DataW.trod_lt m _ _ _ hm
 have Yz:∀x∈p1,x.block<W.heap.size:=by obtain ⟨m,hm⟩:=k1;exact DataW.trod_lt m _ _ _ hm
 have lt2:∀x∈p2,x.block<W.heap.size:=by obtain ⟨m,hm⟩:=k2;exact DataW.trod_lt m _ _ _ hm
 obtain ⟨n0,e0⟩:=h0
 obtain ⟨n1,e1⟩:=h1
 obtain ⟨n2,e2⟩:=h2
 have aG:=List.all_eq_true.1 iu
 have w0:wK Tryz.prog 25 d0:=fun n hn=>by simpa using aG n (DataW.weights_mem_each (j:=0) rfl rfl n hn)
 have w1:wK Tryz.prog 3 d1:=fun n hn=>by simpa using aG n (DataW.weights_mem_each (j:=1) rfl rfl n hn)
 have w2:wK Tryz.prog 56 d2:=fun n hn=>by simpa using aG n (DataW.weights_mem_each (j:=2) rfl rfl n hn)
 obtain ⟨l0,P0,m0,g0,o0⟩:=P.Ds n0 _ d0 ⟨_,e0⟩ w0
 obtain ⟨j1,ej1,Yl⟩:=jV (enc:=enc) (P:=Tryz.prog) Tryz.underlying3 ⟨_,e1⟩
 have g1:kK i1:=by have e:([Value.int .i64 i1]:List Value)=[.int .i64 j1]:=ej1;cases e;exact wf_i64 Yl
 obtain ⟨l2,P2,m2,g2,o2⟩:=P.aaW n2 _ d2 ⟨_,e2⟩ w2
 have hv:VL (tf W) [.agg l0.toArray,.int .i64 i1,.agg l2.toArray] (#[.agg c0,.int .i64 i1,.agg c2]:Array Value).toList:=(.cons (CB m0) (.cons (.same rfl) (.cons (CB m2) .nil)))
 clear Z7 zH DZ iu
 refine (rB mixed W2 W3 hv ((P.aaM o0 o2 (P.F0 W) (H0 W) id _ (P.st0 W id) (.cons (.agg (P.iQ.qT g0)) (.cons (.v _) (.cons (.agg (P.iQ.qT g2)) .nil)))).mono (by rintro x H2 ⟨r,h2,F2,p2,⟨rfl,rfl,_⟩,hr,_⟩;cases hr;rfl))).mono fun e W' ⟨he,Qp⟩=>?_
 subst he
 exact ⟨_,rfl,_,_,_,[],_,[],hW',trodAll_mk1 (shut_bool Tryz.underlying4 _),(trodAll_cons_mk (Below.trod laidOut (by kernel_rfl) (of_decide_eq_true (by kernel_rfl)) k0 Qp lt0) (trodAll_cons_mk (Below.trod laidOut (by kernel_rfl) (of_decide_eq_true (by kernel_rfl)) k1 Qp Yz) (trodAll_cons_mk (Below.trod laidOut (by kernel_rfl) (of_decide_eq_true (by kernel_rfl)) k2 Qp lt2) trodAll_mk0))),rfl,Qp.frame _,fun h=>by cases h⟩
theorem over:Rows.runsOnceRow.holds Tryz.pinned (OpenSpec.ofChange Rows.runsOnceSpec):=
 OpenClaim.holds_of_wide 6 Tryz.f6 rfl rfl rfl rfl rfl rfl rfl ⟨rfl,rfl,rfl,rfl,rfl⟩ rfl rfl rfl rfl rfl (by kernel_rfl) Tryz.func6 (by kernel_rfl)
  (of_decide_eq_true (by kernel_rfl)) (by unfold Func.isWrapper;first|(rw [if_pos (by decide+kernel)];kernel_rfl)|(rw [if_neg (by decide+kernel)];exact ⟨rfl,rfl⟩))
  (fun os started H enc _=>lifted os started H enc)
theorem po:Rows.RunsOnceCardSaid:=
 Claim7.holds_tied_plain_at .later [] [.data,.data,.data] true (true,"3026f21b19b6f59de445bb43a8501b9305d9414549b9f9b31dff8a38d7671d74") false
  over (fun _ h=>by cases h) (by kernel_rfl) (fun _ h=>by cases h) runsOnce_row_tie rfl ⟨rfl,rfl⟩ (by kernel_rfl) rfl
  (fun f fn hf GD=>by
   obtain rfl:f=6:=Option.some.inj ((show Tryz.prog.funcNamed "stereopsis/stereopsislaw06.RunsOnce" =some 6 by kernel_rfl).symm.trans hf)|>.symm
   obtain rfl:fn=Tryz.f6:=(Option.some.inj (Tryz.func6.symm.trans GD)).symm
   exact ⟨by kernel_rfl,fun j t ht=>by
    rw [Tryz.params6]at ht
    rcases j with _|_|_|j
    ·obtain rfl:25=t:=by simpa using ht
     exact (show Tryz.prog.wantsStandIn 25=false by kernel_rfl)
    ·obtain rfl:3=t:=by simpa using ht
     exact (show Tryz.prog.wantsStandIn 3=false by kernel_rfl)
    ·obtain rfl:56=t:=by simpa using ht
     exact (show Tryz.prog.wantsStandIn 56=false by kernel_rfl)
    ·simp at ht⟩)
  (by kernel_rfl)
end Go.Proofs.YtppcmpmnglaleaaGreatDoor.aaE
namespace Go.Proofs.YtppcmpmnglaleaaGreatDoor
theorem runsOnce_card_holds:Rows.RunsOnceCardSaid:=aaE.po
end Go.Proofs.YtppcmpmnglaleaaGreatDoor
