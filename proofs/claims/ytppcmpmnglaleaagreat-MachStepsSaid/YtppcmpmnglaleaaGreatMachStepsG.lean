/- A text without what this claim does not need: LawMachSteps. -/
import Derived.Test.YtppcmpmnglaleaaGreatRows
import Derived.Test.YtppcmpmnglaleaaGreatG19
set_option linter.unusedVariables false
namespace Go.Proofs.YtppcmpmnglaleaaGreat.uB
open Go Go.ChangeShapes Go.WideShapes Go.ChangeAt Go.RowKit Go.Proofs.YtppcmpmnglaleaaGreat.A
theorem own:ownKnob Tryz.prog.godebug=none:=by kernel_rfl
theorem laidOut:laidOutB Tryz.prog=true:=by kernel_rfl
set_option maxRecDepth 100000 in
theorem lifted (os:Os) (started:os.Started) (H:Type) (enc:TypeId×Value→H):
 ReturnsInHanded {} Tryz.checked os 4 .any (Rows.machStepsSpec.pre6 enc Tryz.prog Tryz.f4 Rows.machStepsRow.domain false) (Rows.machStepsSpec.post enc Tryz.prog Tryz.f4 false true false false):=by
 refine returnsInHanded_of_change_sized (C:=Tryz.checked) own started (by kernel_rfl) Tryz.func4
  (ChangeSpec.witness6 (enc:=enc) (C:=Tryz.checked) false ⟨#[],#[.agg #[.int .i64 0,.slice none 0 0,.slice none 0 0],.int .i64 0,.agg #[.slice none 0 0,.slice none 0 0],.slice none 0 0],[]⟩ 8 (by kernel_rfl) (by kernel_rfl) (by kernel_rfl) (by kernel_rfl)) ?_
 intro W base args U gs before M O an8 N _;have r:(DataW.weightsEach Tryz.prog (Tryz.f4.params.toList++Rows.machStepsSpec.plain.varTypes Tryz.prog) (U++gs)).all (· ≤reachBytes)=true:=N;have c:∀(j:Nat) t v,Tryz.f4.params[j]?=some t→args[j]?=some v→Value.okWide Tryz.prog W .any base t v:=M;have s:=O;obtain ⟨p,q,d,hV,rfl,hfz,mr⟩:=O;have Q:DataW.TrodAll enc Tryz.prog W 0 (fun _=>true) true Tryz.f4.params.toList args.toList U p:=d;rw [Tryz.params4]at Q c r;obtain ⟨E,vs0,d0,ds0,p0,q0,fV,rfl,rfl,T,r0⟩:=trodAll_cons Q;obtain ⟨v1,Wu,d1,ds1,p1,q1,rfl,rfl,rfl,S,r1⟩:=trodAll_cons r0;obtain ⟨D,vs2,d2,ds2,p2,q2,rfl,rfl,rfl,h2,r2⟩:=trodAll_cons r1;obtain ⟨B,vs3,d3,ds3,p3,q3,rfl,rfl,rfl,R,r3⟩:=trodAll_cons r2;obtain ⟨rfl,rfl,rfl⟩:=trodAll_nil r3;obtain rfl:args= #[E,v1,D,B]:=by cases args;simp_all
 obtain ⟨rfl,rfl⟩:=trodVars_none hV;obtain ⟨c0,rfl,qT⟩:=okWide_struct Tryz.underlying25 (c 0 25 E rfl rfl);obtain ⟨i1,rfl⟩:=okWide_int Tryz.underlying3 (c 1 3 v1 rfl rfl);obtain ⟨c2,rfl,Z2⟩:=okWide_struct Tryz.underlying28 (c 2 28 D rfl rfl);obtain ⟨Y,G,X,rfl⟩:=okWide_slice Tryz.underlying49 (c 3 49 B rfl rfl);have L:=T;have K:=S;have J:=h2;have I:=R;have o:∀x∈p0,x.block<W.heap.size:=by obtain ⟨m,b⟩:=L;exact DataW.trod_lt m _ _ _ b
 have l:∀x∈p1,x.block<W.heap.size:=by obtain ⟨m,b⟩:=K;exact DataW.trod_lt m _ _ _ b
 have k:∀x∈p2,x.block<W.heap.size:=by obtain ⟨m,b⟩:=J;exact DataW.trod_lt m _ _ _ b
 have i:∀x∈p3,x.block<W.heap.size:=by obtain ⟨m,b⟩:=I;exact DataW.trod_lt m _ _ _ b
 obtain ⟨n0,e0⟩:=T;obtain ⟨n1,e1⟩:=S;obtain ⟨n2,e2⟩:=h2;obtain ⟨n3,e3⟩:=R;have g:=List.all_eq_true.1 r;have w0:tV Tryz.prog 25 d0:=fun n a=>by simpa using g n (DataW.weights_mem_each (j:=0) rfl rfl n a)
 have w1:tV Tryz.prog 3 d1:=fun n a=>by simpa using g n (DataW.weights_mem_each (j:=1) rfl rfl n a)
 have w2:tV Tryz.prog 28 d2:=fun n a=>by simpa using g n (DataW.weights_mem_each (j:=2) rfl rfl n a)
 have Z:tV Tryz.prog 49 d3:=fun n a=>by simpa using g n (DataW.weights_mem_each (j:=3) rfl rfl n a)
 obtain ⟨l0,P0,m0,g0,o0⟩:=P.Lh n0 _ d0 ⟨_,e0⟩ w0;obtain ⟨j1,z,y⟩:=jy (enc:=enc) (P:=Tryz.prog) Tryz.underlying3 ⟨_,e1⟩;have g1:oh i1:=by have e:([Value.int .i64 i1]:List Value)=[.int .i64 j1]:=z;cases e;exact wf_i64 y
 obtain ⟨l2,P2,m2,g2,o2⟩:=P.HG n2 _ d2 ⟨_,e2⟩ w2;obtain ⟨A,z3,m3,g3,u,w⟩:=QG (enc:=enc) (n:=n3) ⟨_,e3⟩ Z;have xC:V (qJ W) A (.slice Y G X):=by cases (oy (S9 W) m3).2 with|cons h _=>exact h
 have hv:VL (qJ W) [.agg l0.toArray,.int .i64 i1,.agg l2.toArray,A] (#[.agg c0,.int .i64 i1,.agg c2,.slice Y G X]:Array Value).toList:=(.cons (Bc m0) (.cons (.same rfl) (.cons (Bc m2) (.cons xC .nil))))
 clear d M N r;refine (wS trivial mixed TA abr hv (v9 (F:=P.F0 W) (Nat.le_refl _) (fun x hx=>hx) g1 o0 g0 o2 g2 g3 u w)).mono fun e W' ⟨he,f⟩=>?_
 subst he;exact ⟨_,rfl,_,_,_,[],_,[],s,trodAll_mk1 (shut_bool Tryz.underlying4 _),(trodAll_cons_mk (Below.trod laidOut (by kernel_rfl) (of_decide_eq_true (by kernel_rfl)) L f o) (trodAll_cons_mk (Below.trod laidOut (by kernel_rfl) (of_decide_eq_true (by kernel_rfl)) K f l) (trodAll_cons_mk (Below.trod laidOut (by kernel_rfl) (of_decide_eq_true (by kernel_rfl)) J f k) (trodAll_cons_mk (Below.trod laidOut (by kernel_rfl) (of_decide_eq_true (by kernel_rfl)) I f i) trodAll_mk0)))),rfl,f.frame _,fun h=>by cases h⟩
theorem dG:Rows.machStepsRow.holds Tryz.pinned (OpenSpec.ofChange Rows.machStepsSpec):=
 OpenClaim.holds_of_wide 4 Tryz.f4 rfl rfl rfl rfl rfl rfl rfl ⟨rfl,rfl,rfl,rfl,rfl⟩ rfl rfl rfl rfl rfl (by kernel_rfl) Tryz.func4 (by kernel_rfl)
  (of_decide_eq_true (by kernel_rfl)) (by unfold Func.isWrapper;first|(rw [if_pos (by decide+kernel)];kernel_rfl)|(rw [if_neg (by decide+kernel)];exact ⟨rfl,rfl⟩))
  (fun os started H enc _=>lifted os started H enc)
theorem proved:Rows.MachStepsSaid:=dG
#printaxioms proved
end Go.Proofs.YtppcmpmnglaleaaGreat.uB
namespace Go.Proofs.YtppcmpmnglaleaaGreat
theorem machSteps_holds:Rows.MachStepsSaid:=uB.proved
end Go.Proofs.YtppcmpmnglaleaaGreat
