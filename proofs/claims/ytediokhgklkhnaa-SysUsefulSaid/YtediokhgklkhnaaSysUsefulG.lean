/- A text without what this claim does not need: LawSysUseful. -/
import Derived.Test.YtediokhgklkhnaaRows
import Derived.Test.YtediokhgklkhnaaG15
set_option linter.unusedVariables false
namespace Go.Proofs.Ytediokhgklkhnaa.kI
open Go Go.ChangeShapes Go.WideShapes Go.ChangeAt Go.RowKit Go.Proofs.Ytediokhgklkhnaa.A
theorem own:ownKnob Try.prog.godebug=none:=by kernel_rfl
theorem laidOut:laidOutB Try.prog=true:=by kernel_rfl
set_option maxRecDepth 100000 in
theorem lifted (os:Os) (started:os.Started) (H:Type) (enc:TypeId×Value→H):
 ReturnsInHanded {} Try.checked os 8 .any (Rows.sysUsefulSpec.pre6 enc Try.prog Try.f8 Rows.sysUsefulRow.domain false) (Rows.sysUsefulSpec.post enc Try.prog Try.f8 false true false false):=by
 refine returnsInHanded_of_change_sized (C:=Try.checked) own started (by kernel_rfl) Try.func8
  (ChangeSpec.witness6 (enc:=enc) (C:=Try.checked) false ⟨#[],#[.agg #[.int .i64 0,.int .i64 0,.slice none 0 0,.slice none 0 0,.slice none 0 0,.slice none 0 0]],[]⟩ 8 (by kernel_rfl) (by kernel_rfl) (by kernel_rfl) (by kernel_rfl)) ?_
 intro W base args r gs before d i V g _;have a:(DataW.weightsEach Try.prog (Try.f8.params.toList++Rows.sysUsefulSpec.plain.varTypes Try.prog) (r++gs)).all (· ≤reachBytes)=true:=g;have f:∀(j:Nat) t v,Try.f8.params[j]?=some t→args[j]?=some v→Value.okWide Try.prog W .any base t v:=d;have L:=i;obtain ⟨p,q,k,M,rfl,U,T⟩:=i;have l:DataW.TrodAll enc Try.prog W 0 (fun _=>true) true Try.f8.params.toList args.toList r p:=k;rw [Try.params8]at l f a;obtain ⟨b,R,d0,Z,y,S,Y,rfl,rfl,o,w⟩:=trodAll_cons l;obtain ⟨rfl,rfl,rfl⟩:=trodAll_nil w;obtain rfl:args= #[b]:=by cases args;simp_all
 obtain ⟨rfl,rfl⟩:=trodVars_none M;obtain ⟨Q,rfl,X⟩:=okWide_struct Try.underlying25 (f 0 25 b rfl rfl);have c:=o;have D:∀x∈y,x.block<W.heap.size:=by obtain ⟨m,I⟩:=c;exact DataW.trod_lt m _ _ _ I
 obtain ⟨A,O⟩:=o;have K:=List.all_eq_true.1 a;have u:sg Try.prog 25 d0:=fun n G=>by simpa using K n (DataW.weights_mem_each (j:=0) rfl rfl n G)
 obtain ⟨E,P0,B,N,z⟩:=P.zt A _ d0 ⟨_,O⟩ u
 have F:VL (jD W) [.agg E.toArray] (#[.agg Q]:Array Value).toList:=(.cons (u7 B) .nil)
 clear k d g a;refine (mn trivial mixed BP GB F (P.Fz.NJ (P.mY z) (.cons (P.dV.arg N) .nil))).mono fun e W' ⟨J,s⟩=>?_
 subst J;exact ⟨_,rfl,_,_,_,[],_,[],L,trodAll_mk1 (shut_bool Try.underlying4 _),(trodAll_cons_mk (Below.trod laidOut (by kernel_rfl) (of_decide_eq_true (by kernel_rfl)) c s D) trodAll_mk0),rfl,s.frame _,fun h=>by cases h⟩
theorem IE:Rows.sysUsefulRow.holds Try.pinned (OpenSpec.ofChange Rows.sysUsefulSpec):=
 OpenClaim.holds_of_wide 8 Try.f8 rfl rfl rfl rfl rfl rfl rfl ⟨rfl,rfl,rfl,rfl,rfl⟩ rfl rfl rfl rfl rfl (by kernel_rfl) Try.func8 (by kernel_rfl)
  (of_decide_eq_true (by kernel_rfl)) (by unfold Func.isWrapper;first|(rw [if_pos (by decide+kernel)];kernel_rfl)|(rw [if_neg (by decide+kernel)];exact ⟨rfl,rfl⟩))
  (fun os started H enc _=>lifted os started H enc)
theorem proved:Rows.SysUsefulSaid:=IE
#printaxioms proved
end Go.Proofs.Ytediokhgklkhnaa.kI
namespace Go.Proofs.Ytediokhgklkhnaa
theorem sysUseful_holds:Rows.SysUsefulSaid:=kI.proved
end Go.Proofs.Ytediokhgklkhnaa
