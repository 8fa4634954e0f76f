/- Texts that stand one behind the other: S18, S19, S20, S21, AbsQ, S22, S23. -/
import Derived.Test.YtoijnpfpjpefgaaGreatG10
/- A text without what this claim does not need: S18. -/
set_option linter.unusedVariables false
set_option linter.unusedSimpArgs false
set_option maxRecDepth 10000
namespace Go.Proofs.YtoijnpfpjpefgaaGreat.A
open Go
def caseP (w k:Int) (op n cp:Int):Bool :=
 if op = 0 then !decide (n < 0) && (!decide (2 ^ w.toNat ≤ n) && decide (cp = 0)) else if op = 1 then !decide (cp < 0) && !decide (k ≤ cp) else decide (n = 0) && decide (cp = 0)
theorem node_eq {w k:Int} (hw:1 ≤ w ∧ w ≤ 8) (V:List Vr) (op n cp:Int) (na:Nat):nodeOk w V k op n cp na = (decide (arityP V op n = na) && caseP w k op n cp):=by
 have w1:isWidth w = true:=by simp [isWidth,hw]
 unfold nodeOk caseP arityP
 by_cases h0:op = 0
 ·subst h0
  simp only [isWord,w1,Bool.true_and]
  have:argsOf 0 = 0:=rfl
  rw [Bool.eq_iff_iff]
  simp [this]
  omega
 by_cases h1:op = 1
 ·subst h1
  have z0:¬ ((1:Int) = 0):=by omega
  have z1:¬ ((2 ≤ (1:Int) ∧ (1:Int) ≤ 11) ∨ (1:Int) = 13 ∨ (1:Int) = 14):=by omega
  have z2:¬ ((1:Int) = 12):=by omega
  have z3:¬ ((1:Int) = 15):=by omega
  simp only [if_true,if_neg z0,if_neg z1,if_neg z2,if_neg z3,true_and]
  rw [Bool.eq_iff_iff]
  generalize (if 1 < cellsAt V n then (1:Int) else 0) = z
  by_cases h2:0 ≤ n ∧ n < V.length
  ·rw [if_pos h2]
   simp only [Bool.and_eq_true,Bool.not_eq_true',Bool.or_eq_false_iff,decide_eq_false_iff_not,decide_eq_true_eq]
   omega
  ·rw [if_neg h2]
   simp only [Bool.and_eq_true,Bool.not_eq_true',Bool.or_eq_false_iff,decide_eq_false_iff_not,decide_eq_true_eq]
   omega
 ·simp only [if_neg h0,if_neg h1,false_and,if_false]
  have e:argsOf op = if (2 ≤ op ∧ op ≤ 11) ∨ op = 13 ∨ op = 14 then 2 else if op = 12 then 1 else if op = 15 then 3 else -1:=by
   unfold argsOf isTwo
   rw [if_neg h0]
   by_cases a:op = 12
   ·subst a; simp
   by_cases b:op = 15
   ·subst b; simp
   rw [if_neg a,if_neg b,if_neg a,if_neg b]
   by_cases c:(2 ≤ op ∧ op ≤ 11) ∨ op = 13 ∨ op = 14
   ·rw [if_pos c,if_pos (by simpa using c)]
   ·rw [if_neg c,if_neg (by simpa using c)]
  rw [e,if_neg (show ¬ (op = 1 ∧ 0 ≤ n ∧ n < V.length) from fun h=>h1 h.1)]
  generalize (if (2 ≤ op ∧ op ≤ 11) ∨ op = 13 ∨ op = 14 then (2:Int) else if op = 12 then 1 else if op = 15 then 3 else -1) = z
  rw [Bool.eq_iff_iff]
  simp
  constructor
  ·rintro ⟨⟨a,b⟩,c⟩; exact ⟨b.symm,c,a⟩
  ·rintro ⟨a,b,c⟩; exact ⟨⟨c,a.symm⟩,b⟩
def fineOk (w:Int) (V:List Vr) (k:Int) (e:Exp) (deep left:Int):Bool:=decide (nodesE e ≤ left) && (decide (deep + depthE e ≤ 17) && formE w V k e)
theorem shl_w {w:Int} (hw:1 ≤ w ∧ w ≤ 8):abin .shl (.int .i64 1) (.int .u64 (IntKind.u64.wrap w)) = some (.int .i64 (2 ^ w.toNat)):=by
 obtain ⟨h1,h2⟩:=hw
 obtain ⟨n,rfl⟩:∃ n:Nat,w = n:=⟨w.toNat,by omega⟩
 have:n = 1 ∨ n = 2 ∨ n = 3 ∨ n = 4 ∨ n = 5 ∨ n = 6 ∨ n = 7 ∨ n = 8:=by omega
 rcases this with rfl | rfl | rfl | rfl | rfl | rfl | rfl | rfl <;> rfl
theorem depthL_mem:∀ {l:List Exp} {k:Int} {y:Exp},y ∈ l → depthE y ≤ depthL l k
 | x :: l,k,y,h=>by
  rw [depthL]
  rcases List.mem_cons.1 h with rfl | h
  ·have:∀ (l:List Exp) (k:Int),k ≤ depthL l k:=by
    intro l
    induction l with
    | nil=>intro k; rw [depthL]; omega
    | cons z l ih=>intro k; rw [depthL]; have:=ih (max k (depthE z)); omega
   have:=this l (max k (depthE y))
   omega
  ·exact depthL_mem h
theorem depthL_le {l:List Exp} {k m:Int} (hk:k ≤ m) (h:∀ y ∈ l,depthE y ≤ m):depthL l k ≤ m:=by
 induction l generalizing k with
 | nil=>rw [depthL]; exact hk
 | cons x l ih =>
  rw [depthL]
  have:=h x (by simp)
  exact ih (by omega) fun y hy=>h y (by simp [hy])
set_option maxHeartbeats 2000000 in
theorem fine_ca {w k:Int} (hw8:1 ≤ w ∧ w ≤ 8) {vv:Value} {V:List Vr}:∀ (N:Nat) (e:Exp) (c:List Value) (G H:AH) (deep left:Int) (b:Nat),SizeOf.sizeOf e < N → H.n0 ≤ H.nx → Ext G H → G.nx ≤ b → Vars G vv V → ExC G c e →
  H.get b = some (.cells 1 [.int .i64 left]) → H.n0 ≤ b → 0 ≤ left ∧ left ≤ 1000 → 1 ≤ deep ∧ deep ≤ 17 →
  Ca E O 139 [.agg #[.int .i64 w,vv,.int .i64 k],.agg c.toArray,.int .i64 deep,.pointer (some ⟨b,0,none⟩)] H (fun x H'=>x = .bool (fineOk w V k e deep left) ∧ Mod (fun x=>x = b) H H' ∧ ∃ left',H'.get b = some (.cells 1 [.int .i64 left']) ∧ (fineOk w V k e deep left = true → left' = left - nodesE e)):=by
 intro N
 induction N with
 | zero=>intro e c G H deep left b h; omega
 | succ N ih =>
  intro e c G H deep left b hN hw GX gb hv he hb hb0 hleft hdeep
  have hbH:=AH.get_lt hb
  cases he with | @mk op n cp va rows args i1 i2 i3 hlen hr hl =>
  refine Ca.bodyT 4 (F:=a139) rfl rfl rfl rfl ?_
  obtain ⟨rest,hrest⟩:∃ r,tailOf 4 a139.body = r:=⟨_,rfl⟩
  rw [hrest]
  have X1:=Ext.alloc H (.cells 3 [.int .i64 w,vv,.int .i64 k])
  have d0:(H.alloc (.cells 3 [.int .i64 w,vv,.int .i64 k])).ld ⟨H.nx,0,none⟩ = some (.int .i64 w):=ld_new hw rfl
  have d1:(H.alloc (.cells 3 [.int .i64 w,vv,.int .i64 k])).ld ⟨H.nx,1,none⟩ = some vv:=ld_new hw rfl
  have d2:(H.alloc (.cells 3 [.int .i64 w,vv,.int .i64 k])).ld ⟨H.nx,2,none⟩ = some (.int .i64 k):=ld_new hw rfl
  have d:(H.alloc (.cells 3 [.int .i64 w,vv,.int .i64 k])).ldn ⟨H.nx,0,none⟩ 3 = some [.int .i64 w,vv,.int .i64 k]:=ld_box hw 3 rfl
  generalize hH1:H.alloc (.cells 3 [.int .i64 w,vv,.int .i64 k]) = H1 at X1 d0 d1 d2 d
  have hwH1:=X1.wf hw
  have X2:=Ext.alloc H1 (.cells 4 [.int .i64 op,.int .i64 n,.int .i64 cp,va])
  have e0:(H1.alloc (.cells 4 [.int .i64 op,.int .i64 n,.int .i64 cp,va])).ld ⟨H1.nx,0,none⟩ = some (.int .i64 op):=ld_new hwH1 rfl
  have e1:(H1.alloc (.cells 4 [.int .i64 op,.int .i64 n,.int .i64 cp,va])).ld ⟨H1.nx,1,none⟩ = some (.int .i64 n):=ld_new hwH1 rfl
  have e2:(H1.alloc (.cells 4 [.int .i64 op,.int .i64 n,.int .i64 cp,va])).ld ⟨H1.nx,2,none⟩ = some (.int .i64 cp):=ld_new hwH1 rfl
  have e3:(H1.alloc (.cells 4 [.int .i64 op,.int .i64 n,.int .i64 cp,va])).ld ⟨H1.nx,3,none⟩ = some va:=ld_new hwH1 rfl
  have e:(H1.alloc (.cells 4 [.int .i64 op,.int .i64 n,.int .i64 cp,va])).ldn ⟨H1.nx,0,none⟩ 4 = some [.int .i64 op,.int .i64 n,.int .i64 cp,va]:=ld_box hwH1 4 rfl
  generalize hH2:H1.alloc (.cells 4 [.int .i64 op,.int .i64 n,.int .i64 cp,va]) = H2 at X2 e0 e1 e2 e3 e
  have hwH2:=X2.wf hwH1
  replace d0:=X2.ld d0
  replace d1:=X2.ld d1
  replace d2:=X2.ld d2
  replace d:=X2.ldn d
  have X:=X1.trans X2
  have gb2:=X.get hb
  have hb2:H2.n0 ≤ b:=by rw [X.n0]; exact hb0
  have lb2:=ld_get gb2 hb2 (k:=0) rfl
  obtain ⟨H3,s3,M3,nx3,n03,gb3⟩:=st_get gb2 hb2 (k:=0) (vs:=[.int .i64 (left - 1)]) (by simp)
  have hb3:H3.n0 ≤ b:=by rw [n03]; exact hb2
  have gb3:H3.get b = some (.cells 1 [.int .i64 (left - 1)]):=gb3
  have lb3:=ld_get gb3 hb3 (k:=0) rfl
  have ne1:¬ H.nx = b:=by omega
  have ne2:¬ H1.nx = b:=by have:=X1.nx; omega
  have D0:=M3.ld (a:=⟨H.nx,0,none⟩) ne1 d0
  have D2:=M3.ld (a:=⟨H.nx,2,none⟩) ne1 d2
  have D:=M3.ldn (a:=⟨H.nx,0,none⟩) ne1 d
  have E0:=M3.ld (a:=⟨H1.nx,0,none⟩) ne2 e0
  have E1:=M3.ld (a:=⟨H1.nx,1,none⟩) ne2 e1
  have E2:=M3.ld (a:=⟨H1.nx,2,none⟩) ne2 e2
  have E3:=M3.ld (a:=⟨H1.nx,3,none⟩) ne2 e3
  have EE:=M3.ldn (a:=⟨H1.nx,0,none⟩) ne2 e
  have hw3:=M3.wf hwH2
  have MX:Mod (fun x=>x = b) H H3:=(Mod.of_ext X).trans M3
  have GX3:Ext G H3:=GX.mod MX (by rintro x rfl; exact gb)
  have hnE:=nodesL_pos args
  have hdE:=depthE_bound (.mk op n cp args)
  obtain ⟨a3,c3,hva⟩:=hr.len
  rw [hl.length] at hva
  have FE:=E3
  rw [hva] at FE
  have wl:IntKind.i64.wrap (left - 1) = left - 1:=wrap_in ⟨by omega,by omega⟩
  have no:∀ q:¬ (1 ≤ left ∧ deep ≤ 16 ∧ nodeOk w V k op n cp args.length = true),fineOk w V k (.mk op n cp args) deep left = false:=by
   intro q
   rw [Bool.eq_false_iff]
   intro h
   have:nodesE (.mk op n cp args) ≤ left ∧ deep + depthE (.mk op n cp args) ≤ 17 ∧ formE w V k (.mk op n cp args) = true:=by simpa [fineOk] using h
   rw [nodesE,formE,Bool.and_eq_true] at this
   exact q ⟨by omega,by omega,this.2.2.1⟩
  rw [node_eq hw8] at no
  obtain ⟨F,hF⟩:∃ F,fineOk w V k (.mk op n cp args) deep left = F:=⟨_,rfl⟩
  rw [hF] at no ⊢
  obtain ⟨NE,hNE⟩:∃ F,nodesE (.mk op n cp args) = F:=⟨_,rfl⟩
  rw [hNE]
  by_cases q1:left - 1 < 0
  ·have hno:=no (by omega)
   simp (maxSteps:=4000000) -implicitDefEqProofs +contextual [-X.ev,a139,hH1,hH2,lb2,wl,s3,lb3,q1,okD_of,chain_2,chain_1,hno,MX]
   exact ⟨_,gb3⟩
  by_cases q2:16 < deep
  ·have hno:=no (by omega)
   simp (maxSteps:=4000000) -implicitDefEqProofs +contextual [-X.ev,a139,hH1,hH2,lb2,wl,s3,lb3,q1,q2,okD_of,chain_2,chain_1,hno,MX]
   exact ⟨_,gb3⟩
  simp (maxSteps:=4000000) -implicitDefEqProofs +contextual [-X.ev,a139,hH1,hH2,lb2,wl,s3,lb3,q1,q2,D,EE,FE]
  apply Vx_callM
  ·(simp -implicitDefEqProofs [-X.ev]; rfl)
  refine (arity_ca hw3 (hv.ext GX3)).mono ?_
  rintro x H4 ⟨rfl,X4⟩
  have MX4:=MX.trans (Mod.of_ext X4)
  have FE4:=X4.ld FE
  have FEn:=ld_ldn.1 FE
  have FE4n:=ld_ldn.1 FE4
  have gb4:=X4.get gb3
  have ex4:∃ left',H4.get b = some (.cells 1 [.int .i64 left']):=⟨_,gb4⟩
  have hw4:=X4.wf hw3
  have GX4:=GX3.trans X4
  have hb4:H4.n0 ≤ b:=by rw [X4.n0]; exact hb3
  by_cases q3:arityP V op n = args.length
  case neg =>
   have hno:=no (by simp [q3])
   simp (maxSteps:=4000000) -implicitDefEqProofs +contextual [-X.ev,q3,okD_of,chain_2,chain_1,hno,MX4,FEn,FE4n,X4.n0,X4.nx,ex4]
  have hno:caseP w k op n cp = false → F = false:=fun h=>no (by simp [h])
  have e0:=X4.ld E0
  have e1:=X4.ld E1
  have e2:=X4.ld E2
  have d0:=X4.ld D0
  have d2:=X4.ld D2
  have d:=X4.ldn D
  have e:=X4.ldn EE
  suffices hloop:∀ fr:Fr,caseP w k op n cp = true → fr.get 2 = .int .i64 deep → fr.get 3 = .pointer (some ⟨b,0,none⟩) → fr.get 4 = .pointer (some ⟨H.nx,0,none⟩) → fr.get 5 = .pointer (some ⟨H1.nx,0,none⟩) →
    Vk E O rest [] fr H4 (retQ [.tmp 8] fun x H'=>x = .bool F ∧ Mod (fun x=>x = b) H H' ∧ ∃ left',H'.get b = some (.cells 1 [.int .i64 left']) ∧ (F = true → left' = left - NE)) by
   have sh:=shl_w hw8
   simp (maxSteps:=4000000) -implicitDefEqProofs +contextual [-X.ev,q3,okD_of,chain_2,chain_1,hno,MX4,FEn,FE4n,X4.n0,X4.nx,ex4,caseP,hloop,e0,e1,e2,d0,d2,sh]
  intro fr q4 f2 f3 f4 f5
  subst hrest
  have e3:=FE4
  simp (maxSteps:=4000000) -implicitDefEqProofs +contextual [-X.ev,tailOf,a139,f2,f3,f4,f5,e3]
  refine Vk_loop (fun j fr H'=>Mod (fun x=>x = b) H4 H' ∧ ∃ i:Nat,i + j = args.length ∧ fr.get 2 = .int .i64 deep ∧ fr.get 3 = .pointer (some ⟨b,0,none⟩) ∧ fr.get 4 = .pointer (some ⟨H.nx,0,none⟩) ∧ fr.get 75 = va ∧ fr.get 76 = .int .i64 args.length ∧ fr.get 77 = .int .i64 i ∧
   H'.get b = some (.cells 1 [.int .i64 (left - 1 - nodesL (args.take i))]) ∧ 1 + nodesL (args.take i) ≤ left ∧ ∀ y ∈ args.take i,depthE y + deep ≤ 16 ∧ formE w V k y = true) ?_ args.length ⟨Mod.refl _ _,0,by simp,by simp [f2],by simp [f3],by simp [f4],by simp [hva],by simp,by simp,by simpa [nodesL] using gb4,by simp [nodesL]; omega,by simp⟩
  rintro j fr H5 ⟨M5,i,hi,f2,f3,f4,f75,f76,f77,gb5,hle,hall⟩
  have hw5:=M5.wf hw4
  have M05:=MX4.trans M5
  have GX5:Ext G H5:=GX.mod M05 (by rintro x rfl; exact gb)
  have dd:=M5.ldn (a:=⟨H.nx,0,none⟩) ne1 d
  by_cases h:i < args.length
  ·obtain ⟨y,hy⟩:∃ y,args[i]? = some y:=⟨_,List.getElem?_eq_getElem h⟩
   obtain ⟨b2,o2,c2,va2,r,hv',hldn,rfl,hey⟩:=ExL.row hr hl hy
   replace hldn:=GX5.ldn hldn
   have f75v:=f75
   rw [hv'] at f75
   obtain ⟨H6,sH6,X6,nxH6,n0H6,q,lH6⟩:=st_new (H:=H5) hw5 (z:=4) (c:=[.int .i64 0,.int .i64 0,.int .i64 0,.slice none 0 0]) (vs:=[.int .i64 y.op,.int .i64 y.n,.int .i64 y.cp,va2]) rfl
   have q0:H6.ld ⟨H5.nx,0,none⟩ = some (.int .i64 y.op):=lH6 0 _ rfl
   have q1:H6.ld ⟨H5.nx,1,none⟩ = some (.int .i64 y.n):=lH6 1 _ rfl
   have q2:H6.ld ⟨H5.nx,2,none⟩ = some (.int .i64 y.cp):=lH6 2 _ rfl
   have q3:H6.ld ⟨H5.nx,3,none⟩ = some va2:=lH6 3 _ rfl
   clear lH6
   replace q:H6.ldn ⟨H5.nx,0,none⟩ 4 = some [.int .i64 y.op,.int .i64 y.n,.int .i64 y.cp,va2]:=q
   have hwH6:=X6.wf hw5
   replace dd:=X6.ldn dd
   have wd:IntKind.i64.wrap (deep + 1) = deep + 1:=wrap_in ⟨by omega,by omega⟩
   have t1:=nodesL_take hy
   have t2:=nodesL_take_le args (i + 1)
   have t3:=nodesL_take_le args i
   have t4:=nodesE_pos y
   have t5:=depthL_mem (k:=0) (List.mem_of_getElem? hy)
   have hs:=size_arg (op:=op) (n:=n) (cp:=cp) hy
   have hb6:H6.n0 ≤ b:=by rw [X6.n0,M5.n0]; exact hb4
   simp (maxSteps:=4000000) -implicitDefEqProofs +contextual [-X.ev,f2,f3,f4,f75,f76,f77,h,hldn,sH6,q,dd,wd]
   apply Vx_callM
   ·(simp -implicitDefEqProofs [-X.ev]; rfl)
   refine (ih y _ G H6 (deep + 1) (left - 1 - nodesL (args.take i)) b (by omega) hwH6 (GX5.trans X6) gb hv hey (X6.get gb5) hb6 (by omega) (by omega)).mono ?_
   rintro x H7 ⟨rfl,M7,left',gb7,hl7⟩
   have M67:=(Mod.of_ext X6).trans M7
   cases q5:fineOk w V k y (deep + 1) (left - 1 - nodesL (args.take i)) with
   | true =>
    have hl7:=hl7 q5
    have q5':nodesE y ≤ left - 1 - nodesL (args.take i) ∧ deep + 1 + depthE y ≤ 17 ∧ formE w V k y = true:=by simpa [fineOk] using q5
    simp (maxSteps:=4000000) -implicitDefEqProofs +contextual [-X.ev,f2,f3,f4,f75,f76,f77,h]
    rw [wrap_in (n:=(i:Int) + 1) ⟨by omega,by omega⟩]
    refine ⟨j - 1,by omega,M5.trans M67,i + 1,by omega,hv'.symm,by simp,?_,by omega,fun z hz=>?_⟩
    ·rw [gb7,hl7,t1]
     rw [show left - 1 - nodesL (args.take i) - nodesE y = left - 1 - (nodesL (args.take i) + nodesE y) by omega]
    ·rw [List.take_add_one,hy] at hz
     rcases List.mem_append.1 hz with hz | hz
     ·exact hall z hz
     ·simp at hz; subst hz; exact ⟨by omega,q5'.2.2⟩
   | false =>
    have hF0:F = false:=by
     rw [Bool.eq_false_iff]
     intro hT
     rw [hT] at hF
     have hF:nodesE (.mk op n cp args) ≤ left ∧ deep + depthE (.mk op n cp args) ≤ 17 ∧ formE w V k (.mk op n cp args) = true:=by simpa [fineOk] using hF
     rw [nodesE,depthE,formE,Bool.and_eq_true] at hF
     have:=formL_all.1 hF.2.2.2 y (List.mem_of_getElem? hy)
     have:fineOk w V k y (deep + 1) (left - 1 - nodesL (args.take i)) = true:=by simp [fineOk,this]; omega
     rw [q5] at this
     cases this
    simp (maxSteps:=4000000) -implicitDefEqProofs +contextual [-X.ev,f2,f3,f4,f75,f76,f77,h,hF0,M05.trans M67]
    exact ⟨_,gb7⟩
  ·have hF1:F = true:=by
    rw [← hF]
    rw [List.take_of_length_le (by omega)] at hle hall
    have hfl:=formL_all.2 fun y hy=>(hall y hy).2
    have hdl:depthL args 0 ≤ 16 - deep:=depthL_le (by omega) fun y hy=>by have:=(hall y hy).1; omega
    have hno:nodeOk w V k op n cp args.length = true:=by rw [node_eq hw8,q4]; simp [q3]
    have:nodesE (.mk op n cp args) ≤ left ∧ deep + depthE (.mk op n cp args) ≤ 17 ∧ formE w V k (.mk op n cp args) = true:=by
     rw [nodesE,depthE,formE,hfl,hno]
     exact ⟨by omega,by omega,rfl⟩
    simp [fineOk,this]
   rw [List.take_of_length_le (by omega)] at gb5
   rw [nodesE] at hNE
   simp (maxSteps:=4000000) -implicitDefEqProofs +contextual [-X.ev,f2,f3,f4,f75,f76,f77,h,hF1,M05]
   rw [gb5,show left - 1 - nodesL args = left - NE by omega]
end Go.Proofs.YtoijnpfpjpefgaaGreat.A
/- A text without what this claim does not need: S19. -/
set_option linter.unusedVariables false
set_option linter.unusedSimpArgs false
set_option maxRecDepth 10000
namespace Go.Proofs.YtoijnpfpjpefgaaGreat.A
open Go
theorem isHeading_w {w:Int} {V:List Vr} (h:isHeading w V = true):1 ≤ w ∧ w ≤ 8 ∧ 1 ≤ V.length ∧ V.length ≤ 18:=by
 simp [isHeading,isWidth] at h; omega
theorem isHeading_cells {w:Int} {V:List Vr} (h:isHeading w V = true) {i:Nat} {v:Vr} (hi:V[i]? = some v):1 ≤ v.cells ∧ v.cells ≤ 8:=by
 rw [isHeading_eq] at h
 simp only [Bool.and_eq_true,List.all_eq_true] at h
 have:=h.2.2.2.1 i (by simpa using (List.getElem?_eq_some_iff.1 hi).1)
 rw [okAt_some hi] at this
 exact okVar_cells this
theorem fineOk_isExp (w:Int) (V:List Vr) (k:Int) (e:Exp):fineOk w V k e 1 400 = isExp w V k e:=by
 unfold fineOk isExp
 rw [show decide (1 + depthE e ≤ 17) = decide (depthE e ≤ 16) by rw [Bool.eq_iff_iff]; simp; omega]
def chkE (w:Int) (V:List Vr) (k:Int) (e:Exp):Int:=if isHeading w V = true then (if k < 1 then 1 else if 3 < k then 1 else if isExp w V k e = true then 0 else 20) else 1
theorem check_ca {w k:Int} {vv:Value} {V:List Vr} {e:Exp} {c:List Value} {H:AH} (hw:H.n0 ≤ H.nx) (hv:Vars H vv V) (hok:VarsOk V) (he:ExC H c e) :
  Ca E O 134 [.agg #[.int .i64 w,vv,.int .i64 k],.agg c.toArray] H (fun x H'=>x = .int .i64 (chkE w V k e) ∧ Ext H H'):=by
 refine Ca.bodyV (F:=a134) rfl rfl rfl ?_
 have hc:c.length = 4:=by cases he; rfl
 have X1:=Ext.alloc H (.cells 3 [.int .i64 w,vv,.int .i64 k])
 have d0:(H.alloc (.cells 3 [.int .i64 w,vv,.int .i64 k])).ld ⟨H.nx,0,none⟩ = some (.int .i64 w):=ld_new hw rfl
 have d1:(H.alloc (.cells 3 [.int .i64 w,vv,.int .i64 k])).ld ⟨H.nx,1,none⟩ = some vv:=ld_new hw rfl
 have d2:(H.alloc (.cells 3 [.int .i64 w,vv,.int .i64 k])).ld ⟨H.nx,2,none⟩ = some (.int .i64 k):=ld_new hw rfl
 have d:(H.alloc (.cells 3 [.int .i64 w,vv,.int .i64 k])).ldn ⟨H.nx,0,none⟩ 3 = some [.int .i64 w,vv,.int .i64 k]:=ld_box hw 3 rfl
 generalize hH1:H.alloc (.cells 3 [.int .i64 w,vv,.int .i64 k]) = H1 at X1 d0 d1 d2 d
 have hwH1:=X1.wf hw
 have X2:=Ext.alloc H1 (.cells c.length c)
 have q:(H1.alloc (.cells c.length c)).ldn ⟨H1.nx,0,none⟩ 4 = some c:=ld_box hwH1 4 (by assumption)
 generalize hH2:H1.alloc (.cells c.length c) = H2 at X2 q
 have hwH2:=X2.wf hwH1
 replace d0:=X2.ld d0
 replace d1:=X2.ld d1
 replace d2:=X2.ld d2
 replace d:=X2.ldn d
 have X:=X1.trans X2
 simp (maxSteps:=4000000) -implicitDefEqProofs +contextual [-X.ev,a134,hH1,hH2,d0,d1]
 apply Vx_callM
 ·(simp -implicitDefEqProofs [-X.ev]; rfl)
 refine (Head_ca hwH2 (hv.ext X) hok w).mono ?_
 rintro x H3 ⟨rfl,X3⟩
 replace d2:=X3.ld d2
 replace d:=X3.ldn d
 replace q:=X3.ldn q
 have X03:=X.trans X3
 cases h1:isHeading w V with
 | false =>
  simp (maxSteps:=4000000) -implicitDefEqProofs +contextual [-X.ev,h1,chkE,X03]
 | true =>
  by_cases h2:k < 1
  ·simp (maxSteps:=4000000) -implicitDefEqProofs +contextual [-X.ev,h1,h2,d2,chkE,X03]
  by_cases h3:3 < k
  ·simp (maxSteps:=4000000) -implicitDefEqProofs +contextual [-X.ev,h1,h2,h3,d2,chkE,X03]
  have hw8:=isHeading_w h1
  have hw3:=X3.wf hwH2
  obtain ⟨H4,s4,X4,nx4,n04,gb⟩:=var_new hw3 (z:=1) (c:=[.int .i64 0]) (vs:=[.int .i64 400]) rfl
  replace d:=X4.ldn d
  replace q:=X4.ldn q
  simp (maxSteps:=4000000) -implicitDefEqProofs +contextual [-X.ev,h1,h2,h3,d2,s4,d,q]
  have hw4:=X4.wf hw3
  apply Vx_callM
  ·(simp -implicitDefEqProofs [-X.ev]; rfl)
  refine (fine_ca ⟨hw8.1,hw8.2.1⟩ _ e c H3 H4 1 400 H3.nx (Nat.lt_succ_self _) hw4 X4 (Nat.le_refl _) (hv.ext X03) (he.ext X03) gb (by rw [n04]; exact hw3) (by omega) (by omega)).mono ?_
  rintro x H5 ⟨rfl,M5,left',gb5,hl5⟩
  have X5:Ext H H5:=X03.trans (X4.mod M5 (by rintro x rfl; exact Nat.le_refl _))
  rw [fineOk_isExp]
  cases h4:isExp w V k e with
  | true=>
   simp (maxSteps:=4000000) -implicitDefEqProofs +contextual [-X.ev,h1,h2,h3,h4,chkE,X5]
  | false=>
   simp (maxSteps:=4000000) -implicitDefEqProofs +contextual [-X.ev,h1,h2,h3,h4,chkE,X5]
theorem ECheck_ca {w k:Int} {vv:Value} {V:List Vr} {e:Exp} {c:List Value} {H:AH} (hw:H.n0 ≤ H.nx) (hv:Vars H vv V) (hok:VarsOk V) (he:ExC H c e) :
  Ca E O 120 [.int .i64 w,vv,.int .i64 k,.agg c.toArray] H (fun x H'=>x = .int .i64 (chkE w V k e) ∧ Ext H H'):=by
 refine Ca.bodyV (F:=a120) rfl rfl rfl ?_
 have hc:c.length = 4:=by cases he; rfl
 have X1:=Ext.alloc H (.cells c.length c)
 have q:(H.alloc (.cells c.length c)).ldn ⟨H.nx,0,none⟩ 4 = some c:=ld_box hw 4 (by assumption)
 generalize hH1:H.alloc (.cells c.length c) = H1 at X1 q
 have hwH1:=X1.wf hw
 have hb:buildV [.int .i64 0,.slice none 0 0,.int .i64 0] [(0,1,.int .i64 w),(1,1,vv),(2,1,.int .i64 k)] = some (.agg #[.int .i64 w,vv,.int .i64 k]):=by
  obtain ⟨a,c,hvv⟩:=hv.len
  rw [hvv]
  rfl
 simp (maxSteps:=4000000) -implicitDefEqProofs +contextual [-X.ev,a120,hH1,q,hb]
 apply Vx_callM
 ·(simp -implicitDefEqProofs [-X.ev]; rfl)
 refine (check_ca hwH1 (hv.ext X1) hok (he.ext X1)).mono ?_
 rintro x H2 ⟨rfl,X2⟩
 simp (maxSteps:=4000000) -implicitDefEqProofs +contextual [-X.ev,X1.trans X2]
def argsP (V:List Vr) (op n:Int):Int :=
 let z:=if 0 ≤ n ∧ n < V.length then cellsAt V n else 0
 if op = 0 then (if z = 0 then -1 else if 1 < z then 2 else 1) else if op = 4 then (if z = 0 then -1 else if 1 < z then 1 else 0) else
 if op = 3 then (if n < 0 then -1 else if 47 < n then -1 else 1) else
 if op = 1 then (if n = 0 then 1 else -1) else if op = 2 then (if n = 0 then 1 else -1) else if op = 5 then (if n = 0 then 1 else -1) else if op = 6 then (if n = 0 then 1 else -1) else -1
theorem argsP_ca {w op n:Int} {vv vb va vt ve:Value} {V:List Vr} {H:AH} (hw:H.n0 ≤ H.nx) (hv:Vars H vv V) :
  Ca E O 119 [.agg #[.int .i64 w,vv,vb],.agg #[.int .i64 op,.int .i64 n,va,vt,ve]] H (fun x H'=>x = .int .i64 (argsP V op n) ∧ Ext H H'):=by
 refine Ca.bodyV (F:=a119) rfl rfl rfl ?_
 have X1:=Ext.alloc H (.cells 3 [.int .i64 w,vv,vb])
 have d0:(H.alloc (.cells 3 [.int .i64 w,vv,vb])).ld ⟨H.nx,0,none⟩ = some (.int .i64 w):=ld_new hw rfl
 have d1:(H.alloc (.cells 3 [.int .i64 w,vv,vb])).ld ⟨H.nx,1,none⟩ = some vv:=ld_new hw rfl
 have d2:(H.alloc (.cells 3 [.int .i64 w,vv,vb])).ld ⟨H.nx,2,none⟩ = some vb:=ld_new hw rfl
 have d:(H.alloc (.cells 3 [.int .i64 w,vv,vb])).ldn ⟨H.nx,0,none⟩ 3 = some [.int .i64 w,vv,vb]:=ld_box hw 3 rfl
 generalize hH1:H.alloc (.cells 3 [.int .i64 w,vv,vb]) = H1 at X1 d0 d1 d2 d
 have hwH1:=X1.wf hw
 have X2:=Ext.alloc H1 (.cells 5 [.int .i64 op,.int .i64 n,va,vt,ve])
 have e0:(H1.alloc (.cells 5 [.int .i64 op,.int .i64 n,va,vt,ve])).ld ⟨H1.nx,0,none⟩ = some (.int .i64 op):=ld_new hwH1 rfl
 have e1:(H1.alloc (.cells 5 [.int .i64 op,.int .i64 n,va,vt,ve])).ld ⟨H1.nx,1,none⟩ = some (.int .i64 n):=ld_new hwH1 rfl
 have e2:(H1.alloc (.cells 5 [.int .i64 op,.int .i64 n,va,vt,ve])).ld ⟨H1.nx,2,none⟩ = some va:=ld_new hwH1 rfl
 have e3:(H1.alloc (.cells 5 [.int .i64 op,.int .i64 n,va,vt,ve])).ld ⟨H1.nx,3,none⟩ = some vt:=ld_new hwH1 rfl
 have e4:(H1.alloc (.cells 5 [.int .i64 op,.int .i64 n,va,vt,ve])).ld ⟨H1.nx,4,none⟩ = some ve:=ld_new hwH1 rfl
 have e:(H1.alloc (.cells 5 [.int .i64 op,.int .i64 n,va,vt,ve])).ldn ⟨H1.nx,0,none⟩ 5 = some [.int .i64 op,.int .i64 n,va,vt,ve]:=ld_box hwH1 5 rfl
 generalize hH2:H1.alloc (.cells 5 [.int .i64 op,.int .i64 n,va,vt,ve]) = H2 at X2 e0 e1 e2 e3 e4 e
 have hwH2:=X2.wf hwH1
 replace d1:=X2.ld d1
 have X:=X1.trans X2
 have w1:IntKind.i64.wrap 1 = 1:=by rfl
 have w2:IntKind.i64.wrap 2 = 2:=by rfl
 by_cases h1:0 ≤ n ∧ n < V.length
 ·obtain ⟨y,hy⟩:∃ y,V[n.toNat]? = some y:=⟨_,List.getElem?_eq_getElem (by omega)⟩
  obtain ⟨b,o,c',hv',_,_,_,hld⟩:=(hv.ext X).at hy
  have hc:cellsAt V n = y.cells:=by simp [cellsAt,hy]
  have hz:(if 0 ≤ n ∧ n < V.length then cellsAt V n else 0) = y.cells:=by rw [if_pos h1,hc]
  obtain ⟨F,hF⟩:∃ F,argsP V op n = F:=⟨_,rfl⟩
  rw [hF]
  unfold argsP at hF
  rw [hz] at hF
  rw [hv'] at d1
  obtain ⟨h1,h2⟩:=h1
  simp (maxSteps:=4000000) -implicitDefEqProofs +contextual [-X.ev,a119,hH1,hH2,d1,e0,e1,h1,h2,hld,X,w1,w2,← hF]
 ·have hz:(if 0 ≤ n ∧ n < V.length then cellsAt V n else 0) = 0:=if_neg h1
  obtain ⟨F,hF⟩:∃ F,argsP V op n = F:=⟨_,rfl⟩
  rw [hF]
  unfold argsP at hF
  rw [hz] at hF
  obtain ⟨a1,c1,hvv⟩:=hv.len
  rw [hvv] at d1
  by_cases h2:0 ≤ n
  ·have h3:¬ n < V.length:=fun q=>h1 ⟨h2,q⟩
   simp (maxSteps:=4000000) -implicitDefEqProofs +contextual [-X.ev,a119,hH1,hH2,d1,e0,e1,h2,h3,X,w1,w2,← hF]
  ·simp (maxSteps:=4000000) -implicitDefEqProofs +contextual [-X.ev,a119,hH1,hH2,d1,e0,e1,h2,X,w1,w2,← hF]
end Go.Proofs.YtoijnpfpjpefgaaGreat.A
/- A text without what this claim does not need: S20. -/
set_option linter.unusedVariables false
set_option linter.unusedSimpArgs false
set_option maxRecDepth 10000
namespace Go.Proofs.YtoijnpfpjpefgaaGreat.A
open Go
mutual
def countSt:Stm → Int
 | .mk _ _ _ thn els=>1 + countS thn + countS els
def countS:List Stm → Int
 | []=>0
 | s :: ss=>countSt s + countS ss
end
theorem nodesS_take {l:List Stm} {i:Nat} {y:Stm} (h:l[i]? = some y):nodesS (l.take (i + 1)) = nodesS (l.take i) + nodesSt y:=by
 induction l generalizing i with
 | nil=>simp at h
 | cons x l ih =>
  cases i with
  | zero=>simp at h; subst h; simp [nodesS]
  | succ i=>simp only [List.take_succ_cons,nodesS]; rw [ih (by simpa using h)]; omega
theorem countS_take {l:List Stm} {i:Nat} {y:Stm} (h:l[i]? = some y):countS (l.take (i + 1)) = countS (l.take i) + countSt y:=by
 induction l generalizing i with
 | nil=>simp at h
 | cons x l ih =>
  cases i with
  | zero=>simp at h; subst h; simp [countS]
  | succ i=>simp only [List.take_succ_cons,countS]; rw [ih (by simpa using h)]; omega
theorem nodesS_pos (l:List Stm):0 ≤ nodesS l:=(leftSts_eq l).1
theorem nodesSt_pos:∀ s:Stm,1 ≤ nodesSt s
 | .mk op n args thn els=>by
  rw [nodesSt]; have:=nodesL_pos args; have:=nodesS_pos thn; have:=nodesS_pos els; omega
theorem nodesS_take_le (l:List Stm) (i:Nat):0 ≤ nodesS (l.take i) ∧ nodesS (l.take i) ≤ nodesS l:=by
 induction l generalizing i with
 | nil=>simp [nodesS]
 | cons x l ih =>
  have h1:=nodesSt_pos x
  have h2:=nodesS_pos l
  cases i with
  | zero=>simp only [List.take_zero,nodesS]; omega
  | succ i=>simp only [List.take_succ_cons,nodesS]; have:=ih i; omega
theorem countS_bound:∀ l:List Stm,0 ≤ countS l ∧ countS l ≤ nodesS l:=stm_rec fun l ih=>by
 induction l with
 | nil=>simp [countS,nodesS]
 | cons s ss ihl =>
  obtain ⟨op,n,args,thn,els⟩:=s
  have h1:=ih op n args thn els (by simp)
  have h2:=ihl fun op n args thn els h=>ih op n args thn els (by simp [h])
  have:=nodesL_pos args
  rw [countS,countSt,nodesS,nodesSt]
  omega
theorem countS_take_le (l:List Stm) (i:Nat):0 ≤ countS (l.take i) ∧ countS (l.take i) ≤ nodesS (l.take i):=countS_bound _
theorem depthS_mem {op n:Int} {args:List Exp} {thn els:List Stm}:∀ {l:List Stm} {k:Int},Stm.mk op n args thn els ∈ l → 1 + depthS thn 0 ≤ depthS l k ∧ 1 + depthS els 0 ≤ depthS l k
 | x :: l,k,h=>by
  rw [depthS]
  have mono:∀ (l:List Stm) (k:Int),k ≤ depthS l k:=by
   intro l
   induction l with
   | nil=>intro k; rw [depthS]; omega
   | cons z l ih =>
    obtain ⟨op,n,args,thn,els⟩:=z
    intro k; rw [depthS,depthSt]; have:=ih (max (max k (1 + depthS thn 0)) (1 + depthS els 0)); omega
  rcases List.mem_cons.1 h with rfl | h
  ·have:=mono l (depthSt (.mk op n args thn els) k)
   rw [depthSt] at this ⊢
   omega
  ·exact depthS_mem h
theorem depthS_le {l:List Stm} {k m:Int} (hk:k ≤ m) (h:∀ op n args thn els,Stm.mk op n args thn els ∈ l → 1 + depthS thn 0 ≤ m ∧ 1 + depthS els 0 ≤ m):depthS l k ≤ m:=by
 induction l generalizing k with
 | nil=>rw [depthS]; exact hk
 | cons x l ih =>
  obtain ⟨op,n,args,thn,els⟩:=x
  rw [depthS,depthSt]
  have:=h op n args thn els (by simp)
  exact ih (by omega) fun op n args thn els hy=>h op n args thn els (by simp [hy])
def shapeP (op:Int) (nt ne:Nat):Bool:=!(decide (0 < nt) && (!decide (op = 1) && !decide (op = 2))) && !(decide (0 < ne) && !decide (op = 1))
theorem headOk_eq {w:Int} {V:List Vr} (hV:isHeading w V = true) (op n:Int) (na nt ne:Nat):headOk V op n na nt ne = (decide (argsP V op n = na) && shapeP op nt ne):=by
 have hz:∀ more:Int,0 ≤ more → varOk V n na more = decide ((if (if 0 ≤ n ∧ n < V.length then cellsAt V n else 0) = 0 then -1 else if 1 < (if 0 ≤ n ∧ n < V.length then cellsAt V n else 0) then more + 1 else more) = (na:Int)):=by
  intro more hm
  unfold varOk
  by_cases h:0 ≤ n ∧ n < V.length
  ·obtain ⟨y,hy⟩:∃ y,V[n.toNat]? = some y:=⟨_,List.getElem?_eq_getElem (by omega)⟩
   have hc:cellsAt V n = y.cells:=by simp [cellsAt,hy]
   have:=isHeading_cells hV hy
   have z0:¬ y.cells = 0:=by omega
   rw [if_pos h,hc,if_neg z0]
   simp only [h.1,h.2,decide_true,Bool.true_and]
   by_cases h2:1 < y.cells
   ·rw [if_pos h2,if_pos h2]; rw [Bool.eq_iff_iff]; simp; omega
   ·rw [if_neg h2,if_neg h2]; rw [Bool.eq_iff_iff]; simp; omega
  ·rw [if_neg h,if_pos rfl]
   rw [Bool.eq_iff_iff]
   simp
   omega
 unfold headOk argsP shapeP
 by_cases o0:op = 0
 ·subst o0
  rw [hz 1 (by omega)]
  simp only [if_true]
  rw [show (1:Int) + 1 = 2 by rfl]
  generalize decide ((if (if 0 ≤ n ∧ n < V.length then cellsAt V n else 0) = 0 then (-1:Int) else if 1 < (if 0 ≤ n ∧ n < V.length then cellsAt V n else 0) then 2 else 1) = na) = A
  rw [Bool.eq_iff_iff]
  cases A <;> simp
 by_cases o4:op = 4
 ·subst o4
  rw [hz 0 (by omega)]
  simp only [if_true,if_neg (show ¬ (4:Int) = 0 by omega),if_neg (show ¬ (4:Int) = 1 by omega),if_neg (show ¬ (4:Int) = 2 by omega),if_neg (show ¬ (4:Int) = 3 by omega)]
  rw [show (0:Int) + 1 = 1 by rfl]
  generalize decide ((if (if 0 ≤ n ∧ n < V.length then cellsAt V n else 0) = 0 then (-1:Int) else if 1 < (if 0 ≤ n ∧ n < V.length then cellsAt V n else 0) then 1 else 0) = na) = A
  rw [Bool.eq_iff_iff]
  cases A <;> simp
 simp only [if_neg o0,if_neg o4]
 rw [Bool.eq_iff_iff]
 by_cases o3:op = 3
 ·subst o3
  rw [if_neg (by omega),if_neg (by omega),if_pos rfl,if_pos rfl]
  by_cases a:n < 0
  ·rw [if_pos a]; simp; omega
  ·by_cases b:47 < n
   ·rw [if_neg a,if_pos b]; simp; omega
   ·rw [if_neg a,if_neg b]; simp; omega
 by_cases o1:op = 1
 ·subst o1
  by_cases a:n = 0
  ·simp [a] <;> omega
  ·simp [a]
 by_cases o2:op = 2
 ·subst o2
  by_cases a:n = 0
  ·simp [a] <;> omega
  ·simp [a]
 by_cases o5:op = 5
 ·subst o5
  by_cases a:n = 0
  ·simp [a] <;> omega
  ·simp [a]
 by_cases o6:op = 6
 ·subst o6
  by_cases a:n = 0
  ·simp [a] <;> omega
  ·simp [a]
 simp [o3,o1,o2,o5,o6]
theorem argsP_le (V:List Vr) (op n:Int):argsP V op n ≤ 2:=by
 unfold argsP
 dsimp only
 repeat' split
 all_goals omega
end Go.Proofs.YtoijnpfpjpefgaaGreat.A
/- A text without what this claim does not need: S21. -/
set_option linter.unusedVariables false
set_option linter.unusedSimpArgs false
set_option maxRecDepth 10000
namespace Go.Proofs.YtoijnpfpjpefgaaGreat.A
open Go
def fineS (w:Int) (V:List Vr) (l:List Stm) (deep nodes:Int):Bool:=decide (nodes + nodesS l ≤ 400) && (decide (deep + depthS l 0 ≤ 17) && rowsS w V l)
theorem fineS_iff {w:Int} {V:List Vr} {l:List Stm} {deep nodes:Int}:fineS w V l deep nodes = true ↔ nodes + nodesS l ≤ 400 ∧ deep + depthS l 0 ≤ 17 ∧ rowsS w V l = true:=by simp [fineS]
theorem chk_exp {w:Int} {V:List Vr} (h:isHeading w V = true) (e:Exp):chkE w V 1 e = if isExp w V 1 e = true then 0 else 20:=by simp [chkE,h]
theorem fineS_ca {w:Int} {vv vb:Value} {V:List Vr} (hV:isHeading w V = true) (hok:VarsOk V):∀ (N:Nat) (l:List Stm) (vl:Value) (rows:List (List Value)) (G H:AH) (deep stmts nodes:Int) (b:Nat),SizeOf.sizeOf l < N → H.n0 ≤ H.nx → Ext G H → G.nx ≤ b → Vars G vv V → l.length < 2 ^ 60 → Rows G 5 vl rows → StL G rows l →
  H.get b = some (.cells 2 [.int .i64 stmts,.int .i64 nodes]) → H.n0 ≤ b → 0 ≤ stmts ∧ stmts ≤ nodes → nodes ≤ 2000 → 1 ≤ deep ∧ deep ≤ 17 →
  Ca E O 103 [.pointer (some ⟨b,0,none⟩),.agg #[.int .i64 w,vv,vb],vl,.int .i64 deep] H (fun x H'=>x = .bool (fineS w V l deep nodes) ∧ Mod (fun x=>x = b) H H' ∧ ∃ s' n',H'.get b = some (.cells 2 [.int .i64 s',.int .i64 n']) ∧ (fineS w V l deep nodes = true → s' = stmts + countS l ∧ n' = nodes + nodesS l)):=by
 intro N
 induction N with
 | zero=>intro l vl rows G H deep stmts nodes b h; omega
 | succ N ih =>
  intro l vl rows G H deep stmts nodes b hN hw GX gb hv hlen hr hl hb hb0 hst hno hdeep
  have hbH:=AH.get_lt hb
  refine Ca.bodyV (F:=a103) rfl rfl rfl ?_
  obtain ⟨F,hF⟩:∃ F,fineS w V l deep nodes = F:=⟨_,rfl⟩
  rw [hF]
  have fno:¬ (nodes + nodesS l ≤ 400 ∧ deep + depthS l 0 ≤ 17 ∧ rowsS w V l = true) → F = false:=by
   intro q; rw [Bool.eq_false_iff,← hF]; exact fun h=>q (fineS_iff.1 h)
  have X1:=Ext.alloc H (.cells 3 [.int .i64 w,vv,vb])
  have d0:(H.alloc (.cells 3 [.int .i64 w,vv,vb])).ld ⟨H.nx,0,none⟩ = some (.int .i64 w):=ld_new hw rfl
  have d1:(H.alloc (.cells 3 [.int .i64 w,vv,vb])).ld ⟨H.nx,1,none⟩ = some vv:=ld_new hw rfl
  have d2:(H.alloc (.cells 3 [.int .i64 w,vv,vb])).ld ⟨H.nx,2,none⟩ = some vb:=ld_new hw rfl
  have d:(H.alloc (.cells 3 [.int .i64 w,vv,vb])).ldn ⟨H.nx,0,none⟩ 3 = some [.int .i64 w,vv,vb]:=ld_box hw 3 rfl
  generalize hH1:H.alloc (.cells 3 [.int .i64 w,vv,vb]) = H1 at X1 d0 d1 d2 d
  have hwH1:=X1.wf hw
  have gb1:=X1.get hb
  have ex1:∃ s' n':Int,H1.get b = some (.cells 2 [.int .i64 s',.int .i64 n']):=⟨_,_,gb1⟩
  have hb1:H1.n0 ≤ b:=by rw [X1.n0]; exact hb0
  have GX1:=GX.trans X1
  have ne1:¬ H.nx = b:=by omega
  obtain ⟨a0,c0,hvl⟩:=hr.len
  rw [hl.length] at hvl
  have MX1:Mod (fun x=>x = b) H H1:=Mod.of_ext X1
  by_cases z0:0 < l.length ∧ 16 < deep
  case pos =>
   obtain ⟨z1,z2⟩:=z0
   have hF0:F = false:=fno (by
    rintro ⟨_,q,_⟩
    obtain ⟨⟨op,n,args,thn,els⟩,hy⟩:∃ y,l[0]? = some y:=⟨_,List.getElem?_eq_getElem z1⟩
    have:=depthS_mem (k:=0) (List.mem_of_getElem? hy)
    have:=(depthS_bound thn 0 (by omega)).1
    omega)
   simp (maxSteps:=4000000) -implicitDefEqProofs +contextual [-X.ev,a103,hvl,hH1,z1,z2,hF0,ex1,MX1]
  refine Vk_at [.r,.r] (fun fr H'=>H' = H1 ∧ fr.get 0 = .pointer (some ⟨b,0,none⟩) ∧ fr.get 2 = .slice a0 l.length c0 ∧ fr.get 3 = .int .i64 deep ∧ fr.get 5 = .pointer (some ⟨H.nx,0,none⟩)) rfl ?_ ?_
  case refine_2 =>
   intro rest hrest
   simp only [a103,ctxK_r,ctxK_n] at hrest
   by_cases z1:0 < l.length
   ·have z2:¬ 16 < deep:=fun q=>z0 ⟨z1,q⟩
    simp (maxSteps:=4000000) -implicitDefEqProofs +contextual [-X.ev,a103,hvl,hH1,z1,z2,hrest]
   ·simp (maxSteps:=4000000) -implicitDefEqProofs +contextual [-X.ev,a103,hvl,hH1,z1,hrest]
  rintro fr H' ⟨rfl,f0,f2,f3,f5⟩
  have gp:=nodesS_take_le l
  simp (maxSteps:=4000000) -implicitDefEqProofs +contextual [-X.ev,a103,f0,f2,f3,f5]
  refine Vk_loop (fun j fr H2=>Mod (fun x=>x = b) H' H2 ∧ ∃ i:Nat,i + j = l.length ∧ fr.get 0 = .pointer (some ⟨b,0,none⟩) ∧ fr.get 3 = .int .i64 deep ∧ fr.get 5 = .pointer (some ⟨H.nx,0,none⟩) ∧ fr.get 20 = vl ∧ fr.get 21 = .int .i64 l.length ∧ fr.get 22 = .int .i64 i ∧
   H2.get b = some (.cells 2 [.int .i64 (stmts + countS (l.take i)),.int .i64 (nodes + nodesS (l.take i))]) ∧ nodes + nodesS (l.take i) ≤ 2000 ∧ (0 < i → nodes + nodesS (l.take i) ≤ 400) ∧
   ∀ op n args thn els,Stm.mk op n args thn els ∈ l.take i → (deep + 1 + depthS thn 0 ≤ 17 ∧ deep + 1 + depthS els 0 ≤ 17) ∧ rowSt w V (.mk op n args thn els) = true) ?_ l.length ⟨Mod.refl _ _,0,by simp,by simp [f0],by simp [f3],by simp [f5],by simp [hvl],by simp,by simp,by simpa [countS,nodesS] using gb1,by simp [nodesS]; omega,by simp,by simp⟩
  rintro j fr H2 ⟨M2,i,hi,f0,f3,f5,f20,f21,f22,gb2,hle,hle0,hall⟩
  have M02:=MX1.trans M2
  have hw2:=M2.wf hwH1
  have GX2:Ext G H2:=GX.mod M02 (by rintro x rfl; exact gb)
  have hb2:H2.n0 ≤ b:=by rw [M2.n0]; exact hb1
  have D0:=M2.ld (a:=⟨H.nx,0,none⟩) ne1 d0
  have D1:=M2.ld (a:=⟨H.nx,1,none⟩) ne1 d1
  have D:=M2.ldn (a:=⟨H.nx,0,none⟩) ne1 d
  by_cases h:i < l.length
  case neg =>
   have ht:l.take i = l:=List.take_of_length_le (by omega)
   rw [ht] at hle0 hall gb2 hle
   have hF1:F = decide (nodes + nodesS l ≤ 400):=by
    have p1:=depthS_le (l:=l) (k:=0) (m:=17 - deep) (by omega) fun op n args thn els hm=>by have:=(hall op n args thn els hm).1; omega
    have p2:decide (deep + depthS l 0 ≤ 17) = true:=by simp; omega
    have p3:rowsS w V l = true:=rowsS_all.2 fun e he=>by obtain ⟨op,n,args,thn,els⟩:=e; exact (hall op n args thn els he).2
    rw [← hF,fineS,p2,p3]
    simp
   have l2:=ld_get gb2 hb2 (k:=1) rfl
   simp (maxSteps:=4000000) -implicitDefEqProofs +contextual [-X.ev,f0,f3,f5,f20,f21,f22,h,l2]
   exact ⟨hF1.symm,M02,_,_,gb2,fun _=>⟨rfl,rfl⟩⟩
  obtain ⟨⟨op,n,args,thn,els⟩,hy⟩:∃ y,l[i]? = some y:=⟨_,List.getElem?_eq_getElem h⟩
  have hs:=size_thn hy
  have hmem:=List.mem_of_getElem? hy
  have t1:=nodesS_take hy
  have t2:=countS_take hy
  have t3:=gp (i + 1)
  have t4:=countS_take_le l i
  have t5:=gp i
  rw [nodesSt] at t1
  rw [countSt] at t2
  have u1:=nodesL_pos args
  have u2:=nodesS_pos thn
  have u3:=nodesS_pos els
  have u4:=countS_bound thn
  have u5:=countS_bound els
  obtain ⟨b2,o2,c2,va,vt,ve,ra,rt,re,hv',hldn,_,_,_,_,_,i1,i2,i3,i4,i5,g1,g2,g3,g4,g5,g6⟩:=StL.row hr hl hy
  replace hldn:=GX2.ldn hldn
  rw [hv'] at f20
  obtain ⟨aa,ca,hva⟩:=g1.len
  obtain ⟨at_,ct,hvt⟩:=g3.len
  obtain ⟨ae,ce,hve⟩:=g5.len
  rw [g2.length] at hva
  rw [g4.length] at hvt
  rw [g6.length] at hve
  obtain ⟨nt,hnt⟩:∃ nt,thn.length = nt:=⟨_,rfl⟩
  obtain ⟨ne_,hne⟩:∃ nt,els.length = nt:=⟨_,rfl⟩
  rw [hnt] at hvt
  rw [hne] at hve
  have hdp:deep ≤ 16:=by
   rcases Int.lt_or_le 16 deep with q | q
   ·exact absurd ⟨by omega,q⟩ z0
   ·exact q
  have hrow:rowsS w V l = true → rowSt w V (.mk op n args thn els) = true:=fun q=>rowsS_all.1 q _ hmem
  rw [rowSt,headOk_eq hV,hnt,hne] at hrow
  obtain ⟨H3,sH3,X3,nxH3,n0H3,q,lH3⟩:=st_new (H:=H2) hw2 (z:=5) (c:=[.int .i64 0,.int .i64 0,.slice none 0 0,.slice none 0 0,.slice none 0 0]) (vs:=[.int .i64 op,.int .i64 n,va,vt,ve]) rfl
  have q0:H3.ld ⟨H2.nx,0,none⟩ = some (.int .i64 op):=lH3 0 _ rfl
  have q1:H3.ld ⟨H2.nx,1,none⟩ = some (.int .i64 n):=lH3 1 _ rfl
  have q2:H3.ld ⟨H2.nx,2,none⟩ = some va:=lH3 2 _ rfl
  have q3:H3.ld ⟨H2.nx,3,none⟩ = some vt:=lH3 3 _ rfl
  have q4:H3.ld ⟨H2.nx,4,none⟩ = some ve:=lH3 4 _ rfl
  clear lH3
  replace q:H3.ldn ⟨H2.nx,0,none⟩ 5 = some [.int .i64 op,.int .i64 n,va,vt,ve]:=q
  have hwH3:=X3.wf hw2
  have gb3:=X3.get gb2
  have hb3:H3.n0 ≤ b:=by rw [X3.n0]; exact hb2
  have ne2:¬ H2.nx = b:=by have:=AH.get_lt gb2; omega
  obtain ⟨H4,s4,M4,nx4,n04,gb4⟩:=st_get gb3 hb3 (k:=0) (vs:=[.int .i64 (stmts + countS (l.take i) + 1)]) (by simp)
  have gb4:H4.get b = some (.cells 2 [.int .i64 (stmts + countS (l.take i) + 1),.int .i64 (nodes + nodesS (l.take i))]):=gb4
  have hb4:H4.n0 ≤ b:=by rw [n04]; exact hb3
  obtain ⟨H5,s5,M5,nx5,n05,gb5⟩:=st_get gb4 hb4 (k:=1) (vs:=[.int .i64 (nodes + nodesS (l.take i) + 1)]) (by simp)
  have gb5:H5.get b = some (.cells 2 [.int .i64 (stmts + countS (l.take i) + 1),.int .i64 (nodes + nodesS (l.take i) + 1)]):=gb5
  have hb5:H5.n0 ≤ b:=by rw [n05]; exact hb4
  have M35:=M4.trans M5
  have M25:=(Mod.of_ext X3).trans M35
  have M05:=M02.trans M25
  have GX5:Ext G H5:=GX.mod M05 (by rintro x rfl; exact gb)
  have hw5:=M05.wf hw
  have l3:=ld_get gb3 hb3 (k:=0) rfl
  have l4:=ld_get gb4 hb4 (k:=1) rfl
  have l5:=ld_get gb5 hb5 (k:=1) rfl
  have Q:=M35.ldn (a:=⟨H2.nx,0,none⟩) ne2 q
  have Q0:=M35.ld (a:=⟨H2.nx,0,none⟩) ne2 q0
  have Q2:=M35.ld (a:=⟨H2.nx,2,none⟩) ne2 q2
  have Q3:=M35.ld (a:=⟨H2.nx,3,none⟩) ne2 q3
  have Q4:=M35.ld (a:=⟨H2.nx,4,none⟩) ne2 q4
  replace D0:=M25.ld (a:=⟨H.nx,0,none⟩) ne1 D0
  replace D1:=M25.ld (a:=⟨H.nx,1,none⟩) ne1 D1
  replace D:=M25.ldn (a:=⟨H.nx,0,none⟩) ne1 D
  have ex5:∃ s' n':Int,H5.get b = some (.cells 2 [.int .i64 s',.int .i64 n']):=⟨_,_,gb5⟩
  have w1:IntKind.i64.wrap (stmts + countS (l.take i) + 1) = stmts + countS (l.take i) + 1:=wrap_in ⟨by omega,by omega⟩
  have w2:IntKind.i64.wrap (nodes + nodesS (l.take i) + 1) = nodes + nodesS (l.take i) + 1:=wrap_in ⟨by omega,by omega⟩
  have Q2s:=Q2
  rw [hva] at Q2s
  by_cases k1:400 < nodes + nodesS (l.take i) + 1
  ·have hF0:F = false:=fno (by rintro ⟨q,_⟩; omega)
   simp (maxSteps:=4000000) -implicitDefEqProofs +contextual [-X.ev,f0,f3,f5,f20,f21,f22,h,hldn,sH3,l3,s4,w1,l4,s5,w2,l5,k1,hF0,okD_of,chain_2,chain_1,ex5,M05]
  simp (maxSteps:=4000000) -implicitDefEqProofs +contextual [-X.ev,f0,f3,f5,f20,f21,f22,h,hldn,sH3,l3,s4,w1,l4,s5,w2,l5,k1,D,Q,Q2s]
  apply Vx_callM
  ·(simp -implicitDefEqProofs [-X.ev]; rfl)
  refine (argsP_ca hw5 (hv.ext GX5)).mono ?_
  rintro x H6 ⟨rfl,X6⟩
  have hw6:=X6.wf hw5
  have GX6:=GX5.trans X6
  have M06:=M05.trans (Mod.of_ext X6)
  have gb6:=X6.get gb5
  have hb6:H6.n0 ≤ b:=by rw [X6.n0]; exact hb5
  have ex6:∃ s' n':Int,H6.get b = some (.cells 2 [.int .i64 s',.int .i64 n']):=⟨_,_,gb6⟩
  have r0:=X6.ld Q0
  have r2:=X6.ld Q2
  have r3:=X6.ld Q3
  have r4:=X6.ld Q4
  replace D0:=X6.ld D0
  replace D1:=X6.ld D1
  replace D:=X6.ldn D
  have Q2n:=ld_ldn.1 Q2s
  have r2n:=ld_ldn.1 (X6.ld Q2s)
  by_cases k2:argsP V op n = args.length
  case neg =>
   have hF0:F = false:=fno (by rintro ⟨_,_,q⟩; have:=hrow q; simp [k2] at this)
   simp (maxSteps:=4000000) -implicitDefEqProofs +contextual [-X.ev,k2,hF0,okD_of,chain_2,chain_1,ex6,M06,Q2n,r2n,X6.n0,X6.nx]
  have hF0:shapeP op nt ne_ = false → F = false:=fun z=>fno (by rintro ⟨_,_,q⟩; have:=hrow q; simp [z] at this)
  refine Vx_at 1 [.r] (fun fr H'=>H' = H6 ∧ shapeP op nt ne_ = true ∧ fr.get 0 = .pointer (some ⟨b,0,none⟩) ∧ fr.get 3 = .int .i64 deep ∧ fr.get 5 = .pointer (some ⟨H.nx,0,none⟩) ∧ fr.get 10 = .pointer (some ⟨H2.nx,0,none⟩) ∧ fr.get 20 = .slice (some ⟨b2,o2,none⟩) l.length c2 ∧ fr.get 21 = .int .i64 l.length ∧ fr.get 22 = .int .i64 i) rfl ?_ ?_
  case refine_2 =>
   intro rest hrest
   rw [hvt] at r3
   rw [hve] at r4
   simp only [ksCtx,ctxK_r,ctxK_n] at hrest
   simp (maxSteps:=4000000) -implicitDefEqProofs +contextual [-X.ev,ksPlug,shapeP,k2,hF0,okD_of,chain_2,chain_1,ex6,M06,Q2n,r2n,X6.n0,X6.nx,r0,r3,r4,hrest,f0,f3,f5,f20,f21,f22]
  simp only [ksCtx,ctxK_r,ctxK_n,ksSub,subAt_r,subAt_n]
  rintro fr' H' ⟨rfl,k3,f0,f3,f5,f10,f20,f21,f22⟩
  rw [hva] at r2
  simp (maxSteps:=4000000) -implicitDefEqProofs +contextual [-X.ev,f0,f3,f5,f10,f20,f21,f22,r2]
  refine Vk_loop (fun j2 fr H7=>Mod (fun x=>x = b) H' H7 ∧ ∃ i2:Nat,i2 + j2 = args.length ∧ fr.get 0 = .pointer (some ⟨b,0,none⟩) ∧ fr.get 3 = .int .i64 deep ∧ fr.get 5 = .pointer (some ⟨H.nx,0,none⟩) ∧ fr.get 10 = .pointer (some ⟨H2.nx,0,none⟩) ∧ fr.get 20 = .slice (some ⟨b2,o2,none⟩) l.length c2 ∧ fr.get 21 = .int .i64 l.length ∧ fr.get 22 = .int .i64 i ∧
   fr.get 80 = va ∧ fr.get 81 = .int .i64 args.length ∧ fr.get 82 = .int .i64 i2 ∧
   H7.get b = some (.cells 2 [.int .i64 (stmts + countS (l.take i) + 1),.int .i64 (nodes + nodesS (l.take i) + 1 + nodesL (args.take i2))]) ∧ nodesL (args.take i2) ≤ 400 * i2 ∧
   ∀ e ∈ args.take i2,isExp w V 1 e = true) ?_ args.length ⟨Mod.refl _ _,0,by simp,by simp [f0],by simp [f3],by simp [f5],by simp [f10],by simp [f20],by simp [f21],by simp [f22],by simp [hva],by simp,by simp,by simpa [nodesL] using gb6,by simp [nodesL],by simp⟩
  rintro j2 fr H7 ⟨M7,i2,hi2,f0,f3,f5,f10,f20,f21,f22,f80,f81,f82,gb7,hle7,hall7⟩
  have M07:=M06.trans M7
  have hw7:=M07.wf hw
  have GX7:Ext G H7:=GX.mod M07 (by rintro x rfl; exact gb)
  have hb7:H7.n0 ≤ b:=by rw [M7.n0]; exact hb6
  have hle2:(args.length:Int) ≤ 2:=by rw [← k2]; exact argsP_le V op n
  have D0':=M7.ld (a:=⟨H.nx,0,none⟩) ne1 D0
  have D1':=M7.ld (a:=⟨H.nx,1,none⟩) ne1 D1
  have D':=M7.ldn (a:=⟨H.nx,0,none⟩) ne1 D
  by_cases h2:i2 < args.length
  ·obtain ⟨y,hy2⟩:∃ y,args[i2]? = some y:=⟨_,List.getElem?_eq_getElem h2⟩
   obtain ⟨b3,o3,c3,va3,r,hv3,hldn3,rfl,hey⟩:=ExL.row g1 g2 hy2
   replace hldn3:=GX7.ldn hldn3
   rw [hv3] at f80
   obtain ⟨H8,sH8,X8,nxH8,n0H8,p,lH8⟩:=st_new (H:=H7) hw7 (z:=4) (c:=[.int .i64 0,.int .i64 0,.int .i64 0,.slice none 0 0]) (vs:=[.int .i64 y.op,.int .i64 y.n,.int .i64 y.cp,va3]) rfl
   have p0:H8.ld ⟨H7.nx,0,none⟩ = some (.int .i64 y.op):=lH8 0 _ rfl
   have p1:H8.ld ⟨H7.nx,1,none⟩ = some (.int .i64 y.n):=lH8 1 _ rfl
   have p2:H8.ld ⟨H7.nx,2,none⟩ = some (.int .i64 y.cp):=lH8 2 _ rfl
   have p3:H8.ld ⟨H7.nx,3,none⟩ = some va3:=lH8 3 _ rfl
   clear lH8
   replace p:H8.ldn ⟨H7.nx,0,none⟩ 4 = some [.int .i64 y.op,.int .i64 y.n,.int .i64 y.cp,va3]:=p
   have hwH8:=X8.wf hw7
   replace D0':=X8.ld D0'
   replace D1':=X8.ld D1'
   have GX8:=GX7.trans X8
   have gb8:=X8.get gb7
   simp (maxSteps:=4000000) -implicitDefEqProofs +contextual [-X.ev,f0,f3,f5,f10,f20,f21,f22,f80,f81,f82,h2,hldn3,sH8,D0',D1',p]
   apply Vx_callM
   ·(simp -implicitDefEqProofs [-X.ev]; rfl)
   refine (ECheck_ca (k:=1) hwH8 (hv.ext GX8) hok (hey.ext GX8)).mono ?_
   rintro x H9 ⟨rfl,X9⟩
   rw [chk_exp hV]
   have M09:=M07.trans ((Mod.of_ext X8).trans (Mod.of_ext X9))
   have gb9:=X9.get gb8
   have ex9:∃ s' n':Int,H9.get b = some (.cells 2 [.int .i64 s',.int .i64 n']):=⟨_,_,gb9⟩
   cases k4:isExp w V 1 y with
   | false =>
    have hF1:F = false:=fno (by
     rintro ⟨_,_,q⟩
     have:=hrow q
     simp only [Bool.and_eq_true,List.all_eq_true] at this
     have:=this.2.2.2 y (List.mem_of_getElem? hy2)
     rw [k4] at this; cases this)
    simp (maxSteps:=4000000) -implicitDefEqProofs +contextual [-X.ev,k4,hF1,ex9,M09]
   | true =>
    have hb9:H9.n0 ≤ b:=by rw [X9.n0,n0H8]; exact hb7
    have l9:=ld_get gb9 hb9 (k:=1) rfl
    have l9n:=ld_ldn.1 l9
    have hne9:nodesE y ≤ 400:=by simp [isExp] at k4; exact k4.1
    have pos9:=nodesE_pos y
    replace p:=X9.ldn p
    have hw9:=M09.wf hw
    have GX9:=GX8.trans X9
    simp (maxSteps:=4000000) -implicitDefEqProofs +contextual [-X.ev,k4,f0,f3,f5,f10,f20,f21,f22,f80,f81,f82,l9,p]
    apply Vx_callM
    ·(simp -implicitDefEqProofs [-X.ev]; rfl)
    refine (ENodes_ca _ y _ H9 (Nat.lt_succ_self _) hw9 (hey.ext GX9) (by omega)).mono ?_
    rintro x H10 ⟨rfl,X10⟩
    have gb10:=X10.get gb9
    have hb10:H10.n0 ≤ b:=by rw [X10.n0]; exact hb9
    have s1:=nodesL_take hy2
    have l10n:=ld_ldn.1 (ld_get gb10 hb10 (k:=1) rfl)
    obtain ⟨H11,s11,M11,nx11,n011,gb11⟩:=st_get gb10 hb10 (k:=1) (vs:=[.int .i64 (nodes + nodesS (l.take i) + 1 + nodesL (args.take i2) + nodesE y)]) (by simp)
    have gb11:H11.get b = some (.cells 2 [.int .i64 (stmts + countS (l.take i) + 1),.int .i64 (nodes + nodesS (l.take i) + 1 + nodesL (args.take i2) + nodesE y)]):=gb11
    have s2:=nodesL_take_le args i2
    have wr:IntKind.i64.wrap (nodes + nodesS (l.take i) + 1 + nodesL (args.take i2) + nodesE y) = nodes + nodesS (l.take i) + 1 + nodesL (args.take i2) + nodesE y:=wrap_in ⟨by omega,by omega⟩
    have wi:IntKind.i64.wrap ((i2:Int) + 1) = (i2:Int) + 1:=wrap_in ⟨by omega,by omega⟩
    simp (maxSteps:=4000000) -implicitDefEqProofs +contextual [-X.ev,f0,f3,f5,f10,f20,f21,f22,f80,f81,f82,wr,s11,okD_of,chain_2,chain_1,l9n,l10n,X10.n0,X10.nx,n011,nx11,wi]
    refine ⟨j2 - 1,by omega,M7.trans ((Mod.of_ext (X8.trans (X9.trans X10))).trans M11),i2 + 1,by omega,hv3.symm,by simp,?_,by omega,fun z hz=>?_⟩
    ·rw [gb11,s1]
     rw [show nodes + nodesS (l.take i) + 1 + nodesL (args.take i2) + nodesE y = nodes + nodesS (l.take i) + 1 + (nodesL (args.take i2) + nodesE y) by omega]
    ·rw [List.take_add_one,hy2] at hz
     rcases List.mem_append.1 hz with hz | hz
     ·exact hall7 z hz
     ·simp at hz; subst hz; exact k4
  ·have ht:args.take i2 = args:=List.take_of_length_le (by omega)
   rw [ht] at hle7 hall7 gb7
   have hb7:=hb7
   have q3':=M7.ld (a:=⟨H2.nx,3,none⟩) ne2 r3
   have q4':=M7.ld (a:=⟨H2.nx,4,none⟩) ne2 r4
   have wd:IntKind.i64.wrap (deep + 1) = deep + 1:=wrap_in ⟨by omega,by omega⟩
   simp (maxSteps:=4000000) -implicitDefEqProofs +contextual [-X.ev,f0,f3,f5,f10,f20,f21,f22,f80,f81,f82,h2,D',q3',wd]
   have ka:nodesL args ≤ 800:=by omega
   apply Vx_callM
   ·(simp -implicitDefEqProofs [-X.ev]; rfl)
   refine (ih thn vt rt G H7 (deep + 1) (stmts + countS (l.take i) + 1) (nodes + nodesS (l.take i) + 1 + nodesL args) b (by omega) hw7 GX7 gb hv i4 g3 g4 gb7 hb7 (by omega) (by omega) (by omega)).mono ?_
   rintro x H8 ⟨rfl,M8,s',n',gb8,hl8⟩
   have M08:=M07.trans M8
   have ex8:∃ s' n':Int,H8.get b = some (.cells 2 [.int .i64 s',.int .i64 n']):=⟨_,_,gb8⟩
   cases k5:fineS w V thn (deep + 1) (nodes + nodesS (l.take i) + 1 + nodesL args) with
   | false =>
    have hF1:F = false:=fno (by
     rintro ⟨q1,q2,q⟩
     have:=hrow q
     simp only [Bool.and_eq_true] at this
     have r1:=this.2.1
     have r2:=depthS_mem (k:=0) hmem
     have:fineS w V thn (deep + 1) (nodes + nodesS (l.take i) + 1 + nodesL args) = true:=fineS_iff.2 ⟨by omega,by omega,r1⟩
     rw [k5] at this; cases this)
    simp (maxSteps:=4000000) -implicitDefEqProofs +contextual [-X.ev,f0,f3,f5,hF1,ex8,M08]
   | true =>
    obtain ⟨rfl,rfl⟩:=hl8 k5
    have k5':=fineS_iff.1 k5
    have hw8:=M08.wf hw
    have GX8:Ext G H8:=GX.mod M08 (by rintro x rfl; exact gb)
    have hb8:H8.n0 ≤ b:=by rw [M8.n0]; exact hb7
    have D8:=M8.ldn (a:=⟨H.nx,0,none⟩) ne1 D'
    have q48:=M8.ld (a:=⟨H2.nx,4,none⟩) ne2 q4'
    simp (maxSteps:=4000000) -implicitDefEqProofs +contextual [-X.ev,f0,f3,f5,f10,f20,f21,f22,D8,q48,wd]
    apply Vx_callM
    ·(simp -implicitDefEqProofs [-X.ev]; rfl)
    refine (ih els ve re G H8 (deep + 1) (stmts + countS (l.take i) + 1 + countS thn) (nodes + nodesS (l.take i) + 1 + nodesL args + nodesS thn) b (by omega) hw8 GX8 gb hv i5 g5 g6 gb8 hb8 (by omega) (by omega) (by omega)).mono ?_
    rintro x H9 ⟨rfl,M9,s',n',gb9,hl9⟩
    have M09:=M08.trans M9
    have ex9:∃ s' n':Int,H9.get b = some (.cells 2 [.int .i64 s',.int .i64 n']):=⟨_,_,gb9⟩
    cases k6:fineS w V els (deep + 1) (nodes + nodesS (l.take i) + 1 + nodesL args + nodesS thn) with
    | false =>
     have hF1:F = false:=fno (by
      rintro ⟨q1,q2,q⟩
      have:=hrow q
      simp only [Bool.and_eq_true] at this
      have r1:=this.2.2.1
      have r2:=depthS_mem (k:=0) hmem
      have:fineS w V els (deep + 1) (nodes + nodesS (l.take i) + 1 + nodesL args + nodesS thn) = true:=fineS_iff.2 ⟨by omega,by omega,r1⟩
      rw [k6] at this; cases this)
     simp (maxSteps:=4000000) -implicitDefEqProofs +contextual [-X.ev,f0,f3,f5,hF1,ex9,M09]
    | true =>
     obtain ⟨rfl,rfl⟩:=hl9 k6
     have k6':=fineS_iff.1 k6
     have wi:IntKind.i64.wrap ((i:Int) + 1) = (i:Int) + 1:=wrap_in ⟨by omega,by omega⟩
     simp (maxSteps:=4000000) -implicitDefEqProofs +contextual [-X.ev,f0,f3,f5,f10,f20,f21,f22,wi]
     refine ⟨j - 1,by omega,M2.trans (M25.trans ((Mod.of_ext X6).trans (M7.trans (M8.trans M9)))),i + 1,by omega,hv'.symm,by simp,?_,by omega,fun _=>by omega,?_⟩
     ·rw [gb9,t1,t2]
      rw [show stmts + countS (l.take i) + 1 + countS thn + countS els = stmts + (countS (l.take i) + (1 + countS thn + countS els)) by omega,show nodes + nodesS (l.take i) + 1 + nodesL args + nodesS thn + nodesS els = nodes + (nodesS (l.take i) + (1 + nodesL args + nodesS thn + nodesS els)) by omega]
     ·intro op' n' args' thn' els' hz
      rw [List.take_add_one,hy] at hz
      rcases List.mem_append.1 hz with hz | hz
      ·exact hall _ _ _ _ _ hz
      ·simp only [Option.toList_some,List.mem_singleton] at hz
       cases hz
       refine ⟨⟨by omega,by omega⟩,?_⟩
       rw [rowSt,headOk_eq hV,hnt,hne]
       simp only [k2,k3,k5'.2.2,k6'.2.2,decide_true,Bool.true_and,List.all_eq_true]
       exact hall7
end Go.Proofs.YtoijnpfpjpefgaaGreat.A
/- A text without what this claim does not need: AbsQ. -/
set_option linter.unusedVariables false
set_option linter.unusedSimpArgs false
namespace Go.Proofs.YtoijnpfpjpefgaaGreat.A
open Go
theorem cleanL_append {n0:Nat}:∀ {a b x y:List Value},cleanL n0 a = some x → cleanL n0 b = some y → cleanL n0 (a ++ b) = some (x ++ y)
 | [],b,x,y,h,k=>by simp [cleanL] at h; subst h; simpa using k
 | v :: a,b,x,y,h,k=>by
  simp only [cleanL] at h
  split at h
  case h_2=>cases h
  rename_i z m hz hm
  cases h
  have:=cleanL_append hm k
  simp only [List.cons_append,cleanL,hz,this]
theorem ldn_append {H:AH} {b o n m:Nat} {x y:List Value} (h:H.ldn ⟨b,o,none⟩ n = some x) (k:H.ldn ⟨b,o + n,none⟩ m = some y):H.ldn ⟨b,o,none⟩ (n + m) = some (x ++ y):=by
 unfold AH.ldn at h k ⊢
 dsimp only at h k ⊢
 cases hg:H.get b with
 | none=>simp [hg] at h
 | some z =>
  cases z with
  | map es=>simp [hg] at h
  | cells z c =>
   simp only [hg] at h k ⊢
   obtain ⟨h1,h⟩:=bif_some h
   obtain ⟨k1,k⟩:=bif_some k
   simp only [decide_eq_true_eq] at h1 k1
   have e:(c.drop o).take (n + m) = (c.drop o).take n ++ (c.drop (o + n)).take m:=by
    rw [List.take_add,List.drop_drop]
   rw [show decide (o + (n + m) ≤ c.length) = true by simp; omega,cond_true,e]
   cases hd:decide (b < H.n0) with
   | false =>
    rw [hd] at h k
    simp only [cond_false,Option.some.injEq] at h k ⊢
    rw [h,k]
   | true =>
    rw [hd] at h k
    simp only [cond_true] at h k ⊢
    exact cleanL_append h k
theorem Rows.rowlen {H:AH} {sz:Nat} {v:Value} {rows:List (List Value)} (h:Rows H sz v rows):∀ r ∈ rows,r.length = sz:=by
 intro r hr
 obtain ⟨i,hi,rfl⟩:=List.mem_iff_getElem.1 hr
 obtain ⟨b,o,c,e,hl⟩:=h.at (List.getElem?_eq_getElem hi)
 exact (ldn_some hl).2
theorem flatten_length {sz:Nat}:∀ {rows:List (List Value)},(∀ r ∈ rows,r.length = sz) → rows.flatten.length = rows.length * sz
 | [],_=>by simp
 | r :: rows,h=>by
  rw [List.flatten_cons,List.length_append,h r (by simp),flatten_length fun q hq=>h q (by simp [hq]),List.length_cons,Nat.succ_mul]
  omega
theorem Rows.whole {H:AH} {sz b o c:Nat} {rows:List (List Value)} (h:Rows H sz (.slice (some ⟨b,o,none⟩) rows.length c) rows):∀ k,k ≤ rows.length → 0 < k → H.ldn ⟨b,o,none⟩ (k * sz) = some (rows.take k).flatten:=by
 intro k
 induction k with
 | zero=>intro _ h; omega
 | succ k ih =>
  intro hk _
  obtain ⟨b',o',c',e,hl⟩:=h.at (i:=k) (List.getElem?_eq_getElem (by omega))
  cases e
  rw [List.take_add_one,List.getElem?_eq_getElem (by omega),List.flatten_append]
  by_cases hk0:k = 0
  ·subst hk0
   simpa using hl
  ·have:=ldn_append (ih (by omega) (by omega)) hl
   rw [show (k + 1) * sz = k * sz + sz by rw [Nat.succ_mul],this]
   simp only [Option.toList_some,List.flatten_cons,List.flatten_nil,List.append_nil]
theorem Rows.src {H:AH} {sz:Nat} {v:Value} {rows:List (List Value)} (h:Rows H sz v rows):srcA H sz v = some rows.flatten ∧ lenA v = some rows.length:=by
 obtain ⟨a,c,rfl,k⟩:=h.is
 refine ⟨?_,rfl⟩
 by_cases e:rows = []
 ·subst e
  cases a <;> simp [srcA]
 ·have hpos:0 < rows.length:=List.length_pos_iff.2 e
  obtain ⟨b,o,rfl,h2⟩:=k 0 _ (List.getElem?_eq_getElem hpos)
  have:=Rows.whole (H:=H) (sz:=sz) (b:=b) (o:=o) (c:=c) (rows:=rows) ⟨_,_,rfl,k⟩ rows.length (Nat.le_refl _) hpos
  simp only [srcA,nb]
  rw [show decide (rows.length = 0) = false by simp [e],cond_false,this,List.take_length]
structure Own (H:AH) (sz:Nat) (v:Value) (rows:List (List Value)):Prop where
 is:(v = .slice none 0 0 ∧ rows = []) ∨ ∃ b,v = .slice (some ⟨b,0,none⟩) rows.length rows.length ∧ H.n0 ≤ b ∧ H.get b = some (.cells sz rows.flatten)
 len:∀ r ∈ rows,r.length = sz
def blk (v:Value) (b:Nat):Prop:=∃ o n c,v = .slice (some ⟨b,o,none⟩) n c
theorem blk_slice (b b' o n c:Nat):blk (.slice (some ⟨b,o,none⟩) n c) b' ↔ b' = b:=by
 unfold blk
 constructor
 ·rintro ⟨o',n',c',e⟩; cases e; rfl
 ·rintro rfl; exact ⟨_,_,_,rfl⟩
theorem blk_nil (b n c:Nat):¬ blk (.slice none n c) b:=by rintro ⟨_,_,_,e⟩; cases e
theorem Own.nil (H:AH) (sz:Nat):Own H sz (.slice none 0 0) []:=⟨.inl ⟨rfl,rfl⟩,by simp⟩
theorem Own.lt {H:AH} {sz b:Nat} {v:Value} {rows:List (List Value)} (h:Own H sz v rows) (hb:blk v b):b < H.nx:=by
 rcases h.is with ⟨rfl,_⟩ | ⟨b',rfl,_,hg⟩
 ·exact absurd hb (blk_nil _ _ _)
 ·rw [(blk_slice _ _ _ _ _).1 hb]; exact AH.get_lt hg
theorem Own.shape {H:AH} {sz:Nat} {v:Value} {rows:List (List Value)} (h:Own H sz v rows):∃ a c,v = .slice a rows.length c:=by
 rcases h.is with ⟨rfl,rfl⟩ | ⟨b,rfl,_⟩
 ·exact ⟨_,_,rfl⟩
 ·exact ⟨_,_,rfl⟩
theorem drop_flatten {sz:Nat}:∀ {rows:List (List Value)} {i:Nat} {r:List Value},(∀ r ∈ rows,r.length = sz) → rows[i]? = some r → ((rows.flatten.drop (i * sz)).take sz) = r ∧ i * sz + sz ≤ rows.flatten.length
 | [],i,r,_,h=>by simp at h
 | x :: rows,0,r,hl,h=>by
  simp at h; subst h
  have:=hl x (by simp)
  simp [this]
 | x :: rows,i + 1,r,hl,h=>by
  have hx:=hl x (by simp)
  have ih:=drop_flatten (fun q hq=>hl q (by simp [hq])) (i:=i) (r:=r) (rows:=rows) (by simpa using h)
  rw [List.flatten_cons,Nat.succ_mul,List.length_append,hx]
  refine ⟨?_,by omega⟩
  rw [show i * sz + sz = x.length + i * sz by omega,← List.drop_drop,List.drop_left]
  exact ih.1
theorem Own.rows {H:AH} {sz:Nat} {v:Value} {rows:List (List Value)} (h:Own H sz v rows):Rows H sz v rows:=by
 rcases h.is with ⟨rfl,rfl⟩ | ⟨b,rfl,h0,hg⟩
 ·exact ⟨_,_,rfl,by simp⟩
 ·refine ⟨_,_,rfl,fun i r hi=>⟨b,0,rfl,?_⟩⟩
  obtain ⟨e1,e2⟩:=drop_flatten h.len hi
  rw [ldn_get hg h0 (by simpa using e2)]
  simpa using e1
theorem Own.mod {S:Nat → Prop} {H H':AH} {sz:Nat} {v:Value} {rows:List (List Value)} (h:Own H sz v rows) (M:Mod S H H') (hs:∀ b,blk v b → ¬ S b):Own H' sz v rows:=by
 refine ⟨?_,h.len⟩
 rcases h.is with ⟨rfl,rfl⟩ | ⟨b,rfl,h0,hg⟩
 ·exact .inl ⟨rfl,rfl⟩
 ·exact .inr ⟨b,rfl,by rw [M.n0]; exact h0,M.get (hs b ((blk_slice _ _ _ _ _).2 rfl)) hg⟩
theorem Own.ext {H H':AH} {sz:Nat} {v:Value} {rows:List (List Value)} (h:Own H sz v rows) (X:Ext H H'):Own H' sz v rows:=h.mod (Mod.of_ext (S:=fun _=>False) X) (by simp)
theorem app_own' {H:AH} {sz bytes:Nat} {s x:Value} {rows new:List (List Value)} (hw:H.n0 ≤ H.nx) (hs:Own H sz s rows) (hx:Rows H sz x new) (hb:(rows.length + new.length) * bytes ≤ 2 ^ 47) (h62:rows.length + new.length < 2 ^ 62) :
  ∃ s' H',aappend sz bytes H s x = some (s',H') ∧ Own H' sz s' (rows ++ new) ∧ Mod (blk s) H H' ∧ (∀ b,blk s' b → blk s b ∨ H.nx ≤ b) ∧ (new ≠ [] → ∀ b,blk s' b → H.nx ≤ b):=by
 obtain ⟨hsrc,hlen⟩:=hx.src
 have hl:=hx.rowlen
 have hlen2:∀ r ∈ rows ++ new,r.length = sz:=by
  intro r hr
  rcases List.mem_append.1 hr with h | h
  ·exact hs.len r h
  ·exact hl r h
 by_cases n0:new = []
 ·subst n0
  refine ⟨s,H,?_,by simpa using hs,Mod.refl _ _,fun b hb=>.inl hb,fun h=>absurd rfl h⟩
  rcases hs.is with ⟨rfl,rfl⟩ | ⟨b,rfl,h0,hg⟩
  ·simp [aappend,hlen]
  ·simp [aappend,hlen]
 have npos:0 < new.length:=List.length_pos_iff.2 n0
 have hnz:¬ new.length = 0:=by omega
 have hnew:new.flatten.length = new.length * sz:=flatten_length hl
 by_cases r0:rows = []
 ·subst r0
  simp only [List.length_nil,Nat.zero_add] at hb h62
  refine ⟨.slice (some ⟨H.nx,0,none⟩) new.length new.length,H.alloc (.cells sz new.flatten),?_,⟨.inr ⟨H.nx,rfl,hw,get_new _ _⟩,hlen2⟩,Mod.of_ext (Ext.alloc _ _),fun b hb=>.inr (by rw [(blk_slice _ _ _ _ _).1 hb]; exact Nat.le_refl _),fun _ b hb=>by rw [(blk_slice _ _ _ _ _).1 hb]; exact Nat.le_refl _⟩
  rcases hs.is with ⟨rfl,_⟩ | ⟨b,rfl,h0,hg⟩
  ·simp [aappend,hlen,hsrc,hnz,n0,hb,h62,nb]
  ·simp [aappend,hlen,hsrc,hnz,n0,hb,h62,nb]
 have rpos:0 < rows.length:=List.length_pos_iff.2 r0
 rcases hs.is with ⟨rfl,h⟩ | ⟨b,rfl,h0,hg⟩
 ·exact absurd h r0
 have hold:H.ldn ⟨b,0,none⟩ (rows.length * sz) = some rows.flatten:=by
  have:=flatten_length hs.len
  rw [ldn_get hg h0 (by omega),← this]
  simp only [List.drop_zero,List.take_length]
 have hzok:H.zok b sz = true:=by simp [AH.zok,hg]
 have a1:¬ rows.length + new.length ≤ rows.length:=by omega
 have a2:¬ rows.length = 0:=by omega
 refine ⟨.slice (some ⟨H.nx,0,none⟩) (rows ++ new).length (rows ++ new).length,(H.put b none).alloc (.cells sz (rows ++ new).flatten),?_,⟨.inr ⟨H.nx,rfl,hw,?_⟩,hlen2⟩,⟨rfl,Nat.le_succ _,fun c hc hs=>?_⟩,fun c hc=>.inr (by rw [(blk_slice _ _ _ _ _).1 hc]; exact Nat.le_refl _),fun _ c hc=>by rw [(blk_slice _ _ _ _ _).1 hc]; exact Nat.le_refl _⟩
 ·simp [aappend,hlen,hsrc,hnz,n0,r0,hb,h62,a1,a2,h0,hzok,hold]
 ·exact get_new (H.put b none) _
 ·rw [blk_slice] at hs
  rw [AH.get_alloc,if_neg (by rw [AH.put_nx]; omega),AH.get_kill,if_neg hs]
theorem app_own {H:AH} {sz bytes:Nat} {s x:Value} {rows new:List (List Value)} (hw:H.n0 ≤ H.nx) (hs:Own H sz s rows) (hx:Rows H sz x new) (hb:(rows.length + new.length) * bytes ≤ 2 ^ 47) (h62:rows.length + new.length < 2 ^ 62) :
  ∃ s' H',aappend sz bytes H s x = some (s',H') ∧ Own H' sz s' (rows ++ new) ∧ Mod (blk s) H H' ∧ ∀ b,blk s' b → blk s b ∨ H.nx ≤ b:=by
 obtain ⟨s',H',a,b,c,d,_⟩:=app_own' hw hs hx hb h62
 exact ⟨s',H',a,b,c,d⟩
theorem splice_all (z c:List Value) (h:c.length = z.length):splice z 0 c = c:=by
 have:splice z 0 c = c ++ z.drop c.length:=by cases z <;> rfl
 rw [this,List.drop_eq_nil_of_le (by omega)]; simp
theorem bsl1 {sz:Nat} {z:List Value} {H:AH} {v:Value} (hv:(vcells v).length = sz) (ht:isTup v = false) (hz:z.length = sz) :
  bslV 1 sz z H [(0,sz,v)] = some (.slice (some ⟨H.nx,0,none⟩) 1 1,H.alloc (.cells sz (vcells v))):=by
 simp only [bslV,fillA,nb,hv,hz,ht,Nat.zero_add,decide_true,Nat.le_refl,Bool.not_false,Bool.and_self,cond_true]
 rw [splice_all _ _ (by omega)]
 rfl
theorem app1_own {H H1:AH} {sz bytes:Nat} {s:Value} {rows:List (List Value)} {r:List Value} (hw:H.n0 ≤ H.nx) (hs:Own H sz s rows) (hr:r.length = sz) (h1:H.alloc (.cells sz r) = H1) (hb:(rows.length + 1) * bytes ≤ 2 ^ 47) (h62:rows.length + 1 < 2 ^ 62) :
  ∃ s' H',aappend sz bytes H1 s (.slice (some ⟨H.nx,0,none⟩) 1 1) = some (s',H') ∧ Own H' sz s' (rows ++ [r]) ∧ Mod (blk s) H H' ∧ (∀ b,blk s' b → H.nx ≤ b) ∧ H'.n0 = H.n0 ∧ H.nx ≤ H'.nx ∧ H'.n0 ≤ H'.nx ∧ H1.n0 = H.n0 ∧ H.nx ≤ H1.nx ∧ H1.nx ≤ H'.nx:=by
 subst h1
 have X:=Ext.alloc H (.cells sz r)
 have hx:Rows (H.alloc (.cells sz r)) sz (.slice (some ⟨H.nx,0,none⟩) 1 1) [r]:=⟨_,_,rfl,fun i q hi=>by
  cases i with
  | zero =>
   simp at hi; subst hi
   refine ⟨H.nx,0,rfl,?_⟩
   have:=ldn_new hw sz r
   rw [hr] at this
   simpa using this
  | succ i=>simp at hi⟩
 obtain ⟨s',H',e,o,M,_,k⟩:=app_own' (bytes:=bytes) (X.wf hw) (hs.ext X) hx hb h62
 have M':Mod (blk s) H H':=(Mod.of_ext X).trans M
 exact ⟨s',H',e,o,M',fun b hb=>Nat.le_trans X.nx (k (by simp) b hb),M'.n0,M'.nx,M'.wf hw,X.n0,X.nx,M.nx⟩
structure Sub (G H:AH):Prop where
 n0:H.n0 = G.n0
 nx:G.nx ≤ H.nx
 get:∀ b x,G.get b = some x → H.get b = some x
theorem Sub.of_ext {G H:AH} (h:Ext G H):Sub G H:=⟨h.n0,h.nx,fun b x k=>h.get k⟩
theorem Sub.trans {a b c:AH} (h:Sub a b) (k:Sub b c):Sub a c:=⟨k.n0.trans h.n0,Nat.le_trans h.nx k.nx,fun x y e=>k.get x y (h.get x y e)⟩
theorem Sub.mod {S:Nat → Prop} {G H H':AH} (h:Sub G H) (M:Mod S H H') (hs:∀ b,S b → G.get b = none):Sub G H' :=
 ⟨M.n0.trans h.n0,Nat.le_trans h.nx M.nx,fun b x k=>M.get (fun q=>by rw [hs b q] at k; cases k) (h.get b x k)⟩
theorem Sub.exto {G H H':AH} (h:Sub G H) (X:Ext H H'):Sub G H':=h.trans (Sub.of_ext X)
theorem Sub.ldn {G H:AH} (h:Sub G H) {a:Addr} {n:Nat} {vs:List Value} (k:G.ldn a n = some vs):H.ldn a n = some vs:=by
 obtain ⟨x,hx⟩:=Option.isSome_iff_exists.1 (ldn_some k).1
 rw [← k]
 exact ldn_same (by rw [h.get _ _ hx,hx]) h.n0
theorem Sub.ld {G H:AH} (h:Sub G H) {a:Addr} {v:Value} (k:G.ld a = some v):H.ld a = some v:=ld_ldn.2 (h.ldn (ld_ldn.1 k))
theorem Rows.sub {H H':AH} (E:Sub H H') {sz:Nat} {v:Value} {rows:List (List Value)} (h:Rows H sz v rows):Rows H' sz v rows:=by
 obtain ⟨a,c,rfl,k⟩:=h.is
 exact ⟨a,c,rfl,fun i r hi=>let ⟨b,o,h1,h2⟩:=k i r hi; ⟨b,o,h1,E.ldn h2⟩⟩
theorem Ints.sub {H H':AH} (E:Sub H H') {v:Value} {l:List Int} (h:Ints H v l):Ints H' v l:=Rows.sub E h
def AH.hide (H:AH):List Nat → AH
 | []=>H
 | b :: l=>(H.put b none).hide l
theorem hide_get:∀ (l:List Nat) (H:AH) (c:Nat),(H.hide l).get c = if c ∈ l then none else H.get c
 | [],H,c=>by simp [AH.hide]
 | b :: l,H,c=>by
  rw [AH.hide,hide_get l,AH.get_kill]
  by_cases h1:c ∈ l
  ·simp [h1]
  ·by_cases h2:c = b <;> simp [h1,h2]
theorem hide_n0:∀ (l:List Nat) (H:AH),(H.hide l).n0 = H.n0
 | [],H=>rfl
 | b :: l,H=>by rw [AH.hide,hide_n0 l]; rfl
theorem hide_nx:∀ (l:List Nat) (H:AH),(H.hide l).nx = H.nx
 | [],H=>rfl
 | b :: l,H=>by rw [AH.hide,hide_nx l]; rfl
theorem sub_hide (l:List Nat) (H:AH):Sub (H.hide l) H:=⟨(hide_n0 l H).symm,by rw [hide_nx]; exact Nat.le_refl _,fun b x k=>by
 rw [hide_get] at k
 split at k
 ·cases k
 ·exact k⟩
end Go.Proofs.YtoijnpfpjpefgaaGreat.A
/- A text without what this claim does not need: S22. -/
set_option linter.unusedVariables false
set_option linter.unusedSimpArgs false
set_option maxRecDepth 10000
namespace Go.Proofs.YtoijnpfpjpefgaaGreat.A
open Go
theorem fineS_isPrg {p:Prg} (h:isHeading p.w p.vars = true):fineS p.w p.vars p.body 1 0 = isPrg p:=by
 unfold fineS isPrg
 rw [h,show decide ((1:Int) + depthS p.body 0 ≤ 17) = decide (depthS p.body 0 ≤ 16) by rw [Bool.eq_iff_iff]; simp; omega,show decide (0 + nodesS p.body ≤ 400) = decide (nodesS p.body ≤ 400) by rw [Bool.eq_iff_iff]; simp]
 simp
theorem build00:buildV [.int .i64 0,.int .i64 0] [] = some (.agg #[.int .i64 0,.int .i64 0]):=rfl
theorem counted_ca {p:Prg} {c:List Value} {H:AH} (hw:H.n0 ≤ H.nx) (hp:PrgC H c p):Ca E O 78 [.agg c.toArray] H (fun x H'=>x = .tuple #[.agg #[.int .i64 (if isPrg p = true then countS p.body else 0),.int .i64 (if isPrg p = true then nodesS p.body else 0)],.bool (isPrg p)] ∧ Ext H H'):=by
 obtain ⟨vv,vb,rb,rfl,hi,hv,hvo,hr,hl,hbl⟩:=hp.is
 refine Ca.bodyV (F:=a78) rfl rfl rfl ?_
 have X1:=Ext.alloc H (.cells 3 [.int .i64 p.w,vv,vb])
 have d0:(H.alloc (.cells 3 [.int .i64 p.w,vv,vb])).ld ⟨H.nx,0,none⟩ = some (.int .i64 p.w):=ld_new hw rfl
 have d1:(H.alloc (.cells 3 [.int .i64 p.w,vv,vb])).ld ⟨H.nx,1,none⟩ = some vv:=ld_new hw rfl
 have d2:(H.alloc (.cells 3 [.int .i64 p.w,vv,vb])).ld ⟨H.nx,2,none⟩ = some vb:=ld_new hw rfl
 have d:(H.alloc (.cells 3 [.int .i64 p.w,vv,vb])).ldn ⟨H.nx,0,none⟩ 3 = some [.int .i64 p.w,vv,vb]:=ld_box hw 3 rfl
 generalize hH1:H.alloc (.cells 3 [.int .i64 p.w,vv,vb]) = H1 at X1 d0 d1 d2 d
 have hwH1:=X1.wf hw
 have X2:=Ext.alloc H1 (.cells 2 [.int .i64 0,.int .i64 0])
 have g2:=get_new H1 (.cells 2 [.int .i64 0,.int .i64 0])
 generalize hH2:H1.alloc (.cells 2 [.int .i64 0,.int .i64 0]) = H2 at X2 g2
 have hw2:=X2.wf hwH1
 have hb2:H2.n0 ≤ H1.nx:=by rw [X2.n0]; exact hwH1
 replace d0:=X2.ld d0
 replace d1:=X2.ld d1
 replace d2:=X2.ld d2
 replace d:=X2.ldn d
 have X02:=X1.trans X2
 simp (maxSteps:=4000000) -implicitDefEqProofs +contextual [-X.ev,a78,hH1,hH2,d0,d1]
 apply Vx_callM
 ·(simp -implicitDefEqProofs [-X.ev]; rfl)
 refine (Head_ca hw2 (hv.ext X02) hvo p.w).mono ?_
 rintro x H3 ⟨rfl,X3⟩
 have g3:=X3.get g2
 have hb3:H3.n0 ≤ H1.nx:=by rw [X3.n0]; exact hb2
 have X03:=X02.trans X3
 have hw3:=X3.wf hw2
 cases h1:isHeading p.w p.vars with
 | false =>
  have h2:isPrg p = false:=by simp [isPrg,h1]
  obtain ⟨H4,s4,M4,nx4,n04,g4⟩:=st_get g3 hb3 (k:=0) (vs:=[.int .i64 0,.int .i64 0]) (by simp)
  have l4:=ldn_get g4 (by rw [n04]; exact hb3) (k:=0) (n:=2) (by simp [splice])
  have X04:Ext H H4:=(X1.trans (Ext.refl _)).trans (((X2.trans X3).mod M4 (by rintro x rfl; exact Nat.le_refl _)))
  simp [splice] at l4
  simp (maxSteps:=4000000) -implicitDefEqProofs +contextual [-X.ev,h1,h2,build00,s4,l4,X04]
 | true =>
  replace d2:=X3.ld d2
  replace d:=X3.ldn d
  simp (maxSteps:=4000000) -implicitDefEqProofs +contextual [-X.ev,d,d2]
  apply Vx_callM
  ·(simp -implicitDefEqProofs [-X.ev]; rfl)
  refine (fineS_ca h1 hvo _ p.body vb rb H1 H3 1 0 0 H1.nx (Nat.lt_succ_self _) hw3 (X2.trans X3) (Nat.le_refl _) (hv.ext X1) hbl (hr.ext X1) (hl.ext X1) g3 hb3 (by omega) (by omega) (by omega)).mono ?_
  rintro x H4 ⟨rfl,M4,s',n',g4,hl4⟩
  rw [fineS_isPrg h1] at hl4 ⊢
  have hb4:H4.n0 ≤ H1.nx:=by rw [M4.n0]; exact hb3
  have X14:Ext H1 H4:=(X2.trans X3).mod M4 (by rintro x rfl; exact Nat.le_refl _)
  cases h2:isPrg p with
  | false =>
   obtain ⟨H5,s5,M5,nx5,n05,g5⟩:=st_get g4 hb4 (k:=0) (vs:=[.int .i64 0,.int .i64 0]) (by simp)
   have l5:=ldn_get g5 (by rw [n05]; exact hb4) (k:=0) (n:=2) (by simp [splice])
   have X05:Ext H H5:=X1.trans (X14.mod M5 (by rintro x rfl; exact Nat.le_refl _))
   simp [splice] at l5
   simp (maxSteps:=4000000) -implicitDefEqProofs +contextual [-X.ev,build00,s5,l5,X05]
  | true =>
   obtain ⟨rfl,rfl⟩:=hl4 h2
   have l4:=ldn_get g4 hb4 (k:=0) (n:=2) (by simp)
   obtain ⟨H5,s5,M5,nx5,n05,g5⟩:=st_get g4 hb4 (k:=0) (vs:=[.int .i64 (0 + countS p.body),.int .i64 (0 + nodesS p.body)]) (by simp)
   have l5:=ldn_get g5 (by rw [n05]; exact hb4) (k:=0) (n:=2) (by simp [splice])
   have X05:Ext H H5:=X1.trans (X14.mod M5 (by rintro x rfl; exact Nat.le_refl _))
   simp [splice] at l4 l5 s5
   simp (maxSteps:=4000000) -implicitDefEqProofs +contextual [-X.ev,l4,s5,l5,X05]
theorem PCheck_ca {p:Prg} {c:List Value} {H:AH} (hw:H.n0 ≤ H.nx) (hp:PrgC H c p):Ca E O 39 [.agg c.toArray] H (fun x H'=>x = .int .i64 (if isPrg p = true then 0 else 30) ∧ Ext H H'):=by
 refine Ca.bodyV (F:=a39) rfl rfl rfl ?_
 have hc:=hp.len
 have X1:=Ext.alloc H (.cells c.length c)
 have d:(H.alloc (.cells c.length c)).ldn ⟨H.nx,0,none⟩ 3 = some c:=ld_box hw 3 (by assumption)
 generalize hH1:H.alloc (.cells c.length c) = H1 at X1 d
 have hwH1:=X1.wf hw
 simp (maxSteps:=4000000) -implicitDefEqProofs +contextual [-X.ev,a39,hH1,d]
 apply Vx_callM
 ·(simp -implicitDefEqProofs [-X.ev]; rfl)
 refine (counted_ca hwH1 (hp.ext X1)).mono ?_
 rintro x H2 ⟨rfl,X2⟩
 have hw2:=X2.wf hwH1
 obtain ⟨H3,s3,X3,nx3,n03,g3⟩:=var_new hw2 (z:=2) (c:=[.int .i64 0,.int .i64 0]) (vs:=[.int .i64 (if isPrg p = true then countS p.body else 0),.int .i64 (if isPrg p = true then nodesS p.body else 0)]) rfl
 have X:=X1.trans (X2.trans X3)
 cases h2:isPrg p with
 | false =>
  simp only [h2,Bool.false_eq_true,if_false] at s3
  simp (maxSteps:=4000000) -implicitDefEqProofs +contextual [-X.ev,s3,X]
 | true =>
  simp only [h2,if_true] at s3
  simp (maxSteps:=4000000) -implicitDefEqProofs +contextual [-X.ev,s3,X]
def cloneF (sz bytes:Nat):AF:=⟨1,8,[.tmp 2],.seq (.reg [o 2 (.mv (.k (.slice none 0 0)))]) (.seq (.seq (.reg [o 3 (.mv (.t 0)),o 4 (.eqk 2 false (.t 3) (.k (.slice none 0 0)))]) (.cond (.t 4) (.seq (.reg [o 2 (.mv (.k (.slice none 0 0)))]) .ret) .skip)) (.seq (.reg [o 5 (.bsl 0 sz [] []),o 6 (.mv (.t 0)),o 7 (.app sz bytes (.t 5) (.t 6)),o 2 (.mv (.t 7))]) .ret))⟩
theorem Clone_gen {f sz bytes:Nat} (ho:O f = none) (he:E f = some (cloneF sz bytes)) {H:AH} {v:Value} {rows:List (List Value)} (hw:H.n0 ≤ H.nx) (hr:Rows H sz v rows) (hb:rows.length * bytes ≤ 2 ^ 47) (h62:rows.length < 2 ^ 62) :
  Ca E O f [v] H (fun x H'=>Own H' sz x rows ∧ Ext H H' ∧ ∀ b,blk x b → H.nx ≤ b):=by
 refine Ca.bodyV ho he rfl ?_
 obtain ⟨a,c,hv⟩:=hr.len
 cases a with
 | none =>
  have hrows:rows = []:=by
   obtain ⟨a',c',e,k⟩:=hr.is
   rw [hv] at e
   cases e
   cases rows with
   | nil=>rfl
   | cons r rows=>obtain ⟨b,o,e,_⟩:=k 0 r rfl; cases e
  subst hrows
  simp (maxSteps:=4000000) -implicitDefEqProofs +contextual [-X.ev,cloneF,hv]
  exact ⟨Own.nil _ _,Ext.refl _,fun b hb=>absurd hb (blk_nil _ _ _)⟩
 | some a =>
  have hbs:bslV 0 sz [] H [] = some (.slice (some ⟨H.nx,0,none⟩) 0 0,H.alloc (.cells sz [])):=rfl
  have X1:=Ext.alloc H (.cells sz [])
  have ow:Own (H.alloc (.cells sz [])) sz (.slice (some ⟨H.nx,0,none⟩) 0 0) []:=⟨.inr ⟨H.nx,rfl,hw,get_new _ _⟩,by simp⟩
  generalize H.alloc (.cells sz []) = H1 at hbs X1 ow
  obtain ⟨s',H2,ha,o2,M2,hk⟩:=app_own (bytes:=bytes) (X1.wf hw) ow (hr.ext X1) (by simpa using hb) (by simpa using h62)
  rw [hv] at ha
  simp (maxSteps:=4000000) -implicitDefEqProofs +contextual [-X.ev,cloneF,hv,hbs,ha]
  refine ⟨by simpa using o2,X1.mod M2 (by intro b hb; rw [blk_slice] at hb; subst hb; exact Nat.le_refl _),fun b hb=>?_⟩
  rcases hk b hb with h | h
  ·rw [blk_slice] at h; subst h; exact Nat.le_refl _
  ·exact Nat.le_trans X1.nx h
def intRows (l:List Int):List (List Value):=l.map fun n=>[.int .i64 n]
theorem CloneI_ca {H:AH} {v:Value} {l:List Int} (hw:H.n0 ≤ H.nx) (hr:Ints H v l) (hb:l.length ≤ 2 ^ 40) :
  Ca E O 47 [v] H (fun x H'=>Own H' 1 x (intRows l) ∧ Ext H H' ∧ ∀ b,blk x b → H.nx ≤ b) :=
 Clone_gen (sz:=1) (bytes:=8) rfl rfl hw hr (by simp [intRows]; omega) (by simp [intRows]; omega)
theorem Own.ints {H:AH} {v:Value} {l:List Int} (h:Own H 1 v (intRows l)):Ints H v l:=h.rows
theorem intRows_append (l m:List Int):intRows (l ++ m) = intRows l ++ intRows m:=by simp [intRows]
theorem isWord_p {w:Int} (hw:1 ≤ w ∧ w ≤ 8) (a:Int):isWord w a = (!decide (a < 0) && !decide (2 ^ w.toNat ≤ a)):=by
 have w1:isWidth w = true:=by simp [isWidth,hw]
 rw [isWord,w1,Bool.true_and,Bool.eq_iff_iff]
 simp
theorem isStart_ca {p:Prg} {t:Sta} {c d:List Value} {H:AH} (hw:H.n0 ≤ H.nx) (hp:PrgC H c p) (ht:StaC H d t) (hP:isPrg p = true) :
  Ca E O 40 [.agg c.toArray,.agg d.toArray] H (fun x H'=>x = .bool (isSta p t) ∧ Ext H H'):=by
 obtain ⟨vv,vb,rb,rfl,hi,hv,hvo,hr,hl,hbl⟩:=hp.is
 obtain ⟨vs,vp,rfl,ss,sp,l1,l2,_,_⟩:=ht.is
 have hV:isHeading p.w p.vars = true:=by simp [isPrg] at hP; exact hP.1
 have hw8:1 ≤ p.w ∧ p.w ≤ 8:=⟨(isHeading_w hV).1,(isHeading_w hV).2.1⟩
 have hcells:wsum (p.vars.map (·.cells)) ≤ 48:=by
  rw [isHeading_eq] at hV; simp only [Bool.and_eq_true,decide_eq_true_eq] at hV; exact hV.2.2.2.2
 refine Ca.bodyV (F:=a40) rfl rfl rfl ?_
 have X1:=Ext.alloc H (.cells 3 [.int .i64 p.w,vv,vb])
 have d0:(H.alloc (.cells 3 [.int .i64 p.w,vv,vb])).ld ⟨H.nx,0,none⟩ = some (.int .i64 p.w):=ld_new hw rfl
 have d1:(H.alloc (.cells 3 [.int .i64 p.w,vv,vb])).ld ⟨H.nx,1,none⟩ = some vv:=ld_new hw rfl
 have d2:(H.alloc (.cells 3 [.int .i64 p.w,vv,vb])).ld ⟨H.nx,2,none⟩ = some vb:=ld_new hw rfl
 have d:(H.alloc (.cells 3 [.int .i64 p.w,vv,vb])).ldn ⟨H.nx,0,none⟩ 3 = some [.int .i64 p.w,vv,vb]:=ld_box hw 3 rfl
 generalize hH1:H.alloc (.cells 3 [.int .i64 p.w,vv,vb]) = H1 at X1 d0 d1 d2 d
 have hwH1:=X1.wf hw
 have X2:=Ext.alloc H1 (.cells 2 [vs,vp])
 have e0:(H1.alloc (.cells 2 [vs,vp])).ld ⟨H1.nx,0,none⟩ = some vs:=ld_new hwH1 rfl
 have e1:(H1.alloc (.cells 2 [vs,vp])).ld ⟨H1.nx,1,none⟩ = some vp:=ld_new hwH1 rfl
 have e:(H1.alloc (.cells 2 [vs,vp])).ldn ⟨H1.nx,0,none⟩ 2 = some [vs,vp]:=ld_box hwH1 2 rfl
 generalize hH2:H1.alloc (.cells 2 [vs,vp]) = H2 at X2 e0 e1 e
 have hwH2:=X2.wf hwH1
 replace d0:=X2.ld d0
 replace d1:=X2.ld d1
 have X:=X1.trans X2
 obtain ⟨a1,c1,hvv⟩:=hv.len
 obtain ⟨a2,c2,hvs⟩:=ss.len
 obtain ⟨a3,c3,hvp⟩:=sp.len
 have D1:=d1
 rw [hvv] at D1
 simp (maxSteps:=4000000) -implicitDefEqProofs +contextual [-X.ev,a40,hH1,hH2,D1]
 refine Vk_loop (fun k fr H'=>Ext H2 H' ∧ ∃ i:Nat,i + k = p.vars.length ∧ fr.get 2 = .pointer (some ⟨H.nx,0,none⟩) ∧ fr.get 3 = .pointer (some ⟨H1.nx,0,none⟩) ∧ fr.get 11 = vv ∧ fr.get 12 = .int .i64 p.vars.length ∧ fr.get 13 = .int .i64 i ∧ fr.get 5 = .int .i64 (wsum ((p.vars.take i).map (·.cells)))) ?_ p.vars.length ⟨Ext.refl _,0,by simp,by simp,by simp,by simp [hvv],by simp,by simp,by simp [wsum]⟩
 rintro k fr H3 ⟨X3,i,hi,f2,f3,f11,f12,f13,f5⟩
 have hw3:=X3.wf hwH2
 have X03:=X.trans X3
 replace d0:=X3.ld d0
 replace e0:=X3.ld e0
 replace e1:=X3.ld e1
 have hvl:=hvo.1
 by_cases h:i < p.vars.length
 ·obtain ⟨y,hy⟩:∃ y,p.vars[i]? = some y:=⟨_,List.getElem?_eq_getElem h⟩
  obtain ⟨b,o,c',hv',hldn,_⟩:=(hv.ext X03).at hy
  rw [hv'] at f11
  obtain ⟨H4,sH4,X4,nxH4,n0H4,q,lH4⟩:=st_new (H:=H3) hw3 (z:=3) (c:=[.string ⟨#[]⟩,.int .i64 0,.int .i64 0]) (vs:=[.string y.name,.int .i64 y.level,.int .i64 y.cells]) rfl
  have q0:H4.ld ⟨H3.nx,0,none⟩ = some (.string y.name):=lH4 0 _ rfl
  have q1:H4.ld ⟨H3.nx,1,none⟩ = some (.int .i64 y.level):=lH4 1 _ rfl
  have q2:H4.ld ⟨H3.nx,2,none⟩ = some (.int .i64 y.cells):=lH4 2 _ rfl
  clear lH4
  replace q:H4.ldn ⟨H3.nx,0,none⟩ 3 = some [.string y.name,.int .i64 y.level,.int .i64 y.cells]:=q
  have hwH4:=X4.wf hw3
  simp (maxSteps:=4000000) -implicitDefEqProofs +contextual [-X.ev,f2,f3,f11,f12,f13,f5,h,hldn,Vr.row,sH4,q2]
  rw [wrap_in (n:=(i:Int) + 1) ⟨by omega,by omega⟩]
  refine ⟨k - 1,by omega,X3.trans X4,i + 1,by omega,hv'.symm,by simp,?_⟩
  rw [List.take_add_one]
  simp [wsum,List.getElem?_map,hy,List.foldl_append]
 have ht:p.vars.take i = p.vars:=List.take_of_length_le (by omega)
 rw [ht] at f5
 obtain ⟨F,hF⟩:∃ F,isSta p t = F:=⟨_,rfl⟩
 rw [hF]
 have e0':=e0
 have e1':=e1
 rw [hvs] at e0'
 rw [hvp] at e1'
 have fno:¬ ((t.store.length:Int) = wsum (p.vars.map (·.cells)) ∧ (t.picks.length:Int) ≤ 16 ∧ ∀ a ∈ t.store ++ t.picks,isWord p.w a = true) → F = false:=by
  intro q; rw [Bool.eq_false_iff,← hF]; intro h
  apply q
  simp only [isSta,isStore,Bool.and_eq_true,decide_eq_true_eq,List.all_eq_true] at h
  refine ⟨h.1.1,by omega,fun a ha=>?_⟩
  rcases List.mem_append.1 ha with ha | ha
  ·exact h.1.2 a ha
  ·exact h.2.2 a ha
 by_cases k1:(t.store.length:Int) = wsum (p.vars.map (·.cells))
 case neg =>
  have hF0:F = false:=fno (fun q=>k1 q.1)
  simp (maxSteps:=4000000) -implicitDefEqProofs +contextual [-X.ev,f2,f3,f11,f12,f13,f5,h,e0',e1',k1,hF0,X03]
 by_cases k2:(16:Int) < t.picks.length
 case pos =>
  have hF0:F = false:=fno (fun q=>by have:=q.2.1; omega)
  simp (maxSteps:=4000000) -implicitDefEqProofs +contextual [-X.ev,f2,f3,f11,f12,f13,f5,h,e0',e1',k1,k2,hF0,X03]
 simp (maxSteps:=4000000) -implicitDefEqProofs +contextual [-X.ev,f2,f3,f11,f12,f13,f5,h,e0',e1',k1,k2]
 rw [hvs] at ss
 rw [hvp] at sp
 apply Vx_callM
 ·(simp -implicitDefEqProofs [-X.ev]; rfl)
 refine (CloneI_ca hw3 (ss.ext X03) (by omega)).mono ?_
 rintro x H4 ⟨o4,X4,k4⟩
 have hw4:=X4.wf hw3
 have X04:=X03.trans X4
 have q1:=ld_ldn.1 e1'
 have q2:=ld_ldn.1 (X4.ld e1')
 obtain ⟨s',H5,ha,o5,M5,k5⟩:=app_own (bytes:=8) hw4 o4 (sp.ext X04) (by simp [intRows]; omega) (by simp [intRows]; omega)
 have X05:Ext H H5:=X03.trans (X4.mod M5 k4)
 have hw5:=M5.wf hw4
 have o5:Own H5 1 s' (intRows (t.store ++ t.picks)):=by rw [intRows_append]; exact o5
 have hLl:((t.store ++ t.picks).length:Int) = t.store.length + t.picks.length:=by rw [List.length_append]; omega
 have hLm:∀ (P:Int → Prop),(∀ a ∈ t.store ++ t.picks,P a) → (∀ a ∈ t.store,P a) ∧ ∀ a ∈ t.picks,P a:=fun P h=>⟨fun a ha=>h a (by simp [ha]),fun a ha=>h a (by simp [ha])⟩
 generalize t.store ++ t.picks = L at o5 fno hLl hLm
 have i5:=o5.ints
 obtain ⟨as_,cs_,hs'⟩:=i5.len

 have hlx:H4.nx ≤ H5.nx:=M5.nx
 have q3:H5.ldn ⟨H1.nx,1,none⟩ 1 = some [.slice a3 t.picks.length c3]:=M5.ldn (a:=⟨H1.nx,1,none⟩) (fun hb=>by
  have h1:=k4 _ hb
  have h2:=(AH.get_lt (Option.isSome_iff_exists.1 (ldn_some q1).1).choose_spec)
  dsimp only at h1 h2
  omega) q2
 rw [hs'] at ha
 simp (maxSteps:=4000000) -implicitDefEqProofs +contextual [-X.ev,ha,okD_of,chain_2,chain_1,X4.n0,X4.nx,q1,q2,q3,M5.n0,hlx]
 have d0':H5.ld ⟨H.nx,0,none⟩ = some (.int .i64 p.w):=((X3.trans (Ext.refl _)).trans (Ext.refl _) |> fun _=>(M5.ld (a:=⟨H.nx,0,none⟩) (fun hb=>by
  have h1:=k4 _ hb
  have h2:=(AH.get_lt (Option.isSome_iff_exists.1 (ldn_some (ld_ldn.1 d0)).1).choose_spec)
  dsimp only at h1 h2
  omega) (X4.ld d0)))
 have sh:=shl_w hw8
 have hl5:(L.length:Int) ≤ 64:=by omega

 refine Vk_loop (fun k fr H'=>H' = H5 ∧ ∃ i:Nat,i + k = L.length ∧ fr.get 2 = .pointer (some ⟨H.nx,0,none⟩) ∧ fr.get 38 = s' ∧ fr.get 39 = .int .i64 L.length ∧ fr.get 40 = .int .i64 i ∧ ∀ a ∈ L.take i,isWord p.w a = true) ?_ L.length ⟨rfl,0,by simp,by simp [f2],by simp [hs'],by simp,by simp,by simp⟩
 rintro k' fr' H' ⟨rfl,i',hi',f2,f38,f39,f40,hall⟩
 by_cases h':i' < L.length
 ·obtain ⟨n,hn⟩:∃ n,L[i']? = some n:=⟨_,List.getElem?_eq_getElem h'⟩
  obtain ⟨b,o,c',hv',hld⟩:=i5.at hn
  rw [hv'] at f38
  have hF0:isWord p.w n = false → F = false:=fun z=>fno (fun q=>by have:=q.2.2 n (List.mem_of_getElem? hn); rw [z] at this; cases this)
  rw [isWord_p hw8] at hF0
  have wi:IntKind.i64.wrap ((i':Int) + 1) = (i':Int) + 1:=wrap_in ⟨by omega,by omega⟩
  by_cases z1:n < 0
  ·simp (maxSteps:=4000000) -implicitDefEqProofs +contextual [-X.ev,f2,f38,f39,f40,h',hld,d0',z1,hF0,X05]
  by_cases z2:2 ^ p.w.toNat ≤ n
  ·simp (maxSteps:=4000000) -implicitDefEqProofs +contextual [-X.ev,f2,f38,f39,f40,h',hld,d0',z1,sh,z2,hF0,X05]
  simp (maxSteps:=4000000) -implicitDefEqProofs +contextual [-X.ev,f2,f38,f39,f40,h',hld,d0',z1,sh,z2,wi]
  refine ⟨k' - 1,by omega,i' + 1,by omega,hv'.symm,by simp,fun z hz=>?_⟩
  rw [List.take_add_one,hn] at hz
  rcases List.mem_append.1 hz with hz | hz
  ·exact hall z hz
  ·simp at hz; subst hz; rw [isWord_p hw8]; simp [z1,z2]
 ·have hF1:F = true:=by
   rw [List.take_of_length_le (by omega)] at hall
   rw [← hF]
   simp only [isSta,isStore,Bool.and_eq_true,decide_eq_true_eq,List.all_eq_true]
   exact ⟨⟨k1,(hLm _ hall).1⟩,by omega,(hLm _ hall).2⟩
  simp (maxSteps:=4000000) -implicitDefEqProofs +contextual [-X.ev,f2,f38,f39,f40,h',X05,hF1]
end Go.Proofs.YtoijnpfpjpefgaaGreat.A
/- A text without what this claim does not need: S23. -/
set_option linter.unusedVariables false
set_option linter.unusedSimpArgs false
set_option maxRecDepth 10000
namespace Go.Proofs.YtoijnpfpjpefgaaGreat.A
open Go
theorem awake_ca (H:AH):Ca E O 12 [] H (fun x H'=>x = .bool true ∧ H' = H):=Ca.orc (g:=fun z H=>match z with | []=>some (.bool true,H) | _=>none) (by rfl) rfl ⟨rfl,rfl⟩
end Go.Proofs.YtoijnpfpjpefgaaGreat.A
