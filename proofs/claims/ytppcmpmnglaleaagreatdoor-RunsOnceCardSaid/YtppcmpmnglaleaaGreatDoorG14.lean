/- Texts that stand one behind the other: S18, S19, S20, S21, AbsQ, S22. -/
import Derived.Test.YtppcmpmnglaleaaGreatDoorG13
set_option linter.unusedVariables false
set_option linter.unusedSimpArgs false
set_option maxRecDepth 10000
namespace Go.Proofs.YtppcmpmnglaleaaGreatDoor.A
open Go
def vq (w k:Int) (op n cp:Int):Bool:=
 if op=0 then !decide (n<0)&&(!decide (2^w.toNat≤n)&&decide (cp=0))else if op=1 then !decide (cp<0)&& !decide (k≤cp)else decide (n=0)&&decide (cp=0)
theorem wE {w k:Int} (hw:1≤w∧w≤8) (V:List Vr) (op n cp:Int) (na:Nat):fL w V k op n cp na=(decide (mE V op n=na)&&vq w k op n cp):=by
 have w1:bC w=true:=by simp [bC,hw]
 unfold fL vq mE
 by_cases h0:op=0
 ·subst h0
  simp only [isWord,w1,Bool.true_and]
  have:jT 0=0:=rfl
  rw [Bool.eq_iff_iff]
  simp [this]
  omega
 by_cases h1:op=1
 ·subst h1
  have z0:¬ ((1:Int)=0):=by omega
  have z1:¬ ((2≤(1:Int)∧(1:Int)≤11)∨(1:Int)=13∨(1:Int)=14):=by omega
  have z2:¬ ((1:Int)=12):=by omega
  have z3:¬ ((1:Int)=15):=by omega
  simp only [if_true,if_neg z0,if_neg z1,if_neg z2,if_neg z3,true_and]
  rw [Bool.eq_iff_iff]
  generalize (if 1<al V n then(1:Int)else 0)=z
  by_cases h2:0≤n∧n<V.length
  ·rw [if_pos h2]
   simp only [aso,Bool.not_eq_true',Bool.or_eq_false_iff,decide_eq_false_iff_not,asx]
   omega
  ·rw [if_neg h2]
   simp only [aso,Bool.not_eq_true',Bool.or_eq_false_iff,decide_eq_false_iff_not,asx]
   omega
 ·simp only [if_neg h0,if_neg h1,false_and,if_false]
  have e:jT op=if(2≤op∧op≤11)∨op=13∨op=14 then 2 else if op=12 then 1 else if op=15 then 3 else-1:=by
   unfold jT rH
   rw [if_neg h0]
   by_cases a:op=12
   ·subst a;simp
   by_cases b:op=15
   ·subst b;simp
   rw [if_neg a,if_neg b,if_neg a,if_neg b]
   by_cases c:(2≤op∧op≤11)∨op=13∨op=14
   ·rw [if_pos c,if_pos (by simpa using c)]
   ·rw [if_neg c,if_neg (by simpa using c)]
  rw [e,if_neg (show¬ (op=1∧0≤n∧n<V.length) from fun h=>h1 h.1)]
  generalize (if(2≤op∧op≤11)∨op=13∨op=14 then(2:Int)else if op=12 then 1 else if op=15 then 3 else-1)=z
  rw [Bool.eq_iff_iff]
  simp
  constructor
  ·rintro ⟨⟨a,b⟩,c⟩;exact ⟨b.symm,c,a⟩
  ·rintro ⟨a,b,c⟩;exact ⟨⟨c,a.symm⟩,b⟩
def iz (w:Int) (V:List Vr) (k:Int) (e:b9) (deep left:Int):Bool:=decide (aB e≤left)&&(decide (deep+dh e≤17)&&dA w V k e)
theorem yE {w:Int} (hw:1≤w∧w≤8):cx .shl (.int .i64 1) (.int .u64 (IntKind.u64.wrap w))=some (.int .i64 (2^w.toNat)):=by
 obtain ⟨h1,h2⟩:=hw
 obtain ⟨n,rfl⟩:∃n:Nat,w=n:=⟨w.toNat,by omega⟩
 have:n=1∨n=2∨n=3∨n=4∨n=5∨n=6∨n=7∨n=8:=by omega
 rcases this with rfl|rfl|rfl|rfl|rfl|rfl|rfl|rfl<;>rfl
theorem tz:∀{l:List b9} {k:Int} {y:b9},y∈l→dh y≤dE l k
 |x::l,k,y,h=>by
  rw [dE]
  rcases List.mem_cons.1 h with rfl|h
  ·have:∀(l:List b9) (k:Int),k≤dE l k:=by
    intro l
    induction l with
    |nil=>intro k;rw [dE];omega
    |cons z l ih=>intro k;rw [dE];have:=ih (max k (dh z));omega
   have:=this l (max k (dh y))
   omega
  ·exact tz h
theorem EA {l:List b9} {k m:Int} (hk:k≤m) (h:∀y∈l,dh y≤m):dE l k≤m:=by
 induction l generalizing k with
 |nil=>rw [dE];exact hk
 |cons x l ih=>
  rw [dE]
  have:=h x (by simp)
  exact ih (by omega) fun y hy=>h y (by simp [hy])
set_option maxHeartbeats 2000000 in
theorem MF {w k:Int} (eB:1≤w∧w≤8) {vv:Value} {V:List Vr}:∀(N:Nat) (e:b9) (c:List Value) (G H:AH) (deep left:Int) (b:Nat),SizeOf.sizeOf e<N→H.n0≤H.nx→Ext G H→G.nx≤b→dz G vv V→nX G c e→
 H.get b=some (.cells 1 [.int .i64 left])→H.n0≤b→0≤left∧left≤1000→1≤deep∧deep≤17→
 Ca E O 166 [.agg #[.int .i64 w,vv,.int .i64 k],.agg c.toArray,.int .i64 deep,.pointer (some ⟨b,0,none⟩)] H (fun x H'=>x= .bool (iz w V k e deep left)∧Mod (fun x=>x=b) H H'∧∃pO,H'.get b=some (.cells 1 [.int .i64 pO])∧(iz w V k e deep left=true→pO=left- aB e)):=by
 intro N
 induction N with
 |zero=>intro e c G H deep left b h;omega
 |succ N ih=>
  intro e c G H deep left b hN hw GX gb hv he hb yF akk Xs
  have hbH:=AH.a8 hb
  cases he with| @mk op n cp va rows args i1 i2 i3 hlen hr hl=>
  refine Ca.Xp 4 (F:=yg) rfl rfl rfl rfl ?_
  obtain ⟨rest,dm⟩:∃r,tv 4 yg.body=r:=⟨_,rfl⟩
  rw [dm]
  have X1:=Ext.alloc H (.cells 3 [.int .i64 w,vv,.int .i64 k])
  have d0:(H.alloc (.cells 3 [.int .i64 w,vv,.int .i64 k])).ld ⟨H.nx,0,none⟩=some (.int .i64 w):=ak hw rfl
  have d1:(H.alloc (.cells 3 [.int .i64 w,vv,.int .i64 k])).ld ⟨H.nx,1,none⟩=some vv:=ak hw rfl
  have d2:(H.alloc (.cells 3 [.int .i64 w,vv,.int .i64 k])).ld ⟨H.nx,2,none⟩=some (.int .i64 k):=ak hw rfl
  have d:(H.alloc (.cells 3 [.int .i64 w,vv,.int .i64 k])).ldn ⟨H.nx,0,none⟩ 3=some [.int .i64 w,vv,.int .i64 k]:=bl hw 3 rfl
  generalize cJ:H.alloc (.cells 3 [.int .i64 w,vv,.int .i64 k])=H1 at X1 d0 d1 d2 d
  have bP:=X1.wf hw
  have X2:=Ext.alloc H1 (.cells 4 [.int .i64 op,.int .i64 n,.int .i64 cp,va])
  have e0:(H1.alloc (.cells 4 [.int .i64 op,.int .i64 n,.int .i64 cp,va])).ld ⟨H1.nx,0,none⟩=some (.int .i64 op):=ak bP rfl
  have e1:(H1.alloc (.cells 4 [.int .i64 op,.int .i64 n,.int .i64 cp,va])).ld ⟨H1.nx,1,none⟩=some (.int .i64 n):=ak bP rfl
  have e2:(H1.alloc (.cells 4 [.int .i64 op,.int .i64 n,.int .i64 cp,va])).ld ⟨H1.nx,2,none⟩=some (.int .i64 cp):=ak bP rfl
  have e3:(H1.alloc (.cells 4 [.int .i64 op,.int .i64 n,.int .i64 cp,va])).ld ⟨H1.nx,3,none⟩=some va:=ak bP rfl
  have e:(H1.alloc (.cells 4 [.int .i64 op,.int .i64 n,.int .i64 cp,va])).ldn ⟨H1.nx,0,none⟩ 4=some [.int .i64 op,.int .i64 n,.int .i64 cp,va]:=bl bP 4 rfl
  generalize kl:H1.alloc (.cells 4 [.int .i64 op,.int .i64 n,.int .i64 cp,va])=H2 at X2 e0 e1 e2 e3 e
  have jU:=X2.wf bP
  replace d0:=X2.ld d0
  replace d1:=X2.ld d1
  replace d2:=X2.ld d2
  replace d:=X2.ldn d
  have X:=X1.trans X2
  have Pq:=X.get hb
  have iL:H2.n0≤b:=by rw [X.n0];exact yF
  have lb2:=aI Pq iL (k:=0) rfl
  obtain ⟨H3,s3,M3,sr,nk,MG⟩:=cg Pq iL (k:=0) (vs:=[.int .i64 (left- 1)]) (by simp)
  have uF:H3.n0≤b:=by rw [nk];exact iL
  have MG:H3.get b=some (.cells 1 [.int .i64 (left- 1)]):=MG
  have lb3:=aI MG uF (k:=0) rfl
  have AJ:¬ H.nx=b:=by omega
  have Cv:¬ H1.nx=b:=by have:=X1.nx;omega
  have D0:=M3.ld (a:=⟨H.nx,0,none⟩) AJ d0
  have D2:=M3.ld (a:=⟨H.nx,2,none⟩) AJ d2
  have D:=M3.ldn (a:=⟨H.nx,0,none⟩) AJ d
  have E0:=M3.ld (a:=⟨H1.nx,0,none⟩) Cv e0
  have E1:=M3.ld (a:=⟨H1.nx,1,none⟩) Cv e1
  have E2:=M3.ld (a:=⟨H1.nx,2,none⟩) Cv e2
  have E3:=M3.ld (a:=⟨H1.nx,3,none⟩) Cv e3
  have EE:=M3.ldn (a:=⟨H1.nx,0,none⟩) Cv e
  have nm:=M3.wf jU
  have MX:Mod (fun x=>x=b) H H3:=(Mod.cj X).trans M3
  have GX3:Ext G H3:=GX.mod MX (by rintro x rfl;exact gb)
  have hnE:=bc args
  have hdE:=pK (.mk op n cp args)
  obtain ⟨a3,c3,gq⟩:=hr.len
  rw [hl.length]at gq
  have FE:=E3
  rw [gq]at FE
  have wl:IntKind.i64.wrap (left- 1)=left- 1:=ai ⟨by omega,by omega⟩
  have no:∀q:¬ (1≤left∧deep≤16∧fL w V k op n cp args.length=true),iz w V k (.mk op n cp args) deep left=false:=by
   intro q
   rw [Bool.eq_false_iff]
   intro h
   have:aB (.mk op n cp args)≤left∧deep+dh (.mk op n cp args)≤17∧dA w V k (.mk op n cp args)=true:=by simpa [iz]using h
   rw [aB,dA,aso]at this
   exact q ⟨by omega,by omega,this.2.2.1⟩
  rw [wE eB]at no
  obtain ⟨F,hF⟩:∃F,iz w V k (.mk op n cp args) deep left=F:=⟨_,rfl⟩
  rw [hF]at no⊢
  obtain ⟨NE,hNE⟩:∃F,aB (.mk op n cp args)=F:=⟨_,rfl⟩
  rw [hNE]
  by_cases q1:left- 1<0
  ·have rv:=no (by omega)
   simp (maxSteps:=4000000)-implicitDefEqProofs+contextual [-X.ev,yg,cJ,kl,lb2,wl,s3,lb3,q1,bm,aJ,aK,rv,MX]
   exact ⟨_,MG⟩
  by_cases q2:16<deep
  ·have rv:=no (by omega)
   simp (maxSteps:=4000000)-implicitDefEqProofs+contextual [-X.ev,yg,cJ,kl,lb2,wl,s3,lb3,q1,q2,bm,aJ,aK,rv,MX]
   exact ⟨_,MG⟩
  simp (maxSteps:=4000000)-implicitDefEqProofs+contextual [-X.ev,yg,cJ,kl,lb2,wl,s3,lb3,q1,q2,D,EE,FE]
  apply ah
  ·(simp-implicitDefEqProofs [-X.ev];rfl)
  refine (HW nm (hv.ext GX3)).mono ?_
  rintro x H4 ⟨rfl,X4⟩
  have MX4:=MX.trans (Mod.cj X4)
  have FE4:=X4.ld FE
  have FEn:=bg.1 FE
  have Xt:=bg.1 FE4
  have RU:=X4.get MG
  have ex4:∃pO,H4.get b=some (.cells 1 [.int .i64 pO]):=⟨_,RU⟩
  have qv:=X4.wf nm
  have GX4:=GX3.trans X4
  have lY:H4.n0≤b:=by rw [X4.n0];exact uF
  by_cases q3:mE V op n=args.length
  case neg=>
   have rv:=no (by simp [q3])
   simp (maxSteps:=4000000)-implicitDefEqProofs+contextual [-X.ev,q3,bm,aJ,aK,rv,MX4,FEn,Xt,X4.n0,X4.nx,ex4]
  have rv:vq w k op n cp=false→F=false:=fun h=>no (by simp [h])
  have e0:=X4.ld E0
  have e1:=X4.ld E1
  have e2:=X4.ld E2
  have d0:=X4.ld D0
  have d2:=X4.ld D2
  have d:=X4.ldn D
  have e:=X4.ldn EE
  suffices Xu:∀fr:Fr,vq w k op n cp=true→fr.get 2= .int .i64 deep→fr.get 3= .pointer (some ⟨b,0,none⟩)→fr.get 4= .pointer (some ⟨H.nx,0,none⟩)→fr.get 5= .pointer (some ⟨H1.nx,0,none⟩)→
   Vk E O rest [] fr H4 (x7 [.tmp 8] fun x H'=>x= .bool F∧Mod (fun x=>x=b) H H'∧∃pO,H'.get b=some (.cells 1 [.int .i64 pO])∧(F=true→pO=left- NE)) by
   have sh:=yE eB
   simp (maxSteps:=4000000)-implicitDefEqProofs+contextual [-X.ev,q3,bm,aJ,aK,rv,MX4,FEn,Xt,X4.n0,X4.nx,ex4,vq,Xu,e0,e1,e2,d0,d2,sh]
  intro fr q4 f2 f3 f4 f5
  subst dm
  have e3:=FE4
  simp (maxSteps:=4000000)-implicitDefEqProofs+contextual [-X.ev,tv,yg,f2,f3,f4,f5,e3]
  refine ch (fun j fr H'=>Mod (fun x=>x=b) H4 H'∧∃i:Nat,i+j=args.length∧fr.get 2= .int .i64 deep∧fr.get 3= .pointer (some ⟨b,0,none⟩)∧fr.get 4= .pointer (some ⟨H.nx,0,none⟩)∧fr.get 75=va∧fr.get 76= .int .i64 args.length∧fr.get 77= .int .i64 i∧
   H'.get b=some (.cells 1 [.int .i64 (left- 1- aw (args.take i))])∧1+aw (args.take i)≤left∧∀y∈args.take i,dh y+deep≤16∧dA w V k y=true) ?_ args.length ⟨Mod.refl _ _,0,by simp,by simp [f2],by simp [f3],by simp [f4],by simp [gq],by simp,by simp,by simpa [aw]using RU,by simp [aw];omega,by simp⟩
  rintro j fr H5 ⟨M5,i,hi,f2,f3,f4,f75,f76,f77,KN,hle,aG⟩
  have rI:=M5.wf qv
  have Pr:=MX4.trans M5
  have Xv:Ext G H5:=GX.mod Pr (by rintro x rfl;exact gb)
  have dd:=M5.ldn (a:=⟨H.nx,0,none⟩) AJ d
  by_cases h:i<args.length
  ·obtain ⟨y,hy⟩:∃y,args[i]?=some y:=⟨_,asl h⟩
   obtain ⟨b2,o2,c2,va2,r,cA,bJ,rfl,kO⟩:=gG.row hr hl hy
   replace bJ:=Xv.ldn bJ
   have aob:=f75
   rw [cA]at f75
   obtain ⟨H6,MI,X6,RW,RX,q,uR⟩:=eN (H:=H5) rI (z:=4) (c:=[.int .i64 0,.int .i64 0,.int .i64 0,.slice none 0 0]) (vs:=[.int .i64 y.op,.int .i64 y.n,.int .i64 y.cp,va2]) rfl
   have q0:H6.ld ⟨H5.nx,0,none⟩=some (.int .i64 y.op):=uR 0 _ rfl
   have q1:H6.ld ⟨H5.nx,1,none⟩=some (.int .i64 y.n):=uR 1 _ rfl
   have q2:H6.ld ⟨H5.nx,2,none⟩=some (.int .i64 y.cp):=uR 2 _ rfl
   have q3:H6.ld ⟨H5.nx,3,none⟩=some va2:=uR 3 _ rfl
   clear uR
   replace q:H6.ldn ⟨H5.nx,0,none⟩ 4=some [.int .i64 y.op,.int .i64 y.n,.int .i64 y.cp,va2]:=q
   have HX:=X6.wf rI
   replace dd:=X6.ldn dd
   have wd:IntKind.i64.wrap (deep+1)=deep+1:=ai ⟨by omega,by omega⟩
   have t1:=eK hy
   have t2:=bj args (i+1)
   have t3:=bj args i
   have t4:=ec y
   have t5:=tz (k:=0) (asq hy)
   have hs:=gO (op:=op) (n:=n) (cp:=cp) hy
   have HY:H6.n0≤b:=by rw [X6.n0,M5.n0];exact lY
   simp (maxSteps:=4000000)-implicitDefEqProofs+contextual [-X.ev,f2,f3,f4,f75,f76,f77,h,bJ,MI,q,dd,wd]
   apply ah
   ·(simp-implicitDefEqProofs [-X.ev];rfl)
   refine (ih y _ G H6 (deep+1) (left- 1- aw (args.take i)) b (by omega) HX (Xv.trans X6) gb hv kO (X6.get KN) HY (by omega) (by omega)).mono ?_
   rintro x H7 ⟨rfl,M7,pO,U1,hl7⟩
   have M67:=(Mod.cj X6).trans M7
   cases q5:iz w V k y (deep+1) (left- 1- aw (args.take i))with
   |true=>
    have hl7:=hl7 q5
    have q5':aB y≤left- 1- aw (args.take i)∧deep+1+dh y≤17∧dA w V k y=true:=by simpa [iz]using q5
    simp (maxSteps:=4000000)-implicitDefEqProofs+contextual [-X.ev,f2,f3,f4,f75,f76,f77,h]
    rw [ai (n:=(i:Int)+1) ⟨by omega,by omega⟩]
    refine ⟨j- 1,by omega,M5.trans M67,i+1,by omega,cA.symm,by simp,?_,by omega,fun z hz=>?_⟩
    ·rw [U1,hl7,t1]
     rw [show left- 1- aw (args.take i)- aB y=left- 1- (aw (args.take i)+aB y) by omega]
    ·rw [List.take_add_one,hy]at hz
     rcases List.mem_append.1 hz with hz|hz
     ·exact aG z hz
     ·simp at hz;subst hz;exact ⟨by omega,q5'.2.2⟩
   |false=>
    have oK:F=false:=by
     rw [Bool.eq_false_iff]
     intro hT
     rw [hT]at hF
     have hF:aB (.mk op n cp args)≤left∧deep+dh (.mk op n cp args)≤17∧dA w V k (.mk op n cp args)=true:=by simpa [iz]using hF
     rw [aB,dh,dA,aso]at hF
     have:=jI.1 hF.2.2.2 y (asq hy)
     have:iz w V k y (deep+1) (left- 1- aw (args.take i))=true:=by simp [iz,this];omega
     rw [q5]at this
     cases this
    simp (maxSteps:=4000000)-implicitDefEqProofs+contextual [-X.ev,f2,f3,f4,f75,f76,f77,h,oK,Pr.trans M67]
    exact ⟨_,U1⟩
  ·have AK:F=true:=by
    rw [←hF]
    rw [ass (by omega)]at hle aG
    have fX:=jI.2 fun y hy=>(aG y hy).2
    have hdl:dE args 0≤16- deep:=EA (by omega) fun y hy=>by have:=(aG y hy).1;omega
    have rv:fL w V k op n cp args.length=true:=by rw [wE eB,q4];simp [q3]
    have:aB (.mk op n cp args)≤left∧deep+dh (.mk op n cp args)≤17∧dA w V k (.mk op n cp args)=true:=by
     rw [aB,dh,dA,fX,rv]
     exact ⟨by omega,by omega,rfl⟩
    simp [iz,this]
   rw [ass (by omega)]at KN
   rw [aB]at hNE
   simp (maxSteps:=4000000)-implicitDefEqProofs+contextual [-X.ev,f2,f3,f4,f75,f76,f77,h,AK,Pr]
   rw [KN,show left- 1- aw args=left- NE by omega]
open Go
theorem aF {w:Int} {V:List Vr} (h:aC w V=true):1≤w∧w≤8∧1≤V.length∧V.length≤18:=by
 simp [aC,bC]at h;omega
theorem jm {w:Int} {V:List Vr} (h:aC w V=true) {i:Nat} {v:Vr} (hi:V[i]?=some v):1≤v.cells∧v.cells≤8:=by
 rw [gQ]at h
 simp only [aso,asB]at h
 have:=h.2.2.2.1 i (by simpa using(asr.1 hi).1)
 rw [qJ hi]at this
 exact rF this
theorem wF (w:Int) (V:List Vr) (k:Int) (e:b9):iz w V k e 1 400=ie w V k e:=by
 unfold iz ie
 rw [show decide (1+dh e≤17)=decide (dh e≤16) by rw [Bool.eq_iff_iff];simp;omega]
def wG (w:Int) (V:List Vr) (k:Int) (e:b9):Int:=if aC w V=true then(if k<1 then 1 else if 3<k then 1 else if ie w V k e=true then 0 else 20)else 1
theorem HZ {w k:Int} {vv:Value} {V:List Vr} {e:b9} {c:List Value} {H:AH} (hw:H.n0≤H.nx) (hv:dz H vv V) (rU:oM V) (he:nX H c e):
 Ca E O 155 [.agg #[.int .i64 w,vv,.int .i64 k],.agg c.toArray] H (fun x H'=>x= .int .i64 (wG w V k e)∧Ext H H'):=by
 refine Ca.aS (F:=LP) rfl rfl rfl ?_
 have hc:c.length=4:=by cases he;rfl
 have X1:=Ext.alloc H (.cells 3 [.int .i64 w,vv,.int .i64 k])
 have d0:(H.alloc (.cells 3 [.int .i64 w,vv,.int .i64 k])).ld ⟨H.nx,0,none⟩=some (.int .i64 w):=ak hw rfl
 have d1:(H.alloc (.cells 3 [.int .i64 w,vv,.int .i64 k])).ld ⟨H.nx,1,none⟩=some vv:=ak hw rfl
 have d2:(H.alloc (.cells 3 [.int .i64 w,vv,.int .i64 k])).ld ⟨H.nx,2,none⟩=some (.int .i64 k):=ak hw rfl
 have d:(H.alloc (.cells 3 [.int .i64 w,vv,.int .i64 k])).ldn ⟨H.nx,0,none⟩ 3=some [.int .i64 w,vv,.int .i64 k]:=bl hw 3 rfl
 generalize cJ:H.alloc (.cells 3 [.int .i64 w,vv,.int .i64 k])=H1 at X1 d0 d1 d2 d
 have bP:=X1.wf hw
 have X2:=Ext.alloc H1 (.cells c.length c)
 have q:(H1.alloc (.cells c.length c)).ldn ⟨H1.nx,0,none⟩ 4=some c:=bl bP 4 (by assumption)
 generalize kl:H1.alloc (.cells c.length c)=H2 at X2 q
 have jU:=X2.wf bP
 replace d0:=X2.ld d0
 replace d1:=X2.ld d1
 replace d2:=X2.ld d2
 replace d:=X2.ldn d
 have X:=X1.trans X2
 simp (maxSteps:=4000000)-implicitDefEqProofs+contextual [-X.ev,LP,cJ,kl,d0,d1]
 apply ah
 ·(simp-implicitDefEqProofs [-X.ev];rfl)
 refine (Cu jU (hv.ext X) rU w).mono ?_
 rintro x H3 ⟨rfl,X3⟩
 replace d2:=X3.ld d2
 replace d:=X3.ldn d
 replace q:=X3.ldn q
 have iM:=X.trans X3
 cases h1:aC w V with
 |false=>
  simp (maxSteps:=4000000)-implicitDefEqProofs+contextual [-X.ev,h1,wG,iM]
 |true=>
  by_cases h2:k<1
  ·simp (maxSteps:=4000000)-implicitDefEqProofs+contextual [-X.ev,h1,h2,d2,wG,iM]
  by_cases h3:3<k
  ·simp (maxSteps:=4000000)-implicitDefEqProofs+contextual [-X.ev,h1,h2,h3,d2,wG,iM]
  have eB:=aF h1
  have nm:=X3.wf jU
  obtain ⟨H4,s4,X4,zP,oQ,gb⟩:=jy nm (z:=1) (c:=[.int .i64 0]) (vs:=[.int .i64 400]) rfl
  replace d:=X4.ldn d
  replace q:=X4.ldn q
  simp (maxSteps:=4000000)-implicitDefEqProofs+contextual [-X.ev,h1,h2,h3,d2,s4,d,q]
  have qv:=X4.wf nm
  apply ah
  ·(simp-implicitDefEqProofs [-X.ev];rfl)
  refine (MF ⟨eB.1,eB.2.1⟩ _ e c H3 H4 1 400 H3.nx (asA _) qv X4 (asp _) (hv.ext iM) (he.ext iM) gb (by rw [oQ];exact nm) (by omega) (by omega)).mono ?_
  rintro x H5 ⟨rfl,M5,pO,KN,U2⟩
  have X5:Ext H H5:=iM.trans (X4.mod M5 (by rintro x rfl;exact asp _))
  rw [wF]
  cases h4:ie w V k e with
  |true=>
   simp (maxSteps:=4000000)-implicitDefEqProofs+contextual [-X.ev,h1,h2,h3,h4,wG,X5]
  |false=>
   simp (maxSteps:=4000000)-implicitDefEqProofs+contextual [-X.ev,h1,h2,h3,h4,wG,X5]
theorem EB {w k:Int} {vv:Value} {V:List Vr} {e:b9} {c:List Value} {H:AH} (hw:H.n0≤H.nx) (hv:dz H vv V) (rU:oM V) (he:nX H c e):
 Ca E O 131 [.int .i64 w,vv,.int .i64 k,.agg c.toArray] H (fun x H'=>x= .int .i64 (wG w V k e)∧Ext H H'):=by
 refine Ca.aS (F:=a131) rfl rfl rfl ?_
 have hc:c.length=4:=by cases he;rfl
 have X1:=Ext.alloc H (.cells c.length c)
 have q:(H.alloc (.cells c.length c)).ldn ⟨H.nx,0,none⟩ 4=some c:=bl hw 4 (by assumption)
 generalize cJ:H.alloc (.cells c.length c)=H1 at X1 q
 have bP:=X1.wf hw
 have hb:fg [.int .i64 0,.slice none 0 0,.int .i64 0] [(0,1,.int .i64 w),(1,1,vv),(2,1,.int .i64 k)]=some (.agg #[.int .i64 w,vv,.int .i64 k]):=by
  obtain ⟨a,c,lC⟩:=hv.len
  rw [lC]
  rfl
 simp (maxSteps:=4000000)-implicitDefEqProofs+contextual [-X.ev,a131,cJ,q,hb]
 apply ah
 ·(simp-implicitDefEqProofs [-X.ev];rfl)
 refine (HZ bP (hv.ext X1) rU (he.ext X1)).mono ?_
 rintro x H2 ⟨rfl,X2⟩
 simp (maxSteps:=4000000)-implicitDefEqProofs+contextual [-X.ev,X1.trans X2]
def nZ (V:List Vr) (op n:Int):Int:=
 let z:=if 0≤n∧n<V.length then al V n else 0
 if op=0 then(if z=0 then-1 else if 1<z then 2 else 1)else if op=4 then(if z=0 then-1 else if 1<z then 1 else 0)else
 if op=3 then(if n<0 then-1 else if 47<n then-1 else 1)else
 if op=1 then(if n=0 then 1 else-1)else if op=2 then(if n=0 then 1 else-1)else if op=5 then(if n=0 then 1 else-1)else if op=6 then(if n=0 then 1 else-1)else-1
theorem Ia {w op n:Int} {vv vb va vt ve:Value} {V:List Vr} {H:AH} (hw:H.n0≤H.nx) (hv:dz H vv V):
 Ca E O 130 [.agg #[.int .i64 w,vv,vb],.agg #[.int .i64 op,.int .i64 n,va,vt,ve]] H (fun x H'=>x= .int .i64 (nZ V op n)∧Ext H H'):=by
 refine Ca.aS (F:=a130) rfl rfl rfl ?_
 have X1:=Ext.alloc H (.cells 3 [.int .i64 w,vv,vb])
 have d0:(H.alloc (.cells 3 [.int .i64 w,vv,vb])).ld ⟨H.nx,0,none⟩=some (.int .i64 w):=ak hw rfl
 have d1:(H.alloc (.cells 3 [.int .i64 w,vv,vb])).ld ⟨H.nx,1,none⟩=some vv:=ak hw rfl
 have d2:(H.alloc (.cells 3 [.int .i64 w,vv,vb])).ld ⟨H.nx,2,none⟩=some vb:=ak hw rfl
 have d:(H.alloc (.cells 3 [.int .i64 w,vv,vb])).ldn ⟨H.nx,0,none⟩ 3=some [.int .i64 w,vv,vb]:=bl hw 3 rfl
 generalize cJ:H.alloc (.cells 3 [.int .i64 w,vv,vb])=H1 at X1 d0 d1 d2 d
 have bP:=X1.wf hw
 have X2:=Ext.alloc H1 (.cells 5 [.int .i64 op,.int .i64 n,va,vt,ve])
 have e0:(H1.alloc (.cells 5 [.int .i64 op,.int .i64 n,va,vt,ve])).ld ⟨H1.nx,0,none⟩=some (.int .i64 op):=ak bP rfl
 have e1:(H1.alloc (.cells 5 [.int .i64 op,.int .i64 n,va,vt,ve])).ld ⟨H1.nx,1,none⟩=some (.int .i64 n):=ak bP rfl
 have e2:(H1.alloc (.cells 5 [.int .i64 op,.int .i64 n,va,vt,ve])).ld ⟨H1.nx,2,none⟩=some va:=ak bP rfl
 have e3:(H1.alloc (.cells 5 [.int .i64 op,.int .i64 n,va,vt,ve])).ld ⟨H1.nx,3,none⟩=some vt:=ak bP rfl
 have e4:(H1.alloc (.cells 5 [.int .i64 op,.int .i64 n,va,vt,ve])).ld ⟨H1.nx,4,none⟩=some ve:=ak bP rfl
 have e:(H1.alloc (.cells 5 [.int .i64 op,.int .i64 n,va,vt,ve])).ldn ⟨H1.nx,0,none⟩ 5=some [.int .i64 op,.int .i64 n,va,vt,ve]:=bl bP 5 rfl
 generalize kl:H1.alloc (.cells 5 [.int .i64 op,.int .i64 n,va,vt,ve])=H2 at X2 e0 e1 e2 e3 e4 e
 have jU:=X2.wf bP
 replace d1:=X2.ld d1
 have X:=X1.trans X2
 have w1:IntKind.i64.wrap 1=1:=by rfl
 have w2:IntKind.i64.wrap 2=2:=by rfl
 by_cases h1:0≤n∧n<V.length
 ·obtain ⟨y,hy⟩:∃y,V[n.toNat]?=some y:=⟨_,asl (by omega)⟩
  obtain ⟨b,o,c',cA,_,_,_,eh⟩:=(hv.ext X).at hy
  have hc:al V n=y.cells:=by simp [al,hy]
  have hz:(if 0≤n∧n<V.length then al V n else 0)=y.cells:=by rw [if_pos h1,hc]
  obtain ⟨F,hF⟩:∃F,nZ V op n=F:=⟨_,rfl⟩
  rw [hF]
  unfold nZ at hF
  rw [hz]at hF
  rw [cA]at d1
  obtain ⟨h1,h2⟩:=h1
  simp (maxSteps:=4000000)-implicitDefEqProofs+contextual [-X.ev,a130,cJ,kl,d1,e0,e1,h1,h2,eh,X,w1,w2,←hF]
 ·have hz:(if 0≤n∧n<V.length then al V n else 0)=0:=if_neg h1
  obtain ⟨F,hF⟩:∃F,nZ V op n=F:=⟨_,rfl⟩
  rw [hF]
  unfold nZ at hF
  rw [hz]at hF
  obtain ⟨a1,c1,lC⟩:=hv.len
  rw [lC]at d1
  by_cases h2:0≤n
  ·have h3:¬ n<V.length:=fun q=>h1 ⟨h2,q⟩
   simp (maxSteps:=4000000)-implicitDefEqProofs+contextual [-X.ev,a130,cJ,kl,d1,e0,e1,h2,h3,X,w1,w2,←hF]
  ·simp (maxSteps:=4000000)-implicitDefEqProofs+contextual [-X.ev,a130,cJ,kl,d1,e0,e1,h2,X,w1,w2,←hF]
end Go.Proofs.YtppcmpmnglaleaaGreatDoor.A
namespace Go.Proofs.YtppcmpmnglaleaaGreatDoor.A
open Go
mutual
def bw:bD→Int
 | .mk _ _ _ thn els=>1+ar thn+ar els
def ar:List bD→Int
 |[]=>0
 |s::ss=>bw s+ar ss
end
theorem fy {l:List bD} {i:Nat} {y:bD} (h:l[i]?=some y):av (l.take (i+1))=av (l.take i)+bu y:=by
 induction l generalizing i with
 |nil=>simp at h
 |cons x l ih=>
  cases i with
  |zero=>simp at h;subst h;simp [av]
  |succ i=>simp only [List.take_succ_cons,av];rw [ih (by simpa using h)];omega
theorem gv {l:List bD} {i:Nat} {y:bD} (h:l[i]?=some y):ar (l.take (i+1))=ar (l.take i)+bw y:=by
 induction l generalizing i with
 |nil=>simp at h
 |cons x l ih=>
  cases i with
  |zero=>simp at h;subst h;simp [ar]
  |succ i=>simp only [List.take_succ_cons,ar];rw [ih (by simpa using h)];omega
theorem bF (l:List bD):0≤av l:=(dM l).1
theorem ku:∀s:bD,1≤bu s
 | .mk op n args thn els=>by
  rw [bu];have:=bc args;have:=bF thn;have:=bF els;omega
theorem aV (l:List bD) (i:Nat):0≤av (l.take i)∧av (l.take i)≤av l:=by
 induction l generalizing i with
 |nil=>simp [av]
 |cons x l ih=>
  have h1:=ku x
  have h2:=bF l
  cases i with
  |zero=>simp only [List.take_zero,av];omega
  |succ i=>simp only [List.take_succ_cons,av];have:=ih i;omega
theorem aQ:∀l:List bD,0≤ar l∧ar l≤av l:=wC fun l ih=>by
 induction l with
 |nil=>simp [ar,av]
 |cons s ss tp=>
  obtain ⟨op,n,args,thn,els⟩:=s
  have h1:=ih op n args thn els (by simp)
  have h2:=tp fun op n args thn els h=>ih op n args thn els (by simp [h])
  have:=bc args
  rw [ar,bw,av,bu]
  omega
theorem cm (l:List bD) (i:Nat):0≤ar (l.take i)∧ar (l.take i)≤av (l.take i):=aQ _
theorem lN {op n:Int} {args:List b9} {thn els:List bD}:∀{l:List bD} {k:Int},bD.mk op n args thn els∈l→1+bE thn 0≤bE l k∧1+bE els 0≤bE l k
 |x::l,k,h=>by
  rw [bE]
  have mono:∀(l:List bD) (k:Int),k≤bE l k:=by
   intro l
   induction l with
   |nil=>intro k;rw [bE];omega
   |cons z l ih=>
    obtain ⟨op,n,args,thn,els⟩:=z
    intro k;rw [bE,kr];have:=ih (max (max k (1+bE thn 0)) (1+bE els 0));omega
  rcases List.mem_cons.1 h with rfl|h
  ·have:=mono l (kr (.mk op n args thn els) k)
   rw [kr]at this⊢
   omega
  ·exact lN h
theorem EC {l:List bD} {k m:Int} (hk:k≤m) (h:∀op n args thn els,bD.mk op n args thn els∈l→1+bE thn 0≤m∧1+bE els 0≤m):bE l k≤m:=by
 induction l generalizing k with
 |nil=>rw [bE];exact hk
 |cons x l ih=>
  obtain ⟨op,n,args,thn,els⟩:=x
  rw [bE,kr]
  have:=h op n args thn els (by simp)
  exact ih (by omega) fun op n args thn els hy=>h op n args thn els (by simp [hy])
def tA (op:Int) (nt ne:Nat):Bool:=!(decide (0<nt)&&(!decide (op=1)&& !decide (op=2)))&& !(decide (0<ne)&& !decide (op=1))
theorem vr {w:Int} {V:List Vr} (hV:aC w V=true) (op n:Int) (na nt ne:Nat):cB V op n na nt ne=(decide (nZ V op n=na)&&tA op nt ne):=by
 have hz:∀more:Int,0≤more→mD V n na more=decide ((if(if 0≤n∧n<V.length then al V n else 0)=0 then-1 else if 1<(if 0≤n∧n<V.length then al V n else 0)then more+1 else more)=(na:Int)):=by
  intro more hm
  unfold mD
  by_cases h:0≤n∧n<V.length
  ·obtain ⟨y,hy⟩:∃y,V[n.toNat]?=some y:=⟨_,asl (by omega)⟩
   have hc:al V n=y.cells:=by simp [al,hy]
   have:=jm hV hy
   have z0:¬ y.cells=0:=by omega
   rw [if_pos h,hc,if_neg z0]
   simp only [h.1,h.2,decide_true,Bool.true_and]
   by_cases h2:1<y.cells
   ·rw [if_pos h2,if_pos h2];rw [Bool.eq_iff_iff];simp;omega
   ·rw [if_neg h2,if_neg h2];rw [Bool.eq_iff_iff];simp;omega
  ·rw [if_neg h,if_pos rfl]
   rw [Bool.eq_iff_iff]
   simp
   omega
 unfold cB nZ tA
 by_cases o0:op=0
 ·subst o0
  rw [hz 1 (by omega)]
  simp only [if_true]
  rw [show(1:Int)+1=2 by rfl]
  generalize decide ((if(if 0≤n∧n<V.length then al V n else 0)=0 then(-1:Int)else if 1<(if 0≤n∧n<V.length then al V n else 0)then 2 else 1)=na)=A
  rw [Bool.eq_iff_iff]
  cases A<;>simp
 by_cases o4:op=4
 ·subst o4
  rw [hz 0 (by omega)]
  simp only [if_true,if_neg (show¬ (4:Int)=0 by omega),if_neg (show¬ (4:Int)=1 by omega),if_neg (show¬ (4:Int)=2 by omega),if_neg (show¬ (4:Int)=3 by omega)]
  rw [show(0:Int)+1=1 by rfl]
  generalize decide ((if(if 0≤n∧n<V.length then al V n else 0)=0 then(-1:Int)else if 1<(if 0≤n∧n<V.length then al V n else 0)then 1 else 0)=na)=A
  rw [Bool.eq_iff_iff]
  cases A<;>simp
 simp only [if_neg o0,if_neg o4]
 rw [Bool.eq_iff_iff]
 by_cases o3:op=3
 ·subst o3
  rw [if_neg (by omega),if_neg (by omega),if_pos rfl,if_pos rfl]
  by_cases a:n<0
  ·rw [if_pos a];simp;omega
  ·by_cases b:47<n
   ·rw [if_neg a,if_pos b];simp;omega
   ·rw [if_neg a,if_neg b];simp;omega
 by_cases o1:op=1
 ·subst o1
  by_cases a:n=0
  ·simp [a]<;>omega
  ·simp [a]
 by_cases o2:op=2
 ·subst o2
  by_cases a:n=0
  ·simp [a]<;>omega
  ·simp [a]
 by_cases o5:op=5
 ·subst o5
  by_cases a:n=0
  ·simp [a]<;>omega
  ·simp [a]
 by_cases o6:op=6
 ·subst o6
  by_cases a:n=0
  ·simp [a]<;>omega
  ·simp [a]
 simp [o3,o1,o2,o5,o6]
theorem Ib (V:List Vr) (op n:Int):nZ V op n≤2:=by
 unfold nZ
 dsimp only
 repeat' split
 all_goals omega
open Go
def lZ (w:Int) (V:List Vr) (l:List bD) (deep nodes:Int):Bool:=decide (nodes+av l≤400)&&(decide (deep+bE l 0≤17)&&gu w V l)
theorem kY {w:Int} {V:List Vr} {l:List bD} {deep nodes:Int}:lZ w V l deep nodes=true↔nodes+av l≤400∧deep+bE l 0≤17∧gu w V l=true:=by simp [lZ]
theorem MJ {w:Int} {V:List Vr} (h:aC w V=true) (e:b9):wG w V 1 e=if ie w V 1 e=true then 0 else 20:=by simp [wG,h]
theorem Ic {w:Int} {vv vb:Value} {V:List Vr} (hV:aC w V=true) (rU:oM V):∀(N:Nat) (l:List bD) (vl:Value) (rows:List (List Value)) (G H:AH) (deep stmts nodes:Int) (b:Nat),SizeOf.sizeOf l<N→H.n0≤H.nx→Ext G H→G.nx≤b→dz G vv V→l.length<2^60→Rows G 5 vl rows→iN G rows l→
 H.get b=some (.cells 2 [.int .i64 stmts,.int .i64 nodes])→H.n0≤b→0≤stmts∧stmts≤nodes→nodes≤2000→1≤deep∧deep≤17→
 Ca E O 97 [.pointer (some ⟨b,0,none⟩),.agg #[.int .i64 w,vv,vb],vl,.int .i64 deep] H (fun x H'=>x= .bool (lZ w V l deep nodes)∧Mod (fun x=>x=b) H H'∧∃s' n',H'.get b=some (.cells 2 [.int .i64 s',.int .i64 n'])∧(lZ w V l deep nodes=true→s'=stmts+ar l∧n'=nodes+av l)):=by
 intro N
 induction N with
 |zero=>intro l vl rows G H deep stmts nodes b h;omega
 |succ N ih=>
  intro l vl rows G H deep stmts nodes b hN hw GX gb hv hlen hr hl hb yF eT rv Xs
  have hbH:=AH.a8 hb
  refine Ca.aS (F:=Pf) rfl rfl rfl ?_
  obtain ⟨F,hF⟩:∃F,lZ w V l deep nodes=F:=⟨_,rfl⟩
  rw [hF]
  have FQ:¬ (nodes+av l≤400∧deep+bE l 0≤17∧gu w V l=true)→F=false:=by
   intro q;rw [Bool.eq_false_iff,←hF];exact fun h=>q (kY.1 h)
  have X1:=Ext.alloc H (.cells 3 [.int .i64 w,vv,vb])
  have d0:(H.alloc (.cells 3 [.int .i64 w,vv,vb])).ld ⟨H.nx,0,none⟩=some (.int .i64 w):=ak hw rfl
  have d1:(H.alloc (.cells 3 [.int .i64 w,vv,vb])).ld ⟨H.nx,1,none⟩=some vv:=ak hw rfl
  have d2:(H.alloc (.cells 3 [.int .i64 w,vv,vb])).ld ⟨H.nx,2,none⟩=some vb:=ak hw rfl
  have d:(H.alloc (.cells 3 [.int .i64 w,vv,vb])).ldn ⟨H.nx,0,none⟩ 3=some [.int .i64 w,vv,vb]:=bl hw 3 rfl
  generalize cJ:H.alloc (.cells 3 [.int .i64 w,vv,vb])=H1 at X1 d0 d1 d2 d
  have bP:=X1.wf hw
  have gb1:=X1.get hb
  have KE:∃s' n':Int,H1.get b=some (.cells 2 [.int .i64 s',.int .i64 n']):=⟨_,_,gb1⟩
  have mj:H1.n0≤b:=by rw [X1.n0];exact yF
  have GX1:=GX.trans X1
  have AJ:¬ H.nx=b:=by omega
  obtain ⟨a0,c0,kW⟩:=hr.len
  rw [hl.length]at kW
  have MX1:Mod (fun x=>x=b) H H1:=Mod.cj X1
  by_cases z0:0<l.length∧16<deep
  case pos=>
   obtain ⟨z1,z2⟩:=z0
   have oK:F=false:=FQ (by
    rintro ⟨_,q,_⟩
    obtain ⟨⟨op,n,args,thn,els⟩,hy⟩:∃y,l[0]?=some y:=⟨_,asl z1⟩
    have:=lN (k:=0) (asq hy)
    have:=(lJ thn 0 (by omega)).1
    omega)
   simp (maxSteps:=4000000)-implicitDefEqProofs+contextual [-X.ev,Pf,kW,cJ,z1,z2,oK,KE,MX1]
  refine tw [.r,.r] (fun fr H'=>H'=H1∧fr.get 0= .pointer (some ⟨b,0,none⟩)∧fr.get 2= .slice a0 l.length c0∧fr.get 3= .int .i64 deep∧fr.get 5= .pointer (some ⟨H.nx,0,none⟩)) rfl ?_ ?_
  case refine_2=>
   intro rest dm
   simp only [Pf,AI,AG]at dm
   by_cases z1:0<l.length
   ·have z2:¬ 16<deep:=fun q=>z0 ⟨z1,q⟩
    simp (maxSteps:=4000000)-implicitDefEqProofs+contextual [-X.ev,Pf,kW,cJ,z1,z2,dm]
   ·simp (maxSteps:=4000000)-implicitDefEqProofs+contextual [-X.ev,Pf,kW,cJ,z1,dm]
  rintro fr H' ⟨rfl,f0,f2,f3,f5⟩
  have gp:=aV l
  simp (maxSteps:=4000000)-implicitDefEqProofs+contextual [-X.ev,Pf,f0,f2,f3,f5]
  refine ch (fun j fr H2=>Mod (fun x=>x=b) H' H2∧∃i:Nat,i+j=l.length∧fr.get 0= .pointer (some ⟨b,0,none⟩)∧fr.get 3= .int .i64 deep∧fr.get 5= .pointer (some ⟨H.nx,0,none⟩)∧fr.get 20=vl∧fr.get 21= .int .i64 l.length∧fr.get 22= .int .i64 i∧
   H2.get b=some (.cells 2 [.int .i64 (stmts+ar (l.take i)),.int .i64 (nodes+av (l.take i))])∧nodes+av (l.take i)≤2000∧(0<i→nodes+av (l.take i)≤400)∧
   ∀op n args thn els,bD.mk op n args thn els∈l.take i→(deep+1+bE thn 0≤17∧deep+1+bE els 0≤17)∧fm w V (.mk op n args thn els)=true) ?_ l.length ⟨Mod.refl _ _,0,by simp,by simp [f0],by simp [f3],by simp [f5],by simp [kW],by simp,by simp,by simpa [ar,av]using gb1,by simp [av];omega,by simp,by simp⟩
  rintro j fr H2 ⟨M2,i,hi,f0,f3,f5,f20,f21,f22,Pq,hle,agm,aG⟩
  have M02:=MX1.trans M2
  have jr:=M2.wf bP
  have GX2:Ext G H2:=GX.mod M02 (by rintro x rfl;exact gb)
  have iL:H2.n0≤b:=by rw [M2.n0];exact mj
  have D0:=M2.ld (a:=⟨H.nx,0,none⟩) AJ d0
  have D1:=M2.ld (a:=⟨H.nx,1,none⟩) AJ d1
  have D:=M2.ldn (a:=⟨H.nx,0,none⟩) AJ d
  by_cases h:i<l.length
  case neg=>
   have ht:l.take i=l:=ass (by omega)
   rw [ht]at agm aG Pq hle
   have AK:F=decide (nodes+av l≤400):=by
    have p1:=EC (l:=l) (k:=0) (m:=17- deep) (by omega) fun op n args thn els hm=>by have:=(aG op n args thn els hm).1;omega
    have p2:decide (deep+bE l 0≤17)=true:=by simp;omega
    have p3:gu w V l=true:=kV.2 fun e he=>by obtain ⟨op,n,args,thn,els⟩:=e;exact (aG op n args thn els he).2
    rw [←hF,lZ,p2,p3]
    simp
   have l2:=aI Pq iL (k:=1) rfl
   simp (maxSteps:=4000000)-implicitDefEqProofs+contextual [-X.ev,f0,f3,f5,f20,f21,f22,h,l2]
   exact ⟨AK.symm,M02,_,_,Pq,fun _=>⟨rfl,rfl⟩⟩
  obtain ⟨⟨op,n,args,thn,els⟩,hy⟩:∃y,l[i]?=some y:=⟨_,asl h⟩
  have hs:=mC hy
  have pN:=asq hy
  have t1:=fy hy
  have t2:=gv hy
  have t3:=gp (i+1)
  have t4:=cm l i
  have t5:=gp i
  rw [bu]at t1
  rw [bw]at t2
  have u1:=bc args
  have u2:=bF thn
  have u3:=bF els
  have u4:=aQ thn
  have u5:=aQ els
  obtain ⟨b2,o2,c2,va,vt,ve,ra,rt,re,cA,bJ,_,_,_,_,_,i1,i2,i3,i4,i5,g1,g2,g3,g4,g5,g6⟩:=iN.row hr hl hy
  replace bJ:=GX2.ldn bJ
  rw [cA]at f20
  obtain ⟨aa,ca,gq⟩:=g1.len
  obtain ⟨at_,ct,xG⟩:=g3.len
  obtain ⟨ae,ce,tq⟩:=g5.len
  rw [g2.length]at gq
  rw [g4.length]at xG
  rw [g6.length]at tq
  obtain ⟨nt,U3⟩:∃nt,thn.length=nt:=⟨_,rfl⟩
  obtain ⟨ne_,gF⟩:∃nt,els.length=nt:=⟨_,rfl⟩
  rw [U3]at xG
  rw [gF]at tq
  have hdp:deep≤16:=by
   rcases Int.lt_or_le 16 deep with q|q
   ·exact absurd ⟨by omega,q⟩ z0
   ·exact q
  have mb:gu w V l=true→fm w V (.mk op n args thn els)=true:=fun q=>kV.1 q _ pN
  rw [fm,vr hV,U3,gF]at mb
  obtain ⟨H3,FP,X3,HU,HV,q,mm⟩:=eN (H:=H2) jr (z:=5) (c:=[.int .i64 0,.int .i64 0,.slice none 0 0,.slice none 0 0,.slice none 0 0]) (vs:=[.int .i64 op,.int .i64 n,va,vt,ve]) rfl
  have q0:H3.ld ⟨H2.nx,0,none⟩=some (.int .i64 op):=mm 0 _ rfl
  have q1:H3.ld ⟨H2.nx,1,none⟩=some (.int .i64 n):=mm 1 _ rfl
  have q2:H3.ld ⟨H2.nx,2,none⟩=some va:=mm 2 _ rfl
  have q3:H3.ld ⟨H2.nx,3,none⟩=some vt:=mm 3 _ rfl
  have q4:H3.ld ⟨H2.nx,4,none⟩=some ve:=mm 4 _ rfl
  clear mm
  replace q:H3.ldn ⟨H2.nx,0,none⟩ 5=some [.int .i64 op,.int .i64 n,va,vt,ve]:=q
  have yD:=X3.wf jr
  have MG:=X3.get Pq
  have uF:H3.n0≤b:=by rw [X3.n0];exact iL
  have Cv:¬ H2.nx=b:=by have:=AH.a8 Pq;omega
  obtain ⟨H4,s4,M4,zP,oQ,RU⟩:=cg MG uF (k:=0) (vs:=[.int .i64 (stmts+ar (l.take i)+1)]) (by simp)
  have RU:H4.get b=some (.cells 2 [.int .i64 (stmts+ar (l.take i)+1),.int .i64 (nodes+av (l.take i))]):=RU
  have lY:H4.n0≤b:=by rw [oQ];exact uF
  obtain ⟨H5,s5,M5,Pt,yG,KN⟩:=cg RU lY (k:=1) (vs:=[.int .i64 (nodes+av (l.take i)+1)]) (by simp)
  have KN:H5.get b=some (.cells 2 [.int .i64 (stmts+ar (l.take i)+1),.int .i64 (nodes+av (l.take i)+1)]):=KN
  have xH:H5.n0≤b:=by rw [yG];exact lY
  have U4:=M4.trans M5
  have Pu:=(Mod.cj X3).trans U4
  have Pr:=M02.trans Pu
  have Xv:Ext G H5:=GX.mod Pr (by rintro x rfl;exact gb)
  have rI:=Pr.wf hw
  have l3:=aI MG uF (k:=0) rfl
  have l4:=aI RU lY (k:=1) rfl
  have l5:=aI KN xH (k:=1) rfl
  have Q:=U4.ldn (a:=⟨H2.nx,0,none⟩) Cv q
  have Q0:=U4.ld (a:=⟨H2.nx,0,none⟩) Cv q0
  have Q2:=U4.ld (a:=⟨H2.nx,2,none⟩) Cv q2
  have Q3:=U4.ld (a:=⟨H2.nx,3,none⟩) Cv q3
  have Q4:=U4.ld (a:=⟨H2.nx,4,none⟩) Cv q4
  replace D0:=Pu.ld (a:=⟨H.nx,0,none⟩) AJ D0
  replace D1:=Pu.ld (a:=⟨H.nx,1,none⟩) AJ D1
  replace D:=Pu.ldn (a:=⟨H.nx,0,none⟩) AJ D
  have ex5:∃s' n':Int,H5.get b=some (.cells 2 [.int .i64 s',.int .i64 n']):=⟨_,_,KN⟩
  have w1:IntKind.i64.wrap (stmts+ar (l.take i)+1)=stmts+ar (l.take i)+1:=ai ⟨by omega,by omega⟩
  have w2:IntKind.i64.wrap (nodes+av (l.take i)+1)=nodes+av (l.take i)+1:=ai ⟨by omega,by omega⟩
  have Q2s:=Q2
  rw [gq]at Q2s
  by_cases k1:400<nodes+av (l.take i)+1
  ·have oK:F=false:=FQ (by rintro ⟨q,_⟩;omega)
   simp (maxSteps:=4000000)-implicitDefEqProofs+contextual [-X.ev,f0,f3,f5,f20,f21,f22,h,bJ,FP,l3,s4,w1,l4,s5,w2,l5,k1,oK,bm,aJ,aK,ex5,Pr]
  simp (maxSteps:=4000000)-implicitDefEqProofs+contextual [-X.ev,f0,f3,f5,f20,f21,f22,h,bJ,FP,l3,s4,w1,l4,s5,w2,l5,k1,D,Q,Q2s]
  apply ah
  ·(simp-implicitDefEqProofs [-X.ev];rfl)
  refine (Ia rI (hv.ext Xv)).mono ?_
  rintro x H6 ⟨rfl,X6⟩
  have ED:=X6.wf rI
  have GX6:=Xv.trans X6
  have M06:=Pr.trans (Mod.cj X6)
  have gb6:=X6.get KN
  have HY:H6.n0≤b:=by rw [X6.n0];exact xH
  have ex6:∃s' n':Int,H6.get b=some (.cells 2 [.int .i64 s',.int .i64 n']):=⟨_,_,gb6⟩
  have r0:=X6.ld Q0
  have r2:=X6.ld Q2
  have r3:=X6.ld Q3
  have r4:=X6.ld Q4
  replace D0:=X6.ld D0
  replace D1:=X6.ld D1
  replace D:=X6.ldn D
  have Q2n:=bg.1 Q2s
  have r2n:=bg.1 (X6.ld Q2s)
  by_cases k2:nZ V op n=args.length
  case neg=>
   have oK:F=false:=FQ (by rintro ⟨_,_,q⟩;have:=mb q;simp [k2]at this)
   simp (maxSteps:=4000000)-implicitDefEqProofs+contextual [-X.ev,k2,oK,bm,aJ,aK,ex6,M06,Q2n,r2n,X6.n0,X6.nx]
  have oK:tA op nt ne_=false→F=false:=fun z=>FQ (by rintro ⟨_,_,q⟩;have:=mb q;simp [z]at this)
  refine Xo 1 [.r] (fun fr H'=>H'=H6∧tA op nt ne_=true∧fr.get 0= .pointer (some ⟨b,0,none⟩)∧fr.get 3= .int .i64 deep∧fr.get 5= .pointer (some ⟨H.nx,0,none⟩)∧fr.get 10= .pointer (some ⟨H2.nx,0,none⟩)∧fr.get 20= .slice (some ⟨b2,o2,none⟩) l.length c2∧fr.get 21= .int .i64 l.length∧fr.get 22= .int .i64 i) rfl ?_ ?_
  case refine_2=>
   intro rest dm
   rw [xG]at r3
   rw [tq]at r4
   simp only [yz,AI,AG]at dm
   simp (maxSteps:=4000000)-implicitDefEqProofs+contextual [-X.ev,wD,tA,k2,oK,bm,aJ,aK,ex6,M06,Q2n,r2n,X6.n0,X6.nx,r0,r3,r4,dm,f0,f3,f5,f20,f21,f22]
  simp only [yz,AI,AG,Cr,MC,MB]
  rintro cq H' ⟨rfl,k3,f0,f3,f5,f10,f20,f21,f22⟩
  rw [gq]at r2
  simp (maxSteps:=4000000)-implicitDefEqProofs+contextual [-X.ev,f0,f3,f5,f10,f20,f21,f22,r2]
  refine ch (fun j2 fr H7=>Mod (fun x=>x=b) H' H7∧∃i2:Nat,i2+j2=args.length∧fr.get 0= .pointer (some ⟨b,0,none⟩)∧fr.get 3= .int .i64 deep∧fr.get 5= .pointer (some ⟨H.nx,0,none⟩)∧fr.get 10= .pointer (some ⟨H2.nx,0,none⟩)∧fr.get 20= .slice (some ⟨b2,o2,none⟩) l.length c2∧fr.get 21= .int .i64 l.length∧fr.get 22= .int .i64 i∧
   fr.get 80=va∧fr.get 81= .int .i64 args.length∧fr.get 82= .int .i64 i2∧
   H7.get b=some (.cells 2 [.int .i64 (stmts+ar (l.take i)+1),.int .i64 (nodes+av (l.take i)+1+aw (args.take i2))])∧aw (args.take i2)≤400*i2∧
   ∀e∈args.take i2,ie w V 1 e=true) ?_ args.length ⟨Mod.refl _ _,0,by simp,by simp [f0],by simp [f3],by simp [f5],by simp [f10],by simp [f20],by simp [f21],by simp [f22],by simp [gq],by simp,by simp,by simpa [aw]using gb6,by simp [aw],by simp⟩
  rintro j2 fr H7 ⟨M7,i2,EF,f0,f3,f5,f10,f20,f21,f22,f80,f81,f82,U1,agp,Ie⟩
  have M07:=M06.trans M7
  have U5:=M07.wf hw
  have GX7:Ext G H7:=GX.mod M07 (by rintro x rfl;exact gb)
  have Ig:H7.n0≤b:=by rw [M7.n0];exact HY
  have VP:(args.length:Int)≤2:=by rw [←k2];exact Ib V op n
  have D0':=M7.ld (a:=⟨H.nx,0,none⟩) AJ D0
  have D1':=M7.ld (a:=⟨H.nx,1,none⟩) AJ D1
  have D':=M7.ldn (a:=⟨H.nx,0,none⟩) AJ D
  by_cases h2:i2<args.length
  ·obtain ⟨y,Al⟩:∃y,args[i2]?=some y:=⟨_,asl h2⟩
   obtain ⟨b3,o3,c3,va3,r,FD,Ih,rfl,kO⟩:=gG.row g1 g2 Al
   replace Ih:=GX7.ldn Ih
   rw [FD]at f80
   obtain ⟨H8,sH8,X8,aog,agu,p,Xw⟩:=eN (H:=H7) U5 (z:=4) (c:=[.int .i64 0,.int .i64 0,.int .i64 0,.slice none 0 0]) (vs:=[.int .i64 y.op,.int .i64 y.n,.int .i64 y.cp,va3]) rfl
   have p0:H8.ld ⟨H7.nx,0,none⟩=some (.int .i64 y.op):=Xw 0 _ rfl
   have p1:H8.ld ⟨H7.nx,1,none⟩=some (.int .i64 y.n):=Xw 1 _ rfl
   have p2:H8.ld ⟨H7.nx,2,none⟩=some (.int .i64 y.cp):=Xw 2 _ rfl
   have p3:H8.ld ⟨H7.nx,3,none⟩=some va3:=Xw 3 _ rfl
   clear Xw
   replace p:H8.ldn ⟨H7.nx,0,none⟩ 4=some [.int .i64 y.op,.int .i64 y.n,.int .i64 y.cp,va3]:=p
   have agv:=X8.wf U5
   replace D0':=X8.ld D0'
   replace D1':=X8.ld D1'
   have Xx:=GX7.trans X8
   have gb8:=X8.get U1
   simp (maxSteps:=4000000)-implicitDefEqProofs+contextual [-X.ev,f0,f3,f5,f10,f20,f21,f22,f80,f81,f82,h2,Ih,sH8,D0',D1',p]
   apply ah
   ·(simp-implicitDefEqProofs [-X.ev];rfl)
   refine (EB (k:=1) agv (hv.ext Xx) rU (kO.ext Xx)).mono ?_
   rintro x H9 ⟨rfl,X9⟩
   rw [MJ hV]
   have M09:=M07.trans ((Mod.cj X8).trans (Mod.cj X9))
   have U6:=X9.get gb8
   have ex9:∃s' n':Int,H9.get b=some (.cells 2 [.int .i64 s',.int .i64 n']):=⟨_,_,U6⟩
   cases k4:ie w V 1 y with
   |false=>
    have AK:F=false:=FQ (by
     rintro ⟨_,_,q⟩
     have:=mb q
     simp only [aso,asB]at this
     have:=this.2.2.2 y (asq Al)
     rw [k4]at this;cases this)
    simp (maxSteps:=4000000)-implicitDefEqProofs+contextual [-X.ev,k4,AK,ex9,M09]
   |true=>
    have hb9:H9.n0≤b:=by rw [X9.n0,agu];exact Ig
    have l9:=aI U6 hb9 (k:=1) rfl
    have l9n:=bg.1 l9
    have aoi:aB y≤400:=by simp [ie]at k4;exact k4.1
    have aoj:=ec y
    replace p:=X9.ldn p
    have hw9:=M09.wf hw
    have GX9:=Xx.trans X9
    simp (maxSteps:=4000000)-implicitDefEqProofs+contextual [-X.ev,k4,f0,f3,f5,f10,f20,f21,f22,f80,f81,f82,l9,p]
    apply ah
    ·(simp-implicitDefEqProofs [-X.ev];rfl)
    refine (vn _ y _ H9 (asA _) hw9 (kO.ext GX9) (by omega)).mono ?_
    rintro x zQ ⟨rfl,Xy⟩
    have Xz:=Xy.get U6
    have XA:zQ.n0≤b:=by rw [Xy.n0];exact hb9
    have s1:=eK Al
    have agy:=bg.1 (aI Xz XA (k:=1) rfl)
    obtain ⟨H11,s11,M11,XC,XD,RY⟩:=cg Xz XA (k:=1) (vs:=[.int .i64 (nodes+av (l.take i)+1+aw (args.take i2)+aB y)]) (by simp)
    have RY:H11.get b=some (.cells 2 [.int .i64 (stmts+ar (l.take i)+1),.int .i64 (nodes+av (l.take i)+1+aw (args.take i2)+aB y)]):=RY
    have s2:=bj args i2
    have wr:IntKind.i64.wrap (nodes+av (l.take i)+1+aw (args.take i2)+aB y)=nodes+av (l.take i)+1+aw (args.take i2)+aB y:=ai ⟨by omega,by omega⟩
    have wi:IntKind.i64.wrap ((i2:Int)+1)=(i2:Int)+1:=ai ⟨by omega,by omega⟩
    simp (maxSteps:=4000000)-implicitDefEqProofs+contextual [-X.ev,f0,f3,f5,f10,f20,f21,f22,f80,f81,f82,wr,s11,bm,aJ,aK,l9n,agy,Xy.n0,Xy.nx,XD,XC,wi]
    refine ⟨j2- 1,by omega,M7.trans ((Mod.cj (X8.trans (X9.trans Xy))).trans M11),i2+1,by omega,FD.symm,by simp,?_,by omega,fun z hz=>?_⟩
    ·rw [RY,s1]
     rw [show nodes+av (l.take i)+1+aw (args.take i2)+aB y=nodes+av (l.take i)+1+(aw (args.take i2)+aB y) by omega]
    ·rw [List.take_add_one,Al]at hz
     rcases List.mem_append.1 hz with hz|hz
     ·exact Ie z hz
     ·simp at hz;subst hz;exact k4
  ·have ht:args.take i2=args:=ass (by omega)
   rw [ht]at agp Ie U1
   have Ig:=Ig
   have q3':=M7.ld (a:=⟨H2.nx,3,none⟩) Cv r3
   have q4':=M7.ld (a:=⟨H2.nx,4,none⟩) Cv r4
   have wd:IntKind.i64.wrap (deep+1)=deep+1:=ai ⟨by omega,by omega⟩
   simp (maxSteps:=4000000)-implicitDefEqProofs+contextual [-X.ev,f0,f3,f5,f10,f20,f21,f22,f80,f81,f82,h2,D',q3',wd]
   have ka:aw args≤800:=by omega
   apply ah
   ·(simp-implicitDefEqProofs [-X.ev];rfl)
   refine (ih thn vt rt G H7 (deep+1) (stmts+ar (l.take i)+1) (nodes+av (l.take i)+1+aw args) b (by omega) U5 GX7 gb hv i4 g3 g4 U1 Ig (by omega) (by omega) (by omega)).mono ?_
   rintro x H8 ⟨rfl,M8,s',n',gb8,hl8⟩
   have M08:=M07.trans M8
   have ex8:∃s' n':Int,H8.get b=some (.cells 2 [.int .i64 s',.int .i64 n']):=⟨_,_,gb8⟩
   cases k5:lZ w V thn (deep+1) (nodes+av (l.take i)+1+aw args)with
   |false=>
    have AK:F=false:=FQ (by
     rintro ⟨q1,q2,q⟩
     have:=mb q
     simp only [aso]at this
     have r1:=this.2.1
     have r2:=lN (k:=0) pN
     have:lZ w V thn (deep+1) (nodes+av (l.take i)+1+aw args)=true:=kY.2 ⟨by omega,by omega,r1⟩
     rw [k5]at this;cases this)
    simp (maxSteps:=4000000)-implicitDefEqProofs+contextual [-X.ev,f0,f3,f5,AK,ex8,M08]
   |true=>
    obtain ⟨rfl,rfl⟩:=hl8 k5
    have k5':=kY.1 k5
    have eB:=M08.wf hw
    have Xx:Ext G H8:=GX.mod M08 (by rintro x rfl;exact gb)
    have XE:H8.n0≤b:=by rw [M8.n0];exact Ig
    have D8:=M8.ldn (a:=⟨H.nx,0,none⟩) AJ D'
    have q48:=M8.ld (a:=⟨H2.nx,4,none⟩) Cv q4'
    simp (maxSteps:=4000000)-implicitDefEqProofs+contextual [-X.ev,f0,f3,f5,f10,f20,f21,f22,D8,q48,wd]
    apply ah
    ·(simp-implicitDefEqProofs [-X.ev];rfl)
    refine (ih els ve re G H8 (deep+1) (stmts+ar (l.take i)+1+ar thn) (nodes+av (l.take i)+1+aw args+av thn) b (by omega) eB Xx gb hv i5 g5 g6 gb8 XE (by omega) (by omega) (by omega)).mono ?_
    rintro x H9 ⟨rfl,M9,s',n',U6,hl9⟩
    have M09:=M08.trans M9
    have ex9:∃s' n':Int,H9.get b=some (.cells 2 [.int .i64 s',.int .i64 n']):=⟨_,_,U6⟩
    cases k6:lZ w V els (deep+1) (nodes+av (l.take i)+1+aw args+av thn)with
    |false=>
     have AK:F=false:=FQ (by
      rintro ⟨q1,q2,q⟩
      have:=mb q
      simp only [aso]at this
      have r1:=this.2.2.1
      have r2:=lN (k:=0) pN
      have:lZ w V els (deep+1) (nodes+av (l.take i)+1+aw args+av thn)=true:=kY.2 ⟨by omega,by omega,r1⟩
      rw [k6]at this;cases this)
     simp (maxSteps:=4000000)-implicitDefEqProofs+contextual [-X.ev,f0,f3,f5,AK,ex9,M09]
    |true=>
     obtain ⟨rfl,rfl⟩:=hl9 k6
     have k6':=kY.1 k6
     have wi:IntKind.i64.wrap ((i:Int)+1)=(i:Int)+1:=ai ⟨by omega,by omega⟩
     simp (maxSteps:=4000000)-implicitDefEqProofs+contextual [-X.ev,f0,f3,f5,f10,f20,f21,f22,wi]
     refine ⟨j- 1,by omega,M2.trans (Pu.trans ((Mod.cj X6).trans (M7.trans (M8.trans M9)))),i+1,by omega,cA.symm,by simp,?_,by omega,fun _=>by omega,?_⟩
     ·rw [U6,t1,t2]
      rw [show stmts+ar (l.take i)+1+ar thn+ar els=stmts+(ar (l.take i)+(1+ar thn+ar els)) by omega,show nodes+av (l.take i)+1+aw args+av thn+av els=nodes+(av (l.take i)+(1+aw args+av thn+av els)) by omega]
     ·intro op' n' Cp En Eo hz
      rw [List.take_add_one,hy]at hz
      rcases List.mem_append.1 hz with hz|hz
      ·exact aG _ _ _ _ _ hz
      ·simp only [Option.toList_some,List.mem_singleton]at hz
       cases hz
       refine ⟨⟨by omega,by omega⟩,?_⟩
       rw [fm,vr hV,U3,gF]
       simp only [k2,k3,k5'.2.2,k6'.2.2,decide_true,Bool.true_and,asB]
       exact Ie
end Go.Proofs.YtppcmpmnglaleaaGreatDoor.A
namespace Go.Proofs.YtppcmpmnglaleaaGreatDoor.A
open Go
theorem oh {n0:Nat}:∀{a b x y:List Value},aT n0 a=some x→aT n0 b=some y→aT n0 (a++b)=some (x++y)
 |[],b,x,y,h,k=>by simp [aT]at h;subst h;simpa using k
 |v::a,b,x,y,h,k=>by
  simp only [aT]at h
  split at h
  case h_2=>cases h
  rename_i z m hz hm
  cases h
  have:=oh hm k
  simp only [List.cons_append,aT,hz,this]
theorem AL {H:AH} {b o n m:Nat} {x y:List Value} (h:H.ldn ⟨b,o,none⟩ n=some x) (k:H.ldn ⟨b,o+n,none⟩ m=some y):H.ldn ⟨b,o,none⟩ (n+m)=some (x++y):=by
 unfold AH.ldn at h k⊢
 dsimp only at h k⊢
 cases hg:H.get b with
 |none=>simp [hg]at h
 |some z=>
  cases z with
  |map es=>simp [hg]at h
  |cells z c=>
   simp only [hg]at h k⊢
   obtain ⟨h1,h⟩:=aD h
   obtain ⟨k1,k⟩:=aD k
   simp only [asx]at h1 k1
   have e:(c.drop o).take (n+m)=(c.drop o).take n++(c.drop (o+n)).take m:=by
    rw [List.take_add,List.drop_drop]
   rw [show decide (o+(n+m)≤c.length)=true by simp;omega,cond_true,e]
   cases hd:decide (b<H.n0)with
   |false=>
    rw [hd]at h k
    simp only [cond_false,asm]at h k⊢
    rw [h,k]
   |true=>
    rw [hd]at h k
    simp only [cond_true]at h k⊢
    exact oh h k
theorem Rows.Ii {H:AH} {sz:Nat} {v:Value} {rows:List (List Value)} (h:Rows H sz v rows):∀r∈rows,r.length=sz:=by
 intro r hr
 obtain ⟨i,hi,rfl⟩:=List.mem_iff_getElem.1 hr
 obtain ⟨b,o,c,e,hl⟩:=h.at (asl hi)
 exact (dH hl).2
theorem cC {sz:Nat}:∀{rows:List (List Value)},(∀r∈rows,r.length=sz)→rows.flatten.length=rows.length*sz
 |[],_=>by simp
 |r::rows,h=>by
  rw [List.flatten_cons,asu,h r (by simp),cC fun q hq=>h q (by simp [hq]),List.length_cons,Nat.succ_mul]
  omega
theorem Rows.whole {H:AH} {sz b o c:Nat} {rows:List (List Value)} (h:Rows H sz (.slice (some ⟨b,o,none⟩) rows.length c) rows):∀k,k≤rows.length→0<k→H.ldn ⟨b,o,none⟩ (k*sz)=some (rows.take k).flatten:=by
 intro k
 induction k with
 |zero=>intro _ h;omega
 |succ k ih=>
  intro hk _
  obtain ⟨b',o',c',e,hl⟩:=h.at (i:=k) (asl (by omega))
  cases e
  rw [List.take_add_one,asl (by omega),List.flatten_append]
  by_cases hk0:k=0
  ·subst hk0
   simpa using hl
  ·have:=AL (ih (by omega) (by omega)) hl
   rw [show(k+1)*sz=k*sz+sz by rw [Nat.succ_mul],this]
   simp only [Option.toList_some,List.flatten_cons,List.flatten_nil,List.append_nil]
theorem Rows.src {H:AH} {sz:Nat} {v:Value} {rows:List (List Value)} (h:Rows H sz v rows):qz H sz v=some rows.flatten∧nI v=some rows.length:=by
 obtain ⟨a,c,rfl,k⟩:=h.is
 refine ⟨?_,rfl⟩
 by_cases e:rows=[]
 ·subst e
  cases a<;>simp [qz]
 ·have MK:0<rows.length:=List.length_pos_iff.2 e
  obtain ⟨b,o,rfl,h2⟩:=k 0 _ (asl MK)
  have:=Rows.whole (H:=H) (sz:=sz) (b:=b) (o:=o) (c:=c) (rows:=rows) ⟨_,_,rfl,k⟩ rows.length (asp _) MK
  simp only [qz,nb]
  rw [show decide (rows.length=0)=false by simp [e],cond_false,this,List.take_length]
structure dN (H:AH) (sz:Nat) (v:Value) (rows:List (List Value)):Prop where
 is:(v= .slice none 0 0∧rows=[])∨∃b,v= .slice (some ⟨b,0,none⟩) rows.length rows.length∧H.n0≤b∧H.get b=some (.cells sz rows.flatten)
 len:∀r∈rows,r.length=sz
def aX (v:Value) (b:Nat):Prop:=∃o n c,v= .slice (some ⟨b,o,none⟩) n c
theorem bG (b b' o n c:Nat):aX (.slice (some ⟨b,o,none⟩) n c) b'↔b'=b:=by
 unfold aX
 constructor
 ·rintro ⟨o',n',c',e⟩;cases e;rfl
 ·rintro rfl;exact ⟨_,_,_,rfl⟩
theorem dI (b n c:Nat):¬ aX (.slice none n c) b:=by rintro ⟨_,_,_,e⟩;cases e
theorem dN.nil (H:AH) (sz:Nat):dN H sz (.slice none 0 0) []:=⟨.inl ⟨rfl,rfl⟩,by simp⟩
theorem dN.lt {H:AH} {sz b:Nat} {v:Value} {rows:List (List Value)} (h:dN H sz v rows) (hb:aX v b):b<H.nx:=by
 rcases h.is with⟨rfl,_⟩|⟨b',rfl,_,hg⟩
 ·exact absurd hb (dI _ _ _)
 ·rw [(bG _ _ _ _ _).1 hb];exact AH.a8 hg
theorem dN.shape {H:AH} {sz:Nat} {v:Value} {rows:List (List Value)} (h:dN H sz v rows):∃a c,v= .slice a rows.length c:=by
 rcases h.is with⟨rfl,rfl⟩|⟨b,rfl,_⟩
 ·exact ⟨_,_,rfl⟩
 ·exact ⟨_,_,rfl⟩
theorem jz {sz:Nat}:∀{rows:List (List Value)} {i:Nat} {r:List Value},(∀r∈rows,r.length=sz)→rows[i]?=some r→((rows.flatten.drop (i*sz)).take sz)=r∧i*sz+sz≤rows.flatten.length
 |[],i,r,_,h=>by simp at h
 |x::rows,0,r,hl,h=>by
  simp at h;subst h
  have:=hl x (by simp)
  simp [this]
 |x::rows,i+1,r,hl,h=>by
  have hx:=hl x (by simp)
  have ih:=jz (fun q hq=>hl q (by simp [hq])) (i:=i) (r:=r) (rows:=rows) (by simpa using h)
  rw [List.flatten_cons,Nat.succ_mul,asu,hx]
  refine ⟨?_,by omega⟩
  rw [show i*sz+sz=x.length+i*sz by omega,←List.drop_drop,List.drop_left]
  exact ih.1
theorem dN.rows {H:AH} {sz:Nat} {v:Value} {rows:List (List Value)} (h:dN H sz v rows):Rows H sz v rows:=by
 rcases h.is with⟨rfl,rfl⟩|⟨b,rfl,h0,hg⟩
 ·exact ⟨_,_,rfl,by simp⟩
 ·refine ⟨_,_,rfl,fun i r hi=>⟨b,0,rfl,?_⟩⟩
  obtain ⟨e1,e2⟩:=jz h.len hi
  rw [bW hg h0 (by simpa using e2)]
  simpa using e1
theorem dN.mod {S:Nat→Prop} {H H':AH} {sz:Nat} {v:Value} {rows:List (List Value)} (h:dN H sz v rows) (M:Mod S H H') (hs:∀b,aX v b→¬ S b):dN H' sz v rows:=by
 refine ⟨?_,h.len⟩
 rcases h.is with⟨rfl,rfl⟩|⟨b,rfl,h0,hg⟩
 ·exact .inl ⟨rfl,rfl⟩
 ·exact .inr ⟨b,rfl,by rw [M.n0];exact h0,M.get (hs b ((bG _ _ _ _ _).2 rfl)) hg⟩
theorem dN.ext {H H':AH} {sz:Nat} {v:Value} {rows:List (List Value)} (h:dN H sz v rows) (X:Ext H H'):dN H' sz v rows:=h.mod (Mod.cj (S:=fun _=>False) X) (by simp)
theorem tB {H:AH} {sz bytes:Nat} {s x:Value} {rows new:List (List Value)} (hw:H.n0≤H.nx) (hs:dN H sz s rows) (hx:Rows H sz x new) (hb:(rows.length+new.length)*bytes≤2^47) (tC:rows.length+new.length<2^62):
 ∃s' H',bI sz bytes H s x=some (s',H')∧dN H' sz s' (rows++new)∧Mod (aX s) H H'∧(∀b,aX s' b→aX s b∨H.nx≤b)∧(new≠[]→∀b,aX s' b→H.nx≤b):=by
 obtain ⟨my,hlen⟩:=hx.src
 have hl:=hx.Ii
 have Cw:∀r∈rows++new,r.length=sz:=by
  intro r hr
  rcases List.mem_append.1 hr with h|h
  ·exact hs.len r h
  ·exact hl r h
 by_cases n0:new=[]
 ·subst n0
  refine ⟨s,H,?_,by simpa using hs,Mod.refl _ _,fun b hb=>.inl hb,fun h=>absurd rfl h⟩
  rcases hs.is with⟨rfl,rfl⟩|⟨b,rfl,h0,hg⟩
  ·simp [bI,hlen]
  ·simp [bI,hlen]
 have aou:0<new.length:=List.length_pos_iff.2 n0
 have hnz:¬ new.length=0:=by omega
 have Ij:new.flatten.length=new.length*sz:=cC hl
 by_cases r0:rows=[]
 ·subst r0
  simp only [List.length_nil,Nat.zero_add]at hb tC
  refine ⟨.slice (some ⟨H.nx,0,none⟩) new.length new.length,H.alloc (.cells sz new.flatten),?_,⟨.inr ⟨H.nx,rfl,hw,cK _ _⟩,Cw⟩,Mod.cj (Ext.alloc _ _),fun b hb=>.inr (by rw [(bG _ _ _ _ _).1 hb];exact asp _),fun _ b hb=>by rw [(bG _ _ _ _ _).1 hb];exact asp _⟩
  rcases hs.is with⟨rfl,_⟩|⟨b,rfl,h0,hg⟩
  ·simp [bI,hlen,my,hnz,n0,hb,tC,nb]
  ·simp [bI,hlen,my,hnz,n0,hb,tC,nb]
 have aov:0<rows.length:=List.length_pos_iff.2 r0
 rcases hs.is with⟨rfl,h⟩|⟨b,rfl,h0,hg⟩
 ·exact absurd h r0
 have hold:H.ldn ⟨b,0,none⟩ (rows.length*sz)=some rows.flatten:=by
  have:=cC hs.len
  rw [bW hg h0 (by omega),←this]
  simp only [List.drop_zero,List.take_length]
 have yH:H.lE b sz=true:=by simp [AH.lE,hg]
 have a1:¬ rows.length+new.length≤rows.length:=by omega
 have a2:¬ rows.length=0:=by omega
 refine ⟨.slice (some ⟨H.nx,0,none⟩) (rows++new).length (rows++new).length,(H.put b none).alloc (.cells sz (rows++new).flatten),?_,⟨.inr ⟨H.nx,rfl,hw,?_⟩,Cw⟩,⟨rfl,Nat.le_succ _,fun c hc hs=>?_⟩,fun c hc=>.inr (by rw [(bG _ _ _ _ _).1 hc];exact asp _),fun _ c hc=>by rw [(bG _ _ _ _ _).1 hc];exact asp _⟩
 ·simp [bI,hlen,my,hnz,n0,r0,hb,tC,a1,a2,h0,yH,hold]
 ·exact cK (H.put b none) _
 ·rw [bG]at hs
  rw [AH.dS,if_neg (by rw [AH.F7];omega),AH.sJ,if_neg hs]
theorem wH {H:AH} {sz bytes:Nat} {s x:Value} {rows new:List (List Value)} (hw:H.n0≤H.nx) (hs:dN H sz s rows) (hx:Rows H sz x new) (hb:(rows.length+new.length)*bytes≤2^47) (tC:rows.length+new.length<2^62):
 ∃s' H',bI sz bytes H s x=some (s',H')∧dN H' sz s' (rows++new)∧Mod (aX s) H H'∧∀b,aX s' b→aX s b∨H.nx≤b:=by
 obtain ⟨s',H',a,b,c,d,_⟩:=tB hw hs hx hb tC
 exact ⟨s',H',a,b,c,d⟩
theorem iA (z c:List Value) (h:c.length=z.length):aP z 0 c=c:=by
 have:aP z 0 c=c++z.drop c.length:=by cases z<;>rfl
 rw [this,List.drop_eq_nil_of_le (by omega)];simp
theorem rY {sz:Nat} {z:List Value} {H:AH} {v:Value} (hv:(aZ v).length=sz) (ht:cY v=false) (hz:z.length=sz):
 nL 1 sz z H [(0,sz,v)]=some (.slice (some ⟨H.nx,0,none⟩) 1 1,H.alloc (.cells sz (aZ v))):=by
 simp only [nL,jM,nb,hv,hz,ht,Nat.zero_add,decide_true,asp,Bool.not_false,Bool.and_self,cond_true]
 rw [iA _ _ (by omega)]
 rfl
theorem gT {H H1:AH} {sz bytes:Nat} {s:Value} {rows:List (List Value)} {r:List Value} (hw:H.n0≤H.nx) (hs:dN H sz s rows) (hr:r.length=sz) (h1:H.alloc (.cells sz r)=H1) (hb:(rows.length+1)*bytes≤2^47) (tC:rows.length+1<2^62):
 ∃s' H',bI sz bytes H1 s (.slice (some ⟨H.nx,0,none⟩) 1 1)=some (s',H')∧dN H' sz s' (rows++[r])∧Mod (aX s) H H'∧(∀b,aX s' b→H.nx≤b)∧H'.n0=H.n0∧H.nx≤H'.nx∧H'.n0≤H'.nx∧H1.n0=H.n0∧H.nx≤H1.nx∧H1.nx≤H'.nx:=by
 subst h1
 have X:=Ext.alloc H (.cells sz r)
 have hx:Rows (H.alloc (.cells sz r)) sz (.slice (some ⟨H.nx,0,none⟩) 1 1) [r]:=⟨_,_,rfl,fun i q hi=>by
  cases i with
  |zero=>
   simp at hi;subst hi
   refine ⟨H.nx,0,rfl,?_⟩
   have:=sq hw sz r
   rw [hr]at this
   simpa using this
  |succ i=>simp at hi⟩
 obtain ⟨s',H',e,o,M,_,k⟩:=tB (bytes:=bytes) (X.wf hw) (hs.ext X) hx hb tC
 have M':Mod (aX s) H H':=(Mod.cj X).trans M
 exact ⟨s',H',e,o,M',fun b hb=>Nat.le_trans X.nx (k (by simp) b hb),M'.n0,M'.nx,M'.wf hw,X.n0,X.nx,M.nx⟩
structure Sub (G H:AH):Prop where
 n0:H.n0=G.n0
 nx:G.nx≤H.nx
 get:∀b x,G.get b=some x→H.get b=some x
theorem Sub.cj {G H:AH} (h:Ext G H):Sub G H:=⟨h.n0,h.nx,fun b x k=>h.get k⟩
theorem Sub.trans {a b c:AH} (h:Sub a b) (k:Sub b c):Sub a c:=⟨k.n0.trans h.n0,Nat.le_trans h.nx k.nx,fun x y e=>k.get x y (h.get x y e)⟩
theorem Sub.mod {S:Nat→Prop} {G H H':AH} (h:Sub G H) (M:Mod S H H') (hs:∀b,S b→G.get b=none):Sub G H':=
 ⟨M.n0.trans h.n0,Nat.le_trans h.nx M.nx,fun b x k=>M.get (fun q=>by rw [hs b q]at k;cases k) (h.get b x k)⟩
theorem Sub.RZ {G H H':AH} (h:Sub G H) (X:Ext H H'):Sub G H':=h.trans (Sub.cj X)
theorem Sub.ldn {G H:AH} (h:Sub G H) {a:Addr} {n:Nat} {vs:List Value} (k:G.ldn a n=some vs):H.ldn a n=some vs:=by
 obtain ⟨x,hx⟩:=Option.isSome_iff_exists.1 (dH k).1
 rw [←k]
 exact fx (by rw [h.get _ _ hx,hx]) h.n0
theorem Sub.ld {G H:AH} (h:Sub G H) {a:Addr} {v:Value} (k:G.ld a=some v):H.ld a=some v:=bg.2 (h.ldn (bg.1 k))
theorem Rows.sub {H H':AH} (E:Sub H H') {sz:Nat} {v:Value} {rows:List (List Value)} (h:Rows H sz v rows):Rows H' sz v rows:=by
 obtain ⟨a,c,rfl,k⟩:=h.is
 exact ⟨a,c,rfl,fun i r hi=>let⟨b,o,h1,h2⟩:=k i r hi;⟨b,o,h1,E.ldn h2⟩⟩
theorem eM.sub {H H':AH} (E:Sub H H') {v:Value} {l:List Int} (h:eM H v l):eM H' v l:=Rows.sub E h
def AH.uS (H:AH):List Nat→AH
 |[]=>H
 |b::l=>(H.put b none).uS l
theorem tD:∀(l:List Nat) (H:AH) (c:Nat),(H.uS l).get c=if c∈l then none else H.get c
 |[],H,c=>by simp [AH.uS]
 |b::l,H,c=>by
  rw [AH.uS,tD l,AH.sJ]
  by_cases h1:c∈l
  ·simp [h1]
  ·by_cases h2:c=b<;>simp [h1,h2]
theorem wI:∀(l:List Nat) (H:AH),(H.uS l).n0=H.n0
 |[],H=>rfl
 |b::l,H=>by rw [AH.uS,wI l];rfl
theorem wJ:∀(l:List Nat) (H:AH),(H.uS l).nx=H.nx
 |[],H=>rfl
 |b::l,H=>by rw [AH.uS,wJ l];rfl
theorem Ik (l:List Nat) (H:AH):Sub (H.uS l) H:=⟨(wI l H).symm,by rw [wJ];exact asp _,fun b x k=>by
 rw [tD]at k
 split at k
 ·cases k
 ·exact k⟩
open Go
theorem yI {p:bf} (h:aC p.w p.vars=true):lZ p.w p.vars p.body 1 0=bq p:=by
 unfold lZ bq
 rw [h,show decide ((1:Int)+bE p.body 0≤17)=decide (bE p.body 0≤16) by rw [Bool.eq_iff_iff];simp;omega,show decide (0+av p.body≤400)=decide (av p.body≤400) by rw [Bool.eq_iff_iff];simp]
 simp
theorem Cy:fg [.int .i64 0,.int .i64 0] []=some (.agg #[.int .i64 0,.int .i64 0]):=rfl
theorem AM {p:bf} {c:List Value} {H:AH} (hw:H.n0≤H.nx) (hp:qI H c p):Ca E O 68 [.agg c.toArray] H (fun x H'=>x= .tuple #[.agg #[.int .i64 (if bq p=true then ar p.body else 0),.int .i64 (if bq p=true then av p.body else 0)],.bool (bq p)]∧Ext H H'):=by
 obtain ⟨vv,vb,rb,rfl,hi,hv,zK,hr,hl,nK⟩:=hp.is
 refine Ca.aS (F:=a68) rfl rfl rfl ?_
 have X1:=Ext.alloc H (.cells 3 [.int .i64 p.w,vv,vb])
 have d0:(H.alloc (.cells 3 [.int .i64 p.w,vv,vb])).ld ⟨H.nx,0,none⟩=some (.int .i64 p.w):=ak hw rfl
 have d1:(H.alloc (.cells 3 [.int .i64 p.w,vv,vb])).ld ⟨H.nx,1,none⟩=some vv:=ak hw rfl
 have d2:(H.alloc (.cells 3 [.int .i64 p.w,vv,vb])).ld ⟨H.nx,2,none⟩=some vb:=ak hw rfl
 have d:(H.alloc (.cells 3 [.int .i64 p.w,vv,vb])).ldn ⟨H.nx,0,none⟩ 3=some [.int .i64 p.w,vv,vb]:=bl hw 3 rfl
 generalize cJ:H.alloc (.cells 3 [.int .i64 p.w,vv,vb])=H1 at X1 d0 d1 d2 d
 have bP:=X1.wf hw
 have X2:=Ext.alloc H1 (.cells 2 [.int .i64 0,.int .i64 0])
 have g2:=cK H1 (.cells 2 [.int .i64 0,.int .i64 0])
 generalize kl:H1.alloc (.cells 2 [.int .i64 0,.int .i64 0])=H2 at X2 g2
 have jr:=X2.wf bP
 have iL:H2.n0≤H1.nx:=by rw [X2.n0];exact bP
 replace d0:=X2.ld d0
 replace d1:=X2.ld d1
 replace d2:=X2.ld d2
 replace d:=X2.ldn d
 have fU:=X1.trans X2
 simp (maxSteps:=4000000)-implicitDefEqProofs+contextual [-X.ev,a68,cJ,kl,d0,d1]
 apply ah
 ·(simp-implicitDefEqProofs [-X.ev];rfl)
 refine (Cu jr (hv.ext fU) zK p.w).mono ?_
 rintro x H3 ⟨rfl,X3⟩
 have g3:=X3.get g2
 have uF:H3.n0≤H1.nx:=by rw [X3.n0];exact iL
 have iM:=fU.trans X3
 have nm:=X3.wf jr
 cases h1:aC p.w p.vars with
 |false=>
  have h2:bq p=false:=by simp [bq,h1]
  obtain ⟨H4,s4,M4,zP,oQ,g4⟩:=cg g3 uF (k:=0) (vs:=[.int .i64 0,.int .i64 0]) (by simp)
  have l4:=bW g4 (by rw [oQ];exact uF) (k:=0) (n:=2) (by simp [aP])
  have qu:Ext H H4:=(X1.trans (Ext.refl _)).trans (((X2.trans X3).mod M4 (by rintro x rfl;exact asp _)))
  simp [aP]at l4
  simp (maxSteps:=4000000)-implicitDefEqProofs+contextual [-X.ev,h1,h2,Cy,s4,l4,qu]
 |true=>
  replace d2:=X3.ld d2
  replace d:=X3.ldn d
  simp (maxSteps:=4000000)-implicitDefEqProofs+contextual [-X.ev,d,d2]
  apply ah
  ·(simp-implicitDefEqProofs [-X.ev];rfl)
  refine (Ic h1 zK _ p.body vb rb H1 H3 1 0 0 H1.nx (asA _) nm (X2.trans X3) (asp _) (hv.ext X1) nK (hr.ext X1) (hl.ext X1) g3 uF (by omega) (by omega) (by omega)).mono ?_
  rintro x H4 ⟨rfl,M4,s',n',g4,hl4⟩
  rw [yI h1]at hl4⊢
  have lY:H4.n0≤H1.nx:=by rw [M4.n0];exact uF
  have Ml:Ext H1 H4:=(X2.trans X3).mod M4 (by rintro x rfl;exact asp _)
  cases h2:bq p with
  |false=>
   obtain ⟨H5,s5,M5,Pt,yG,g5⟩:=cg g4 lY (k:=0) (vs:=[.int .i64 0,.int .i64 0]) (by simp)
   have l5:=bW g5 (by rw [yG];exact lY) (k:=0) (n:=2) (by simp [aP])
   have Il:Ext H H5:=X1.trans (Ml.mod M5 (by rintro x rfl;exact asp _))
   simp [aP]at l5
   simp (maxSteps:=4000000)-implicitDefEqProofs+contextual [-X.ev,Cy,s5,l5,Il]
  |true=>
   obtain ⟨rfl,rfl⟩:=hl4 h2
   have l4:=bW g4 lY (k:=0) (n:=2) (by simp)
   obtain ⟨H5,s5,M5,Pt,yG,g5⟩:=cg g4 lY (k:=0) (vs:=[.int .i64 (0+ar p.body),.int .i64 (0+av p.body)]) (by simp)
   have l5:=bW g5 (by rw [yG];exact lY) (k:=0) (n:=2) (by simp [aP])
   have Il:Ext H H5:=X1.trans (Ml.mod M5 (by rintro x rfl;exact asp _))
   simp [aP]at l4 l5 s5
   simp (maxSteps:=4000000)-implicitDefEqProofs+contextual [-X.ev,l4,s5,l5,Il]
theorem qK {p:bf} {c:List Value} {H:AH} (hw:H.n0≤H.nx) (hp:qI H c p):Ca E O 37 [.agg c.toArray] H (fun x H'=>x= .int .i64 (if bq p=true then 0 else 30)∧Ext H H'):=by
 refine Ca.aS (F:=a37) rfl rfl rfl ?_
 have hc:=hp.len
 have X1:=Ext.alloc H (.cells c.length c)
 have d:(H.alloc (.cells c.length c)).ldn ⟨H.nx,0,none⟩ 3=some c:=bl hw 3 (by assumption)
 generalize cJ:H.alloc (.cells c.length c)=H1 at X1 d
 have bP:=X1.wf hw
 simp (maxSteps:=4000000)-implicitDefEqProofs+contextual [-X.ev,a37,cJ,d]
 apply ah
 ·(simp-implicitDefEqProofs [-X.ev];rfl)
 refine (AM bP (hp.ext X1)).mono ?_
 rintro x H2 ⟨rfl,X2⟩
 have jr:=X2.wf bP
 obtain ⟨H3,s3,X3,sr,nk,g3⟩:=jy jr (z:=2) (c:=[.int .i64 0,.int .i64 0]) (vs:=[.int .i64 (if bq p=true then ar p.body else 0),.int .i64 (if bq p=true then av p.body else 0)]) rfl
 have X:=X1.trans (X2.trans X3)
 cases h2:bq p with
 |false=>
  simp only [h2,Bool.false_eq_true,if_false]at s3
  simp (maxSteps:=4000000)-implicitDefEqProofs+contextual [-X.ev,s3,X]
 |true=>
  simp only [h2,if_true]at s3
  simp (maxSteps:=4000000)-implicitDefEqProofs+contextual [-X.ev,s3,X]
def AN (sz bytes:Nat):AF:=⟨1,8,[.tmp 2],.seq (.bR [o 2 (.mv (.k (.slice none 0 0)))]) (.seq (.seq (.bR [o 3 (.mv (.t 0)),o 4 (.eqk 2 false (.t 3) (.k (.slice none 0 0)))]) (.cond (.t 4) (.seq (.bR [o 2 (.mv (.k (.slice none 0 0)))]) .ret) .skip)) (.seq (.bR [o 5 (.bsl 0 sz [] []),o 6 (.mv (.t 0)),o 7 (.app sz bytes (.t 5) (.t 6)),o 2 (.mv (.t 7))]) .ret))⟩
theorem nq {f sz bytes:Nat} (ho:O f=none) (he:E f=some (AN sz bytes)) {H:AH} {v:Value} {rows:List (List Value)} (hw:H.n0≤H.nx) (hr:Rows H sz v rows) (hb:rows.length*bytes≤2^47) (tC:rows.length<2^62):
 Ca E O f [v] H (fun x H'=>dN H' sz x rows∧Ext H H'∧∀b,aX x b→H.nx≤b):=by
 refine Ca.aS ho he rfl ?_
 obtain ⟨a,c,hv⟩:=hr.len
 cases a with
 |none=>
  have ig:rows=[]:=by
   obtain ⟨a',c',e,k⟩:=hr.is
   rw [hv]at e
   cases e
   cases rows with
   |nil=>rfl
   |cons r rows=>obtain ⟨b,o,e,_⟩:=k 0 r rfl;cases e
  subst ig
  simp (maxSteps:=4000000)-implicitDefEqProofs+contextual [-X.ev,AN,hv]
  exact ⟨dN.nil _ _,Ext.refl _,fun b hb=>absurd hb (dI _ _ _)⟩
 |some a=>
  have kN:nL 0 sz [] H []=some (.slice (some ⟨H.nx,0,none⟩) 0 0,H.alloc (.cells sz [])):=rfl
  have X1:=Ext.alloc H (.cells sz [])
  have ow:dN (H.alloc (.cells sz [])) sz (.slice (some ⟨H.nx,0,none⟩) 0 0) []:=⟨.inr ⟨H.nx,rfl,hw,cK _ _⟩,by simp⟩
  generalize H.alloc (.cells sz [])=H1 at kN X1 ow
  obtain ⟨s',H2,ha,o2,M2,hk⟩:=wH (bytes:=bytes) (X1.wf hw) ow (hr.ext X1) (by simpa using hb) (by simpa using tC)
  rw [hv]at ha
  simp (maxSteps:=4000000)-implicitDefEqProofs+contextual [-X.ev,AN,hv,kN,ha]
  refine ⟨by simpa using o2,X1.mod M2 (by intro b hb;rw [bG]at hb;subst hb;exact asp _),fun b hb=>?_⟩
  rcases hk b hb with h|h
  ·rw [bG]at h;subst h;exact asp _
  ·exact Nat.le_trans X1.nx h
def a7 (l:List Int):List (List Value):=l.map fun n=>[.int .i64 n]
theorem kZ {H:AH} {v:Value} {l:List Int} (hw:H.n0≤H.nx) (hr:eM H v l) (hb:l.length≤2^40):
 Ca E O 70 [v] H (fun x H'=>dN H' 1 x (a7 l)∧Ext H H'∧∀b,aX x b→H.nx≤b):=
 nq (sz:=1) (bytes:=8) rfl rfl hw hr (by simp [a7];omega) (by simp [a7];omega)
theorem dN.ints {H:AH} {v:Value} {l:List Int} (h:dN H 1 v (a7 l)):eM H v l:=h.rows
theorem tE (l m:List Int):a7 (l++m)=a7 l++a7 m:=by simp [a7]
theorem k8 {w:Int} (hw:1≤w∧w≤8) (a:Int):isWord w a=(!decide (a<0)&& !decide (2^w.toNat≤a)):=by
 have w1:bC w=true:=by simp [bC,hw]
 rw [isWord,w1,Bool.true_and,Bool.eq_iff_iff]
 simp
theorem tF {p:bf} {t:eG} {c d:List Value} {H:AH} (hw:H.n0≤H.nx) (hp:qI H c p) (ht:yq H d t) (hP:bq p=true):
 Ca E O 69 [.agg c.toArray,.agg d.toArray] H (fun x H'=>x= .bool (iX p t)∧Ext H H'):=by
 obtain ⟨vv,vb,rb,rfl,hi,hv,zK,hr,hl,nK⟩:=hp.is
 obtain ⟨vs,vp,rfl,ss,sp,l1,l2,_,_⟩:=ht.is
 have hV:aC p.w p.vars=true:=by simp [bq]at hP;exact hP.1
 have eB:1≤p.w∧p.w≤8:=⟨(aF hV).1,(aF hV).2.1⟩
 have lF:du (p.vars.map (·.cells))≤48:=by
  rw [gQ]at hV;simp only [aso,asx]at hV;exact hV.2.2.2.2
 refine Ca.aS (F:=a69) rfl rfl rfl ?_
 have X1:=Ext.alloc H (.cells 3 [.int .i64 p.w,vv,vb])
 have d0:(H.alloc (.cells 3 [.int .i64 p.w,vv,vb])).ld ⟨H.nx,0,none⟩=some (.int .i64 p.w):=ak hw rfl
 have d1:(H.alloc (.cells 3 [.int .i64 p.w,vv,vb])).ld ⟨H.nx,1,none⟩=some vv:=ak hw rfl
 have d2:(H.alloc (.cells 3 [.int .i64 p.w,vv,vb])).ld ⟨H.nx,2,none⟩=some vb:=ak hw rfl
 have d:(H.alloc (.cells 3 [.int .i64 p.w,vv,vb])).ldn ⟨H.nx,0,none⟩ 3=some [.int .i64 p.w,vv,vb]:=bl hw 3 rfl
 generalize cJ:H.alloc (.cells 3 [.int .i64 p.w,vv,vb])=H1 at X1 d0 d1 d2 d
 have bP:=X1.wf hw
 have X2:=Ext.alloc H1 (.cells 2 [vs,vp])
 have e0:(H1.alloc (.cells 2 [vs,vp])).ld ⟨H1.nx,0,none⟩=some vs:=ak bP rfl
 have e1:(H1.alloc (.cells 2 [vs,vp])).ld ⟨H1.nx,1,none⟩=some vp:=ak bP rfl
 have e:(H1.alloc (.cells 2 [vs,vp])).ldn ⟨H1.nx,0,none⟩ 2=some [vs,vp]:=bl bP 2 rfl
 generalize kl:H1.alloc (.cells 2 [vs,vp])=H2 at X2 e0 e1 e
 have jU:=X2.wf bP
 replace d0:=X2.ld d0
 replace d1:=X2.ld d1
 have X:=X1.trans X2
 obtain ⟨a1,c1,lC⟩:=hv.len
 obtain ⟨a2,c2,oH⟩:=ss.len
 obtain ⟨a3,c3,Pv⟩:=sp.len
 have D1:=d1
 rw [lC]at D1
 simp (maxSteps:=4000000)-implicitDefEqProofs+contextual [-X.ev,a69,cJ,kl,D1]
 refine ch (fun k fr H'=>Ext H2 H'∧∃i:Nat,i+k=p.vars.length∧fr.get 2= .pointer (some ⟨H.nx,0,none⟩)∧fr.get 3= .pointer (some ⟨H1.nx,0,none⟩)∧fr.get 11=vv∧fr.get 12= .int .i64 p.vars.length∧fr.get 13= .int .i64 i∧fr.get 5= .int .i64 (du ((p.vars.take i).map (·.cells)))) ?_ p.vars.length ⟨Ext.refl _,0,by simp,by simp,by simp,by simp [lC],by simp,by simp,by simp [du]⟩
 rintro k fr H3 ⟨X3,i,hi,f2,f3,f11,f12,f13,f5⟩
 have nm:=X3.wf jU
 have iM:=X.trans X3
 replace d0:=X3.ld d0
 replace e0:=X3.ld e0
 replace e1:=X3.ld e1
 have kW:=zK.1
 by_cases h:i<p.vars.length
 ·obtain ⟨y,hy⟩:∃y,p.vars[i]?=some y:=⟨_,asl h⟩
  obtain ⟨b,o,c',cA,bJ,_⟩:=(hv.ext iM).at hy
  rw [cA]at f11
  obtain ⟨H4,sH4,X4,agB,agC,q,Im⟩:=eN (H:=H3) nm (z:=3) (c:=[.string ⟨#[]⟩,.int .i64 0,.int .i64 0]) (vs:=[.string y.name,.int .i64 y.level,.int .i64 y.cells]) rfl
  have q0:H4.ld ⟨H3.nx,0,none⟩=some (.string y.name):=Im 0 _ rfl
  have q1:H4.ld ⟨H3.nx,1,none⟩=some (.int .i64 y.level):=Im 1 _ rfl
  have q2:H4.ld ⟨H3.nx,2,none⟩=some (.int .i64 y.cells):=Im 2 _ rfl
  clear Im
  replace q:H4.ldn ⟨H3.nx,0,none⟩ 3=some [.string y.name,.int .i64 y.level,.int .i64 y.cells]:=q
  have XF:=X4.wf nm
  simp (maxSteps:=4000000)-implicitDefEqProofs+contextual [-X.ev,f2,f3,f11,f12,f13,f5,h,bJ,Vr.row,sH4,q2]
  rw [ai (n:=(i:Int)+1) ⟨by omega,by omega⟩]
  refine ⟨k- 1,by omega,X3.trans X4,i+1,by omega,cA.symm,by simp,?_⟩
  rw [List.take_add_one]
  simp [du,List.getElem?_map,hy,List.foldl_append]
 have ht:p.vars.take i=p.vars:=ass (by omega)
 rw [ht]at f5
 obtain ⟨F,hF⟩:∃F,iX p t=F:=⟨_,rfl⟩
 rw [hF]
 have e0':=e0
 have KF:=e1
 rw [oH]at e0'
 rw [Pv]at KF
 have FQ:¬ ((t.store.length:Int)=du (p.vars.map (·.cells))∧(t.bS.length:Int)≤16∧∀a∈t.store++t.bS,isWord p.w a=true)→F=false:=by
  intro q;rw [Bool.eq_false_iff,←hF];intro h
  apply q
  simp only [iX,aO,aso,asx,asB]at h
  refine ⟨h.1.1,by omega,fun a ha=>?_⟩
  rcases List.mem_append.1 ha with ha|ha
  ·exact h.1.2 a ha
  ·exact h.2.2 a ha
 by_cases k1:(t.store.length:Int)=du (p.vars.map (·.cells))
 case neg=>
  have oK:F=false:=FQ (fun q=>k1 q.1)
  simp (maxSteps:=4000000)-implicitDefEqProofs+contextual [-X.ev,f2,f3,f11,f12,f13,f5,h,e0',KF,k1,oK,iM]
 by_cases k2:(16:Int)<t.bS.length
 case pos=>
  have oK:F=false:=FQ (fun q=>by have:=q.2.1;omega)
  simp (maxSteps:=4000000)-implicitDefEqProofs+contextual [-X.ev,f2,f3,f11,f12,f13,f5,h,e0',KF,k1,k2,oK,iM]
 simp (maxSteps:=4000000)-implicitDefEqProofs+contextual [-X.ev,f2,f3,f11,f12,f13,f5,h,e0',KF,k1,k2]
 rw [oH]at ss
 rw [Pv]at sp
 apply ah
 ·(simp-implicitDefEqProofs [-X.ev];rfl)
 refine (kZ nm (ss.ext iM) (by omega)).mono ?_
 rintro x H4 ⟨o4,X4,k4⟩
 have qv:=X4.wf nm
 have qu:=iM.trans X4
 have q1:=bg.1 KF
 have q2:=bg.1 (X4.ld KF)
 obtain ⟨s',H5,ha,o5,M5,k5⟩:=wH (bytes:=8) qv o4 (sp.ext qu) (by simp [a7];omega) (by simp [a7];omega)
 have Il:Ext H H5:=iM.trans (X4.mod M5 k4)
 have rI:=M5.wf qv
 have o5:dN H5 1 s' (a7 (t.store++t.bS)):=by rw [tE];exact o5
 have hLl:((t.store++t.bS).length:Int)=t.store.length+t.bS.length:=by rw [asu];omega
 have hLm:∀(P:Int→Prop),(∀a∈t.store++t.bS,P a)→(∀a∈t.store,P a)∧∀a∈t.bS,P a:=fun P h=>⟨fun a ha=>h a (by simp [ha]),fun a ha=>h a (by simp [ha])⟩
 generalize t.store++t.bS=L at o5 FQ hLl hLm
 have i5:=o5.ints
 obtain ⟨as_,cs_,fF⟩:=i5.len
 have jw:H4.nx≤H5.nx:=M5.nx
 have q3:H5.ldn ⟨H1.nx,1,none⟩ 1=some [.slice a3 t.bS.length c3]:=M5.ldn (a:=⟨H1.nx,1,none⟩) (fun hb=>by
  have h1:=k4 _ hb
  have h2:=(AH.a8 (Option.isSome_iff_exists.1 (dH q1).1).choose_spec)
  dsimp only at h1 h2
  omega) q2
 rw [fF]at ha
 simp (maxSteps:=4000000)-implicitDefEqProofs+contextual [-X.ev,ha,bm,aJ,aK,X4.n0,X4.nx,q1,q2,q3,M5.n0,jw]
 have U7:H5.ld ⟨H.nx,0,none⟩=some (.int .i64 p.w):=((X3.trans (Ext.refl _)).trans (Ext.refl _)|>fun _=>(M5.ld (a:=⟨H.nx,0,none⟩) (fun hb=>by
  have h1:=k4 _ hb
  have h2:=(AH.a8 (Option.isSome_iff_exists.1 (dH (bg.1 d0)).1).choose_spec)
  dsimp only at h1 h2
  omega) (X4.ld d0)))
 have sh:=yE eB
 have U2:(L.length:Int)≤64:=by omega
 refine ch (fun k fr H'=>H'=H5∧∃i:Nat,i+k=L.length∧fr.get 2= .pointer (some ⟨H.nx,0,none⟩)∧fr.get 38=s'∧fr.get 39= .int .i64 L.length∧fr.get 40= .int .i64 i∧∀a∈L.take i,isWord p.w a=true) ?_ L.length ⟨rfl,0,by simp,by simp [f2],by simp [fF],by simp,by simp,by simp⟩
 rintro k' cq H' ⟨rfl,i',rS,f2,f38,f39,f40,aG⟩
 by_cases h':i'<L.length
 ·obtain ⟨n,hn⟩:∃n,L[i']?=some n:=⟨_,asl h'⟩
  obtain ⟨b,o,c',cA,eh⟩:=i5.at hn
  rw [cA]at f38
  have oK:isWord p.w n=false→F=false:=fun z=>FQ (fun q=>by have:=q.2.2 n (asq hn);rw [z]at this;cases this)
  rw [k8 eB]at oK
  have wi:IntKind.i64.wrap ((i':Int)+1)=(i':Int)+1:=ai ⟨by omega,by omega⟩
  by_cases z1:n<0
  ·simp (maxSteps:=4000000)-implicitDefEqProofs+contextual [-X.ev,f2,f38,f39,f40,h',eh,U7,z1,oK,Il]
  by_cases z2:2^p.w.toNat≤n
  ·simp (maxSteps:=4000000)-implicitDefEqProofs+contextual [-X.ev,f2,f38,f39,f40,h',eh,U7,z1,sh,z2,oK,Il]
  simp (maxSteps:=4000000)-implicitDefEqProofs+contextual [-X.ev,f2,f38,f39,f40,h',eh,U7,z1,sh,z2,wi]
  refine ⟨k'- 1,by omega,i'+1,by omega,cA.symm,by simp,fun z hz=>?_⟩
  rw [List.take_add_one,hn]at hz
  rcases List.mem_append.1 hz with hz|hz
  ·exact aG z hz
  ·simp at hz;subst hz;rw [k8 eB];simp [z1,z2]
 ·have AK:F=true:=by
   rw [ass (by omega)]at aG
   rw [←hF]
   simp only [iX,aO,aso,asx,asB]
   exact ⟨⟨k1,(hLm _ aG).1⟩,by omega,(hLm _ aG).2⟩
  simp (maxSteps:=4000000)-implicitDefEqProofs+contextual [-X.ev,f2,f38,f39,f40,h',Il,AK]
theorem EG {p:bf} {t:eG} {c d:List Value} {H:AH} (hw:H.n0≤H.nx) (hp:qI H c p) (ht:yq H d t):
 Ca E O 38 [.agg c.toArray,.agg d.toArray] H (fun x H'=>x= .int .i64 (fM p 0 t)∧Ext H H'):=by
 refine Ca.aS (F:=a38) rfl rfl rfl ?_
 have hc:=hp.len
 have hd:d.length=2:=by obtain ⟨vs,vp,e,_⟩:=ht.is;rw [e];rfl
 have X1:=Ext.alloc H (.cells c.length c)
 have q:(H.alloc (.cells c.length c)).ldn ⟨H.nx,0,none⟩ 3=some c:=bl hw 3 (by assumption)
 generalize cJ:H.alloc (.cells c.length c)=H1 at X1 q
 have bP:=X1.wf hw
 have X2:=Ext.alloc H1 (.cells d.length d)
 have r:(H1.alloc (.cells d.length d)).ldn ⟨H1.nx,0,none⟩ 2=some d:=bl bP 2 (by assumption)
 generalize kl:H1.alloc (.cells d.length d)=H2 at X2 r
 have jU:=X2.wf bP
 replace q:=X2.ldn q
 have X:=X1.trans X2
 simp (maxSteps:=4000000)-implicitDefEqProofs+contextual [-X.ev,a38,cJ,kl,q]
 apply ah
 ·(simp-implicitDefEqProofs [-X.ev];rfl)
 refine (qK jU (hp.ext X)).mono ?_
 rintro x H3 ⟨rfl,X3⟩
 replace q:=X3.ldn q
 replace r:=X3.ldn r
 have iM:=X.trans X3
 cases h1:bq p with
 |false=>
  simp (maxSteps:=4000000)-implicitDefEqProofs+contextual [-X.ev,h1,fM,iM]
 |true=>
  simp (maxSteps:=4000000)-implicitDefEqProofs+contextual [-X.ev,q,r]
  apply ah
  ·(simp-implicitDefEqProofs [-X.ev];rfl)
  refine (tF (X3.wf jU) (hp.ext iM) (ht.ext iM) h1).mono ?_
  rintro x H4 ⟨rfl,X4⟩
  cases h2:iX p t with
  |false=>
   simp (maxSteps:=4000000)-implicitDefEqProofs+contextual [-X.ev,h1,h2,fM,iM.trans X4]
  |true=>
   simp (maxSteps:=4000000)-implicitDefEqProofs+contextual [-X.ev,h1,h2,fM,iM.trans X4]
end Go.Proofs.YtppcmpmnglaleaaGreatDoor.A
