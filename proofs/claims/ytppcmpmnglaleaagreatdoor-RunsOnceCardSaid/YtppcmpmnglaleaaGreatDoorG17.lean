/- Texts that stand one behind the other: S48, S49, S50, S51, S52, Pm0, Pm1, Pm2, Pm3, Pm4, Pm5. -/
import Derived.Test.YtppcmpmnglaleaaGreatDoorG16
set_option linter.unusedVariables false
set_option linter.unusedSimpArgs false
set_option maxRecDepth 10000
namespace Go.Proofs.YtppcmpmnglaleaaGreatDoor.A
open Go
structure tU (G H:AH) (m:Nat) (p:bf) (ps:List Int) (v:MV) (c:ek):Prop where
 is:∃rows,MH G H m v rows c.store c.outs c.trace∧(c.over=false→∃fs,fN (PQ G) rows fs∧c.todo=mK fs)∧(rows.length:Int)+2*c.fuel≤2^20
 w:v.w=p.w
 vars:dz G v.vv p.vars
 cap:Iz v.vv
 bS:eM G v.vp ps
 mt:Mt v c
 inv:Inv p ps c
 ov:c.over=true→c.todo=[]
def cM (c:ek):Bool:=c.over||c.todo.isEmpty
theorem tU.mod {G H H':AH} {m:Nat} {p:bf} {ps:List Int} {v:MV} {c:ek} {T:Nat→Prop} (h:tU G H m p ps v c) (M:Mod T H H') (hT:∀b,T b→¬ Mf m v b) (hG:∀b,T b→G.get b=none):tU G H' m p ps v c:=by
 obtain ⟨rows,h1,h2,h3⟩:=h.is
 exact {h with is:=⟨rows,h1.mod M hT hG,h2,h3⟩}
theorem tU.ext {G H H':AH} {m:Nat} {p:bf} {ps:List Int} {v:MV} {c:ek} (h:tU G H m p ps v c) (X:Ext H H'):tU G H' m p ps v c:=h.mod (Mod.cj (S:=fun _=>False) X) (by simp) (by simp)
theorem yW {α β:Type} {C:α→β→Prop} {l:List α} (h:fN C l []):l=[]:=by cases h;rfl
theorem qP {α β:Type} {C:α→β→Prop}:∀{l:List α} {k:List β} {b:β},fN C l (k++[b])→∃l0 a,l=l0++[a]∧fN C l0 k∧C a b
 |_,[],b,.cons h .nil=>⟨[],_,rfl,.nil,h⟩
 |_,x::k,b,.cons h t=>by
  obtain ⟨l0,a,rfl,h1,h2⟩:=qP t
  exact ⟨_::l0,a,rfl,.cons h h1,h2⟩
theorem yX (p:bf) (c:ek) (s:bD) (next:List kv):bT p {c with fuel:=c.fuel- 1,cost:=c.cost+1} s next=jn p c s next:=rfl
theorem ahs {G H:AH} {m:Nat} {p:bf} {ps:List Int} {v:MV} {c:ek} {dw rs:List (List Value)} {eP:List (List bD×Int)} {vl:Value} {cs:List Value} {k:Int} {l:List bD} {op n:Int} {args:List b9} {thn els:List bD} (q:Value) (h:KU G H m p ps v c dw eP vl cs rs k (.mk op n args thn els) l):
 0≤op∧op<7∧∃f,([.func (.func 108) #[q] #[],.func (.func 109) #[q] #[],.func (.func 110) #[q] #[],.func (.func 111) #[q] #[],.func (.func 112) #[q] #[],.func (.func 113) #[q] #[],.func (.func 114) #[q] #[]]:List Value)[op.toNat]?=some (.func (.func f) #[q] #[])∧
  lS G H f m p ps v c dw.length eP cs k (.mk op n args thn els) l:=by
 obtain ⟨_,_,_,CN⟩:=gw h.row
 rcases CN with⟨rfl,_⟩|⟨rfl,_⟩|⟨rfl,_⟩|⟨rfl,_⟩|⟨rfl,_⟩|⟨rfl|rfl,_⟩
 ·exact ⟨by omega,by omega,_,rfl,Nj h⟩
 ·exact ⟨by omega,by omega,_,rfl,EW h⟩
 ·exact ⟨by omega,by omega,_,rfl,Nh h⟩
 ·exact ⟨by omega,by omega,_,rfl,Ni h⟩
 ·exact ⟨by omega,by omega,_,rfl,IP h⟩
 ·exact ⟨by omega,by omega,_,rfl,IJ h⟩
 ·exact ⟨by omega,by omega,_,rfl,IK h⟩
theorem EX {p:bf} {ps:List Int} {c:ek} {k:Int} {s:bD} {vals:List Int} {next:List kv} (h:c.over=false):(cL p ps c k s vals next).over=true→(cL p ps c k s vals next).todo=[]:=by
 obtain ⟨op,n,args,thn,els⟩:=s
 unfold cL
 intro q
 by_cases o0:op=0
 ·simp only [if_pos o0,fO]at q⊢;rw [h]at q;cases q
 simp only [if_neg o0]at q⊢
 by_cases o1:op=1
 ·simp only [if_pos o1]at q⊢;rw [h]at q;cases q
 simp only [if_neg o1]at q⊢
 by_cases o2:op=2
 ·simp only [if_pos o2]at q⊢;rw [h]at q;cases q
 simp only [if_neg o2]at q⊢
 by_cases o3:op=3
 ·simp only [if_pos o3]at q⊢;rw [h]at q;cases q
 simp only [if_neg o3]at q⊢
 by_cases o4:op=4
 ·simp only [if_pos o4]at q⊢
  by_cases u:ps.length≤c.used
  ·simp only [if_pos u];rfl
  ·simp only [if_neg u,fO]at q;rw [h]at q;cases q
 simp only [if_neg o4]at q⊢
 by_cases o5:op=5
 ·simp only [if_pos o5]at q⊢
  by_cases u:ei vals 0=0
  ·simp only [if_pos u];rfl
  ·simp only [if_neg u]at q;rw [h]at q;cases q
 simp only [if_neg o5]at q⊢
 by_cases u:ei vals 0=0
 ·simp only [if_pos u];rfl
 ·simp only [if_neg u]at q;rw [h]at q;cases q
theorem tV {p:bf} {ps:List Int} {c:ek} {k:Int} {s:bD} {vals:List Int} {next:List kv}:(cL p ps c k s vals next).fuel=c.fuel:=by
 obtain ⟨op,n,args,thn,els⟩:=s
 unfold cL
 by_cases o0:op=0
 ·simp only [if_pos o0];rfl
 simp only [if_neg o0]
 by_cases o1:op=1
 ·simp only [if_pos o1]
 simp only [if_neg o1]
 by_cases o2:op=2
 ·simp only [if_pos o2]
 simp only [if_neg o2]
 by_cases o3:op=3
 ·simp only [if_pos o3]
 simp only [if_neg o3]
 by_cases o4:op=4
 ·simp only [if_pos o4];split<;>rfl
 simp only [if_neg o4]
 by_cases o5:op=5
 ·simp only [if_pos o5];split<;>rfl
 simp only [if_neg o5];split<;>rfl
structure aht (G H:AH) (m:Nat) (p:bf) (ps:List Int) (v:MV) (H':AH) (c':ek):Prop where
 is:∃v',tU G H' m p ps v' c'∧Mod (Mf m v) H H'∧(∀b,Mf m v' b→Mf m v b∨H.nx≤b)∧Sm v v'
theorem Nl {G H:AH} {m:Nat} {p:bf} {ps:List Int} {v:MV} {c:ek} (h:tU G H m p ps v c):
 Ca E O 78 [.pointer (some ⟨m,0,none⟩)] H (fun x H'=>x= .bool (!cM c&& !(bN p ps c).over)∧aht G H m p ps v H' (bN p ps c)):=by
 refine Ca.aS (F:=UO) rfl rfl rfl ?_
 obtain ⟨rows,hM,EI,wz⟩:=h.is
 obtain ⟨m1,m2,m3,m4,m5,m6⟩:=h.mt
 have EY:=aI hM.get hM.n0 (k:=13) (v:=.bool v.ended) rfl
 cases ho:c.over with
 |true=>
  have hs:bN p ps c=c:=by unfold bN;rw [if_pos ho]
  rw [m6,ho]at EY
  have he:cM c=true:=by simp [cM,ho]
  rw [hs,he]
  simp (maxSteps:=4000000)-implicitDefEqProofs+contextual [-X.ev,UO,EY]
  exact ⟨v,h,Mod.refl _ _,fun b hb=>.inl hb,rfl,rfl,rfl,rfl⟩
 |false=>
  rw [m6,ho]at EY
  obtain ⟨fs,aG,IQ⟩:=EI ho
  rcases List.eq_nil_or_concat fs with rfl|⟨eP,f,EI⟩
  ·have FX:=yW aG
   subst FX
   have ht:c.todo=[]:=IQ
   have hs:bN p ps c=c:=by unfold bN;rw [if_neg (by rw [ho];decide),ht]
   have he:cM c=true:=by simp [cM,ht]
   rw [hs,he]
   simp (maxSteps:=4000000)-implicitDefEqProofs+contextual [-X.ev,UO,EY]
   apply ah
   ·(simp-implicitDefEqProofs [-X.ev];rfl)
   refine (Iy hM.wf hM.get hM.n0 hM.fr).mono ?_
   rintro x H1 ⟨rfl,X1⟩
   obtain ⟨H2,s2,X2,xF,qt,g2⟩:=jy (X1.wf hM.wf) (z:=5) (c:=zS) (vs:=zS) rfl
   simp (maxSteps:=4000000)-implicitDefEqProofs+contextual [-X.ev,s2]
   exact ⟨v,h.ext (X1.trans X2),Mod.cj (X1.trans X2),fun b hb=>.inl hb,rfl,rfl,rfl,rfl⟩
  ·rw [List.concat_eq_append]at EI
   subst EI
   obtain ⟨dw,r,rfl,h0,vl,rs,rfl,hr,SR,K2,gF,fX⟩:=qP aG
   obtain ⟨lst,k⟩:=f
   cases SR with
   |nil=>exact absurd rfl gF
   | @cons cs s rs l hs hl=>
   rw [jZ,lR]at IQ
   simp only [List.cons_append]at IQ
   have jF:=hs.len
   have hinv:=h.inv
   obtain ⟨FY,EV,mb,nz⟩:=hinv.todo (k,s) (by rw [IQ];simp)
   simp only at FY EV nz fX hr
   have pc:=kA s
   have apH:=hinv.Vi
   have hfu:=hinv.fuel
   have A7:=hinv.tr
   have hou:=hinv.ou
   have O2:=hinv.co
   have hus:=hinv.used
   have he:cM c=false:=by simp [cM,ho,IQ]
   have r4:=aI hM.get hM.n0 (k:=4) (v:=.int .i64 v.fuel) rfl
   rw [m5]at r4
   simp only [asu,List.length_singleton]at wz
   rw [he]
   simp (maxSteps:=4000000)-implicitDefEqProofs+contextual [-X.ev,UO,EY]
   apply ah
   ·(simp-implicitDefEqProofs [-X.ev];rfl)
   refine (Nd hM.wf hM.get hM.n0 hM.fr (by omega) hM.sub hr).mono ?_
   rintro x H1 ⟨rfl,X1⟩
   have lI:=X1.wf hM.wf
   obtain ⟨H2,s2,X2,xF,qt,g2⟩:=jy lI (z:=5) (c:=zS) (vs:=cs) jF
   have fU:=X1.trans X2
   have jr:=X2.wf lI
   have M2:=hM.ext fU
   have r42:=fU.ld r4
   by_cases hf:c.fuel=0
   ·have fF:bN p ps c=dY c 3 k:=by unfold bN;rw [if_neg (by rw [ho];decide),IQ];show(if c.fuel=0 then _ else _)=_;rw [if_pos hf]
    rw [hf]at r42
    simp (maxSteps:=4000000)-implicitDefEqProofs+contextual [-X.ev,jF,s2,r42]
    apply ah
    ·(simp-implicitDefEqProofs [-X.ev];rfl)
    refine (su (how:=3) (n:=k) M2).mono ?_
    rintro x H3 ⟨rfl,A3⟩
    rw [fF]
    have YK:(dY c 3 k).over=true:=rfl
    simp (maxSteps:=4000000)-implicitDefEqProofs+contextual [-X.ev,YK]
    have A:=(ja.mJ hM fU).trans A3
    exact ⟨_,{is:=⟨_,A.mh,fun q=>by rw [YK]at q;exact absurd q (by decide),by rw [asu,List.length_singleton];show _+2*c.fuel≤2^20;omega⟩,w:=h.w,vars:=h.vars,cap:=h.cap,bS:=h.bS,mt:=⟨rfl,m2,m3,rfl,m5,rfl⟩,inv:=mL hinv 3 k,ov:=fun _=>rfl},A.mod,A.new,rfl,rfl,rfl,rfl⟩
   ·have fF:bN p ps c=cL p ps (jn p c s (cD l k s eP)) k s (bU p.w p.vars [c.store] s.args) (cD l k s eP):=by unfold bN;rw [if_neg (by rw [ho];decide),IQ];show(if c.fuel=0 then _ else _)=_;rw [if_neg hf]
    have w1:IntKind.i64.wrap (c.fuel- 1)=c.fuel- 1:=ai ⟨by omega,by omega⟩
    have w2:IntKind.i64.wrap (c.cost+1)=c.cost+1:=ai ⟨by omega,by omega⟩
    obtain ⟨H3,s3,A3,sr,nk⟩:=M2.cell (v':={v with fuel:=c.fuel- 1}) 4 (.int .i64 (c.fuel- 1)) (by omega) rfl rfl rfl rfl rfl
    have r10:=aI A3.mh.get A3.mh.n0 (k:=10) (v:=.int .i64 v.cost) rfl
    rw [m2]at r10
    obtain ⟨H4,s4,A4,zP,oQ⟩:=A3.mh.cell (v':={v with fuel:=c.fuel- 1,cost:=c.cost+1}) 10 (.int .i64 (c.cost+1)) (by omega) rfl rfl rfl rfl rfl
    have B4:=A3.trans A4
    have M4:=A4.mh
    obtain ⟨q,hq⟩:∃q:Value,.pointer (some ⟨m,0,none⟩)=q:=⟨_,rfl⟩
    obtain ⟨H5,s5,X5,Pt,yG,g5⟩:=jy M4.wf (z:=7) (c:=[.nilFunc,.nilFunc,.nilFunc,.nilFunc,.nilFunc,.nilFunc,.nilFunc]) (vs:=[.func (.func 108) #[q] #[],.func (.func 109) #[q] #[],.func (.func 110) #[q] #[],.func (.func 111) #[q] #[],.func (.func 112) #[q] #[],.func (.func 113) #[q] #[],.func (.func 114) #[q] #[]]) rfl
    subst hq
    have M5:=M4.ext X5
    have rI:=M5.wf
    have nb:¬ Mf m v H1.nx:=fun q=>by have:=hM.lt q;have:=X1.nx;omega
    have gcs:=X5.get (B4.mod.get nb g2)
    have n5:H5.n0≤H1.nx:=by rw [yG,oQ,nk,qt];exact lI
    have lcs:H5.ldn ⟨H1.nx,0,none⟩ 5=some cs:=by rw [bW gcs n5 (by omega)];simp [ass (Nat.le_of_eq jF)]
    obtain ⟨op,n,args,thn,els⟩:=s
    have ahv:∃t,cs= .int .i64 op::t:=by cases hs;exact ⟨_,rfl⟩
    obtain ⟨t,rfl⟩:=ahv
    have l0:=aI gcs n5 (k:=0) (v:=.int .i64 op) rfl
    have hAt:KU G H5 m p ps {v with fuel:=c.fuel- 1,cost:=c.cost+1} {c with fuel:=c.fuel- 1,cost:=c.cost+1} dw eP vl (.int .i64 op::t) rs k (.mk op n args thn els) l:=
     {mh:=M5,hr:=hr,hf:=K2,hs:=hs,hl:=hl,h0:=h0,w:=h.w,vars:=h.vars,cap:=h.cap,bS:=h.bS,head:=hinv.head,store:=hinv.store,mt:=⟨m1,rfl,m3,m4,rfl,m6⟩,ov:=ho,row:=mb,b1:=by omega,b2:=by omega,b3:=by omega,b4:=by simpa using fX,b5:=by show c.trace.length≤2^31;omega,b6:=by show c.outs.length≤2^31;omega,b7:=by show 0≤c.cost+1∧c.cost+1≤2^50;omega,b8:=by show c.used≤ps.length∧_;omega}
    obtain ⟨ho1,ho2,f,jv,fH⟩:=ahs (.pointer (some ⟨m,0,none⟩)) hAt
    have lf:=aI g5 (by rw [yG];exact M4.wf) jv
    have uU:fg [.nilFunc,.nilFunc,.nilFunc,.nilFunc,.nilFunc,.nilFunc,.nilFunc] [(0,1,.func (.func 108) #[.pointer (some ⟨m,0,none⟩)] #[]),(1,1,.func (.func 109) #[.pointer (some ⟨m,0,none⟩)] #[]),(2,1,.func (.func 110) #[.pointer (some ⟨m,0,none⟩)] #[]),(3,1,.func (.func 111) #[.pointer (some ⟨m,0,none⟩)] #[]),(4,1,.func (.func 112) #[.pointer (some ⟨m,0,none⟩)] #[]),(5,1,.func (.func 113) #[.pointer (some ⟨m,0,none⟩)] #[]),(6,1,.func (.func 114) #[.pointer (some ⟨m,0,none⟩)] #[])]=some (.agg #[.func (.func 108) #[.pointer (some ⟨m,0,none⟩)] #[],.func (.func 109) #[.pointer (some ⟨m,0,none⟩)] #[],.func (.func 110) #[.pointer (some ⟨m,0,none⟩)] #[],.func (.func 111) #[.pointer (some ⟨m,0,none⟩)] #[],.func (.func 112) #[.pointer (some ⟨m,0,none⟩)] #[],.func (.func 113) #[.pointer (some ⟨m,0,none⟩)] #[],.func (.func 114) #[.pointer (some ⟨m,0,none⟩)] #[]]):=rfl
    have CP:=fH _ rfl
    rw [yX]at CP
    rw [fF]
    obtain ⟨c',mc⟩:∃c',cL p ps (jn p c (.mk op n args thn els) (cD l k (.mk op n args thn els) eP)) k (.mk op n args thn els) (bU p.w p.vars [c.store] args) (cD l k (.mk op n args thn els) eP)=c':=⟨_,rfl⟩
    have CQ:=yU hinv
    have YL:=EX (p:=p) (ps:=ps) (c:=jn p c (.mk op n args thn els) (cD l k (.mk op n args thn els) eP)) (k:=k) (s:=.mk op n args thn els) (vals:=bU p.w p.vars [c.store] args) (next:=cD l k (.mk op n args thn els) eP) ho
    have YM:=tV (p:=p) (ps:=ps) (c:=jn p c (.mk op n args thn els) (cD l k (.mk op n args thn els) eP)) (k:=k) (s:=.mk op n args thn els) (vals:=bU p.w p.vars [c.store] args) (next:=cD l k (.mk op n args thn els) eP)
    rw [fF]at CQ
    simp only [bD.args]at CP CQ⊢
    rw [mc]at CP CQ YL YM⊢
    have ahw:c'.fuel=c.fuel- 1:=YM
    have gl:H2.ldn ⟨H1.nx,0,none⟩ 5=some (.int .i64 op::t):=by rw [bW g2 (by rw [qt];exact lI) (by omega)];simp [ass (Nat.le_of_eq jF)]
    have B5:=(ja.mJ hM fU).trans (B4.ext X5)
    simp (maxSteps:=4000000)-implicitDefEqProofs+contextual [-X.ev,jF,s2,r42,hf,w1,s3,r10,w2,s4,uU,s5,l0,ho1,ho2,lf,lcs,bm,aJ,aK]
    apply kX
    ·(simp-implicitDefEqProofs [-X.ev,-Value.func.injEq];rfl)
    ·(simp-implicitDefEqProofs [-X.ev];rfl)
    refine CP.mono ?_
    rintro x H6 ⟨rfl,v',dJ,A6,ahx,hr6,ahy,YN⟩
    have A:=B5.trans A6
    have Ys:=A6.mod.n0
    have x6x:=A6.mod.nx
    simp (maxSteps:=4000000)-implicitDefEqProofs+contextual [-X.ev,bm,aJ,aK,Ys,x6x]
    obtain ⟨q1,q2,q3,q4⟩:=YN
    exact ⟨v',{is:=⟨dJ,A.mh,ahx,by rw [ahw];omega⟩,w:=q1.trans h.w,vars:=by rw [q2];exact h.vars,cap:=by rw [q2];exact h.cap,bS:=by rw [q3];exact h.bS,mt:=ahy,inv:=CQ,ov:=YL},A.mod,A.new,q1,q2,q3,q4⟩
open Go
theorem dN.SS {H:AH} {sz:Nat} {v:Value} {rows:List (List Value)} {r r':List Value} (h:dN H sz v (rows++[r])) (hl:r'.length=sz):∃b,v= .slice (some ⟨b,0,none⟩) (rows.length+1) (rows.length+1)∧∃H',H.st ⟨b,rows.length*sz,none⟩ r'=some H'∧dN H' sz v (rows++[r'])∧Mod (fun q=>q=b) H H'∧H'.nx=H.nx∧H'.n0=H.n0:=by
 rcases h.is with⟨_,e⟩|⟨b,e,h0,g⟩
 ·simp at e
 have KS:∀q∈rows,q.length=sz:=fun q hq=>h.len q (by simp [hq])
 have hr:=h.len r (by simp)
 have fX:=cC KS
 obtain ⟨H',st,M,nx,n0,g'⟩:=cg g h0 (k:=rows.length*sz) (vs:=r') (by rw [cC h.len];simp only [asu,List.length_singleton,Nat.succ_mul];omega)
 have e2:v= .slice (some ⟨b,0,none⟩) (rows.length+1) (rows.length+1):=by rw [e];simp
 refine ⟨b,e2,H',st,⟨.inr ⟨b,by rw [e2];simp,by rw [n0];exact h0,?_⟩,?_⟩,M,nx,n0⟩
 ·rw [g']
  have:=qN rows.flatten r r' [] (by omega)
  rw [fX]at this
  simp only [List.append_nil]at this
  simp only [List.flatten_append,List.flatten_cons,List.flatten_nil,List.append_nil]
  rw [this]
 ·intro q hq
  rcases List.mem_append.1 hq with hq|hq
  ·exact KS q hq
  ·simp at hq;subst hq;exact hl
def fB (p:bf) (fuel:Int) (t:eG):ek:=⟨0,t.store,[],[],0,0,0,fuel,bK p.body 0,false⟩
theorem qQ {p:bf} {fuel:Int} {t:eG} (h:fM p fuel t=0):Inv p t.bS (fB p fuel t)∧bq p=true∧0≤fuel∧fuel≤4096∧iX p t=true:=by
 unfold fM at h
 cases h1:bq p with
 |false=>rw [if_pos h1]at h;omega
 |true=>
  rw [if_neg (by rw [h1];decide)]at h
  by_cases h2:fuel<0∨4096<fuel
  ·rw [if_pos h2]at h;omega
  rw [if_neg h2]at h
  cases h3:iX p t with
  |false=>rw [if_pos h3]at h;omega
  |true=>
   have hp:=h1
   have hs:=h3
   simp only [bq,aso,asx]at hp
   simp only [iX,aso,asx,asB]at hs
   have eB:1≤p.w∧p.w≤8:=⟨(aF hp.1).1,(aF hp.1).2.1⟩
   have cb:=aQ p.body
   refine ⟨⟨hp.1,hs.1,fun a ha=>?_,⟨by show 0≤_;omega,hs.2.1⟩,by omega,?_,by show 0≤fuel∧fuel≤4096;omega,by show(0:Int)+500*fuel≤2^30;omega,by show(0:Int)+fuel≤2^30;omega,by show 0≤(0:Int)∧0+500*fuel≤2^40;omega⟩,rfl,by omega,by omega,rfl⟩
   ·have:=hs.2.2 a ha
    rw [k8 eB]at this
    simp at this
    exact this
   ·exact pY p.body 0 (by omega) (by omega) hp.2.2.2 (by omega)
structure Made (H:AH) (p:bf) (ps:List Int) (H':AH) (m:Nat) (c:ek):Prop where
 is:∃G v,tU G H' m p ps v c∧Ext H H'∧(∀b,Mf m v b→H.nx≤b)∧∀b x,G.get b=some x→H.nx≤b
abbrev pZ (w fuel:Int) (vp vv vb vs vf:Value):MV:=⟨vf,w,vv,vb,fuel,vp,0,vs,.slice none 0 0,.slice none 0 0,0,0,0,false⟩
theorem wT:fk zS zS=true:=by simp [zS]
theorem SU {p:bf} {t:eG} {c d:List Value} {fuel:Int} {H:AH} (hw:H.n0≤H.nx) (hp:qI H c p) (ht:yq H d t):
 Ca E O 77 [.agg c.toArray,.int .i64 fuel,.agg d.toArray] H (fun x H'=>if fM p fuel t=0 then∃m,x= .tuple #[.pointer (some ⟨m,0,none⟩),.int .i64 0]∧Made H p t.bS H' m (fB p fuel t)else x= .tuple #[.pointer none,.int .i64 (fM p fuel t)]∧Ext H H'):=by
 refine Ca.aS (F:=a77) rfl rfl rfl ?_
 have hc:=hp.len
 have hd:d.length=2:=by obtain ⟨vs,vp,e,_⟩:=ht.is;rw [e];rfl
 have X1:=Ext.alloc H (.cells c.length c)
 have q:(H.alloc (.cells c.length c)).ldn ⟨H.nx,0,none⟩ 3=some c:=bl hw 3 (by assumption)
 generalize cJ:H.alloc (.cells c.length c)=H1 at X1 q
 have bP:=X1.wf hw
 have X2:=Ext.alloc H1 (.cells d.length d)
 have r:(H1.alloc (.cells d.length d)).ldn ⟨H1.nx,0,none⟩ 2=some d:=bl bP 2 (by assumption)
 generalize kl:H1.alloc (.cells d.length d)=H2 at X2 r
 have jU:=X2.wf bP
 replace q:=X2.ldn q
 have X:=X1.trans X2
 simp (maxSteps:=4000000)-implicitDefEqProofs+contextual [-X.ev,a77,cJ,kl,q]
 apply ah
 ·(simp-implicitDefEqProofs [-X.ev];rfl)
 refine (qK jU (hp.ext X)).mono ?_
 rintro x H3 ⟨rfl,X3⟩
 replace q:=X3.ldn q
 replace r:=X3.ldn r
 have iM:=X.trans X3
 cases h1:bq p with
 |false=>
  have hk:fM p fuel t=30:=by unfold fM;rw [if_pos h1]
  simp (maxSteps:=4000000)-implicitDefEqProofs+contextual [-X.ev,h1,hk,iM]
 |true=>
  by_cases h2:fuel<0
  ·have hk:fM p fuel t=1:=by unfold fM;rw [if_neg (by rw [h1];decide),if_pos (.inl h2)]
   simp (maxSteps:=4000000)-implicitDefEqProofs+contextual [-X.ev,h1,h2,hk,iM]
  by_cases h3:4096<fuel
  ·have hk:fM p fuel t=1:=by unfold fM;rw [if_neg (by rw [h1];decide),if_pos (.inr h3)]
   simp (maxSteps:=4000000)-implicitDefEqProofs+contextual [-X.ev,h1,h2,h3,hk,iM]
  simp (maxSteps:=4000000)-implicitDefEqProofs+contextual [-X.ev,h1,h2,h3,q,r]
  apply ah
  ·(simp-implicitDefEqProofs [-X.ev];rfl)
  refine (tF (X3.wf jU) (hp.ext iM) (ht.ext iM) h1).mono ?_
  rintro x H4 ⟨rfl,X4⟩
  replace q:=X4.ldn q
  replace r:=X4.ldn r
  have qu:=iM.trans X4
  have qv:=qu.wf hw
  cases h4:iX p t with
  |false=>
   have hk:fM p fuel t=50:=by unfold fM;rw [if_neg (by rw [h1];decide),if_neg (by omega),if_pos h4]
   simp (maxSteps:=4000000)-implicitDefEqProofs+contextual [-X.ev,h4,hk,qu]
  |true=>
   have hk:fM p fuel t=0:=by unfold fM;rw [if_neg (by rw [h1];decide),if_neg (by omega),if_neg (by rw [h4];decide)]
   obtain ⟨hinv,_,hf1,hf2,_⟩:=qQ hk
   have hp4:=hp.ext qu
   have ht4:=ht.ext qu
   obtain ⟨vv,vb,rb,rfl,hi,hv,zK,hr,hl,nK⟩:=hp4.is
   obtain ⟨vs,vp,rfl,ss,sp,l1,l2,_,_⟩:=ht4.is
   have q1:=aR q (j:=1) rfl
   have q2:=aR q (j:=2) rfl
   have r0:=aR r (j:=0) rfl
   have r1:=aR r (j:=1) rfl
   simp only [Nat.zero_add]at q1 q2 r0 r1
   have hpk:=hinv.used.2
   have ot:t.store.length≤48:=by
    have:=hinv.store
    simp only [aO,aso,asx]at this
    have h48:=(iC hinv.head).2.2
    have e:=this.1
    simp only [fB]at e
    omega
   have hVl:=(iC hinv.head).2.1
   simp (maxSteps:=4000000)-implicitDefEqProofs+contextual [-X.ev,h4,q,r1]
   apply ah
   ·(simp-implicitDefEqProofs [-X.ev];rfl)
   refine (kZ qv sp (by omega)).mono ?_
   rintro zX H5 ⟨o5,X5,k5⟩
   obtain ⟨pa,pc,Pv⟩:=o5.shape
   have rI:=X5.wf qv
   have uU:fg [.slice none 0 0,.int .i64 0,.slice none 0 0,.slice none 0 0,.int .i64 0,.slice none 0 0,.int .i64 0,.slice none 0 0,.slice none 0 0,.slice none 0 0,.int .i64 0,.int .i64 0,.int .i64 0,.bool false] [(1,3,.agg #[.int .i64 p.w,vv,vb]),(4,1,.int .i64 fuel),(5,1,zX)]=some (.agg (pZ p.w fuel zX vv vb (.slice none 0 0) (.slice none 0 0)).cells.toArray):=by
    rw [Pv];rfl
   have gm:=cK H5 (.cells 14 (pZ p.w fuel zX vv vb (.slice none 0 0) (.slice none 0 0)).cells)
   have X6:=Ext.alloc H5 (.cells 14 (pZ p.w fuel zX vv vb (.slice none 0 0) (.slice none 0 0)).cells)
   obtain ⟨H6,hH6⟩:∃H6,H5.alloc (.cells 14 (pZ p.w fuel zX vv vb (.slice none 0 0) (.slice none 0 0)).cells)=H6:=⟨_,rfl⟩
   rw [hH6]at gm X6
   obtain ⟨m,hm⟩:∃m,H5.nx=m:=⟨_,rfl⟩
   rw [hm]at gm
   have PJ:=X5.nx
   have KT:=X5.n0
   have x6x:=X6.nx
   have mlt:=AH.a8 gm
   have X46:=X5.trans X6
   have ahA:=X46.ld q1
   have ED:=X6.wf rI
   have q5:=X5.ldn q
   have cc1:H4.nx≤m:=by omega
   have cc2:H6.n0=H4.n0:=X6.n0.trans KT
   have cc3:m≤H6.nx:=by omega
   obtain ⟨va0,vc0,ahC⟩:=hv.len
   obtain ⟨ba0,bc0,YO⟩:=hr.len
   have svv:dG vv vv=true:=by rw [ahC];simp
   have svb:dG vb vb=true:=by rw [YO];simp
   simp (maxSteps:=4000000)-implicitDefEqProofs+contextual [-X.ev,uU,hH6,q,q5,svv,svb,KT,cc1,cc2,cc3,bm,aJ,aK,ahA,hm]
   apply ah
   ·(simp-implicitDefEqProofs [-X.ev];rfl)
   refine (nq (f:=103) (sz:=3) (bytes:=32) rfl rfl ED (hv.ext X46) (by simp;omega) (by simp;omega)).mono ?_
   rintro x H7 ⟨o7,X7,k7⟩
   have x7x:=X7.nx
   have m0:H.n0≤m:=by have:=qu.nx;omega
   obtain ⟨wa,wc,Nk⟩:=o7.shape
   rw [List.length_map]at Nk
   obtain ⟨H8,s8,M8,Va,CI,g8⟩:=cg (X7.get gm) (by rw [X7.n0,cc2,qu.n0];exact m0) (k:=2) (vs:=[x]) (by simp)
   have Sr:aP (pZ p.w fuel zX vv vb (.slice none 0 0) (.slice none 0 0)).cells 2 [x]=(pZ p.w fuel zX x vb (.slice none 0 0) (.slice none 0 0)).cells:=rfl
   rw [Sr]at g8
   obtain ⟨H9,s9,M9,XT,PA,g9⟩:=cg g8 (by rw [CI,X7.n0,cc2,qu.n0];exact m0) (k:=3) (vs:=[.slice none 0 0]) (by simp)
   have Ss:aP (pZ p.w fuel zX x vb (.slice none 0 0) (.slice none 0 0)).cells 3 [.slice none 0 0]=(pZ p.w fuel zX x (.slice none 0 0) (.slice none 0 0) (.slice none 0 0)).cells:=rfl
   rw [Ss]at g9
   have YP:Ext H4 H9:=((X46.trans X7).mod M8 (fun b hb=>by omega)).mod M9 (fun b hb=>by omega)
   have n9:H9.n0=H.n0:=YP.n0.trans qu.n0
   have YQ:=YP.ld q2
   have apV:=YP.ld r0
   have hw9:=YP.wf qv
   have Nn:=YO
   rw [hl.length]at Nn
   rw [Nn]at YQ
   rw [Nk]at s8
   simp (maxSteps:=4000000)-implicitDefEqProofs+contextual [-X.ev,Nk,s8,s9,YQ]
   rw [←Nk]at s8
   refine ch (fun k fr H'=>Mod (fun b=>b=m) H9 H'∧∃(i:Nat) (z:Value) (rs:List (List Value)),H'.get m=some (.cells 14 (pZ p.w fuel zX x z (.slice none 0 0) (.slice none 0 0)).cells)∧i+k=p.body.length∧fr.get 8= .pointer (some ⟨m,0,none⟩)∧fr.get 5= .pointer (some ⟨H1.nx,0,none⟩)∧fr.get 43=vb∧fr.get 44= .int .i64 p.body.length∧fr.get 45= .int .i64 i∧dN H' 5 z rs∧rs.length=i∧fh (part H' H9.nx (aX z)) rs (p.body.take i)∧(∀b,aX z b→H9.nx≤b)) ?_ p.body.length ⟨Mod.refl _ _,0,.slice none 0 0,[],by simpa [Nk]using g9,by simp,by simp [hm],by simp,by simp [Nn],by simp,by simp,dN.nil _ _,rfl,by simpa using fh.nil,fun b hb=>absurd hb (dI _ _ _)⟩
   rintro k fr zQ ⟨KP,i,z,rs,g10,hi,f8,f5,f43,f44,f45,ow,Ar,aG,gj⟩
   have SV:=KP.wf hw9
   have apW:=KP.nx
   have IS:Ext H4 zQ:=YP.mod KP (fun b hb=>by omega)
   have apX:av p.body≤400:=by
    simp only [bq,aso,asx]at h1
    exact h1.2.1
   have ale:=fA p.body
   by_cases c8:i<p.body.length
   ·obtain ⟨y,hy⟩:∃y,p.body[i]?=some y:=⟨_,asl c8⟩
    have t1:=fy hy
    have t2:=aV p.body (i+1)
    have t3:=aV p.body i
    obtain ⟨l7,yn,kz,pR,pS⟩:=y
    obtain ⟨b,o,c',pT,pU,pV,Ya,Yb,Yc,cA,bJ,_,_,_,_,_,j1,j2,j3,j4,j5,e1,e2,e3,e4,e5,e6⟩:=iN.row (hr.ext IS) (iN.ext IS hl) hy
    have FT:oN zQ [.int .i64 l7,.int .i64 yn,pT,pU,pV] (.mk l7 yn kz pR pS):=.mk j1 j2 j3 j4 j5 e1 e2 e3 e4 e5 e6
    have IT:=f43
    rw [cA]at IT
    obtain ⟨Ha,sHa,Xa,apZ,ap0,u,Vj⟩:=eN (H:=zQ) SV (z:=5) (c:=[.int .i64 0,.int .i64 0,.slice none 0 0,.slice none 0 0,.slice none 0 0]) (vs:=[.int .i64 l7,.int .i64 yn,pT,pU,pV]) rfl
    have u0:Ha.ld ⟨zQ.nx,0,none⟩=some (.int .i64 l7):=Vj 0 _ rfl
    have u1:Ha.ld ⟨zQ.nx,1,none⟩=some (.int .i64 yn):=Vj 1 _ rfl
    have u2:Ha.ld ⟨zQ.nx,2,none⟩=some pT:=Vj 2 _ rfl
    have u3:Ha.ld ⟨zQ.nx,3,none⟩=some pU:=Vj 3 _ rfl
    have u4:Ha.ld ⟨zQ.nx,4,none⟩=some pV:=Vj 4 _ rfl
    clear Vj
    replace u:Ha.ldn ⟨zQ.nx,0,none⟩ 5=some [.int .i64 l7,.int .i64 yn,pT,pU,pV]:=u
    have YR:=Xa.wf SV
    have ga:=Xa.get g10
    have Vl:Ha.n0=H.n0:=Xa.n0.trans (KP.n0.trans n9)
    have ld3:=aI ga (by rw [Vl];exact m0) (k:=3) (v:=z) rfl
    obtain ⟨za,zc,hz⟩:=ow.shape
    rw [Ar]at hz
    have hbz:=rY (sz:=5) (z:=zS) (H:=Ha) (v:=.agg #[.int .i64 0,.int .i64 0,.slice none 0 0,.slice none 0 0,.slice none 0 0]) rfl rfl rfl
    simp only [fZ]at hbz
    have Xb:=Ext.alloc Ha (.cells 5 zS)
    have gz:=cK Ha (.cells 5 zS)
    obtain ⟨Hb,hHb⟩:∃Hb,Ha.alloc (.cells 5 zS)=Hb:=⟨_,rfl⟩
    rw [hHb]at hbz Xb gz
    have hwb:=Xb.wf YR
    have oz:dN Hb 5 (.slice (some ⟨Ha.nx,0,none⟩) 1 1) [zS]:=⟨.inr ⟨Ha.nx,rfl,by rw [Xb.n0];exact YR,by simpa using gz⟩,by simp⟩
    have xax:=Xa.nx
    have xbx:=Xb.nx
    rw [hz]at ld3
    simp (maxSteps:=4000000)-implicitDefEqProofs+contextual [-X.ev,IT,f44,f45,f8,c8,bJ,sHa,u,ld3,hbz]
    apply ah
    ·(simp-implicitDefEqProofs [-X.ev];rfl)
    refine (ES _ _ _ Hb (asA _) hwb (oN.ext (Xa.trans Xb) FT) (by omega)).mono ?_
    rintro xx Hc ⟨cs,rfl,Vm,Xc⟩
    have hwc:=Xc.wf hwb
    have xcx:=Xc.nx
    obtain ⟨s',Hd,uH,od,Md,kd,YS⟩:=tB (bytes:=88) hwc ((ow.ext (Xa.trans Xb)).ext Xc) (oz.ext Xc).rows (by simp;omega) (by simp;omega)
    have YT:=Vm.len
    obtain ⟨bd,hsd,He,sd,oe,Me,nxe,n0e⟩:=od.SS YT
    have Sp:∀b,aX z b→b<zQ.nx:=fun b hb=>ow.lt hb
    have ap6:m<H9.nx:=AH.a8 g9
    have gd:=Md.get (fun q=>by have:=gj m q;omega) (Xc.get (Xb.get ga))
    have KM:aX s' bd:=by rw [hsd];exact (bG _ _ _ _ _).2 rfl
    have ap7:=YS (by simp) bd KM
    have ge:=Me.get (fun q=>by omega) gd
    obtain ⟨Hf,sf,Mf',nxf,n0f,gf⟩:=cg ge (by rw [n0e,Md.n0,Xc.n0,Xb.n0,Vl];exact m0) (k:=3) (vs:=[s']) (by simp)
    have ahH:aP (pZ p.w fuel zX x z (.slice none 0 0) (.slice none 0 0)).cells 3 [s']=(pZ p.w fuel zX x s' (.slice none 0 0) (.slice none 0 0)).cells:=rfl
    rw [ahH]at gf
    have SW:=bg.1 ld3
    have YU:=Xc.ldn (Xb.ldn SW)
    have YV:=Xb.ldn SW
    have gzc:=Xc.get gz
    have mdx:=Md.nx
    rw [Ar]at sd hsd
    have Vh:Nat.beq bd m=false:=Bool.eq_false_iff.2 fun h=>by have:=Nat.eq_of_beq_eq_true h;omega
    have n0d:=Md.n0
    have n0c:=Xc.n0
    have n0b:=Xb.n0
    rw [hz]at uH
    rw [hsd]at uH sf
    have ahI:(i:Int)<(i:Int)+1:=by omega
    simp (maxSteps:=4000000)-implicitDefEqProofs+contextual [-X.ev,f45,uH,sd,sf,YT,ahI,bm,aJ,aK,Cq,dk,SW,YU,YV,gz,gzc,nQ,wT,Vh,n0d,n0c,n0b,n0e,n0f,xbx,xcx,mdx,nxe,nxf]
    rw [ai (n:=(i:Int)+1) ⟨by omega,by omega⟩]
    have MM:=(((KP.trans (Mod.cj ((Xa.trans Xb).trans Xc))).then Md (fun b hb q=>by have:=gj b q;omega)).then Me (fun b hb q=>by omega)).then Mf' (fun b _ q=>q)
    have nn:Hf.n0=Hc.n0:=n0f.trans (n0e.trans n0d)
    refine ⟨k- 1,by omega,MM,i+1,s',gf,by omega,f8,f5,f43,f44,by simp,_,oe.mod Mf' (fun b hb q=>by have:=YS (by simp) b hb;omega),by simp [Ar],?_,fun b hb=>by have:=YS (by simp) b hb;omega⟩
    rw [nA hy]
    refine fh.snoc (aG.sub (eZ (nn.trans (n0c.trans (n0b.trans Xa.n0))) (by omega) fun b y hb hn hz=>?_)) (Vm.sub (eZ nn (by omega) fun b y hb hn hz=>?_))
    ·have mj:=AH.a8 hb
     exact ⟨Mf'.get (fun q=>by omega) (Me.get (fun q=>by omega) (Md.get hz (Xc.get (Xb.get (Xa.get hb))))),hn,fun q=>by have:=YS (by simp) b q;omega⟩
    ·have mj:=AH.a8 hb
     exact ⟨Mf'.get (fun q=>by omega) (Me.get (fun q=>by omega) (Md.get (fun q=>by have:=Sp b q;omega) hb)),by omega,fun q=>by have:=YS (by simp) b q;omega⟩
   rw [ass (by omega)]at aG
   have YW:=IS.ld r0
   have IT:=f43
   rw [Nn]at IT
   simp (maxSteps:=4000000)-implicitDefEqProofs+contextual [-X.ev,IT,f44,f45,f8,f5,c8,YW]
   apply ah
   ·(simp-implicitDefEqProofs [-X.ev];rfl)
   refine (kZ SV (ss.ext IS) (by omega)).mono ?_
   rintro Vo H11 ⟨CD,Vp,SY⟩
   have Vl:zQ.n0=H.n0:=KP.n0.trans n9
   have aqb:=Vp.nx
   obtain ⟨EM,s12,Vb,MZ,XW,g12⟩:=cg (Vp.get g10) (by rw [Vp.n0,Vl];exact m0) (k:=7) (vs:=[Vo]) (by simp)
   have YX:aP (pZ p.w fuel zX x z (.slice none 0 0) (.slice none 0 0)).cells 7 [Vo]=(pZ p.w fuel zX x z Vo (.slice none 0 0)).cells:=rfl
   rw [YX]at g12
   have aqc:m<H9.nx:=AH.a8 g9
   have SZ:Mod (fun b=>b=m) zQ EM:=(Mod.cj Vp).trans Vb
   have MM7:Mod (fun b=>b=m) H7 EM:=((M8.trans M9).trans KP).trans SZ
   have MM5:Mod (fun b=>b=m) H5 EM:=(Mod.cj (X6.trans X7)).trans MM7
   have Iu:EM.n0=H.n0:=XW.trans (Vp.n0.trans Vl)
   have ahJ:EM.n0≤EM.nx:=by rw [Iu,MZ];omega
   obtain ⟨v12,A9⟩:∃v12,pZ p.w fuel zX x z Vo (.slice none 0 0)=v12:=⟨_,rfl⟩
   have YY:∀b,Mf m v12 b↔b=m∨aX Vo b:=by
    intro b
    rw [←A9]
    unfold Mf
    simp only [dI,false_or,or_false]
   obtain ⟨G,hG⟩:∃G,part EM H.nx (Mf m v12)=G:=⟨_,rfl⟩
   have x04:=qu.nx
   have o12:=(CD.mod Vb (fun b hb q=>by have:=SY b hb;omega))
   have vm:¬ aX Vo m:=fun q=>by have:=SY m q;omega
   have h12:MH G EM m v12 [] t.store [] []:=by
    subst hG A9
    exact {get:=g12,n0:=by rw [Iu];exact m0,sub:=CJ _ _ _,wf:=ahJ,fr:=(dN.nil _ 2).Su,st:=o12,ou:=dN.nil _ 2,tr:=dN.nil _ 3,d1:=⟨dI _ _ _,vm,dI _ _ _,dI _ _ _⟩,d2:=fun b hb=>absurd hb (dI _ _ _),d3:=fun b hb=>⟨dI _ _ _,dI _ _ _⟩,d4:=fun b hb=>absurd hb (dI _ _ _),out:=fun b hb=>vw hb}
   have YZ:dN G 5 z rs:=by
    rw [←hG]
    exact (ow.mod SZ (fun b hb q=>by have:=gj b hb;omega)).part fun b hb=>⟨by have:=gj b hb;omega,fun q=>by
     rw [YY]at q
     rcases q with q|q
     ·have:=gj b hb;omega
     ·have:=SY b q;have:=ow.lt hb;omega⟩
   have ahK:fh G rs p.body:=by
    rw [←hG]
    refine aG.sub (eZ (Iu.trans Vl.symm) (by omega) fun b y hb hn hz=>?_)
    have mj:=AH.a8 hb
    refine ⟨SZ.get (fun q=>by omega) hb,by omega,fun q=>?_⟩
    rw [YY]at q
    rcases q with q|q
    ·omega
    ·have:=SY b q;omega
   have Y0:dN G 3 x (p.vars.map Vr.row):=by
    rw [←hG]
    refine (o7.mod MM7 (fun b hb q=>by have:=k7 b hb;omega)).part fun b hb=>⟨by have:=k7 b hb;omega,fun q=>?_⟩
    rw [YY]at q
    rcases q with q|q
    ·have:=k7 b hb;omega
    ·have:=SY b q;have:=o7.lt hb;have:=Va;have:=XT;omega
   have ahL:dN G 1 zX (a7 t.bS):=by
    rw [←hG]
    refine (o5.mod MM5 (fun b hb q=>by have:=o5.lt hb;omega)).part fun b hb=>⟨by have:=k5 b hb;omega,fun q=>?_⟩
    rw [YY]at q
    rcases q with q|q
    ·have:=o5.lt hb;omega
    ·have:=SY b q;have:=o5.lt hb;omega
   have l3:=aI g12 (by rw [Iu];exact m0) (k:=3) (v:=z) rfl
   obtain ⟨za,zc,hz⟩:=ow.shape
   obtain ⟨sa,sc,VR⟩:=CD.shape
   have ahM:p.body.length≤2^30:=by omega
   have key:=pX (k:=0) h12 YZ.rows ahK YZ.fit (fs:=[]) .nil (by simp) ahM
   rw [hz]at l3 key
   rw [VR]at s12
   simp (maxSteps:=4000000)-implicitDefEqProofs+contextual [-X.ev,f8,VR,s12,l3,bm,aJ,aK]
   apply ah
   ·(simp-implicitDefEqProofs [-X.ev];rfl)
   refine (key).mono ?_
   rintro xx H13 ⟨om,dJ,rJ,Y1,ahN,Y2,Y3⟩
   have ahO:=Y1.mod.n0
   have ahP:=Y1.mod.nx
   simp (maxSteps:=4000000)-implicitDefEqProofs+contextual [-X.ev,f8,bm,aJ,aK,ahO,ahP,hk]
   have XX:Ext H EM:=(((qu.trans IS)).trans Vp).mod Vb (fun b hb=>by omega)
   have CS:∀b,Mf m v12 b→H.nx≤b:=fun b hb=>by
    rw [YY]at hb
    rcases hb with q|q
    ·omega
    ·have:=SY b q;omega
   have hY:∀b x,G.get b=some x→H.nx≤b:=fun b x hb=>by rw [←hG]at hb;exact (jW.1 hb).2.1
   refine ⟨G,_,{is:=⟨dJ,Y1.mh,fun _=>⟨rJ,ahN,by rw [Y2];simp [mK,fB]⟩,by simp at Y3;show _+2*fuel≤2^20;omega⟩,w:=by rw [←A9],vars:=by rw [←A9];exact Y0.rows,cap:=by rw [←A9];exact Y0.cap,bS:=by rw [←A9];exact ahL.ints,mt:=by rw [←A9];exact ⟨rfl,rfl,rfl,rfl,rfl,rfl⟩,inv:=hinv,ov:=fun q=>by cases q},XX.mod Y1.mod CS,fun b hb=>?_,hY⟩
   rcases Y1.new b hb with q|q
   ·exact CS b q
   ·have:=XX.nx;omega
end Go.Proofs.YtppcmpmnglaleaaGreatDoor.A
namespace Go.Proofs.YtppcmpmnglaleaaGreatDoor.A
open Go
structure jo where
 en:Int
 store:List Int
 outs:List (Int×Int)
 trace:List Ev
 cost:Int
 used:Int
 wh:Int
def ek.run (c:ek):jo:=⟨c.en,c.store,c.outs,c.trace,c.cost,c.used,c.wh⟩
def CT:jo:=⟨0,[],[],[],0,0,0⟩
def Small (r:jo):Prop:=r.store.length≤2^40∧r.outs.length≤2^40∧r.trace.length≤2^40
structure me (H:AH) (n:Nat) (cs:List Value) (r:jo):Prop where
 is:∃vs vo vt,cs=[.int .i64 r.en,vs,vo,vt,.int .i64 r.cost,.int .i64 r.used,.int .i64 r.wh]∧dN H 1 vs (a7 r.store)∧dN H 2 vo (dD r.outs)∧dN H 3 vt (c9 r.trace)∧(∀b,aX vs b∨aX vo b∨aX vt b→n≤b)
theorem me.ext {H H':AH} {n:Nat} {cs:List Value} {r:jo} (X:Ext H H') (h:me H n cs r):me H' n cs r:=by
 obtain ⟨vs,vo,vt,e,a,b,c,d⟩:=h.is
 exact ⟨vs,vo,vt,e,a.ext X,b.ext X,c.ext X,d⟩
theorem me.zero (H:AH) (n:Nat):me H n [.int .i64 0,.slice none 0 0,.slice none 0 0,.slice none 0 0,.int .i64 0,.int .i64 0,.int .i64 0] CT:=
 ⟨_,_,_,rfl,dN.nil _ _,dN.nil _ _,dN.nil _ _,fun b hb=>by rcases hb with q|q|q<;>exact absurd q (dI _ _ _)⟩
theorem EZ {H:AH} {r:jo} {vs vo vt:Value} (hw:H.n0≤H.nx) (hs:Rows H 1 vs (a7 r.store)) (ho:Rows H 2 vo (dD r.outs)) (ht:Rows H 3 vt (c9 r.trace)) (hb:Small r):
 Ca E O 115 [.agg #[.int .i64 r.en,vs,vo,vt,.int .i64 r.cost,.int .i64 r.used,.int .i64 r.wh]] H (fun x H'=>∃cs,x= .agg cs.toArray∧me H' H.nx cs r∧Ext H H'):=by
 refine Ca.aS (F:=LC) rfl rfl rfl ?_
 obtain ⟨b1,b2,b3⟩:=hb
 have gB:=cK H (.cells 7 [.int .i64 r.en,vs,vo,vt,.int .i64 r.cost,.int .i64 r.used,.int .i64 r.wh])
 have X1:=Ext.alloc H (.cells 7 [.int .i64 r.en,vs,vo,vt,.int .i64 r.cost,.int .i64 r.used,.int .i64 r.wh])
 have d0:(H.alloc (.cells 7 [.int .i64 r.en,vs,vo,vt,.int .i64 r.cost,.int .i64 r.used,.int .i64 r.wh])).ld ⟨H.nx,0,none⟩=some (.int .i64 r.en):=ak hw rfl
 have d1:(H.alloc (.cells 7 [.int .i64 r.en,vs,vo,vt,.int .i64 r.cost,.int .i64 r.used,.int .i64 r.wh])).ld ⟨H.nx,1,none⟩=some vs:=ak hw rfl
 have d2:(H.alloc (.cells 7 [.int .i64 r.en,vs,vo,vt,.int .i64 r.cost,.int .i64 r.used,.int .i64 r.wh])).ld ⟨H.nx,2,none⟩=some vo:=ak hw rfl
 have d3:(H.alloc (.cells 7 [.int .i64 r.en,vs,vo,vt,.int .i64 r.cost,.int .i64 r.used,.int .i64 r.wh])).ld ⟨H.nx,3,none⟩=some vt:=ak hw rfl
 have d4:(H.alloc (.cells 7 [.int .i64 r.en,vs,vo,vt,.int .i64 r.cost,.int .i64 r.used,.int .i64 r.wh])).ld ⟨H.nx,4,none⟩=some (.int .i64 r.cost):=ak hw rfl
 have d5:(H.alloc (.cells 7 [.int .i64 r.en,vs,vo,vt,.int .i64 r.cost,.int .i64 r.used,.int .i64 r.wh])).ld ⟨H.nx,5,none⟩=some (.int .i64 r.used):=ak hw rfl
 have d6:(H.alloc (.cells 7 [.int .i64 r.en,vs,vo,vt,.int .i64 r.cost,.int .i64 r.used,.int .i64 r.wh])).ld ⟨H.nx,6,none⟩=some (.int .i64 r.wh):=ak hw rfl
 have d:(H.alloc (.cells 7 [.int .i64 r.en,vs,vo,vt,.int .i64 r.cost,.int .i64 r.used,.int .i64 r.wh])).ldn ⟨H.nx,0,none⟩ 7=some [.int .i64 r.en,vs,vo,vt,.int .i64 r.cost,.int .i64 r.used,.int .i64 r.wh]:=bl hw 7 rfl
 generalize cJ:H.alloc (.cells 7 [.int .i64 r.en,vs,vo,vt,.int .i64 r.cost,.int .i64 r.used,.int .i64 r.wh])=H1 at X1 d0 d1 d2 d3 d4 d5 d6 d
 have bP:=X1.wf hw
 rw [cJ]at gB
 have X2:=Ext.alloc H1 (.cells 7 [.int .i64 0,.slice none 0 0,.slice none 0 0,.slice none 0 0,.int .i64 0,.int .i64 0,.int .i64 0])
 have gR:=cK H1 (.cells 7 [.int .i64 0,.slice none 0 0,.slice none 0 0,.slice none 0 0,.int .i64 0,.int .i64 0,.int .i64 0])
 obtain ⟨H2,kl⟩:∃H2,H1.alloc (.cells 7 [.int .i64 0,.slice none 0 0,.slice none 0 0,.slice none 0 0,.int .i64 0,.int .i64 0,.int .i64 0])=H2:=⟨_,rfl⟩
 rw [kl]at X2 gR
 have jr:=X2.wf bP
 have fU:=X1.trans X2
 have ltB:=AH.a8 gB
 have ltR:=AH.a8 gR
 have x1:=X1.nx
 have x2:=X2.nx
 replace d1:=X2.ld d1
 replace d2:=X2.ld d2
 replace d3:=X2.ld d3
 have l1n:=bg.1 d1
 have l2n:=bg.1 d2
 have l3n:=bg.1 d3
 obtain ⟨a1,c1,e1⟩:=hs.len
 obtain ⟨a2,c2,e2⟩:=ho.len
 obtain ⟨a3,c3,e3⟩:=ht.len
 have s1:dG vs vs=true:=by rw [e1];simp
 have s2:dG vo vo=true:=by rw [e2];simp
 have s3:dG vt vt=true:=by rw [e3];simp
 simp (maxSteps:=4000000)-implicitDefEqProofs+contextual [-X.ev,LC,cJ,kl,d1,d2,d3]
 apply ah
 ·(simp-implicitDefEqProofs [-X.ev];rfl)
 refine (kZ (l:=r.store) jr (hs.ext fU) b1).mono ?_
 rintro xs H3 ⟨o3,X3,k3⟩
 have nm:=X3.wf jr
 simp (maxSteps:=4000000)-implicitDefEqProofs+contextual [-X.ev]
 apply ah
 ·(simp-implicitDefEqProofs [-X.ev];rfl)
 refine (nq (f:=147) (sz:=2) (bytes:=16) rfl rfl nm (ho.ext (fU.trans X3)) (by simp [dD];omega) (by simp [dD];omega)).mono ?_
 rintro xo H4 ⟨o4,X4,k4⟩
 have qv:=X4.wf nm
 simp (maxSteps:=4000000)-implicitDefEqProofs+contextual [-X.ev]
 apply ah
 ·(simp-implicitDefEqProofs [-X.ev];rfl)
 refine (nq (f:=148) (sz:=3) (bytes:=24) rfl rfl qv (ht.ext ((fU.trans X3).trans X4)) (by simp [c9];omega) (by simp [c9];omega)).mono ?_
 rintro xt H5 ⟨o5,X5,k5⟩
 have x3:=X3.nx
 have x4:=X4.nx
 have x5:=X5.nx
 obtain ⟨f1,g1,h1⟩:=o3.shape
 obtain ⟨f2,g2,h2⟩:=o4.shape
 obtain ⟨f3,g3,h3⟩:=o5.shape
 have X25:=X3.trans (X4.trans X5)
 have Vq:H5.n0=H.n0:=X25.n0.trans fU.n0
 obtain ⟨H6,t6,M6,nx6,MY,gB6⟩:=cg (X25.get (X2.get gB)) (by rw [Vq];exact hw) (k:=1) (vs:=[xs]) (by simp)
 rw [show aP [Value.int .i64 r.en,vs,vo,vt,.int .i64 r.cost,.int .i64 r.used,.int .i64 r.wh] 1 [xs]=[.int .i64 r.en,xs,vo,vt,.int .i64 r.cost,.int .i64 r.used,.int .i64 r.wh] from rfl]at gB6
 obtain ⟨H7,t7,M7,nx7,EL,Yd⟩:=cg gB6 (by rw [MY,Vq];exact hw) (k:=2) (vs:=[xo]) (by simp)
 rw [show aP [Value.int .i64 r.en,xs,vo,vt,.int .i64 r.cost,.int .i64 r.used,.int .i64 r.wh] 2 [xo]=[.int .i64 r.en,xs,xo,vt,.int .i64 r.cost,.int .i64 r.used,.int .i64 r.wh] from rfl]at Yd
 obtain ⟨H8,t8,M8,Va,CI,Ye⟩:=cg Yd (by rw [EL,MY,Vq];exact hw) (k:=3) (vs:=[xt]) (by simp)
 rw [show aP [Value.int .i64 r.en,xs,xo,vt,.int .i64 r.cost,.int .i64 r.used,.int .i64 r.wh] 3 [xt]=[.int .i64 r.en,xs,xo,xt,.int .i64 r.cost,.int .i64 r.used,.int .i64 r.wh] from rfl]at Ye
 have l8:H8.ldn ⟨H.nx,0,none⟩ 7=some [.int .i64 r.en,xs,xo,xt,.int .i64 r.cost,.int .i64 r.used,.int .i64 r.wh]:=by rw [bW Ye (by rw [CI,EL,MY,Vq];exact hw) (by simp)];rfl
 have gR8:=M8.get (fun q=>by omega) (M7.get (fun q=>by omega) (M6.get (fun q=>by omega) (X25.get gR)))
 obtain ⟨H9,t9,M9,XT,PA,Yf⟩:=cg gR8 (by rw [CI,EL,MY,Vq];omega) (k:=0) (vs:=[.int .i64 r.en,xs,xo,xt,.int .i64 r.cost,.int .i64 r.used,.int .i64 r.wh]) (by simp)
 rw [show aP [Value.int .i64 0,.slice none 0 0,.slice none 0 0,.slice none 0 0,.int .i64 0,.int .i64 0,.int .i64 0] 0 [.int .i64 r.en,xs,xo,xt,.int .i64 r.cost,.int .i64 r.used,.int .i64 r.wh]=[.int .i64 r.en,xs,xo,xt,.int .i64 r.cost,.int .i64 r.used,.int .i64 r.wh] from rfl]at Yf
 have l9:H9.ldn ⟨H1.nx,0,none⟩ 7=some [.int .i64 r.en,xs,xo,xt,.int .i64 r.cost,.int .i64 r.used,.int .i64 r.wh]:=by rw [bW Yf (by rw [PA,CI,EL,MY,Vq];omega) (by simp)];rfl
 have ahQ:=X3.ldn l1n
 have Y4:=X3.ldn l2n
 have Y5:=X3.ldn l3n
 have ahR:=X4.ldn Y4
 have Y6:=X4.ldn Y5
 have ahS:=X5.ldn Y6
 have i1:cY xs=false:=by rw [h1];rfl
 have i2:cY xo=false:=by rw [h2];rfl
 have i3:cY xt=false:=by rw [h3];rfl
 have v1:aZ xs=[xs]:=by rw [h1];rfl
 have v2:aZ xo=[xo]:=by rw [h2];rfl
 have v3:aZ xt=[xt]:=by rw [h3];rfl
 simp (maxSteps:=4000000)-implicitDefEqProofs+contextual [-X.ev,i1,i2,i3,v1,v2,v3,t6,t7,t8,l8,t9,l9,s1,s2,s3,l1n,l2n,l3n,ahQ,Y4,Y5,ahR,Y6,ahS,X3.n0,X4.n0,X5.n0,x3,x4,x5,MY,EL,CI,nx6,nx7,Va,bm,aJ,aK]
 have hM:Mod (fun b=>b=H.nx∨b=H1.nx) H5 H9:=(((M6.mono fun b _ q=>.inl q).trans (M7.mono fun b _ q=>.inl q)).trans (M8.mono fun b _ q=>.inl q)).trans (M9.mono fun b _ q=>.inr q)
 refine ⟨⟨xs,xo,xt,rfl,(o3.ext (X4.trans X5)).mod hM (fun b hb q=>by have:=k3 b hb;omega),(o4.ext X5).mod hM (fun b hb q=>by have:=k4 b hb;omega),o5.mod hM (fun b hb q=>by have:=k5 b hb;omega),fun b hb=>?_⟩,(fU.trans X25).mod hM (fun b hb=>by omega)⟩
 rcases hb with q|q|q
 ·have:=k3 b q;omega
 ·have:=k4 b q;omega
 ·have:=k5 b q;omega
open Go
def iterM (p:bf) (ps:List Int):Nat→ek→ek
 |0,c=>c
 |n+1,c=>iterM p ps n (bN p ps c)
def mM (p:bf) (ps:List Int) (c:ek):ek:=iterM p ps (c.fuel.toNat+1) c
theorem oV {p:bf} {ps:List Int} {c:ek} (h:cM c=true):bN p ps c=c:=by
 unfold cM at h
 unfold bN
 by_cases ho:c.over=true
 ·rw [if_pos ho]
 ·rw [if_neg ho]
  simp only [Bool.or_eq_true,List.isEmpty_iff]at h
  rw [h.resolve_left ho]
theorem j0 {p:bf} {ps:List Int} {c:ek} (h:cM c=true):∀n,iterM p ps n c=c
 |0=>rfl
 |n+1=>by rw [iterM,oV h];exact j0 h n
theorem E4 {p:bf} {ps:List Int} {c:ek} (h:cM c=false) (h2:(bN p ps c).over=false):c.fuel≠0∧(bN p ps c).fuel=c.fuel- 1:=by
 unfold cM at h
 simp only [Bool.or_eq_false_iff]at h
 unfold bN at h2⊢
 rw [if_neg (by rw [h.1];decide)]at h2⊢
 cases ht:c.todo with
 |nil=>rw [ht]at h;simp at h
 |cons it next=>
  obtain ⟨k,s⟩:=it
  rw [ht]at h2
  by_cases hf:c.fuel=0
  ·simp only [if_pos hf]at h2
   cases h2
  ·refine ⟨hf,?_⟩
   simp only [if_neg hf]
   rw [tV];rfl
theorem yY {p:bf} {ps:List Int} {c:ek} (h:(!cM c&& !(bN p ps c).over)=false):mM p ps c=bN p ps c:=by
 unfold mM
 cases he:cM c with
 |true=>rw [j0 he,oV he]
 |false=>
  rw [he]at h
  simp at h
  rw [iterM]
  exact j0 (by simp [cM,h]) _
theorem IU {p:bf} {ps:List Int} {c:ek} (hf:0≤c.fuel) (h:(!cM c&& !(bN p ps c).over)=true):mM p ps (bN p ps c)=mM p ps c∧(bN p ps c).fuel=c.fuel- 1∧0<c.fuel:=by
 simp only [aso,Bool.not_eq_true']at h
 obtain ⟨h1,h2⟩:=E4 h.1 h.2
 refine ⟨?_,h2,by omega⟩
 unfold mM
 rw [h2]
 obtain ⟨n,hn⟩:∃n:Nat,c.fuel=n+1:=⟨c.fuel.toNat- 1,by omega⟩
 rw [hn]
 simp only [Int.add_sub_cancel,Int.toNat_natCast]
 rw [show((n:Int)+1).toNat=n+1 by omega]
 conv=>rhs;rw [iterM]
theorem vz {p:bf} {ps:List Int} {c:ek} (h:Inv p ps c):Small c.run:=by
 have h1:=h.tr
 have h2:=h.ou
 have h3:=h.fuel
 have hs:=h.store
 simp only [aO,aso,asx]at hs
 have h48:=(iC h.head).2.2
 refine ⟨?_,?_,?_⟩
 ·show c.store.length≤_;omega
 ·show c.outs.length≤_;omega
 ·show c.trace.length≤_;omega
theorem No {G H:AH} {m:Nat} {p:bf} {ps:List Int} {v:MV} {c:ek} (h:tU G H m p ps v c):
 Ca E O 79 [.pointer (some ⟨m,0,none⟩)] H (fun x H'=>∃cs,x= .tuple #[.agg cs.toArray,.bool (cM c)]∧me H' H.nx cs c.run∧Ext H H'):=by
 refine Ca.aS (F:=WM) rfl rfl rfl ?_
 obtain ⟨rows,hM,EI,wz⟩:=h.is
 obtain ⟨m1,m2,m3,m4,m5,m6⟩:=h.mt
 have hw:=hM.wf
 have X1:=Ext.alloc H (.cells 7 [.int .i64 0,.slice none 0 0,.slice none 0 0,.slice none 0 0,.int .i64 0,.int .i64 0,.int .i64 0])
 have gR:=cK H (.cells 7 [.int .i64 0,.slice none 0 0,.slice none 0 0,.slice none 0 0,.int .i64 0,.int .i64 0,.int .i64 0])
 obtain ⟨H1,cJ⟩:∃H1,H.alloc (.cells 7 [.int .i64 0,.slice none 0 0,.slice none 0 0,.slice none 0 0,.int .i64 0,.int .i64 0,.int .i64 0])=H1:=⟨_,rfl⟩
 rw [cJ]at X1 gR
 have M1:=hM.ext X1
 have x1:=X1.nx
 have EY:=aI M1.get M1.n0 (k:=13) (v:=.bool v.ended) rfl
 have r0:=aI M1.get M1.n0 (k:=0) (v:=v.vf) rfl
 have l6:H1.ldn ⟨m,6,none⟩ 7=some [.int .i64 c.run.en,v.vs,v.vo,v.vt,.int .i64 c.run.cost,.int .i64 c.run.used,.int .i64 c.run.wh]:=by
  rw [bW M1.get M1.n0 (by simp)]
  show some [Value.int .i64 v.en,v.vs,v.vo,v.vt,.int .i64 v.cost,.int .i64 v.used,.int .i64 v.wh]=_
  rw [m1,m2,m3,m4];rfl
 have ltm:=hM.lt (.inl rfl)
 obtain ⟨fa,fc,hvf⟩:=hM.fr.shape
 have key:=EZ (r:=c.run) M1.wf M1.st.rows M1.ou.rows M1.tr.rows (vz h.inv)
 obtain ⟨a1,c1,e1⟩:=hM.st.shape
 obtain ⟨a2,c2,e2⟩:=hM.ou.shape
 obtain ⟨a3,c3,e3⟩:=hM.tr.shape
 have s1:dG v.vs v.vs=true:=by rw [e1];simp
 have s2:dG v.vo v.vo=true:=by rw [e2];simp
 have s3:dG v.vt v.vt=true:=by rw [e3];simp
 have Vh:Nat.beq m H.nx=false:=Bool.eq_false_iff.2 fun h=>by have:=Nat.eq_of_beq_eq_true h;omega
 have E5:cM c=(c.over||decide (rows.length=0)):=by
  unfold cM
  cases ho:c.over with
  |true=>rfl
  |false=>
   obtain ⟨fs,aG,IQ⟩:=EI ho
   rw [Bool.false_or,Bool.false_or,Bool.eq_iff_iff,List.isEmpty_iff,asx,IQ]
   constructor
   ·intro q
    rcases List.eq_nil_or_concat fs with rfl|⟨eP,f,Y7⟩
    ·rw [yW aG];rfl
    ·rw [List.concat_eq_append]at Y7
     subst Y7
     obtain ⟨_,_,rfl,_,_,_,_,_,_,_,gF,_⟩:=qP aG
     rw [jZ]at q
     simp at q
     obtain ⟨l,k⟩:=f
     cases l with
     |nil=>exact absurd rfl gF
     |cons s l=>rw [lR]at q;simp at q
   ·intro q
    have:rows=[]:=List.eq_nil_of_length_eq_zero q
    subst this
    cases aG
    rfl
 rw [m6]at EY
 rw [hvf]at r0
 have qR:((rows.length:Int)=0)↔rows=[]:=by rw [←List.length_eq_zero_iff];omega
 cases ho:c.over with
 |true=>
  rw [ho]at EY E5
  simp (maxSteps:=4000000)-implicitDefEqProofs+contextual [-X.ev,WM,cJ,l6,EY]
  apply ah
  ·(simp-implicitDefEqProofs [-X.ev];rfl)
  refine (key).mono ?_
  rintro xx H2 ⟨cs,rfl,hc,X2⟩
  have x2:=X2.nx
  have jF:cs.length=7:=by obtain ⟨_,_,_,e,_⟩:=hc.is;rw [e];rfl
  obtain ⟨H3,t3,M3,sr,nk,g3⟩:=cg (X2.get gR) (by rw [X2.n0,X1.n0];exact hw) (k:=0) (vs:=cs) (by simp [jF])
  have ji:=iA [Value.int .i64 0,.slice none 0 0,.slice none 0 0,.slice none 0 0,.int .i64 0,.int .i64 0,.int .i64 0] cs (by rw [jF];rfl)
  rw [ji]at g3
  have l3:H3.ldn ⟨H.nx,0,none⟩ 7=some cs:=by rw [bW g3 (by rw [nk,X2.n0,X1.n0];exact hw) (by omega)];simp [ass (Nat.le_of_eq jF)]
  have l62:=X2.ldn l6
  have IV:=bg.1 EY
  have IW:=X2.ldn IV
  have YE:=X2.n0
  simp (maxSteps:=4000000)-implicitDefEqProofs+contextual [-X.ev,jF,t3,l3,E5,l6,l62,IV,IW,s1,s2,s3,x2,YE,sr,nk,bm,aJ,aK,Cq,dk,Vh]
  refine ⟨?_,X1.trans X2|>.mod M3 (fun b hb=>by omega)⟩
  obtain ⟨us,uo,ut,e,a,b,cc,dd⟩:=hc.is
  exact ⟨us,uo,ut,e,a.mod M3 (fun q hq e=>by have:=dd q (.inl hq);have:=AH.a8 gR;omega),b.mod M3 (fun q hq e=>by have:=dd q (.inr (.inl hq));have:=AH.a8 gR;omega),cc.mod M3 (fun q hq e=>by have:=dd q (.inr (.inr hq));have:=AH.a8 gR;omega),fun q hq=>by have:=dd q hq;omega⟩
 |false=>
  rw [ho]at EY E5
  obtain ⟨F,hF⟩:∃F,cM c=F:=⟨_,rfl⟩
  rw [hF]at E5⊢
  have hd:decide (rows=[])=F:=by rw [E5,Bool.false_or,Bool.eq_iff_iff,asx,asx,List.length_eq_zero_iff]
  have B7:decide (rows.length=0)=F:=by rw [E5,Bool.false_or]
  have hd3:decide ((rows.length:Int)=0)=F:=by rw [←B7,Bool.eq_iff_iff,asx,asx];omega
  have r0n:=r0
  simp (maxSteps:=4000000)-implicitDefEqProofs+contextual [-X.ev,WM,cJ,l6,EY]
  apply ah
  ·(simp-implicitDefEqProofs [-X.ev];rfl)
  refine (key).mono ?_
  rintro xx H2 ⟨cs,rfl,hc,X2⟩
  have x2:=X2.nx
  have jF:cs.length=7:=by obtain ⟨_,_,_,e,_⟩:=hc.is;rw [e];rfl
  obtain ⟨H3,t3,M3,sr,nk,g3⟩:=cg (X2.get gR) (by rw [X2.n0,X1.n0];exact hw) (k:=0) (vs:=cs) (by simp [jF])
  have ji:=iA [Value.int .i64 0,.slice none 0 0,.slice none 0 0,.slice none 0 0,.int .i64 0,.int .i64 0,.int .i64 0] cs (by rw [jF];rfl)
  rw [ji]at g3
  have l3:H3.ldn ⟨H.nx,0,none⟩ 7=some cs:=by rw [bW g3 (by rw [nk,X2.n0,X1.n0];exact hw) (by omega)];simp [ass (Nat.le_of_eq jF)]
  have l62:=X2.ldn l6
  have IV:=bg.1 EY
  have IW:=X2.ldn IV
  have r02:=X2.ld r0
  have YE:=X2.n0
  simp (maxSteps:=4000000)-implicitDefEqProofs+contextual [-X.ev,jF,t3,l3,hd,r02,l6,l62,IV,IW,s1,s2,s3,x2,YE,sr,nk,bm,aJ,aK,Cq,dk,Vh]
  refine ⟨?_,X1.trans X2|>.mod M3 (fun b hb=>by omega)⟩
  obtain ⟨us,uo,ut,e,a,b,cc,dd⟩:=hc.is
  exact ⟨us,uo,ut,e,a.mod M3 (fun q hq e=>by have:=dd q (.inl hq);have:=AH.a8 gR;omega),b.mod M3 (fun q hq e=>by have:=dd q (.inr (.inl hq));have:=AH.a8 gR;omega),cc.mod M3 (fun q hq e=>by have:=dd q (.inr (.inr hq));have:=AH.a8 gR;omega),fun q hq=>by have:=dd q hq;omega⟩
end Go.Proofs.YtppcmpmnglaleaaGreatDoor.A
namespace Go.Proofs.YtppcmpmnglaleaaGreatDoor.A
open Go
abbrev zR:List Value:=[.int .i64 0,.slice none 0 0,.slice none 0 0,.slice none 0 0,.int .i64 0,.int .i64 0,.int .i64 0]
def iD (p:bf) (fuel:Int) (t:eG):jo:=if fM p fuel t=0 then(mM p t.bS (fB p fuel t)).run else CT
theorem me.len {H:AH} {n:Nat} {cs:List Value} {r:jo} (h:me H n cs r):cs.length=7:=by obtain ⟨_,_,_,e,_⟩:=h.is;rw [e];rfl
theorem me.mod {H H':AH} {n:Nat} {S:Nat→Prop} {cs:List Value} {r:jo} (h:me H n cs r) (M:Mod S H H') (hS:∀b,S b→b<n):me H' n cs r:=by
 obtain ⟨us,uo,ut,e,a,b,c,d⟩:=h.is
 exact ⟨us,uo,ut,e,a.mod M (fun q hq e=>by have:=d q (.inl hq);have:=hS q e;omega),b.mod M (fun q hq e=>by have:=d q (.inr (.inl hq));have:=hS q e;omega),c.mod M (fun q hq e=>by have:=d q (.inr (.inr hq));have:=hS q e;omega),d⟩
theorem me.le {H:AH} {n k:Nat} {cs:List Value} {r:jo} (h:me H n cs r) (hk:k≤n):me H k cs r:=by
 obtain ⟨us,uo,ut,e,a,b,c,d⟩:=h.is
 exact ⟨us,uo,ut,e,a,b,c,fun q hq=>Nat.le_trans hk (d q hq)⟩
theorem Np {p:bf} {t:eG} {c d:List Value} {fuel:Int} {H:AH} (hw:H.n0≤H.nx) (hp:qI H c p) (ht:yq H d t):
 Ca E O 47 [.agg c.toArray,.int .i64 fuel,.agg d.toArray] H (fun x H'=>∃cs,x= .tuple #[.agg cs.toArray,.int .i64 (fM p fuel t)]∧me H' H.nx cs (iD p fuel t)∧Ext H H'):=by
 refine Ca.aS (F:=a47) rfl rfl rfl ?_
 have hc:=hp.len
 have hd:d.length=2:=by obtain ⟨vs,vp,e,_⟩:=ht.is;rw [e];rfl
 have X1:=Ext.alloc H (.cells c.length c)
 have q:(H.alloc (.cells c.length c)).ldn ⟨H.nx,0,none⟩ 3=some c:=bl hw 3 (by assumption)
 generalize cJ:H.alloc (.cells c.length c)=H1 at X1 q
 have bP:=X1.wf hw
 have X2:=Ext.alloc H1 (.cells d.length d)
 have r:(H1.alloc (.cells d.length d)).ldn ⟨H1.nx,0,none⟩ 2=some d:=bl bP 2 (by assumption)
 generalize kl:H1.alloc (.cells d.length d)=H2 at X2 r
 have jU:=X2.wf bP
 replace q:=X2.ldn q
 have X3:=Ext.alloc H2 (.cells 7 zR)
 have gR:=cK H2 (.cells 7 zR)
 obtain ⟨H3,KR⟩:∃H3,H2.alloc (.cells 7 zR)=H3:=⟨_,rfl⟩
 rw [KR]at X3 gR
 have nm:=X3.wf jU
 have X:=(X1.trans X2).trans X3
 replace q:=X3.ldn q
 replace r:=X3.ldn r
 have x1:=X1.nx
 have x2:=X2.nx
 have ltR:=AH.a8 gR
 have nk:H3.n0=H.n0:=X.n0
 have r0':H3.n0≤H2.nx:=by rw [nk];omega
 have k1:=SU (fuel:=fuel) nm (hp.ext X) (ht.ext X)
 simp (maxSteps:=4000000)-implicitDefEqProofs+contextual [-X.ev,a47,cJ,kl,KR,q,r]
 apply ah
 ·(simp-implicitDefEqProofs [-X.ev];rfl)
 refine (k1).mono ?_
 rintro x H4 hx
 by_cases hk:fM p fuel t=0
 case neg=>
  rw [if_neg hk]at hx
  obtain ⟨rfl,X4⟩:=hx
  obtain ⟨H5,t5,M5,Pt,yG,g5⟩:=cg (X4.get gR) (by rw [X4.n0];exact r0') (k:=0) (vs:=zR) (by simp)
  rw [iA _ _ rfl]at g5
  have l5:H5.ldn ⟨H2.nx,0,none⟩ 7=some zR:=by rw [bW g5 (by rw [yG,X4.n0];exact r0') (by simp)];rfl
  have uU:fg zR []=some (.agg zR.toArray):=rfl
  simp (maxSteps:=4000000)-implicitDefEqProofs+contextual [-X.ev,hk,uU,t5,l5]
  have XX:=(X.trans X4).mod M5 (fun b hb=>by omega)
  exact ⟨by rw [iD,if_neg hk];exact me.zero _ _,XX⟩
 rw [if_pos hk]at hx
 obtain ⟨m,rfl,G,v,hM,X4,CS,hG⟩:=hx
 obtain ⟨fin,IX⟩:∃f,mM p t.bS (fB p fuel t)=f:=⟨_,rfl⟩
 simp (maxSteps:=4000000)-implicitDefEqProofs+contextual [-X.ev]
 refine ch (fun k fr H'=>fr.get 8= .pointer (some ⟨m,0,none⟩)∧fr.get 6= .pointer (some ⟨H2.nx,0,none⟩)∧Ext H3 H'∧∃v c',tU G H' m p t.bS v c'∧mM p t.bS c'=fin∧(∀b,Mf m v b→H3.nx≤b)∧k=c'.fuel.toNat) ?_ _ ⟨by simp,by simp,X4,v,_,hM,IX,CS,rfl⟩
 rintro k fr H5 ⟨f8,f6,X5,v5,c5,hM5,PR,IY,rfl⟩
 simp (maxSteps:=4000000)-implicitDefEqProofs+contextual [-X.ev,f8]
 apply ah
 ·(simp-implicitDefEqProofs [-X.ev];rfl)
 refine (Nl hM5).mono ?_
 rintro x H6 ⟨rfl,v6,hM6,M6,hn6,YN⟩
 have X6:Ext H3 H6:=X5.mod M6 IY
 have S3:∀b,Mf m v6 b→H3.nx≤b:=fun b hb=>by
  rcases hn6 b hb with q|q
  ·exact IY b q
  ·have:=X5.nx;omega
 cases hgo:(!cM c5&& !(bN p t.bS c5).over)with
 |true=>
  obtain ⟨g1,g2,g3⟩:=IU hM5.inv.fuel.1 hgo
  simp (maxSteps:=4000000)-implicitDefEqProofs+contextual [-X.ev,hgo,f8,f6]
  exact ⟨_,by omega,X6,v6,_,hM6,g1.trans PR,S3,rfl⟩
 |false=>
  have hs:bN p t.bS c5=fin:=(yY hgo).symm.trans PR
  rw [hs]at hM6
  simp (maxSteps:=4000000)-implicitDefEqProofs+contextual [-X.ev,hgo,f8,f6]
  apply ah
  ·(simp-implicitDefEqProofs [-X.ev];rfl)
  refine (No hM6).mono ?_
  rintro x H7 ⟨cs,rfl,hr,X7⟩
  have jF:=hr.len
  have U5:=(X6.trans X7).wf nm
  obtain ⟨H8,s8,X8,Va,CI,g8⟩:=jy U5 (z:=7) (c:=zR) (vs:=cs) (by rw [jF];rfl)
  have X38:=(X6.trans X7).trans X8
  have l8:H8.ldn ⟨H7.nx,0,none⟩ 7=some cs:=by rw [bW g8 (by rw [CI];exact U5) (by omega)];simp [ass (Nat.le_of_eq jF)]
  obtain ⟨H9,t9,M9,XT,PA,g9⟩:=cg (X38.get gR) (by rw [X38.n0];exact r0') (k:=0) (vs:=cs) (by simp [jF])
  rw [iA _ _ (by rw [jF];rfl)]at g9
  have l9:H9.ldn ⟨H2.nx,0,none⟩ 7=some cs:=by rw [bW g9 (by rw [PA,X38.n0];exact r0') (by omega)];simp [ass (Nat.le_of_eq jF)]
  have x38:=X6.nx
  simp (maxSteps:=4000000)-implicitDefEqProofs+contextual [-X.ev,jF,s8,l8,f6,t9,l9]
  refine ⟨cs,⟨rfl,hk.symm⟩,?_,(X.trans X38).mod M9 (fun b hb=>by omega)⟩
  rw [iD,if_pos hk,IX]
  exact ((hr.ext X8).mod M9 (fun b hb=>by omega)).le (by omega)
end Go.Proofs.YtppcmpmnglaleaaGreatDoor.A
namespace Go.Proofs.YtppcmpmnglaleaaGreatDoor.A.P
open Go Go.RowKit
def Nq:Value→Bool
 | .bool _| .int _ _| .string _| .pointer _| .slice _ _ _| .map _| .nilFunc| .nilIface=>true
 |_=>false
inductive PV where
 |v (x:Value)
 |ref (b o t:Nat)
 |sl (sz b o n c:Nat)
 |mp (b:Nat)
 |fs (sz:Nat) (rows:List (List PV))
 |fp (cells:List PV)
 |agg (cs:List PV)
 |gA (cs:List PV)
 |fn (f:Nat) (first cap:List PV)
 |qS (t:Nat) (p:PV)
 |any
inductive PB where
 |cells (z:Nat) (cs:List PV)
 |map (es:List (Value×PV))
 |dead
abbrev PH:=List PB
structure Cx where
 F:Nat→Prop
 H:AH
 φ:Nat→Nat
 h:PH
mutual
inductive RF (F:Nat→Prop) (H:AH):PV→Value→Prop
 |v (x:Value):RF F H (.v x) x
 |fs {sz:Nat} {rows:List (List PV)} {a:Option Addr} {c:Nat} {rs:List (List Value)}:Rows H sz (.slice a rows.length c) rs→rows.length≤c→(∀d,a=some d→(d.spot=none∨c=0)∧(rows.length=0∨(F d.block∧H.lE d.block sz=true)))→lD F H rows rs→RF F H (.fs sz rows) (.slice a rows.length c)
inductive iQ (F:Nat→Prop) (H:AH):List PV→List Value→Prop
 |nil:iQ F H [] []
 |cons {p:PV} {x:Value} {ps:List PV} {xs:List Value}:RF F H p x→iQ F H ps xs→iQ F H (p::ps) (x::xs)
inductive lD (F:Nat→Prop) (H:AH):List (List PV)→List (List Value)→Prop
 |nil:lD F H [] []
 |cons {p:List PV} {x:List Value} {ps:List (List PV)} {xs:List (List Value)}:iQ F H p x→lD F H ps xs→lD F H (p::ps) (x::xs)
end
def At (h:PH) (b t:Nat):Prop:=∃z cs,h[b]?=some (.cells z cs)∧cs.length=t
def Le (h:PH) (b t:Nat):Prop:=∀z cs,h[b]?=some (.cells z cs)→t≤cs.length
def c7 (h:PH) (b:Nat):Prop:=∃es,h[b]?=some (.map es)
def aY (h:PH) (b:Nat):Prop:=c7 h b∨∃t,At h b (t+1)
def slV (a sz o n c:Nat) (x:Value):Prop:=(c=0∧n=0∧∃d:Option Addr,x= .slice d 0 0∧∀e,d=some e→e.spot=none)∨(0<c∧x= .slice (some ⟨a,o*sz,none⟩) n c)
def slN (n:Nat) (x:Value):Prop:=∃a c,x= .slice a n c
theorem slN.sm {n:Nat} {x:Value} (h:slN n x):Nq x=true:=by
 obtain ⟨_,_,rfl⟩:=h
 rfl
mutual
inductive RV (C:Cx):PV→Value→Prop
 |v (x:Value):RV C (.v x) x
 |ref {b o t:Nat} {x:Value}:Nq x=true→b<C.h.length→Le C.h b t→(At C.h b t→x= .pointer (some ⟨C.φ b,o,none⟩))→RV C (.ref b o t) x
 |sl {sz b o n c:Nat} {x:Value}:slN n x→b<C.h.length→Le C.h b ((o+c)*sz)→(At C.h b ((o+c)*sz)→slV (C.φ b) sz o n c x)→RV C (.sl sz b o n c) x
 |mp {b:Nat} {x:Value}:Nq x=true→b<C.h.length→(c7 C.h b→x= .map (some (C.φ b)))→RV C (.mp b) x
 |fs {sz:Nat} {rows:List (List PV)} {x:Value}:RF C.F C.H (.fs sz rows) x→RV C (.fs sz rows) x
 |fp {cells:List PV} {b o:Nat} {vs:List Value}:C.F b→C.H.ldn ⟨b,o,none⟩ cells.length=some vs→iQ C.F C.H cells vs→RV C (.fp cells) (.pointer (some ⟨b,o,none⟩))
 |agg {cs:List PV} {xs:List Value}:dq C cs xs→RV C (.agg cs) (.agg xs.toArray)
 |gA {cs:List PV} {xs:List Value}:dq C cs xs→RV C (.gA cs) (.tuple xs.toArray)
 |fn {f:Nat} {a b:List PV} {xs ys:List Value}:dq C a xs→dq C b ys→RV C (.fn f a b) (.func (.func f) xs.toArray ys.toArray)
 |qS {t:Nat} {p:PV} {x:Value}:RV C p x→RV C (.qS t p) (.iface t x)
 |any (x:Value):RV C .any x
inductive dq (C:Cx):List PV→List Value→Prop
 |nil:dq C [] []
 |cons {p:PV} {x:Value} {ps:List PV} {xs:List Value}:RV C p x→dq C ps xs→dq C (p::ps) (x::xs)
end
theorem dq.length {C:Cx}:∀{ps:List PV} {xs:List Value},dq C ps xs→ps.length=xs.length
 |_,_,.nil=>rfl
 |_,_,.cons _ h=>by simp [dq.length h]
theorem iQ.length {F:Nat→Prop} {H:AH}:∀{ps:List PV} {xs:List Value},iQ F H ps xs→ps.length=xs.length
 |_,_,.nil=>rfl
 |_,_,.cons _ h=>by simp [iQ.length h]
theorem lD.length {F:Nat→Prop} {H:AH}:∀{ps:List (List PV)} {xs:List (List Value)},lD F H ps xs→ps.length=xs.length
 |_,_,.nil=>rfl
 |_,_,.cons _ h=>by simp [lD.length h]
structure eo (C:Cx):Prop where
 wf:C.H.n0≤C.H.nx
 fz:∀x,C.F x→x<C.H.nx
 inj:∀b b',aY C.h b→aY C.h b'→C.φ b=C.φ b'→b=b'
 aX:∀b z cs,C.h[b]?=some (.cells z cs)→cs≠[]→∃vs,C.H.get (C.φ b)=some (.cells z vs)∧dq C cs vs∧C.H.n0≤C.φ b∧¬ C.F (C.φ b)
 yZ:∀b es,C.h[b]?=some (.map es)→∃ys,C.H.get (C.φ b)=some (.map ys)∧es.map (·.1)=ys.map (·.1)∧dq C (es.map (·.2)) (ys.map (·.2))∧C.H.n0≤C.φ b∧¬ C.F (C.φ b)
def im (C:Cx) (W:Nat→Prop) (x:Nat):Prop:=∃b,W b∧aY C.h b∧C.φ b=x
structure dU (n:Nat) (W:Nat→Prop) (C D:Cx):Prop where
 n0:D.H.n0=C.H.n0
 nx:C.H.nx≤D.H.nx
 fz:∀x,C.F x→D.F x∧D.H.get x=C.H.get x
 fo:∀x,x<C.H.nx→¬ im C (fun _=>True) x→D.F x→C.F x
 out:∀x,x<C.H.nx→¬ im C W x→D.H.get x=C.H.get x
 loc:∀b,aY D.h b→C.H.nx≤D.φ b∨(aY C.h b∧D.φ b=C.φ b)
 len:n≤C.h.length→n≤D.h.length
 le:∀b,b<n→b<C.h.length→∀t,Le C.h b t→Le D.h b t
 uV:∀b,b<n→b<C.h.length→∀t,Le C.h b t→At D.h b t→At C.h b t∧D.φ b=C.φ b
 vA:∀b,b<n→b<C.h.length→c7 D.h b→c7 C.h b∧D.φ b=C.φ b
theorem dU.mono {n m:Nat} {W V:Nat→Prop} {C D:Cx} (h:dU n W C D) (hm:m≤n) (hV:∀b,W b→V b) (hl:m≤C.h.length→m≤D.h.length):dU m V C D where
 n0:=h.n0
 nx:=h.nx
 fz:=h.fz
 fo:=h.fo
 out:=fun x hx k=>h.out x hx fun⟨b,hb,q⟩=>k ⟨b,hV b hb,q⟩
 loc:=h.loc
 len:=hl
 le:=fun b hb=>h.le b (Nat.lt_of_lt_of_le hb hm)
 uV:=fun b hb=>h.uV b (Nat.lt_of_lt_of_le hb hm)
 vA:=fun b hb=>h.vA b (Nat.lt_of_lt_of_le hb hm)
theorem im.lt {C:Cx} (S:eo C) {W:Nat→Prop} {x:Nat} (h:im C W x):x<C.H.nx:=by
 obtain ⟨b,_,hs,rfl⟩:=h
 rcases hs with⟨es,he⟩|⟨t,z,cs,he,ht⟩
 ·obtain ⟨_,hg,_⟩:=S.yZ b es he
  exact AH.a8 hg
 ·obtain ⟨_,hg,_⟩:=S.aX b z cs he (by intro e;subst e;simp at ht)
  exact AH.a8 hg
theorem dU.refl (n:Nat) (W:Nat→Prop) (C:Cx):dU n W C C where
 n0:=rfl
 nx:=asp _
 fz:=fun x hx=>⟨hx,rfl⟩
 fo:=fun _ _ _ h=>h
 out:=fun _ _ _=>rfl
 loc:=fun b hb=>.inr ⟨hb,rfl⟩
 len:=id
 le:=fun _ _ _ _ h=>h
 uV:=fun _ _ _ _ _ h=>⟨h,rfl⟩
 vA:=fun _ _ _ h=>⟨h,rfl⟩
theorem dU.trans {n:Nat} {V W U:Nat→Prop} {C D X:Cx} (h:dU n V C D) (k:dU n W D X) (hn:n≤C.h.length) (hV:∀b,V b→U b) (hW:∀b,W b→U b):dU n U C X where
 n0:=k.n0.trans h.n0
 nx:=Nat.le_trans h.nx k.nx
 fz:=fun x hx=>by
  obtain ⟨a,b⟩:=h.fz x hx
  obtain ⟨c,d⟩:=k.fz x a
  exact ⟨c,d.trans b⟩
 fo:=fun x hx hi hd=>by
  refine h.fo x hx hi (k.fo x (Nat.lt_of_lt_of_le hx h.nx) ?_ hd)
  rintro ⟨b,_,hs,rfl⟩
  rcases h.loc b hs with q|⟨q,e⟩
  ·omega
  ·exact hi ⟨b,trivial,q,e.symm⟩
 out:=fun x hx hi=>by
  have e:=h.out x hx fun⟨b,hb,q⟩=>hi ⟨b,hV b hb,q⟩
  rw [←e]
  refine k.out x (Nat.lt_of_lt_of_le hx h.nx) ?_
  rintro ⟨b,hb,hs,rfl⟩
  rcases h.loc b hs with q|⟨q,e⟩
  ·omega
  ·exact hi ⟨b,hW b hb,q,e.symm⟩
 loc:=fun b hb=>by
  rcases k.loc b hb with q|⟨hs,e⟩
  ·exact .inl (Nat.le_trans h.nx q)
  ·rcases h.loc b hs with q|⟨fF,e'⟩
   ·exact .inl (by omega)
   ·exact .inr ⟨fF,e.trans e'⟩
 len:=fun hl=>k.len (h.len hl)
 le:=fun b hb hl t ht=>k.le b hb (Nat.lt_of_lt_of_le hb (h.len hn)) t (h.le b hb hl t ht)
 uV:=fun b hb hl t ht ha=>by
  obtain ⟨a1,a2⟩:=k.uV b hb (Nat.lt_of_lt_of_le hb (h.len hn)) t (h.le b hb hl t ht) ha
  obtain ⟨c1,c2⟩:=h.uV b hb hl t ht a1
  exact ⟨c1,a2.trans c2⟩
 vA:=fun b hb hl ha=>by
  obtain ⟨a1,a2⟩:=k.vA b hb (Nat.lt_of_lt_of_le hb (h.len hn)) ha
  obtain ⟨c1,c2⟩:=h.vA b hb hl a1
  exact ⟨c1,a2.trans c2⟩
theorem IZ {H H':AH} {b sz:Nat} (h:H'.get b=H.get b):H'.lE b sz=H.lE b sz:=by unfold AH.lE;rw [h]
section
variable{F F':Nat→Prop} {H H':AH} (n0:H'.n0=H.n0) (hF:∀x,F x→F' x∧H'.get x=H.get x)
theorem Rows.fz {sz:Nat} {a:Option Addr} {n c:Nat} {rs:List (List Value)} (n0:H'.n0=H.n0) (hF:∀x,F x→F' x∧H'.get x=H.get x) (h:Rows H sz (.slice a n c) rs) (k:∀d,a=some d→(d.spot=none∨c=0)∧(n=0∨(F d.block∧H.lE d.block sz=true))):Rows H' sz (.slice a n c) rs∧(∀d,a=some d→(d.spot=none∨c=0)∧(n=0∨(F' d.block∧H'.lE d.block sz=true))):=by
 obtain ⟨a',c',e,q⟩:=h.is
 cases e
 refine ⟨⟨_,_,rfl,fun i r hi=>?_⟩,fun d hd=>?_⟩
 ·obtain ⟨b,o,rfl,hl⟩:=q i r hi
  refine ⟨b,o,rfl,?_⟩
  rcases (k _ rfl).2 with h0|⟨hf,_⟩
  ·have:=(asr.1 hi).1;omega
  ·rw [←hl]
   exact fx (hF b hf).2 n0
 ·refine ⟨(k d hd).1,?_⟩
  rcases (k d hd).2 with h0|⟨hf,hz⟩
  ·exact .inl h0
  ·exact .inr ⟨(hF _ hf).1,by rw [IZ (hF _ hf).2];exact hz⟩
mutual
theorem RF.mono (n0:H'.n0=H.n0) (hF:∀x,F x→F' x∧H'.get x=H.get x):∀{p:PV} {x:Value},RF F H p x→RF F' H' p x
 |_,_,.v x=>.v x
 |_,_,.fs hr hl hk qR=>let q:=Rows.fz n0 hF hr hk; .fs q.1 hl q.2 (lD.mono n0 hF qR)
theorem iQ.mono (n0:H'.n0=H.n0) (hF:∀x,F x→F' x∧H'.get x=H.get x):∀{p:List PV} {x:List Value},iQ F H p x→iQ F' H' p x
 |_,_,.nil=>.nil
 |_,_,.cons a b=>.cons (RF.mono n0 hF a) (iQ.mono n0 hF b)
theorem lD.mono (n0:H'.n0=H.n0) (hF:∀x,F x→F' x∧H'.get x=H.get x):∀{p:List (List PV)} {x:List (List Value)},lD F H p x→lD F' H' p x
 |_,_,.nil=>.nil
 |_,_,.cons a b=>.cons (iQ.mono n0 hF a) (lD.mono n0 hF b)
end
end
mutual
theorem RV.step {W:Nat→Prop} {C D:Cx} (h:dU C.h.length W C D):∀{p:PV} {x:Value},RV C p x→RV D p x
 |_,_, .v x=> .v x
 |_,_, .ref h1 hb hl k=> .ref h1 (Nat.lt_of_lt_of_le hb (h.len (asp _))) (h.le _ hb hb _ hl) fun ha=>by
  obtain ⟨a1,a2⟩:=h.uV _ hb hb _ hl ha
  rw [a2];exact k a1
 |_,_, .sl h1 hb hl k=> .sl h1 (Nat.lt_of_lt_of_le hb (h.len (asp _))) (h.le _ hb hb _ hl) fun ha=>by
  obtain ⟨a1,a2⟩:=h.uV _ hb hb _ hl ha
  rw [a2];exact k a1
 |_,_, .mp h1 hb k=> .mp h1 (Nat.lt_of_lt_of_le hb (h.len (asp _))) fun ha=>by
  obtain ⟨a1,a2⟩:=h.vA _ hb hb ha
  rw [a2];exact k a1
 |_,_, .fs k=> .fs (k.mono h.n0 h.fz)
 |_,_, .fp hf hl k=> .fp (h.fz _ hf).1 (by rw [←hl];exact fx (h.fz _ hf).2 h.n0) (k.mono h.n0 h.fz)
 |_,_, .agg k=> .agg (dq.step h k)
 |_,_, .gA k=> .gA (dq.step h k)
 |_,_, .fn a b=> .fn (dq.step h a) (dq.step h b)
 |_,_, .qS a=> .qS (RV.step h a)
 |_,_, .any x=> .any x
theorem dq.step {W:Nat→Prop} {C D:Cx} (h:dU C.h.length W C D):∀{p:List PV} {x:List Value},dq C p x→dq D p x
 |_,_, .nil=> .nil
 |_,_, .cons a b=> .cons (RV.step h a) (dq.step h b)
end
theorem dq.get {C:Cx}:∀{ps:List PV} {xs:List Value},dq C ps xs→∀{i:Nat} {p:PV},ps[i]?=some p→∃x,xs[i]?=some x∧RV C p x
 |_,_,.nil,i,p,h=>by simp at h
 |_,_,.cons a b,0,p,h=>by simp at h;subst h;exact ⟨_,rfl,a⟩
 |_,_,.cons a b,i+1,p,h=>by simpa using dq.get b (by simpa using h)
theorem dq.drop {C:Cx}:∀{ps:List PV} {xs:List Value},dq C ps xs→∀n,dq C (ps.drop n) (xs.drop n)
 |_,_,.nil,n=>by simp;exact .nil
 |_,_,.cons a b,0=>.cons a b
 |_,_,.cons a b,n+1=>by simpa using dq.drop b n
theorem dq.take {C:Cx}:∀{ps:List PV} {xs:List Value},dq C ps xs→∀n,dq C (ps.take n) (xs.take n)
 |_,_,.nil,n=>by simp;exact .nil
 |_,_,.cons a b,0=>.nil
 |_,_,.cons a b,n+1=>by simpa using dq.cons a (dq.take b n)
theorem dq.append {C:Cx}:∀{ps:List PV} {xs:List Value} {qs:List PV} {ys:List Value},dq C ps xs→dq C qs ys→dq C (ps++qs) (xs++ys)
 |_,_,_,_,.nil,k=>k
 |_,_,_,_,.cons a b,k=>.cons a (dq.append b k)
theorem dq.lits {C:Cx}:∀(l:List Value),dq C (l.map .v) l
 |[]=>.nil
 |x::l=>.cons (.v x) (dq.lits l)
theorem dq.Y8 {C:Cx} {ps:List PV} {xs:List Value} (h:dq C ps xs):∀n,dq C (List.replicate n ps).flatten (List.replicate n xs).flatten
 |0=>.nil
 |n+1=>by simpa [List.replicate_succ]using h.append (h.Y8 n)
theorem iQ.qT {C:Cx}:∀{ps:List PV} {xs:List Value},iQ C.F C.H ps xs→dq C ps xs
 |_,_,.nil=>.nil
 |_,_,.cons (.v x) b=>.cons (.v x) (iQ.qT b)
 |_,_,.cons (.fs a b c d) e=>.cons (.fs (.fs a b c d)) (iQ.qT e)
theorem RF.qT {C:Cx}:∀{p:PV} {x:Value},RF C.F C.H p x→RV C p x
 |_,_,.v x=>.v x
 |_,_,.fs a b c d=>.fs (.fs a b c d)
theorem iQ.drop {F:Nat→Prop} {H:AH}:∀{ps:List PV} {xs:List Value},iQ F H ps xs→∀n,iQ F H (ps.drop n) (xs.drop n)
 |_,_,.nil,n=>by simp;exact .nil
 |_,_,.cons a b,0=>.cons a b
 |_,_,.cons a b,n+1=>by simpa using iQ.drop b n
theorem iQ.take {F:Nat→Prop} {H:AH}:∀{ps:List PV} {xs:List Value},iQ F H ps xs→∀n,iQ F H (ps.take n) (xs.take n)
 |_,_,.nil,n=>by simp;exact .nil
 |_,_,.cons a b,0=>.nil
 |_,_,.cons a b,n+1=>by simpa using iQ.cons a (iQ.take b n)
theorem lD.get {F:Nat→Prop} {H:AH}:∀{ps:List (List PV)} {xs:List (List Value)},lD F H ps xs→∀{i:Nat} {p:List PV},ps[i]?=some p→∃x,xs[i]?=some x∧iQ F H p x
 |_,_,.nil,i,p,h=>by simp at h
 |_,_,.cons a b,0,p,h=>by simp at h;subst h;exact ⟨_,rfl,a⟩
 |_,_,.cons a b,i+1,p,h=>by simpa using lD.get b (by simpa using h)
theorem lD.drop {F:Nat→Prop} {H:AH}:∀{ps:List (List PV)} {xs:List (List Value)},lD F H ps xs→∀n,lD F H (ps.drop n) (xs.drop n)
 |_,_,.nil,n=>by simp;exact .nil
 |_,_,.cons a b,0=>.cons a b
 |_,_,.cons a b,n+1=>by simpa using lD.drop b n
theorem lD.take {F:Nat→Prop} {H:AH}:∀{ps:List (List PV)} {xs:List (List Value)},lD F H ps xs→∀n,lD F H (ps.take n) (xs.take n)
 |_,_,.nil,n=>by simp;exact .nil
 |_,_,.cons a b,0=>.nil
 |_,_,.cons a b,n+1=>by simpa using lD.cons a (lD.take b n)
theorem lD.flat {F:Nat→Prop} {H:AH}:∀{ps:List (List PV)} {xs:List (List Value)},lD F H ps xs→iQ F H ps.flatten xs.flatten
 |_,_,.nil=>.nil
 |_,_,.cons a b=>by
  have ap:∀{ps:List PV} {xs:List Value} {qs:List PV} {ys:List Value},iQ F H ps xs→iQ F H qs ys→iQ F H (ps++qs) (xs++ys):=by
   intro ps xs qs ys h k
   induction ps generalizing xs with
   |nil=>cases h;exact k
   |cons p ps ih=>cases h with|cons a b=>exact .cons a (ih b)
  simpa using ap a (lD.flat b)
end Go.Proofs.YtppcmpmnglaleaaGreatDoor.A.P
namespace Go.Proofs.YtppcmpmnglaleaaGreatDoor.A.P
open Go Go.RowKit
theorem dx {h h':PH} {b:Nat} (e:h'[b]?=h[b]?):aY h' b↔aY h b:=by unfold aY c7 At;rw [e]
theorem rK {h h':PH} {b t:Nat} (e:h'[b]?=h[b]?):At h' b t↔At h b t:=by unfold At;rw [e]
theorem rL {h h':PH} {b t:Nat} (e:h'[b]?=h[b]?):Le h' b t↔Le h b t:=by unfold Le;rw [e]
theorem fC {h h':PH} {b:Nat} (e:h'[b]?=h[b]?):c7 h' b↔c7 h b:=by unfold c7;rw [e]
theorem cn {h:PH} {b z:Nat} {cs:List PV} (e:h[b]?=some (.cells z cs)) (hc:cs≠[]):aY h b:=by
 refine .inr ⟨cs.length- 1,z,cs,e,?_⟩
 have:=List.length_pos_iff.2 hc
 omega
theorem e7 {h:PH} {b:Nat} {es:List (Value×PV)} (e:h[b]?=some (.map es)):aY h b:=.inl ⟨es,e⟩
theorem lg {h:PH} {b:Nat} (s:aY h b):(∃es,h[b]?=some (.map es))∨∃z cs,h[b]?=some (.cells z cs)∧cs≠[]:=by
 rcases s with⟨es,e⟩|⟨t,z,cs,e,ht⟩
 ·exact .inl ⟨es,e⟩
 ·exact .inr ⟨z,cs,e,by rintro rfl;simp at ht⟩
theorem aW {h:PH} {b:Nat} (s:aY h b):b<h.length:=by
 rcases lg s with⟨es,e⟩|⟨z,cs,e,_⟩<;>exact (asr.1 e).1
theorem eo.lt {C:Cx} (S:eo C) {b:Nat} (s:aY C.h b):C.φ b<C.H.nx:=im.lt S (W:=fun _=>True) ⟨b,trivial,s,rfl⟩
theorem eo.old {C:Cx} (S:eo C) {b:Nat} (s:aY C.h b):C.H.n0≤C.φ b∧¬ C.F (C.φ b):=by
 rcases lg s with⟨es,e⟩|⟨z,cs,e,hc⟩
 ·obtain ⟨_,_,_,_,a,b⟩:=S.yZ _ _ e;exact ⟨a,b⟩
 ·obtain ⟨_,_,_,a,b⟩:=S.aX _ _ _ e hc;exact ⟨a,b⟩
theorem eo.of {C D:Cx} {W:Nat→Prop} (S:eo C) (T:dU C.h.length W C D) (hF:D.F=C.F) (b0:Nat) (ho:∀b,b≠b0→D.h[b]?=C.h[b]?∧D.φ b=C.φ b)
 (hH:∀b,b≠b0→aY C.h b→D.H.get (C.φ b)=C.H.get (C.φ b)) (gF:∀b,b≠b0→aY C.h b→aY D.h b0→D.φ b0≠C.φ b)
 (hb:∀z cs,D.h[b0]?=some (.cells z cs)→cs≠[]→∃vs,D.H.get (D.φ b0)=some (.cells z vs)∧dq C cs vs∧D.H.n0≤D.φ b0∧¬ D.F (D.φ b0))
 (hm:∀es,D.h[b0]?=some (.map es)→∃ys,D.H.get (D.φ b0)=some (.map ys)∧es.map (·.1)=ys.map (·.1)∧dq C (es.map (·.2)) (ys.map (·.2))∧D.H.n0≤D.φ b0∧¬ D.F (D.φ b0)):eo D where
 wf:=by rw [T.n0];exact Nat.le_trans S.wf T.nx
 fz:=fun x hx=>Nat.lt_of_lt_of_le (S.fz x (hF▸hx)) T.nx
 inj:=fun b b' s s' e=>by
  by_cases h:b=b0
  ·by_cases h':b'=b0
   ·omega
   ·subst h
    have s2:=(dx (ho _ h').1).1 s'
    rw [(ho _ h').2]at e
    exact absurd e (gF _ h' s2 s)
  ·by_cases h':b'=b0
   ·subst h'
    have s2:=(dx (ho _ h).1).1 s
    rw [(ho _ h).2]at e
    exact absurd e.symm (gF _ h s2 s')
   ·rw [(ho _ h).2,(ho _ h').2]at e
    exact S.inj _ _ ((dx (ho _ h).1).1 s) ((dx (ho _ h').1).1 s') e
 aX:=fun b z cs e hc=>by
  by_cases h:b=b0
  ·subst h
   obtain ⟨vs,a,b,c⟩:=hb z cs e hc
   exact ⟨vs,a,b.step T,c⟩
  ·have e':=e
   rw [(ho _ h).1]at e'
   obtain ⟨vs,a,b',c,d⟩:=S.aX _ _ _ e' hc
   rw [(ho _ h).2,hF,T.n0]
   exact ⟨vs,(hH _ h (cn e' hc)).trans a,b'.step T,c,d⟩
 yZ:=fun b es e=>by
  by_cases h:b=b0
  ·subst h
   obtain ⟨ys,a,b,c,d⟩:=hm es e
   exact ⟨ys,a,b,c.step T,d⟩
  ·have e':=e
   rw [(ho _ h).1]at e'
   obtain ⟨ys,a,b',c,d⟩:=S.yZ _ _ e'
   rw [(ho _ h).2,hF,T.n0]
   exact ⟨ys,(hH _ h (e7 e')).trans a,b',c.step T,d⟩
def CU (φ:Nat→Nat) (b x:Nat):Nat→Nat:=fun c=>if c=b then x else φ c
theorem iE (φ:Nat→Nat) (b x:Nat):CU φ b x b=x:=by simp [CU]
theorem mN {φ:Nat→Nat} {b x c:Nat} (h:c≠b):CU φ b x c=φ c:=by simp [CU,h]
theorem kM {h:PH} {P:PB} {b:Nat} (hb:b≠h.length):(h++[P])[b]?=h[b]?:=by
 rcases Nat.lt_or_ge b h.length with k|k
 ·rw [asy k]
 ·rw [List.getElem?_append_right k,List.getElem?_eq_none (by simp;omega),List.getElem?_eq_none k]
theorem lT (h:PH) (P:PB):(h++[P])[h.length]?=some P:=by simp
theorem eo.new {C:Cx} (S:eo C) {P:PB} {B:qy} (W:Nat→Prop)
 (hP:(∃z cs vs,P= .cells z cs∧B= .cells z vs∧dq C cs vs)∨(∃es ys,P= .map es∧B= .map ys∧es.map (·.1)=ys.map (·.1)∧dq C (es.map (·.2)) (ys.map (·.2)))):
 eo ⟨C.F,C.H.alloc B,CU C.φ C.h.length C.H.nx,C.h++[P]⟩∧dU C.h.length W C ⟨C.F,C.H.alloc B,CU C.φ C.h.length C.H.nx,C.h++[P]⟩:=by
 have T:dU C.h.length W C ⟨C.F,C.H.alloc B,CU C.φ C.h.length C.H.nx,C.h++[P]⟩:={
  n0:=rfl
  nx:=Nat.le_succ _
  fz:=fun x hx=>⟨hx,by have:=S.fz x hx;rw [AH.dS,if_neg (by omega)]⟩
  fo:=fun _ _ _ h=>h
  out:=fun x hx _=>by rw [AH.dS,if_neg (by omega)]
  loc:=fun b hb=>by
   by_cases h:b=C.h.length
   ·subst h;left;show _≤CU _ _ _ _;rw [iE];exact asp _
   ·right;exact ⟨(dx (kM h)).1 hb,mN h⟩
  len:=fun _=>by simp
  le:=fun b hb _ t ht=>(rL (kM (by omega))).2 ht
  uV:=fun b hb _ t _ ha=>⟨(rK (kM (by omega))).1 ha,mN (by omega)⟩
  vA:=fun b hb _ ha=>⟨(fC (kM (by omega))).1 ha,mN (by omega)⟩}
 refine ⟨S.of T rfl C.h.length (fun b hb=>⟨kM hb,mN hb⟩) (fun b hb s=>?_) (fun b hb s _=>?_) (fun z cs e hc=>?_) (fun es e=>?_),T⟩
 ·have:=S.lt s;show(C.H.alloc B).get _=_;rw [AH.dS,if_neg (by omega)]
 ·have:=S.lt s;show CU _ _ _ _≠_;rw [iE];omega
 ·have e:some P=some (.cells z cs):=(lT _ _).symm.trans e
  cases e
  rcases hP with⟨z',dF,vs,e9,rfl,hv⟩|⟨es,ys,e9,_⟩
  ·cases e9
   refine ⟨vs,?_,hv,?_,?_⟩<;>dsimp only<;>rw [iE]
   ·exact cK _ _
   ·exact S.wf
   ·intro q;exact absurd (S.fz _ q) (Nat.lt_irrefl _)
  ·cases e9
 ·have e:some P=some (.map es):=(lT _ _).symm.trans e
  cases e
  rcases hP with⟨z',dF,vs,e9,_⟩|⟨es',ys,e9,rfl,hk,hv⟩
  ·cases e9
  ·cases e9
   refine ⟨ys,?_,hk,hv,?_,?_⟩<;>dsimp only<;>rw [iE]
   ·exact cK _ _
   ·exact S.wf
   ·intro q;exact absurd (S.fz _ q) (Nat.lt_irrefl _)
theorem fD {h:PH} {P:PB} {b c:Nat} (hb:c≠b):(h.set b P)[c]?=h[c]?:=List.getElem?_set_ne (Ne.symm hb)
theorem fi {h:PH} {P:PB} {b:Nat} (hb:b<h.length):(h.set b P)[b]?=some P:=by simp [List.getElem?_set,hb]
theorem eo.put {C:Cx} (S:eo C) {b z:Nat} {cs ds:List PV} {vs:List Value} {W:Nat→Prop} (hW:W b) (hb:C.h[b]?=some (.cells z cs)) (hc:cs≠[]) (hl:ds.length=cs.length) (hv:dq C ds vs):
 eo ⟨C.F,C.H.put (C.φ b) (some (.cells z vs)),C.φ,C.h.set b (.cells z ds)⟩∧dU C.h.length W C ⟨C.F,C.H.put (C.φ b) (some (.cells z vs)),C.φ,C.h.set b (.cells z ds)⟩:=by
 have hs:=cn hb hc
 have c8:=S.lt hs
 have nK:=aW hs
 have hd:ds≠[]:=by intro e;subst e;simp at hl;exact hc (List.length_eq_zero_iff.1 hl.symm)
 have Rt:∀t,At (C.h.set b (.cells z ds)) b t→At C.h b t:=by
  rintro t ⟨z',dF,e,rfl⟩
  rw [fi nK]at e;cases e
  exact ⟨z,cs,hb,hl.symm⟩
 have T:dU C.h.length W C ⟨C.F,C.H.put (C.φ b) (some (.cells z vs)),C.φ,C.h.set b (.cells z ds)⟩:={
  n0:=rfl
  nx:=asp _
  fz:=fun x hx=>⟨hx,by rw [AH.bV _ _ _ _ c8,if_neg];rintro rfl;exact (S.old hs).2 hx⟩
  fo:=fun _ _ _ h=>h
  out:=fun x hx hi=>by rw [AH.bV _ _ _ _ c8,if_neg];rintro rfl;exact hi ⟨b,hW,hs,rfl⟩
  loc:=fun c mc=>by
   right
   by_cases h:c=b
   ·subst h;exact ⟨hs,rfl⟩
   ·exact ⟨(dx (fD h)).1 mc,rfl⟩
  len:=fun _=>by simp
  le:=fun c mi _ t ht=>by
   by_cases h:c=b
   ·subst h
    intro z' dF e
    rw [fi nK]at e;cases e
    rw [hl];exact ht _ _ hb
   ·exact (rL (fD h)).2 ht
  uV:=fun c mi _ t _ ha=>by
   by_cases h:c=b
   ·subst h;exact ⟨Rt t ha,rfl⟩
   ·exact ⟨(rK (fD h)).1 ha,rfl⟩
  vA:=fun c mi _ ha=>by
   by_cases h:c=b
   ·subst h;obtain ⟨es,e⟩:=ha;rw [fi nK]at e;cases e
   ·exact ⟨(fC (fD h)).1 ha,rfl⟩}
 refine ⟨S.of T rfl b (fun c hc=>⟨fD hc,rfl⟩) (fun c hc s=>?_) (fun c hc s _ e=>hc (S.inj _ _ s hs e.symm)) (fun z' dF e mc=>?_) (fun es e=>?_),T⟩
 ·show(C.H.put _ _).get _=_
  rw [AH.bV _ _ _ _ c8,if_neg]
  exact fun e=>hc (S.inj _ _ s hs e)
 ·have e:=(fi nK).symm.trans e
  cases e
  refine ⟨vs,?_,hv,(S.old hs)⟩
  show(C.H.put _ _).get _=_
  rw [AH.bV _ _ _ _ c8,if_pos rfl]
 ·have e:=(fi nK).symm.trans e
  cases e
theorem eo.ahW {C:Cx} (S:eo C) {b:Nat} {es fs:List (Value×PV)} {ys:List (Value×Value)} {W:Nat→Prop} (hW:W b) (hb:C.h[b]?=some (.map es)) (hk:fs.map (·.1)=ys.map (·.1)) (hv:dq C (fs.map (·.2)) (ys.map (·.2))):
 eo ⟨C.F,C.H.put (C.φ b) (some (.map ys)),C.φ,C.h.set b (.map fs)⟩∧dU C.h.length W C ⟨C.F,C.H.put (C.φ b) (some (.map ys)),C.φ,C.h.set b (.map fs)⟩:=by
 have hs:=e7 hb
 have c8:=S.lt hs
 have nK:=aW hs
 have T:dU C.h.length W C ⟨C.F,C.H.put (C.φ b) (some (.map ys)),C.φ,C.h.set b (.map fs)⟩:={
  n0:=rfl
  nx:=asp _
  fz:=fun x hx=>⟨hx,by rw [AH.bV _ _ _ _ c8,if_neg];rintro rfl;exact (S.old hs).2 hx⟩
  fo:=fun _ _ _ h=>h
  out:=fun x hx hi=>by rw [AH.bV _ _ _ _ c8,if_neg];rintro rfl;exact hi ⟨b,hW,hs,rfl⟩
  loc:=fun c mc=>by
   right
   by_cases h:c=b
   ·subst h;exact ⟨hs,rfl⟩
   ·exact ⟨(dx (fD h)).1 mc,rfl⟩
  len:=fun _=>by simp
  le:=fun c mi _ t ht=>by
   by_cases h:c=b
   ·subst h
    intro z' dF e
    rw [fi nK]at e;cases e
   ·exact (rL (fD h)).2 ht
  uV:=fun c mi _ t _ ha=>by
   by_cases h:c=b
   ·subst h;obtain ⟨z',dF,e,_⟩:=ha;rw [fi nK]at e;cases e
   ·exact ⟨(rK (fD h)).1 ha,rfl⟩
  vA:=fun c mi _ ha=>by
   by_cases h:c=b
   ·subst h;exact ⟨⟨es,hb⟩,rfl⟩
   ·exact ⟨(fC (fD h)).1 ha,rfl⟩}
 refine ⟨S.of T rfl b (fun c hc=>⟨fD hc,rfl⟩) (fun c hc s=>?_) (fun c hc s _ e=>hc (S.inj _ _ s hs e.symm)) (fun z' dF e mc=>?_) (fun es e=>?_),T⟩
 ·show(C.H.put _ _).get _=_
  rw [AH.bV _ _ _ _ c8,if_neg]
  exact fun e=>hc (S.inj _ _ s hs e)
 ·have e:=(fi nK).symm.trans e
  cases e
 ·have e:=(fi nK).symm.trans e
  cases e
  refine ⟨ys,?_,hk,hv,(S.old hs)⟩
  show(C.H.put _ _).get _=_
  rw [AH.bV _ _ _ _ c8,if_pos rfl]
theorem eo.grow {C:Cx} (S:eo C) {b z:Nat} {cs ds:List PV} {vs:List Value} {H1:AH} {W:Nat→Prop} (hW:W b) (hb:C.h[b]?=some (.cells z cs)) (hl:cs.length<ds.length) (hv:dq C ds vs)
 (h1:(cs=[]∧H1=C.H)∨(cs≠[]∧H1=C.H.put (C.φ b) none)):
 eo ⟨C.F,H1.alloc (.cells z vs),CU C.φ b C.H.nx,C.h.set b (.cells z ds)⟩∧dU C.h.length W C ⟨C.F,H1.alloc (.cells z vs),CU C.φ b C.H.nx,C.h.set b (.cells z ds)⟩:=by
 have nK:=(asr.1 hb).1
 have It:H1.nx=C.H.nx:=by rcases h1 with⟨_,rfl⟩|⟨_,rfl⟩<;>rfl
 have CG:H1.n0=C.H.n0:=by rcases h1 with⟨_,rfl⟩|⟨_,rfl⟩<;>rfl
 have S4:∀x,x<C.H.nx→(∀(_:aY C.h b),x≠C.φ b)→(H1.alloc (.cells z vs)).get x=C.H.get x:=by
  intro x hx hn
  rw [AH.dS,if_neg (by omega)]
  rcases h1 with⟨_,rfl⟩|⟨hc,rfl⟩
  ·rfl
  ·rw [AH.sJ,if_neg (hn (cn hb hc))]
 have T:dU C.h.length W C ⟨C.F,H1.alloc (.cells z vs),CU C.φ b C.H.nx,C.h.set b (.cells z ds)⟩:={
  n0:=CG
  nx:=by show _≤H1.nx+1;omega
  fz:=fun x hx=>⟨hx,S4 x (S.fz x hx) fun s e=>(S.old s).2 (e▸hx)⟩
  fo:=fun _ _ _ h=>h
  out:=fun x hx hi=>S4 x hx fun s e=>hi ⟨b,hW,s,e.symm⟩
  loc:=fun c mc=>by
   by_cases h:c=b
   ·subst h;left;show _≤CU _ _ _ _;rw [iE];exact asp _
   ·right;exact ⟨(dx (fD h)).1 mc,mN h⟩
  len:=fun _=>by simp
  le:=fun c mi _ t ht=>by
   by_cases h:c=b
   ·subst h
    intro z' dF e
    rw [fi nK]at e;cases e
    have:=ht _ _ hb
    omega
   ·exact (rL (fD h)).2 ht
  uV:=fun c mi _ t ht ha=>by
   by_cases h:c=b
   ·subst h
    obtain ⟨z',dF,e,rfl⟩:=ha
    rw [fi nK]at e;cases e
    have:=ht _ _ hb
    omega
   ·exact ⟨(rK (fD h)).1 ha,mN h⟩
  vA:=fun c mi _ ha=>by
   by_cases h:c=b
   ·subst h;obtain ⟨es,e⟩:=ha;rw [fi nK]at e;cases e
   ·exact ⟨(fC (fD h)).1 ha,mN h⟩}
 refine ⟨S.of T rfl b (fun c hc=>⟨fD hc,mN hc⟩) (fun c hc s=>?_) (fun c hc s _=>?_) (fun z' dF e mc=>?_) (fun es e=>?_),T⟩
 ·exact S4 _ (S.lt s) fun s2 e=>hc (S.inj _ _ s s2 e)
 ·have:=S.lt s;show CU _ _ _ _≠_;rw [iE];omega
 ·have e:=(fi nK).symm.trans e
  cases e
  refine ⟨vs,?_,hv,?_,?_⟩<;>dsimp only<;>rw [iE]
  ·rw [←It];exact cK _ _
  ·show H1.n0≤_;rw [CG];exact S.wf
  ·intro q;exact absurd (S.fz _ q) (Nat.lt_irrefl _)
 ·have e:=(fi nK).symm.trans e
  cases e
theorem eo.void {C:Cx} (S:eo C) (z:Nat) (W:Nat→Prop):eo ⟨C.F,C.H,C.φ,C.h++[.cells z []]⟩∧dU C.h.length W C ⟨C.F,C.H,C.φ,C.h++[.cells z []]⟩:=by
 have ns:¬ aY (C.h++[.cells z []]) C.h.length:=fun s=>by
  rcases lg s with⟨es,e⟩|⟨z',cs,e,hc⟩
  ·rw [lT]at e;cases e
  ·rw [lT]at e;cases e;exact hc rfl
 have T:dU C.h.length W C ⟨C.F,C.H,C.φ,C.h++[.cells z []]⟩:={
  n0:=rfl
  nx:=asp _
  fz:=fun x hx=>⟨hx,rfl⟩
  fo:=fun _ _ _ h=>h
  out:=fun x hx _=>rfl
  loc:=fun b hb=>by
   by_cases h:b=C.h.length
   ·subst h;exact absurd hb ns
   ·right;exact ⟨(dx (kM h)).1 hb,rfl⟩
  len:=fun _=>by simp
  le:=fun b hb _ t ht=>(rL (kM (by omega))).2 ht
  uV:=fun b hb _ t _ ha=>⟨(rK (kM (by omega))).1 ha,rfl⟩
  vA:=fun b hb _ ha=>⟨(fC (kM (by omega))).1 ha,rfl⟩}
 refine ⟨S.of T rfl C.h.length (fun b hb=>⟨kM hb,rfl⟩) (fun b hb s=>rfl) (fun b hb s s2=>absurd s2 ns) (fun z cs e hc=>?_) (fun es e=>?_),T⟩
 ·have e:=(lT _ _).symm.trans e;cases e;exact absurd rfl hc
 ·have e:=(lT _ _).symm.trans e;cases e
open Go Go.RowKit
def uW {α:Type}:List α→Nat→List α→List α
 |c,0,vs=>vs++c.drop vs.length
 |x::c,k+1,vs=>x::uW c k vs
 |[],_+1,_=>[]
def xI:Value→PV
 | .agg cs=>.agg (cs.toList.map .v)
 |x=>.v x
def dR:PV→Option (List PV)
 | .agg cs=>some cs
 | .gA _=>none
 | .any=>none
 | .v (.agg cs)=>some (cs.toList.map .v)
 | .v (.tuple _)=>none
 |p=>some [p]
def p9:List PV→List (Nat×Nat×PV)→Option (List PV)
 |c,[]=>some c
 |c,(off,n,p)::l=>match dR p with
  |some ds=>if ds.length=n∧off+n≤c.length then p9 (uW c off ds) l else none
  |none=>none
def I1:PV→PV→PV→Option PV
 | .v (.bool t),a,b=>some (bif t then a else b)
 |_,_,_=>none
def PT (h:PH):PV→Option PV
 | .ref b o t=>match h[b]? with
   |some (.cells _ cs)=>if cs.length=t then cs[o]? else none
   |_=>none
 | .fp cells=>cells.head?
 |_=>none
def wU (n:Nat) (h:PH):PV→Option PV
 | .ref b o t=>match h[b]? with
   |some (.cells _ cs)=>if cs.length=t∧o+n≤t∧0<t then some (.agg ((cs.drop o).take n))else none
   |_=>none
 | .fp cells=>if n≤cells.length then some (.agg (cells.take n))else none
 |_=>none
def S5 (n:Nat) (h:PH):PV→PV→Option PH
 | .ref b o t,p=>match h[b]?,dR p with
   |some (.cells z cs),some ds=>if cs.length=t∧o+n≤t∧0<t∧ds.length=n then some (h.set b (.cells z (uW cs o ds)))else none
   |_,_=>none
 |_,_=>none
def da (h:PH) (b:Nat):Option Nat:=match h[b]? with
 |some (.cells _ cs)=>some cs.length
 |_=>none
def CW (h:PH):PV→Option PV
 | .ref b o t=>if da h b=some t then some (.ref b o t)else none
 | .fp c=>some (.fp c)
 |_=>none
def I3 (op:BinOp):PV→PV→Option PV
 | .v x,.v y=>(cx op x y).map .v
 |_,_=>none
def wV:Nat→Value→Bool
 |1,.pointer none=>true
 |2,.slice none _ _=>true
 |3,.nilFunc=>true
 |4,.map none=>true
 |_,_=>false
def Nr (h:PH) (k:Nat) (p:PV) (y:Value):Option Bool:=
 match p with
 | .v x=>iK k x y
 | .ref b _ t=>match h[b]? with
   |some (.cells _ cs)=>if cs.length=t∧k=1∧wV 1 y=true then some false else none
   |_=>none
 | .fp _=>if k=1∧wV 1 y=true then some false else none
 | .sl sz b o n c=>match h[b]? with
   |some (.cells _ cs)=>if(o+c)*sz=cs.length∧0<c∧k=2∧wV 2 y=true then some false else none
   |_=>none
 | .fs _ rows=>if rows≠[]∧k=2∧wV 2 y=true then some false else none
 | .fn _ _ _=>if k=3∧wV 3 y=true then some false else none
 | .mp b=>match h[b]? with
   |some (.map _)=>if k=4∧wV 4 y=true then some false else none
   |_=>none
 |_=>none
def Ns (h:PH) (k:Nat):PV→PV→Option Bool
 |p,.v y=>Nr h k p y
 |_,_=>none
def pun (op:UnOp):PV→Option PV
 | .v x=>(F8 op x).map .v
 |_=>none
def Nt (k:IntKind):PV→Option PV
 | .v (.int _ n)=>some (.v (.int k (k.wrap n)))
 |_=>none
def S6:PV→Option PV
 | .v (.int _ n)=>some (.v (.string (Utf8.encode n)))
 |_=>none
def Vs (h:PH) (off:Nat):PV→Option PV
 | .ref b o t=>if da h b=some t then some (.ref b (o+off) t)else none
 | .fp cells=>if off≤cells.length then some (.fp (cells.drop off))else none
 |_=>none
def Y9 (h:PH) (sz:Nat):PV→PV→Option PV
 | .sl ij b o n c, .v (.int _ k)=>match h[b]? with
   |some (.cells _ cs)=>if ij=sz∧(o+c)*sz=cs.length∧0<c∧0≤k∧k<n then some (.ref b ((o+k.toNat)*sz) cs.length)else none
   |_=>none
 | .fs ij rows, .v (.int _ k)=>if ij=sz∧0≤k∧k<rows.length then(match rows[k.toNat]? with|some r=>some (.fp r)|none=>none)else none
 |_,_=>none
def I4 (h:PH) (len sz:Nat):PV→PV→Option PV
 | .ref b o t,.v (.int _ k)=>if da h b=some t∧0≤k∧k<len then some (.ref b (o+k.toNat*sz) t)else none
 | .fp cells,.v (.int _ k)=>if 0≤k∧k<len∧k.toNat*sz≤cells.length then some (.fp (cells.drop (k.toNat*sz)))else none
 |_,_=>none
def pix:PV→PV→Option PV
 | .v x,.v y=>(FO x y).map .v
 |_,_=>none
def Nu:PV→Nat→Option PV
 | .gA ps,i=>ps[i]?
 |_,_=>none
def I5:PV→Option PV
 | .v x=>(tt x).map .v
 |_=>none
def gV (h:PH):PV→Bool
 | .sl sz b o _ c=>match h[b]? with
   |some (.cells _ cs)=>decide ((o+c)*sz=cs.length)
   |_=>false
 |_=>true
def oW:PV→Option Nat
 | .v (.slice none 0 0)=>some 0
 | .v (.string s)=>some s.size
 | .sl _ _ _ n _=>some n
 | .fs _ rows=>some rows.length
 |_=>none
def CX (h:PH):PV→Option PV
 | .v x=>(tu x).map .v
 | .sl sz b o n c=>some (.v (.int .i64 n))
 | .fs _ rows=>some (.v (.int .i64 rows.length))
 |_=>none
def vB (k:Value):List (Value×PV)→Option (Option PV)
 |[]=>some none
 |(k',p)::es=>match iq k k' with
  |some true=>some (some p)
  |some false=>vB k es
  |none=>none
def Ba (k:Value) (p:PV):List (Value×PV)→Option (List (Value×PV))
 |[]=>some [(k,p)]
 |(k',p')::es=>match iq k k' with
  |some true=>some ((k,p)::es)
  |some false=>(Ba k p es).map fun l=>(k',p')::l
  |none=>none
def CY (kk:Nat) (z:Value) (h:PH) (x k:PV) (ok:Bool):Option PV:=
 match x,k with
 | .v (.map none), .v kx=>if cH kk kx=true then some (bif ok then .gA [xI z, .v (.bool false)]else xI z)else none
 | .mp b, .v kx=>match h[b]? with
   |some (.map es)=>if cH kk kx=true then(match vB kx es with
    |some (some p)=>some (bif ok then .gA [p, .v (.bool true)]else p)
    |some none=>some (bif ok then .gA [xI z, .v (.bool false)]else xI z)
    |none=>none)else none
   |_=>none
 |_,_=>none
def I6 (kk:Nat) (h:PH) (x k p:PV):Option PH:=
 match x,k with
 | .mp b, .v kx=>match h[b]? with
   |some (.map es)=>if cH kk kx=true∧(dR p).isSome=true then(Ba kx p es).map fun es'=>h.set b (.map es')else none
   |_=>none
 |_,_=>none
def Nv:Option PV→Option (Option Value)
 |none=>some none
 |some (.v x)=>some (some x)
 |_=>none
def PU (sz:Nat) (h:PH) (x:PV) (lo hi mx:Option PV):Option (PV×PH):=
 match Nv lo,Nv hi,Nv mx with
 |some lo,some hi,some mx=>match x with
  | .sl ij b o n c=>match h[b]?,bH n c lo hi mx with
    |some (.cells z cs),some (l,e,m)=>if ij=sz∧0<sz∧z=sz∧(o+c)*sz=cs.length∧e≤m then
      (if c=0 then some (x,h)
      else if m=l then(if mx=none then some (.fs sz [],h)else some (.sl sz h.length 0 0 0,h++[.cells sz []]))
      else if m=c then some (.sl sz b (o+l) (e- l) (c- l),h)else none)else none
    |_,_=>none
  | .fs ij rows=>if ij=sz∧0<sz then
      (match mx with
      |none=>match bH rows.length rows.length lo hi none with
       |some (l,e,_)=>if e≤rows.length then some (.fs sz ((rows.take e).drop l),h)else none
       |none=>none
      |some m=>if bH rows.length rows.length lo hi (some m)=some (0,0,0)then(match rows with
       |[]=>some (.fs sz [],h)
       |_::_=>some (.sl sz h.length 0 0 0,h++[.cells sz []]))else none)else none
  | .v (.slice none 0 0)=>if 0<sz∧(bH 0 0 lo hi mx).isSome=true then some (x,h)else none
  | .v (.string s)=>match mx with
    |some _=>none
    |none=>match bH s.size s.size lo hi none with
     |some (l,e,_)=>if sz=0 then some (.v (.string (s.extract l e)),h)else none
     |none=>none
  |_=>none
 |_,_,_=>none
def gW (h:PH) (sz k:Nat):PV→Option (List PV)
 | .sl ij b o n c=>match h[b]? with
   |some (.cells _ cs)=>if ij=sz∧(o+c)*sz=cs.length∧k≤n∧n≤c then some ((cs.drop (o*sz)).take (k*sz))else none
   |_=>none
 | .fs ij rows=>if ij=sz∧k≤rows.length then some (rows.take k).flatten else none
 | .v (.string s)=>if sz=1 then some ((s.extract 0 k).data.toList.map fun b=> .v (.int .u8 b.toNat))else none
 | .v (.slice none 0 0)=>if k=0 then some []else none
 |_=>none
def uX (sz bytes:Nat) (h:PH) (s x:PV):Option (PV×PH):=
 match oW x with
 |none=>none
 |some k=>
  if k=0 then(if gV h x=true then match s with
   | .v (.slice none 0 0)=>some (s,h)
   | .sl ij b o n c=>match h[b]? with
     |some (.cells _ cs)=>if(o+c)*ij=cs.length∧n≤c then some (s,h)else none
     |_=>none
   | .fs _ _=>some (s,h)
   |_=>none
   else none)
  else match gW h sz k x with
  |none=>none
  |some new=>match s with
   | .v (.slice none 0 0)=>if 0<sz∧k*bytes≤2^47∧k<2^62 then some (.sl sz h.length 0 k k,h++[.cells sz new])else none
   | .sl ij b o n c=>match h[b]? with
     |some (.cells z cs)=>if ij=sz∧z=sz∧0<sz∧(o+c)*sz=cs.length∧n≤c∧(n+k)*bytes≤2^47∧n+k<2^62 then
       (if c=0 then(if o=0 then some (.sl sz b 0 k k,h.set b (.cells sz new))else none)
       else if n+k≤c then some (.sl sz b o (n+k) c,h.set b (.cells sz (uW cs ((o+n)*sz) new)))
       else if o=0 then some (.sl sz b 0 (n+k) (n+k),h.set b (.cells sz (cs.take (n*sz)++new)))else none)
       else none
     |_=>none
   |_=>none
def CZ (sz:Nat) (h:PH) (d s:PV):Option (PV×PH):=
 match(bif gV h s then oW s else none)with
 |none=>none
 |some m=>match d with
  | .v (.slice none 0 0)=>some (.v (.int .i64 0),h)
  | .sl ij b o n c=>match h[b]? with
    |some (.cells z cs)=>if ij=sz∧0<sz∧(o+c)*sz=cs.length∧n≤c then
      (if Nat.min m n=0 then some (.v (.int .i64 0),h)
      else match gW h sz (Nat.min m n) s with
       |some new=>some (.v (.int .i64 (Nat.min m n)),h.set b (.cells z (uW cs (o*sz) new)))
       |none=>none)else none
    |_=>none
  |_=>none
def I7 (sz bytes:Nat) (z:List Value) (h:PH):PV→Option (PV×PH)
 | .v (.int _ n)=>if 0≤n∧IntKind.i64.wrap n=n∧bytes*n≤2^47∧z.length=sz∧0<sz then some (.sl sz h.length 0 n.toNat n.toNat,h++[.cells sz (List.replicate n.toNat (z.map .v)).flatten])else none
 |_=>none
def Nw (len sz:Nat) (z:List Value) (h:PH) (ps:List (Nat×Nat×PV)):Option (PV×PH):=
 match p9 (z.map .v) ps with
 |some c=>if c.length=len*sz∧0<sz then some (.sl sz h.length 0 len len,h++[.cells sz c])else none
 |none=>none
def S7:List PV→Option (List Value)
 |[]=>some []
 | .v x::l=>(S7 l).map fun m=>x::m
 |_=>none
def Za (f:Value→List Value→Option Value) (x:PV) (l:List PV):Option PV:=
 match x,S7 l with
 | .v x,some l=>(f x l).map .v
 |_,_=>none
def E6 (cs ds:List PV):List (Nat×Nat)→Option Bool
 |[]=>some true
 |(o,kk)::l=>match cs[o]?,ds[o]? with
  |some (.v a),some (.v b)=>if cH kk a=true then(match iq a b with
   |some true=>E6 cs ds l
   |some false=>some false
   |none=>none)else none
  |_,_=>none
def Nx (neg:Bool) (offs:List (Nat×Nat)):PV→PV→Option PV
 | .agg cs,.agg ds=>(E6 cs ds offs).map fun b=>.v (.bool (bif neg then !b else b))
 |_,_=>none
def Ny (h:PH) (p:PV):Option (PV×PH):=
 match dR p with
 |some cs=>some (.ref h.length 0 cs.length,h++[.cells cs.length cs])
 |none=>none
def y3 (l:List PV) (n:Nat) (ag:Bool):Option PV:=if l.length=n then(bif ag then some (.agg l)else match l with|[v]=>some v|_=>none)else none
def S8:XK→List PV→Option PV
 | .F9 o n ag,[.agg cs]=>y3 ((cs.drop o).take n) n ag
 | .KC len n ag,[.agg cs,.v (.int _ i)]=>if 0≤i∧i<len then y3 ((cs.drop (i.toNat*n)).take n) n ag else none
 |_,_=>none
def Vt:XK→List Value→Option Value
 | .F9 o n ag,[.agg cs]=>rj ((cs.toList.drop o).take n) n ag
 | .KC len n ag,[.agg cs,.int _ i]=>if 0≤i∧i<len then rj ((cs.toList.drop (i.toNat*n)).take n) n ag else none
 |_,_=>none
def pop (p:cN) (ρ:X→PV) (h:PH):Option (PV×PH):=
 match p with
 | .mv x=>some (ρ x,h)
 | .pick c a b=>(I1 (ρ c) (ρ a) (ρ b)).map fun v=>(v,h)
 | .alloc z=>some (.ref h.length 0 z.length,h++[.cells z.length (z.map .v)])
 | .box x=>Ny h (ρ x)
 | .build z ps=>(p9 (z.map .v) (ps.map fun p=>(p.1,p.2.1,ρ p.2.2))).map fun c=>(.agg c,h)
 | .bsl len sz z ps=>Nw len sz z h (ps.map fun p=>(p.1,p.2.1,ρ p.2.2))
 | .ld x=>(PT h (ρ x)).map fun v=>(v,h)
 | .ldn n x=>(wU n h (ρ x)).map fun v=>(v,h)
 | .st n x v=>(S5 n h (ρ x) (ρ v)).map fun h'=>(.v undef,h')
 | .bz x=>(CW h (ρ x)).map fun v=>(v,h)
 | .bin op x y=>(I3 op (ρ x) (ρ y)).map fun v=>(v,h)
 | .eqk k neg x y=>(Ns h k (ρ x) (ρ y)).map fun b=>(.v (.bool (bif neg then !b else b)),h)
 | .un op x=>(pun op (ρ x)).map fun v=>(v,h)
 | .nP k x=>(Nt k (ρ x)).map fun v=>(v,h)
 | .Um x=>(S6 (ρ x)).map fun v=>(v,h)
 | .mkf f first cap=>some (.fn f (first.map ρ) (cap.map ρ),h)
 | .mkmap=>some (.mp h.length,h++[.map []])
 | .mksl sz bytes z x=>I7 sz bytes z h (ρ x)
 | .sl sz x lo hi mx=>PU sz h (ρ x) (lo.map ρ) (hi.map ρ) (mx.map ρ)
 | .fa off x=>(Vs h off (ρ x)).map fun v=>(v,h)
 | .ia sz x i=>(Y9 h sz (ρ x) (ρ i)).map fun v=>(v,h)
 | .qo len sz x i=>(I4 h len sz (ρ x) (ρ i)).map fun v=>(v,h)
 | .ix x i=>(pix (ρ x) (ρ i)).map fun v=>(v,h)
 | .look kk z x k ok=>(CY kk z h (ρ x) (ρ k) ok).map fun v=>(v,h)
 | .qp kk x k v=>(I6 kk h (ρ x) (ρ k) (ρ v)).map fun h'=>(.v undef,h')
 | .ext x i=>(Nu (ρ x) i).map fun v=>(v,h)
 | .call _ _=>none
 | .callv _ _=>none
 | .app sz bytes s x=>uX sz bytes h (ρ s) (ρ x)
 | .copy sz d s=>CZ sz h (ρ d) (ρ s)
 | .lens x=>(I5 (ρ x)).map fun v=>(v,h)
 | .eE x=>(CX h (ρ x)).map fun v=>(v,h)
 | .Qr t x=>some (.qS t (ρ x),h)
 | .mxl x l=>(Za KB (ρ x) (l.map ρ)).map fun v=>(v,h)
 | .mnl x l=>(Za OR (ρ x) (l.map ρ)).map fun v=>(v,h)
 | .eqs neg offs x y=>(Nx neg offs (ρ x) (ρ y)).map fun v=>(v,h)
 | .xt k l=>(S8 k (l.map ρ)).map fun v=>(v,h)
def y4 (p:cN) (ρ:X→PV):List Nat:=
 match p with
 | .st _ x _=>match ρ x with| .ref b _ _=>[b]|_=>[]
 | .app _ _ s _=>match ρ s with| .sl _ b _ _ _=>[b]|_=>[]
 | .copy _ d _=>match ρ d with| .sl _ b _ _ _=>[b]|_=>[]
 | .qp _ x _ _=>match ρ x with| .mp b=>[b]|_=>[]
 |_=>[]
end Go.Proofs.YtppcmpmnglaleaaGreatDoor.A.P
namespace Go.Proofs.YtppcmpmnglaleaaGreatDoor.A.P
open Go Go.RowKit
def qa (C:Cx) (W:Nat→Prop) (r:Option (Value×AH)) (p:PV) (h':PH):Prop:=∃x H' dT,r=some (x,H')∧RV ⟨C.F,H',dT,h'⟩ p x∧eo ⟨C.F,H',dT,h'⟩∧dU C.h.length W C ⟨C.F,H',dT,h'⟩
theorem qa.val {C:Cx} {W:Nat→Prop} (S:eo C) {r:Option (Value×AH)} {p:PV} {x:Value} (k:RV C p x) (e:r=some (x,C.H)):qa C W r p C.h:=⟨x,C.H,C.φ,e,k,S,dU.refl _ _ _⟩
variable{C:Cx} {W:Nat→Prop}
theorem RV.qT {x y:Value} (h:RV C (.v x) y):y=x:=by cases h;rfl
theorem Bb (x:Value):RV C (xI x) x:=by
 cases x with
 |agg cs=>exact .agg (xs:=cs.toList) (dq.lits _)
 |_=>exact .v _
theorem S9 {x:Value} (h:one x=true):aZ x=[x]∧cY x=false:=by
 cases x<;>first
  |exact ⟨rfl,rfl⟩
  |(simp [one]at h)
theorem jK {p:PV} {x:Value} {cs:List PV} (h:RV C p x) (k:dR p=some cs):dq C cs (aZ x)∧cY x=false:=by
 have go:∀{p:PV} {x:Value},RV C p x→(Nq x=true∨one x=true)→dq C [p] (aZ x)∧cY x=false:=by
  intro p x h ho
  obtain ⟨a,b⟩:aZ x=[x]∧cY x=false:=by
   rcases ho with ho|ho
   ·cases x<;>first|exact ⟨rfl,rfl⟩|(simp [Nq]at ho)
   ·exact S9 ho
  rw [a]
  exact ⟨.cons h .nil,b⟩
 cases p with
 |v x=>
  cases h
  cases x with
  |agg dF=>simp only [dR,asm]at k;subst k;exact ⟨dq.lits _,rfl⟩
  |tuple=>simp [dR]at k
  |_=>simp only [dR,asm]at k;subst k;exact ⟨.cons (.v _) .nil,rfl⟩
 |agg=>cases h with|agg q=>simp only [dR,asm]at k;subst k;exact ⟨by simpa [aZ]using q,rfl⟩
 |gA=>simp [dR]at k
 |any=>simp [dR]at k
 |ref=>simp only [dR,asm]at k;subst k;exact go h (by cases h;left;assumption)
 |sl=>simp only [dR,asm]at k;subst k;exact go h (by cases h with|sl a _ _ _=>exact .inl a.sm)
 |mp=>simp only [dR,asm]at k;subst k;exact go h (by cases h;left;assumption)
 |fs=>simp only [dR,asm]at k;subst k;exact go h (by cases h with|fs q=>cases q;exact .inr rfl)
 |fp=>simp only [dR,asm]at k;subst k;exact go h (by cases h;exact .inr rfl)
 |fn=>simp only [dR,asm]at k;subst k;exact go h (by cases h;exact .inr rfl)
 |qS=>simp only [dR,asm]at k;subst k;exact go h (by cases h;exact .inr rfl)
theorem dq.uW {cs:List PV} {xs:List Value} (h:dq C cs xs):∀{k:Nat} {ds:List PV} {ys:List Value},dq C ds ys→dq C (uW cs k ds) (aP xs k ys):=by
 have z:∀(xs ys:List Value),aP xs 0 ys=ys++xs.drop ys.length:=fun xs ys=>by cases xs<;>rfl
 have z':∀(xs ys:List PV),P.uW xs 0 ys=ys++xs.drop ys.length:=fun xs ys=>by cases xs<;>rfl
 intro k
 induction k generalizing cs xs with
 |zero=>
  intro ds ys q
  rw [z,z',q.length]
  exact q.append (h.drop _)
 |succ k ih=>
  intro ds ys q
  cases h with
  |nil=>exact .nil
  |cons a b=>exact .cons a (ih b q)
theorem j6 {α:Type}:∀{c:List α} {k:Nat} {vs:List α},k+vs.length≤c.length→(uW c k vs).length=c.length
 |c,0,vs,h=>by
  have:uW c 0 vs=vs++c.drop vs.length:=by cases c<;>rfl
  rw [this];simp;omega
 |[],k+1,vs,h=>by simp at h
 |x::c,k+1,vs,h=>by
  have:=j6 (c:=c) (k:=k) (vs:=vs) (by simp at h;omega)
  simp [uW,this]
inductive Nz (C:Cx):List (Nat×Nat×PV)→List (Nat×Nat×Value)→Prop
 |nil:Nz C [] []
 |cons {o n:Nat} {p:PV} {x:Value} {l:List (Nat×Nat×PV)} {m:List (Nat×Nat×Value)}:RV C p x→Nz C l m→Nz C ((o,n,p)::l) ((o,n,x)::m)
theorem Nz.of {oX:X→PV} {ρ:X→Value} (h:∀x,RV C (oX x) (ρ x)):∀(ps:List (Nat×Nat×X)),Nz C (ps.map fun p=>(p.1,p.2.1,oX p.2.2)) (ps.map fun p=>(p.1,p.2.1,ρ p.2.2))
 |[]=>.nil
 |p::ps=>.cons (h _) (Nz.of h ps)
theorem dq.of {oX:X→PV} {ρ:X→Value} (h:∀x,RV C (oX x) (ρ x)):∀(l:List X),dq C (l.map oX) (l.map ρ)
 |[]=>.nil
 |p::ps=>.cons (h _) (dq.of h ps)
theorem C1 {ps:List (Nat×Nat×PV)} {qs:List (Nat×Nat×Value)} (hp:Nz C ps qs):∀{c d:List PV} {xs:List Value},dq C c xs→p9 c ps=some d→∃ys,jM xs qs=some ys∧dq C d ys:=by
 induction hp with
 |nil=>intro c d xs h k;simp only [p9,asm]at k;subst k;exact ⟨xs,rfl,h⟩
 | @cons o n p x l m hx _ ih=>
  intro c d xs h k
  simp only [p9]at k
  cases hc:dR p with
  |none=>simp [hc]at k
  |some ds=>
   simp only [hc]at k
   split at k
   case isFalse=>cases k
   rename_i hl
   obtain ⟨a,b⟩:=jK hx hc
   obtain ⟨ys,e,q⟩:=ih (h.uW a) k
   refine ⟨ys,?_,q⟩
   simp only [jM,nb]
   rw [←a.length,←h.length,b]
   simp [hl.1,hl.2,e]
theorem eo.cells (S:eo C) {b z t:Nat} {cs:List PV} (e:C.h[b]?=some (.cells z cs)) (ht:0<cs.length):∃vs,C.H.get (C.φ b)=some (.cells z vs)∧dq C cs vs∧C.H.n0≤C.φ b:=by
 obtain ⟨vs,a,b,c,_⟩:=S.aX _ _ _ e (List.length_pos_iff.1 ht)
 exact ⟨vs,a,b,c⟩
theorem PW (S:eo C) {p q:PV} {x:Value} (h:RV C p x) (k:PT C.h p=some q):∃y,UX C.H x=some y∧RV C q y:=by
 cases h with
 | @ref b o t x _ hb hl ha=>
  simp only [PT]at k
  cases e:C.h[b]? with
  |none=>simp [e]at k
  |some B=>
   cases B with
   |cells z cs=>
    simp only [e]at k
    split at k
    case isFalse=>cases k
    rename_i ht
    obtain ⟨vs,hg,hv,h0⟩:=S.cells (t:=t) e (by have:=(asr.1 k).1;omega)
    obtain ⟨y,hy,hr⟩:=hv.get k
    rw [ha ⟨z,cs,e,ht⟩]
    exact ⟨y,aI hg h0 hy,hr⟩
   |map=>simp [e]at k
   |dead=>simp [e]at k
 | @fp cells b o vs hf hl hc=>
  simp only [PT]at k
  cases hc with
  |nil=>simp at k
  | @cons p' x' ps xs a b'=>
   simp only [List.head?_cons,asm]at k
   subst k
   refine ⟨x',?_,a.qT⟩
   have:=aR hl (j:=0) (v:=x') rfl
   simpa using this
 |_=>simp [PT]at k
theorem rM {n0:Nat}:∀{l vs:List Value},aT n0 l=some vs→∀n,aT n0 (l.take n)=some (vs.take n)
 |[],vs,h,n=>by simp [aT]at h;subst h;simp [aT]
 |y::l,vs,h,n=>by
  simp only [aT]at h
  split at h
  case h_2=>cases h
  rename_i y' m' hy hm
  cases h
  cases n with
  |zero=>simp [aT]
  |succ n=>simp [aT,hy,rM hm n]
theorem rN {n0:Nat}:∀{l vs:List Value},aT n0 l=some vs→∀n,aT n0 (l.drop n)=some (vs.drop n)
 |[],vs,h,n=>by simp [aT]at h;subst h;simp [aT]
 |y::l,vs,h,n=>by
  have h':=h
  simp only [aT]at h
  split at h
  case h_2=>cases h
  rename_i y' m' hy hm
  cases h
  cases n with
  |zero=>simpa using h'
  |succ n=>simpa using rN hm n
theorem Bc (S:eo C) {n:Nat} {p q:PV} {x:Value} (h:RV C p x) (k:wU n C.h p=some q):∃y,uQ n C.H x=some y∧RV C q y:=by
 cases h with
 | @ref b o t x _ hb hl ha=>
  simp only [wU]at k
  cases e:C.h[b]? with
  |none=>simp [e]at k
  |some B=>
   cases B with
   |cells z cs=>
    simp only [e]at k
    split at k
    case isFalse=>cases k
    rename_i ht
    cases k
    obtain ⟨vs,hg,hv,h0⟩:=S.cells (t:=t) e (by omega)
    rw [ha ⟨z,cs,e,ht.1⟩]
    refine ⟨.agg ((vs.drop o).take n).toArray,?_,.agg ((hv.drop o).take n)⟩
    simp only [uQ]
    rw [bW hg h0 (by have:=hv.length;omega)]
    rfl
   |map=>simp [e]at k
   |dead=>simp [e]at k
 | @fp cells b o vs hf hl hc=>
  simp only [wU]at k
  split at k
  case isFalse=>cases k
  rename_i hn
  cases k
  refine ⟨.agg (vs.take n).toArray,?_,.agg ((hc.take n).qT)⟩
  simp only [uQ]
  have:C.H.ldn ⟨b,o,none⟩ n=some (vs.take n):=by
   unfold AH.ldn at hl⊢
   dsimp only at hl⊢
   cases hg:C.H.get b with
   |none=>simp [hg]at hl
   |some B=>
    cases B with
    |map=>simp [hg]at hl
    |cells z c=>
     simp only [hg]at hl⊢
     obtain ⟨h1,hl⟩:=aD hl
     simp only [asx]at h1
     rw [show decide (o+n≤c.length)=true by simp;omega,cond_true]
     have e:(c.drop o).take n=((c.drop o).take cells.length).take n:=by rw [List.take_take,Nat.min_eq_left hn]
     cases hd:decide (b<C.H.n0)with
     |false=>
      rw [hd]at hl
      simp only [cond_false,asm]at hl⊢
      rw [e,hl]
     |true=>
      rw [hd]at hl
      simp only [cond_true]at hl⊢
      rw [e]
      exact rM hl n
  rw [this]
  rfl
 |_=>simp [wU]at k
theorem I8 {H:AH} {b o n k:Nat} {vs:List Value} (h:H.ldn ⟨b,o,none⟩ n=some vs) (hk:k≤n):H.ldn ⟨b,o+k,none⟩ (n- k)=some (vs.drop k):=by
 unfold AH.ldn at h⊢
 dsimp only at h⊢
 cases hg:H.get b with
 |none=>simp [hg]at h
 |some B=>
  cases B with
  |map=>simp [hg]at h
  |cells z c=>
   simp only [hg]at h⊢
   obtain ⟨h1,h⟩:=aD h
   simp only [asx]at h1
   rw [show decide (o+k+(n- k)≤c.length)=true by simp;omega,cond_true]
   have e:(c.drop (o+k)).take (n- k)=((c.drop o).take n).drop k:=by rw [List.drop_take,List.drop_drop]
   rw [e]
   cases hd:decide (b<H.n0)with
   |false=>rw [hd]at h;simp only [cond_false,asm]at h⊢;rw [h]
   |true=>rw [hd]at h;simp only [cond_true]at h⊢;exact rN h k
theorem cellsOf {p:PV} {cs:List PV} {x:Value} (h:RV C p x) (hc:dR p=some cs):∃ys,aZ x=ys∧cY x=false∧dq C cs ys:=⟨_,rfl,(jK h hc).2,(jK h hc).1⟩
theorem Zb (S:eo C) {n:Nat} {p q:PV} {x y:Value} {h':PH} (h:RV C p x) (g:RV C q y) (k:S5 n C.h p q=some h') (hW:∀b o t,p= .ref b o t→W b):∃H',HI n C.H x y=some H'∧eo ⟨C.F,H',C.φ,h'⟩∧dU C.h.length W C ⟨C.F,H',C.φ,h'⟩:=by
 cases h with
 | @ref b o t x _ hb hl ha=>
  simp only [S5]at k
  cases e:C.h[b]? with
  |none=>simp [e]at k
  |some B=>
   cases B with
   |cells z cs=>
    cases hc:dR q with
    |none=>simp [e,hc]at k
    |some ds=>
     simp only [e,hc]at k
     split at k
     case isFalse=>cases k
     rename_i ht
     cases k
     obtain ⟨vs,hg,hv,h0⟩:=S.cells (t:=t) e (by omega)
     obtain ⟨a1,a2⟩:=jK g hc
     have hlen:=a1.length
     have kW:=hv.length
     obtain ⟨A,B⟩:=S.put (W:=W) (hW _ _ _ rfl) e (by intro q;subst q;simp at ht;omega) (j6 (by omega)) (hv.uW (k:=o) a1)
     rw [ha ⟨z,cs,e,ht.1⟩]
     refine ⟨_,?_,A,B⟩
     rw [Xf,if_pos ⟨by omega,a2⟩]
     unfold AH.st
     simp only [hg]
     rw [show decide (C.H.n0≤C.φ b)=true by simp [h0],show decide (o+(aZ y).length≤vs.length)=true by simp;omega]
     rfl
   |map=>simp [e]at k
   |dead=>simp [e]at k
 |_=>simp [S5]at k
theorem nC {k:Nat} {y:Value} (h:wV k y=true):(k=1∧y= .pointer none)∨(k=2∧∃n c,y= .slice none n c)∨(k=3∧y= .nilFunc)∨(k=4∧y= .map none):=by
 unfold wV at h
 split at h<;>simp_all
theorem NA {k:Nat} {p q:PV} {x y:Value} {r:Bool} (h:RV C p x) (g:RV C q y) (e:Ns C.h k p q=some r):iK k x y=some r:=by
 cases q with
 |v z=>
  cases g
  replace e:Nr C.h k p y=some r:=e
  unfold Nr at e
  cases p with
  |v w=>cases h;exact e
  |ref b o t=>
   cases h with|ref _ hb hl ha=>
   dsimp only at e
   split at e
   case h_2=>cases e
   rename_i z' cs hh
   split at e
   case isFalse=>cases e
   rename_i hc
   cases e
   rw [ha ⟨z',cs,hh,hc.1⟩,hc.2.1]
   rcases nC hc.2.2 with⟨a,rfl⟩|⟨a,_⟩|⟨a,_⟩|⟨a,_⟩<;>first|rfl|cases a
  |fp cells=>
   cases h
   dsimp only at e
   split at e
   case isFalse=>cases e
   rename_i hc
   cases e
   rw [hc.1]
   rcases nC hc.2 with⟨a,rfl⟩|⟨a,_⟩|⟨a,_⟩|⟨a,_⟩<;>first|rfl|cases a
  |sl sz b o n c=>
   cases h with|sl _ hb hl ha=>
   dsimp only at e
   split at e
   case h_2=>cases e
   rename_i z' cs hh
   split at e
   case isFalse=>cases e
   rename_i hc
   cases e
   rw [hc.2.2.1]
   rcases ha ⟨z',cs,hh,hc.1.symm⟩with⟨a,_⟩|⟨_,rfl⟩
   ·omega
   ·rcases nC hc.2.2.2 with⟨a,_⟩|⟨a,n',c',rfl⟩|⟨a,_⟩|⟨a,_⟩<;>first|rfl|cases a
  |fs sz rows=>
   cases h with|fs q=>
   dsimp only at e
   split at e
   case isFalse=>cases e
   rename_i hc
   cases e
   rw [hc.2.1]
   cases q with| @fs _ _ a c rs hr hl hk qR=>
   obtain ⟨a',c',e1,e2⟩:=hr.is
   simp only [Value.slice.injEq]at e1
   obtain ⟨rfl,_,rfl⟩:=e1
   have:0<rs.length:=by rw [←qR.length];exact List.length_pos_iff.2 hc.1
   obtain ⟨b,o,rfl,_⟩:=e2 0 _ (asl this)
   rcases nC hc.2.2 with⟨a,_⟩|⟨a,n',c',rfl⟩|⟨a,_⟩|⟨a,_⟩<;>first|rfl|cases a
  |fn f a b=>
   cases h
   dsimp only at e
   split at e
   case isFalse=>cases e
   rename_i hc
   cases e
   rw [hc.1]
   rcases nC hc.2 with⟨a,_⟩|⟨a,_⟩|⟨a,rfl⟩|⟨a,_⟩<;>first|rfl|cases a
  |mp b=>
   cases h with|mp _ hb ha=>
   dsimp only at e
   split at e
   case h_2=>cases e
   rename_i es hh
   split at e
   case isFalse=>cases e
   rename_i hc
   cases e
   rw [hc.1,ha ⟨es,hh⟩]
   rcases nC hc.2 with⟨a,_⟩|⟨a,_⟩|⟨a,_⟩|⟨a,rfl⟩<;>first|rfl|cases a
  |_=>cases e
 |_=>cases e
theorem tW {b o t:Nat} {x:Value} (h:RV C (.ref b o t) x) (k:da C.h b=some t):x= .pointer (some ⟨C.φ b,o,none⟩):=by
 cases h with|ref _ hb hl ha=>
 unfold da at k
 split at k
 case h_2=>cases k
 rename_i z cs hh
 cases k
 exact ha ⟨z,cs,hh,rfl⟩
theorem RV.Zc {b o o' t:Nat} {x:Value} (h:RV C (.ref b o t) x):RV C (.ref b o' t) (.pointer (some ⟨C.φ b,o',none⟩)):=by
 cases h with|ref _ hb hl ha=>exact .ref rfl hb hl fun _=>rfl
theorem C2 {cells:List PV} {b o k:Nat} (hk:k≤cells.length) (h:RV C (.fp cells) (.pointer (some ⟨b,o,none⟩))):RV C (.fp (cells.drop k)) (.pointer (some ⟨b,o+k,none⟩)):=by
 cases h with|fp hf hl hc=>
 refine .fp hf ?_ (hc.drop k)
 rw [List.length_drop]
 exact I8 hl hk
theorem Zd {off:Nat} {p q:PV} {x:Value} (h:RV C p x) (k:Vs C.h off p=some q):∃y,Pm off x=some y∧RV C q y:=by
 cases p with
 |ref b o t=>
  simp only [Vs]at k
  split at k
  case isFalse=>cases k
  rename_i ht
  cases k
  rw [tW h ht]
  exact ⟨_,rfl,h.Zc⟩
 |fp cells=>
  simp only [Vs]at k
  split at k
  case isFalse=>cases k
  rename_i ht
  cases k
  have h':=h
  cases h with|fp hf hl hc=>
  exact ⟨_,rfl,C2 ht h'⟩
 |_=>cases k
theorem NB {p q:PV} {x:Value} (h:RV C p x) (k:CW C.h p=some q):vi x=some x∧RV C q x:=by
 cases p with
 |ref b o t=>
  simp only [CW]at k
  split at k
  case isFalse=>cases k
  rename_i ht
  cases k
  refine ⟨?_,h⟩
  rw [tW h ht]
  rfl
 |fp cells=>
  cases k
  exact ⟨by cases h;rfl,h⟩
 |_=>cases k
theorem Ta {len sz:Nat} {p q r:PV} {x y:Value} (h:RV C p x) (g:RV C q y) (k:I4 C.h len sz p q=some r):∃z,yw len sz x y=some z∧RV C r z:=by
 unfold I4 at k
 split at k
 ·rename_i b o t kk n
  cases g
  split at k
  case isFalse=>cases k
  rename_i ht
  cases k
  rw [tW h ht.1]
  refine ⟨_,?_,h.Zc⟩
  rw [HO,if_pos ⟨ht.2.1,ht.2.2⟩]
 ·rename_i cells kk n
  cases g
  split at k
  case isFalse=>cases k
  rename_i ht
  cases k
  have h':=h
  cases h with|fp hf hl hc=>
  refine ⟨_,?_,C2 ht.2.2 h'⟩
  rw [HO,if_pos ⟨ht.1,ht.2.1⟩]
 ·cases k
theorem Ze {sz:Nat} {p q r:PV} {x y:Value} (h:RV C p x) (g:RV C q y) (k:Y9 C.h sz p q=some r):∃z,Pn sz x y=some z∧RV C r z:=by
 unfold Y9 at k
 split at k
 ·rename_i ij b o n c kk m
  cases g
  split at k
  case h_2=>cases k
  rename_i z' cs hh
  split at k
  case isFalse=>cases k
  rename_i hc
  cases k
  obtain ⟨rfl,h1,h2,h3,h4⟩:=hc
  cases h with|sl sM hb hl ha=>
  rcases ha ⟨z',cs,hh,h1.symm⟩with⟨a,_⟩|⟨_,rfl⟩
  ·omega
  ·refine ⟨_,by rw [Po,if_pos ⟨h3,h4⟩],?_⟩
   rw [←Nat.add_mul]
   exact .ref rfl hb (by rw [←h1];exact hl) fun _=>rfl
 ·rename_i ij rows kk m
  cases g
  split at k
  case isFalse=>cases k
  rename_i hc
  obtain ⟨rfl,h1,h2⟩:=hc
  split at k
  case h_2=>cases k
  rename_i r' hr
  cases k
  cases h with|fs q=>
  cases q with| @fs _ _ a c rs FM hl hk qR=>
  obtain ⟨xr,hx,hxr⟩:=qR.get hr
  obtain ⟨a',c',e,mb⟩:=FM.is
  simp only [Value.slice.injEq]at e
  obtain ⟨rfl,_,rfl⟩:=e
  obtain ⟨b,o,rfl,eh⟩:=mb _ _ hx
  have c8:=(asr.1 hr).1
  refine ⟨_,by rw [Po,if_pos ⟨h1,h2⟩],?_⟩
  refine .fp ?_ ?_ hxr
  ·rcases (hk _ rfl).2 with h0|h0
   ·omega
   ·exact h0.1
  ·rw [hxr.length,(dH eh).2]
   exact eh
 ·cases k
theorem y5 {h:PH} {sz b o n c:Nat} (k:gV h (.sl sz b o n c)=true):At h b ((o+c)*sz):=by
 unfold gV at k
 dsimp only at k
 split at k
 ·rename_i z cs e;exact ⟨z,cs,e,by simpa using(of_decide_eq_true k).symm⟩
 ·cases k
theorem I9 {p:PV} {x:Value} {n:Nat} (h:RV C p x) (k:oW p=some n) (hv:gV C.h p=true):nI x=some n:=by
 unfold oW at k
 split at k
 ·cases h;cases k;rfl
 ·cases h;cases k;rfl
 ·cases k
  cases h with|sl _ hb hl ha=>
  rcases ha (y5 hv)with⟨_,rfl,d,rfl,_⟩|⟨_,rfl⟩<;>rfl
 ·cases k
  cases h with|fs q=>cases q;rfl
 ·cases k
end Go.Proofs.YtppcmpmnglaleaaGreatDoor.A.P
namespace Go.Proofs.YtppcmpmnglaleaaGreatDoor.A.P
open Go Go.RowKit
variable{C:Cx} {W:Nat→Prop}
theorem tX {sz b o n c:Nat} {x:Value} (h:RV C (.sl sz b o n c) x) {z:Nat} {cs:List PV} (e:C.h[b]?=some (.cells z cs)) (ht:(o+c)*sz=cs.length):slV (C.φ b) sz o n c x:=by
 cases h with|sl _ hb hl ha=>exact ha ⟨z,cs,e,ht.symm⟩
theorem RV.slT {sz b o n c o' n' c':Nat} {x y:Value} (h:RV C (.sl sz b o n c) x) (e:o'+c'=o+c) (ho:slN n' y) (k:slV (C.φ b) sz o' n' c' y):RV C (.sl sz b o' n' c') y:=by
 cases h with|sl _ hb hl ha=>exact .sl ho hb (by rw [e];exact hl) fun _=>k
theorem C3:∀(l:List UInt8),dq C (l.map fun b=>.v (.int .u8 b.toNat)) (l.map fun b=>.int .u8 b.toNat)
 |[]=>.nil
 |b::l=>.cons (.v _) (C3 l)
theorem tY (S:eo C) {sz m:Nat} {p:PV} {x:Value} {new:List PV} (h:RV C p x) (k:gW C.h sz m p=some new) (hm:0<m) (hz:0<sz):
 ∃ys,kE C.H sz m x=some ys∧dq C new ys∧(oW p=some m→qz C.H sz x=some ys∧nI x=some m∧ys.length=m*sz)∧(∀q,nI x=some q→m≤q→ys.length=m*sz):=by
 have hmz:¬ m*sz=0:=by have:=Nat.mul_pos hm hz;omega
 unfold gW at k
 split at k
 ·rename_i ij b o n c
  split at k
  case h_2=>cases k
  rename_i z cs hh
  split at k
  case isFalse=>cases k
  rename_i hc
  cases k
  obtain ⟨rfl,h1,h2,h3⟩:=hc
  have hmul:(o+m)*ij≤(o+c)*ij:=Nat.mul_le_mul_right _ (by omega)
  rw [Nat.add_mul]at hmul
  obtain ⟨vs,hg,hv,h0⟩:=S.cells (t:=0) hh (by have:=Nat.mul_pos (show 0<o+c by omega) hz;omega)
  have kW:=hv.length
  rcases tX h hh h1 with⟨a,_⟩|⟨_,rfl⟩
  ·omega
  have hl:C.H.ldn ⟨C.φ b,o*ij,none⟩ (m*ij)=some ((vs.drop (o*ij)).take (m*ij)):=bW hg h0 (by omega)
  have hlen:((vs.drop (o*ij)).take (m*ij)).length=m*ij:=by simp;omega
  refine ⟨(vs.drop (o*ij)).take (m*ij),?_,(hv.drop _).take _,fun e=>?_,fun q e hq=>hlen⟩
  ·simp only [kE,nb,hmz,decide_false,cond_false,hl]
  ·simp only [oW,asm]at e
   subst e
   refine ⟨?_,rfl,hlen⟩
   simp only [qz,nb,show¬ n=0 by omega,decide_false,cond_false,hl]
 ·rename_i ij rows
  split at k
  case isFalse=>cases k
  rename_i hc
  cases k
  obtain ⟨rfl,h1⟩:=hc
  cases h with|fs q=>
  cases q with| @fs _ _ a c rs hr hl hk qR=>
  have hlen:=qR.length
  obtain ⟨a',c',e1,e2⟩:=hr.is
  simp only [Value.slice.injEq]at e1
  obtain ⟨rfl,_,rfl⟩:=e1
  obtain ⟨b,o,rfl,_⟩:=e2 0 _ (asl (by omega))
  rw [hlen]at hr
  have hw:=hr.whole m (by omega) hm
  have fX:(rs.take m).flatten.length=m*ij:=by
   rw [cC (sz:=ij) fun r FM=>hr.Ii r (List.mem_of_mem_take FM),List.length_take,Nat.min_eq_left (by omega)]
  refine ⟨(rs.take m).flatten,?_,(qR.take m).flat.qT,fun e=>?_,fun _ _ _=>fX⟩
  ·simp only [kE,nb,hmz,decide_false,cond_false,hw]
  ·simp only [oW,asm]at e
   refine ⟨?_,by simp [nI,e],fX⟩
   simp only [qz,nb,show¬ rows.length=0 by omega,decide_false,cond_false]
   rw [e,hw]
 ·rename_i s
  split at k
  case isFalse=>cases k
  rename_i hc
  cases k
  subst hc
  cases h
  refine ⟨(s.extract 0 m).data.toList.map fun b=>.int .u8 b.toNat,rfl,C3 _,fun e=>?_,fun q e hq=>?_⟩
  ·simp only [oW,asm]at e
   subst e
   refine ⟨?_,rfl,by simp⟩
   simp [qz]
  ·simp only [nI,asm]at e
   subst e
   simp [hq]
 ·split at k
  case isFalse=>cases k
  omega
 ·cases k
theorem Tb (S:eo C) {sz bytes:Nat} {p q r:PV} {x y:Value} {h':PH} (hp:RV C p x) (hq:RV C q y) (k:uX sz bytes C.h p q=some (r,h')) (hW:∀sz b o n c,p= .sl sz b o n c→W b):
 qa C W (bI sz bytes C.H x y) r h':=by
 unfold uX at k
 split at k
 ·cases k
 rename_i m hm
 split at k
 ·rename_i h0
  subst h0
  split at k
  case isFalse=>cases k
  rename_i hv
  have hlen:=I9 hq hm hv
  split at k
  ·cases k
   cases hp
   exact qa.val S (.v _) (by simp [bI,hlen])
  ·rename_i ij b o n c
   split at k
   case h_2=>cases k
   rename_i z cs hh
   split at k
   case isFalse=>cases k
   rename_i hc
   cases k
   have ot:=tX hp hh hc.1
   refine qa.val S hp ?_
   rcases ot with⟨_,rfl,d,rfl,_⟩|⟨_,rfl⟩
   ·simp [bI,hlen]
   ·simp [bI,hlen,hc.2]
  ·cases k
   refine qa.val S hp ?_
   cases hp with|fs g=>
   cases g with|fs hr hl hk qR=>simp [bI,hlen,hl]
  ·cases k
 rename_i h0
 have Ph:0<m:=by omega
 split at k
 ·cases k
 rename_i new Ij
 split at k
 ·split at k
  case isFalse=>cases k
  rename_i hc
  cases k
  obtain ⟨hz,hb,tC⟩:=hc
  obtain ⟨ys,_,zM,my,_⟩:=tY S hq Ij Ph hz
  obtain ⟨my,hlen,Vu⟩:=my hm
  cases hp
  obtain ⟨A,B⟩:=S.new (P:=.cells sz new) (B:=.cells sz ys) W (.inl ⟨_,_,_,rfl,rfl,zM⟩)
  refine ⟨.slice (some ⟨C.H.nx,0,none⟩) m m,_,_,?_,.sl ⟨_,_,rfl⟩ (by simp) ?_ (fun _=>.inr ⟨Ph,?_⟩),A,B⟩
  ·have:¬ m=0:=h0
   simp [bI,hlen,this,my,nb,hb,tC]
  ·intro z cs e
   rw [show(C.h++[PB.cells sz new])[C.h.length]?=_ from lT _ _]at e
   cases e
   have:=zM.length
   simp;omega
  ·simp [iE]
 ·rename_i ij b o n c
  split at k
  case h_2=>cases k
  rename_i z cs hh
  split at k
  case isFalse=>cases k
  rename_i hc
  obtain ⟨rfl,rfl,hz,h1,h2,hb,tC⟩:=hc
  obtain ⟨ys,_,zM,my,_⟩:=tY S hq Ij Ph hz
  obtain ⟨my,hlen,Vu⟩:=my hm
  have ot:=tX hp hh h1
  have nK:=(asr.1 hh).1
  have K1:=zM.length
  have hWb:=hW _ _ _ _ _ rfl
  have Tc:¬ m=0:=h0
  split at k
  ·rename_i rT
   split at k
   case isFalse=>cases k
   rename_i ho
   cases k
   subst rT;subst ho
   obtain rfl:n=0:=by omega
   have jF:cs=[]:=List.length_eq_zero_iff.1 (by simpa using h1.symm)
   rcases ot with⟨_,_,d,rfl,hd⟩|⟨a,_⟩
   case inr=>omega
   obtain ⟨A,B⟩:=S.grow (H1:=C.H) hWb hh (by rw [jF,K1,Vu];simpa using Nat.mul_pos Ph hz) zM (.inl ⟨jF,rfl⟩)
   refine ⟨.slice (some ⟨C.H.nx,0,none⟩) m m,_,_,?_,.sl ⟨_,_,rfl⟩ (by simpa using nK) ?_ (fun _=>.inr ⟨Ph,?_⟩),A,B⟩
   ·simp only [bI,hlen,if_neg Tc,my]
    rw [show decide ((0+m)*bytes≤2^47)=true by simpa using hb,show decide (0+m<2^62)=true by simpa using tC]
    simp only [Bool.and_self,cond_true]
    rw [if_neg (by omega)]
    cases d with
    |none=>simp
    |some d=>simp [hd d rfl]
   ·intro z dF e
    rw [fi nK]at e
    cases e
    simp;omega
   ·simp [iE]
  rename_i rT
  rcases ot with⟨a,_⟩|⟨_,rfl⟩
  ·omega
  have oG:0<cs.length:=by rw [←h1];exact Nat.mul_pos (by omega) hz
  have jF:cs≠[]:=List.length_pos_iff.1 oG
  obtain ⟨vs,hg,cA,nJ⟩:=S.cells (t:=0) hh oG
  have kW:=cA.length
  have yH:C.H.lE (C.φ b) z=true:=by unfold AH.lE;rw [hg];simp
  have d1:decide ((n+m)*bytes≤2^47)=true:=by simpa using hb
  have d2:decide (n+m<2^62)=true:=by simpa using tC
  have Zf:n*z≤c*z:=Nat.mul_le_mul_right _ h2
  have adm:(o+c)*z=o*z+c*z:=Nat.add_mul ..
  have adn:(o+n)*z=o*z+n*z:=Nat.add_mul ..
  have anm:(n+m)*z=n*z+m*z:=Nat.add_mul ..
  split at k
  ·rename_i Sw
   cases k
   have ah0:(n+m)*z≤c*z:=Nat.mul_le_mul_right _ Sw
   obtain ⟨A,B⟩:=S.put hWb hh jF (j6 (by omega)) (cA.uW (k:=(o+n)*z) zM)
   refine ⟨.slice (some ⟨C.φ b,o*z,none⟩) (n+m) c,_,_,?_,.sl ⟨_,_,rfl⟩ (by simpa using nK) ?_ (fun _=>.inr ⟨by omega,rfl⟩),A,B⟩
   ·simp only [bI,hlen,if_neg Tc,my,d1,d2,Bool.and_self,cond_true,if_pos Sw,yH,Option.isNone_none]
    unfold AH.st
    simp only [hg]
    rw [show decide (C.H.n0≤C.φ b)=true by simp [nJ],show decide (o*z+n*z+ys.length≤vs.length)=true by simp;omega,adn]
    rfl
   ·intro z9 dF e
    rw [fi nK]at e
    cases e
    rw [j6 (by omega)];omega
  ·rename_i Sw
   split at k
   case isFalse=>cases k
   rename_i ho
   cases k
   subst ho
   simp only [Nat.zero_mul,Nat.zero_add]at adm adn hg h1
   have ah0:c*z<(n+m)*z:=Nat.mul_lt_mul_of_pos_right (by omega) hz
   have hdl:(cs.take (n*z)++new).length=(n+m)*z:=by rw [asu,List.length_take,Nat.min_eq_left (by omega)];omega
   obtain ⟨A,B⟩:=S.grow (H1:=C.H.put (C.φ b) none) hWb hh (ds:=cs.take (n*z)++new) (by omega) ((cA.take _).append zM) (.inr ⟨jF,rfl⟩)
   refine ⟨.slice (some ⟨C.H.nx,0,none⟩) (n+m) (n+m),_,_,?_,.sl ⟨_,_,rfl⟩ (by simpa using nK) ?_ (fun _=>.inr ⟨by omega,?_⟩),A,B⟩
   ·have eh:C.H.ldn ⟨C.φ b,0,none⟩ (n*z)=some (vs.take (n*z)):=by
     rw [bW hg nJ (by omega)];simp
    simp only [bI,hlen,if_neg Tc,my,d1,d2,Bool.and_self,cond_true,if_neg Sw,if_neg rT,yH,Option.isNone_none,Nat.zero_mul,eh]
    rw [show decide (C.H.n0≤C.φ b)=true by simp [nJ]]
    rfl
   ·intro z9 dF e
    rw [fi nK]at e
    cases e
    rw [hdl];simp
   ·simp [iE]
 ·cases k
end Go.Proofs.YtppcmpmnglaleaaGreatDoor.A.P
namespace Go.Proofs.YtppcmpmnglaleaaGreatDoor.A.P
open Go Go.RowKit
variable{C:Cx} {W:Nat→Prop}
theorem NC (S:eo C) {sz:Nat} {p q r:PV} {x y:Value} {h':PH} (hp:RV C p x) (hq:RV C q y) (k:CZ sz C.h p q=some (r,h')) (hW:∀sz b o n c,p= .sl sz b o n c→W b):
 qa C W (kP sz C.H x y) r h':=by
 unfold CZ at k
 split at k
 ·cases k
 rename_i m hm
 obtain ⟨hv,hm⟩:=aD hm
 have hlen:=I9 hq hm hv
 have hy:∃l,kE C.H sz 0 y=some l∧l.length=0:=by
  cases y with
  |slice a n c=>cases a<;>simp [kE,nb]
  |string s=>exact ⟨[],by simp [kE]⟩
  |_=>simp [nI]at hlen
 split at k
 ·cases k
  cases hp
  obtain ⟨l,hl,FF⟩:=hy
  refine qa.val S (.v _) ?_
  simp only [kP,hlen,Nat.min_zero]
  rw [hl]
  rfl
 ·rename_i ij b o n c
  split at k
  case h_2=>cases k
  rename_i z cs hh
  split at k
  case isFalse=>cases k
  rename_i hc
  obtain ⟨rfl,hz,h1,h2⟩:=hc
  have ot:=tX hp hh h1
  split at k
  ·rename_i ND
   cases k
   obtain ⟨l,hl,FF⟩:=hy
   refine qa.val S (.v _) ?_
   have:l=[]:=List.length_eq_zero_iff.1 FF
   subst this
   rcases ot with⟨_,rfl,d,rfl,_⟩|⟨_,rfl⟩
   ·simp only [kP,hlen,ND,hl]
    cases d<;>rfl
   ·simp only [kP,hlen,ND,hl]
    rfl
  ·rename_i ND
   split at k
   case h_2=>cases k
   rename_i new Ij
   cases k
   have Wa:0<Nat.min m n:=by omega
   have hle:Nat.min m n≤n:=Nat.min_le_right _ _
   obtain ⟨ys,hf,zM,_,Vu⟩:=tY S hq Ij Wa hz
   have Vu:=Vu m hlen (Nat.min_le_left _ _)
   rcases ot with⟨_,rfl,_⟩|⟨_,rfl⟩
   ·simp at ND
   have oG:0<cs.length:=by rw [←h1];exact Nat.mul_pos (by omega) hz
   obtain ⟨vs,hg,cA,nJ⟩:=S.cells (t:=0) hh oG
   have kW:=cA.length
   have K1:=zM.length
   have Zf:(o+Nat.min m n)*ij≤(o+c)*ij:=Nat.mul_le_mul_right _ (by omega)
   rw [Nat.add_mul]at Zf
   obtain ⟨A,B⟩:=S.put (hW _ _ _ _ _ rfl) hh (List.length_pos_iff.1 oG) (j6 (by omega)) (cA.uW (k:=o*ij) zM)
   refine ⟨.int .i64 (Nat.min m n),_,_,?_,.v _,A,B⟩
   simp only [kP,hlen,hf]
   have gF:ys.isEmpty=false:=by
    cases ys with
    |nil=>simp at Vu;have:=Nat.mul_pos Wa hz;omega
    |cons=>rfl
   simp only [Option.bind_some,gF,cond_false]
   unfold AH.st
   simp only [hg]
   rw [show decide (C.H.n0≤C.φ b)=true by simp [nJ],show decide (o*ij+ys.length≤vs.length)=true by simp;omega]
   rfl
 ·cases k
theorem Bd {oX:X→PV} {ρ:X→Value} (h:∀x,RV C (oX x) (ρ x)) {o:Option X} {r:Option Value} (k:Nv (o.map oX)=some r):o.map ρ=r:=by
 cases o with
 |none=>simpa [Nv]using k
 |some x=>
  have hx:=h x
  simp only [Option.map_some]at k⊢
  revert k
  generalize oX x=p at hx
  intro k
  cases p<;>first
   |(simp [Nv]at k;done)
   |skip
  cases hx
  simpa [Nv]using k
theorem C4 {v:Value} {y z n:Nat} (h:iS v y=some n) (hz:n≤z):iS v z=some n:=by
 unfold iS at h⊢
 cases v<;>simp_all
 omega
theorem kB {v:Value} {y n:Nat} (h:iS v y=some n):n≤y:=by
 unfold iS at h
 cases v<;>simp_all
 omega
theorem E7 {n c:Nat} {lo hi:Option Value} {l e m:Nat} (h:bH n n lo hi none=some (l,e,m)) (hc:n≤c):bH n c lo hi none=some (l,e,c)∧m=n∧l≤e∧e≤n:=by
 have h':=h
 unfold bH at h
 obtain ⟨m',h1,h⟩:=asw.1 h
 obtain ⟨e',h2,h⟩:=asw.1 h
 obtain ⟨l',h3,h⟩:=asw.1 h
 simp only [asm,ast]at h
 obtain ⟨rfl,rfl,rfl⟩:=h
 have hl:l'≤e':=by
  cases lo with
  |none=>simp only [asm]at h3;omega
  |some v=>exact kB h3
 have he:e'≤n:=by
  cases hi with
  |none=>simp only [asm]at h2;omega
  |some v=>exact kB h2
 refine ⟨?_,by simpa using h1.symm,hl,he⟩
 unfold bH
 refine asw.2 ⟨c,rfl,asw.2 ⟨e',?_,asw.2 ⟨l',h3,rfl⟩⟩⟩
 cases hi with
 |none=>exact h2
 |some v=>exact C4 h2 (by omega)
theorem Ja {n c:Nat} {lo hi:Option Value} {v:Value} (h:bH n n lo hi (some v)=some (0,0,0)) (hc:n≤c):bH n c lo hi (some v)=some (0,0,0):=by
 unfold bH at h
 obtain ⟨m',h1,h⟩:=asw.1 h
 obtain ⟨e',h2,h⟩:=asw.1 h
 obtain ⟨l',h3,h⟩:=asw.1 h
 simp only [asm,ast]at h
 obtain ⟨rfl,rfl,rfl⟩:=h
 unfold bH
 refine asw.2 ⟨0,C4 h1 (by omega),asw.2 ⟨0,?_,asw.2 ⟨0,h3,rfl⟩⟩⟩
 cases hi with
 |none=>exact h2
 |some v=>exact h2
theorem vC {n c:Nat} {lo hi mx:Option Value} {l e m:Nat} (h:bH n c lo hi mx=some (l,e,m)) (hnc:n≤c):m≤c∧(mx=none→m=c)∧l≤e∧e≤m:=by
 unfold bH at h
 obtain ⟨m',h1,h⟩:=asw.1 h
 obtain ⟨e',h2,h⟩:=asw.1 h
 obtain ⟨l',h3,h⟩:=asw.1 h
 simp only [asm,ast]at h
 obtain ⟨rfl,rfl,rfl⟩:=h
 have hm:m'≤c∧(mx=none→m'=c):=by
  cases mx with
  |none=>simp only [asm]at h1;omega
  |some v=>exact ⟨kB h1,fun h=>by cases h⟩
 refine ⟨hm.1,hm.2, ?_, ?_⟩
 · cases lo with
   |none=>simp only [asm]at h3;omega
   |some v=>exact kB h3
 · cases hi with
   |none=>cases mx with
    |none=>simp only [asm]at h2;have:=hm.2 rfl;omega
    |some v=>cases h2
   |some v=>cases mx with
    |none=>have:=kB h2;have:=hm.2 rfl;omega
    |some w=>exact kB h2
theorem y6 {sz:Nat} {a:Option Addr} {n c:Nat} {rs:List (List Value)} {F:Nat→Prop} {H:AH} (hr:Rows H sz (.slice a n c) rs) (hk:∀d,a=some d→(d.spot=none∨c=0)∧(n=0∨(F d.block∧H.lE d.block sz=true))) (hn:0<n):∃b o,a=some ⟨b,o,none⟩∧rs.length=n∧F b∧H.lE b sz=true∧∀i r,rs[i]?=some r→H.ldn ⟨b,o+i*sz,none⟩ sz=some r:=by
 obtain ⟨a',c',e,q⟩:=hr.is
 simp only [Value.slice.injEq]at e
 obtain ⟨rfl,h,rfl⟩:=e
 obtain ⟨b,o,rfl,_⟩:=q 0 _ (asl (by omega))
 rcases (hk _ rfl).2 with h0|⟨h1,h2⟩
 ·omega
 ·exact ⟨b,o,rfl,h.symm,h1,h2,fun i r hi=>by obtain ⟨b',o',e,k⟩:=q i r hi;cases e;exact k⟩
theorem wW {sz:Nat} {a:Option Addr} {c:Nat} (h:∀d,a=some d→d.spot=none∨c=0):RF C.F C.H (.fs sz []) (.slice a 0 c):=
 .fs (rows:=[]) (rs:=[]) ⟨_,_,rfl,by simp⟩ (Nat.zero_le _) (fun d hd=>⟨h d hd,.inl rfl⟩) .nil
theorem Zg (S:eo C) {sz:Nat} {p r:PV} {x:Value} {h':PH} {lo hi mx:Option X} {oX:X→PV} {ρ:X→Value} (hρ:∀x,RV C (oX x) (ρ x)) (hp:RV C p x) (k:PU sz C.h p (lo.map oX) (hi.map oX) (mx.map oX)=some (r,h')):
 qa C W ((cl sz C.H x (lo.map ρ) (hi.map ρ) (mx.map ρ)).map fun v=>(v,C.H)) r h':=by
 unfold PU at k
 split at k
 case h_2=>cases k
 rename_i Ag rS DX e1 e2 e3
 rw [Bd hρ e1,Bd hρ e2,Bd hρ e3]
 clear e1 e2 e3 hρ
 split at k
 ·rename_i ij b o n c
  split at k
  case h_2=>cases k
  rename_i z cs l e m hh hb
  split at k
  case isFalse=>cases k
  rename_i hc
  obtain ⟨rfl,hz,rfl,h1,h2⟩:=hc
  have ot:=tX hp hh h1
  split at k
  ·rename_i rT
   cases k
   refine qa.val S hp ?_
   rcases ot with⟨_,rfl,d,rfl,hd⟩|⟨a,_⟩
   case inr=>omega
   subst rT
   obtain ⟨b1,b2,b3,b4⟩:=vC hb (asp _)
   obtain ⟨rfl,rfl,rfl⟩:l=0∧e=0∧m=0:=by omega
   simp only [cl,hb,nb,show¬ z=0 by omega,decide_false,Bool.not_false,asp,decide_true,Bool.and_self,cond_true]
   cases d with
   |none=>rfl
   |some d=>simp
  rename_i rT
  rcases ot with⟨a,_⟩|⟨_,rfl⟩
  ·omega
  have oG:0<cs.length:=by rw [←h1];exact Nat.mul_pos (by omega) hz
  obtain ⟨vs,hg,cA,nJ⟩:=S.cells (t:=0) hh oG
  have yH:C.H.lE (C.φ b) z=true:=by unfold AH.lE;rw [hg];simp
  split at k
  ·rename_i xP
   split at k
   ·rename_i VY
    cases k
    subst VY
    refine qa.val S (x:=.slice (some ⟨C.φ b,o*z,some 1⟩) 0 0) (.fs (wW fun _ _=>.inr rfl)) ?_
    have hm:m=c:=by
     unfold bH at hb
     obtain ⟨m',sM,hb⟩:=asw.1 hb
     obtain ⟨e',xR,hb⟩:=asw.1 hb
     obtain ⟨l',OY,hb⟩:=asw.1 hb
     simp only [asm,ast]at hb sM
     omega
    simp only [cl,hb,nb,show¬ z=0 by omega,decide_false,Bool.not_false,h2,decide_true,Bool.and_self,cond_true,if_pos xP,Option.isNone_none,true_and]
    rw [if_pos (by omega)]
    rfl
   ·rename_i VY
    cases k
    obtain ⟨A,B⟩:=S.void z W
    have hle:l≤e:=by
     unfold bH at hb
     obtain ⟨m',sM,hb⟩:=asw.1 hb
     obtain ⟨e',xR,hb⟩:=asw.1 hb
     obtain ⟨l',OY,hb⟩:=asw.1 hb
     simp only [asm,ast]at hb
     obtain ⟨rfl,rfl,rfl⟩:=hb
     cases Ag with
     |none=>simp only [asm]at OY;omega
     |some v=>exact kB OY
    refine ⟨.slice (some ⟨C.φ b,o*z,none⟩) 0 0,_,_,?_,.sl ⟨_,_,rfl⟩ (by simp) ?_ (fun _=>.inl ⟨rfl,rfl,_,rfl,by rintro e ⟨⟩;rfl⟩),A,B⟩
    ·have:DX.isNone=false:=by cases DX with
      |none=>exact absurd rfl VY
      |some _=>rfl
     simp only [cl,hb,nb,show¬ z=0 by omega,decide_false,Bool.not_false,h2,decide_true,Bool.and_self,cond_true,if_pos xP,this]
     simp
     omega
    ·intro z9 cs9 e9
     simp
  ·rename_i xP
   split at k
   case isFalse=>cases k
   rename_i hmc
   cases k
   subst hmc
   have hle:l≤m:=by
    unfold bH at hb
    obtain ⟨m',sM,hb⟩:=asw.1 hb
    obtain ⟨e',xR,hb⟩:=asw.1 hb
    obtain ⟨l',OY,hb⟩:=asw.1 hb
    simp only [asm,ast]at hb
    obtain ⟨rfl,rfl,rfl⟩:=hb
    cases Ag with
    |none=>simp only [asm]at OY;omega
    |some v=>have:=kB OY;omega
   refine qa.val S (x:=.slice (some ⟨C.φ b,(o+l)*z,none⟩) (e- l) (m- l)) (hp.slT (by omega) ⟨_,_,rfl⟩ (.inr ⟨by omega,rfl⟩)) ?_
   simp only [cl,hb,nb,show¬ z=0 by omega,decide_false,Bool.not_false,h2,decide_true,Bool.and_self,cond_true,if_neg xP,Option.isNone_none,yH,Bool.or_true,Nat.add_mul]
   rfl
 ·rename_i ij rows
  split at k
  case isFalse=>cases k
  rename_i hc
  obtain ⟨rfl,hz⟩:=hc
  cases hp with|fs q=>
  cases q with| @fs _ _ a c rs hr hl hk qR=>
  have hlen:=qR.length
  split at k
  ·split at k
   case h_2=>cases k
   rename_i l e m hb
   split at k
   case isFalse=>cases k
   cases k
   obtain ⟨b1,rfl,b3,b4⟩:=E7 hb hl
   have hec:e≤c:=by omega
   by_cases oG:c=l
   ·have ig:(rows.take e).drop l=[]:=List.eq_nil_of_length_eq_zero (by simp;omega)
    rw [ig]
    have hd:∃d,cl ij C.H (.slice a rows.length c) Ag rS none=some (.slice d 0 0):=by
     simp only [cl,b1,nb,show¬ ij=0 by omega,decide_false,Bool.not_false,hec,decide_true,Bool.and_self,cond_true]
     cases a with
     |none=>exact ⟨none,by simp;omega⟩
     |some a=>
      simp only [if_pos oG]
      split
      ·exact ⟨_,rfl⟩
      ·exact ⟨some a,by rw [show e- l=0 by omega]⟩
    obtain ⟨d,hd⟩:=hd
    refine qa.val S (x:=.slice d 0 0) (.fs (wW fun _ _=>.inr rfl)) (by rw [hd];rfl)
   ·by_cases hn:rows.length=0
    ·obtain ⟨rfl,rfl⟩:l=0∧e=0:=by omega
     have:(rows.take 0).drop 0=[]:=by simp
     rw [this]
     refine qa.val S (x:=.slice a 0 c) (.fs (wW fun d hd=>(hk d hd).1)) ?_
     simp only [cl,b1,nb,show¬ ij=0 by omega,decide_false,Bool.not_false,hec,decide_true,Bool.and_self,cond_true]
     cases a with
     |none=>simp
     |some a=>
      rcases (hk _ rfl).1 with h0|h0
      ·obtain ⟨bb,oo,ss⟩:=a
       simp only at h0
       subst h0
       simp [if_neg oG]
      ·omega
    ·obtain ⟨b,o,rfl,h1,h2,h3,h4⟩:=y6 hr hk (by omega)
     refine qa.val S (x:=.slice (some ⟨b,o+l*ij,none⟩) (e- l) (c- l)) ?_ ?_
     ·have e1:((rows.take e).drop l).length=e- l:=by simp;omega
      have e2:((rs.take e).drop l).length=((rows.take e).drop l).length:=by simp;omega
      rw [←e1]
      refine .fs (.fs (rs:=(rs.take e).drop l) ⟨_,_,by rw [e2],fun i r hi=>⟨b,o+l*ij,rfl,?_⟩⟩ (by omega) ?_ ((qR.take e).drop l))
      ·rw [List.getElem?_drop,List.getElem?_take]at hi
       split at hi
       case isFalse=>cases hi
       have:=h4 _ _ hi
       rw [Nat.add_mul]at this
       rw [←this]
       congr 2
       omega
      ·rintro d ⟨⟩
       exact ⟨.inl rfl,.inr ⟨h2,h3⟩⟩
     ·simp only [cl,b1,nb,show¬ ij=0 by omega,decide_false,Bool.not_false,hec,decide_true,Bool.and_self,cond_true,if_neg oG,Option.isNone_none,h3,Bool.or_true]
      rfl
  ·split at k
   case isFalse=>cases k
   rename_i hb
   have b1:=Ja hb hl
   split at k
   ·cases k
    have hd:∃d,cl ij C.H (.slice a 0 c) Ag rS (some ‹Value›)=some (.slice d 0 0):=by
     simp only [List.length_nil]at b1
     simp only [cl,b1,nb,show¬ ij=0 by omega,decide_false,Bool.not_false,asp,decide_true,Bool.and_self,cond_true]
     cases a with
     |none=>exact ⟨none,rfl⟩
     |some a=>exact ⟨some a,by simp⟩
    obtain ⟨d,hd⟩:=hd
    refine qa.val S (x:=.slice d 0 0) (.fs (wW fun _ _=>.inr rfl)) (by simp only [List.length_nil];rw [hd];rfl)
   ·rename_i r0 rows
    cases k
    obtain ⟨b,o,rfl,h1,h2,h3,h4⟩:=y6 hr hk (by simp)
    obtain ⟨A,B⟩:=S.void ij W
    refine ⟨.slice (some ⟨b,o,none⟩) 0 0,_,_,?_,.sl ⟨_,_,rfl⟩ (by simp) ?_ (fun _=>.inl ⟨rfl,rfl,_,rfl,by rintro e ⟨⟩;rfl⟩),A,B⟩
    ·simp only [cl,b1,nb,show¬ ij=0 by omega,decide_false,Bool.not_false,asp,decide_true,Bool.and_self,cond_true]
     simp
    ·intro z9 cs9 e9
     simp
 ·split at k
  case isFalse=>cases k
  rename_i hc
  cases k
  cases hp
  refine qa.val S (.v _) ?_
  obtain ⟨⟨l,e,m⟩,hb⟩:=Option.isSome_iff_exists.1 hc.2
  obtain ⟨b1,b2,b3,b4⟩:=vC hb (asp _)
  obtain ⟨rfl,rfl,rfl⟩:l=0∧e=0∧m=0:=by omega
  simp only [cl,hb,nb,show¬ sz=0 by omega,decide_false,Bool.not_false,asp,decide_true,Bool.and_self,cond_true]
  rfl
 ·rename_i s
  split at k
  ·cases k
  ·split at k
   case h_2=>cases k
   rename_i l e m hb
   split at k
   case isFalse=>cases k
   rename_i hz
   cases k
   subst hz
   cases hp
   refine qa.val S (.v _) ?_
   simp only [cl,hb]
   rfl
 ·cases k
end Go.Proofs.YtppcmpmnglaleaaGreatDoor.A.P
