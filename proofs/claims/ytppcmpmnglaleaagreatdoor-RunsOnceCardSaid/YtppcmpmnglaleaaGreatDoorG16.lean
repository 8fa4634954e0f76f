/- Texts that stand one behind the other: S36, S37, S38, S39, S40, S41, S42, S43, S44, S45, S46, S47. -/
import Derived.Test.YtppcmpmnglaleaaGreatDoorG15
set_option linter.unusedVariables false
set_option linter.unusedSimpArgs false
set_option maxRecDepth 10000
namespace Go.Proofs.YtppcmpmnglaleaaGreatDoor.A
open Go
theorem EU {l:List bD} {vl:Value} {rows:List (List Value)} {H:AH} (hw:H.n0≤H.nx) (hr:Rows H 5 vl rows) (hl:iN H rows l) (hlen:l.length<2^40) (nz:av l<2^60):
 Ca E O 146 [vl] H (fun x H'=>x= .int .i64 (ar l)∧Ext H H'):=by
 refine Ca.aS (F:=a146) rfl rfl rfl ?_
 obtain ⟨p0,c0,kW⟩:=hr.len
 rw [hl.length]at kW
 simp (maxSteps:=4000000)-implicitDefEqProofs+contextual [-X.ev,a146,kW]
 refine ch (fun k fr H'=>Ext H H'∧∃i:Nat,i+k=l.length∧fr.get 6=vl∧fr.get 7= .int .i64 l.length∧fr.get 8= .int .i64 i∧fr.get 3= .int .i64 (ar (l.take i))) ?_ l.length ⟨Ext.refl _,0,by simp,by simp [kW],by simp,by simp,by simp [ar]⟩
 rintro k fr H2 ⟨X2,i,hi,f6,f7,f8,f3⟩
 have jr:=X2.wf hw
 have bt:=aQ l
 by_cases h:i<l.length
 ·obtain ⟨y,hy⟩:∃y,l[i]?=some y:=⟨_,asl h⟩
  have t1:=fy hy
  have t2:=aV l (i+1)
  have t3:=aV l i
  have u1:=gv hy
  have u2:=cm l i
  have u3:=cm l (i+1)
  obtain ⟨l7,yn,kz,pR,pS⟩:=y
  obtain ⟨b,o,c',pT,pU,pV,Ya,Yb,Yc,cA,bJ,_,_,_,_,_,j1,j2,j3,j4,j5,g1,g2,g3,g4,g5,g6⟩:=iN.row (hr.ext X2) (iN.ext X2 hl) hy
  have FT:oN H2 [.int .i64 l7,.int .i64 yn,pT,pU,pV] (.mk l7 yn kz pR pS):=.mk j1 j2 j3 j4 j5 g1 g2 g3 g4 g5 g6
  have So:=f6
  rw [cA]at So
  obtain ⟨H3,FP,X3,HU,HV,q,mm⟩:=eN (H:=H2) jr (z:=5) (c:=[.int .i64 0,.int .i64 0,.slice none 0 0,.slice none 0 0,.slice none 0 0]) (vs:=[.int .i64 l7,.int .i64 yn,pT,pU,pV]) rfl
  have q0:H3.ld ⟨H2.nx,0,none⟩=some (.int .i64 l7):=mm 0 _ rfl
  have q1:H3.ld ⟨H2.nx,1,none⟩=some (.int .i64 yn):=mm 1 _ rfl
  have q2:H3.ld ⟨H2.nx,2,none⟩=some pT:=mm 2 _ rfl
  have q3:H3.ld ⟨H2.nx,3,none⟩=some pU:=mm 3 _ rfl
  have q4:H3.ld ⟨H2.nx,4,none⟩=some pV:=mm 4 _ rfl
  clear mm
  replace q:H3.ldn ⟨H2.nx,0,none⟩ 5=some [.int .i64 l7,.int .i64 yn,pT,pU,pV]:=q
  have yD:=X3.wf jr
  have w1:IntKind.i64.wrap (ar (l.take i)+bw (.mk l7 yn kz pR pS))=ar (l.take (i+1)):=by rw [ai ⟨by omega,by omega⟩];omega
  simp (maxSteps:=4000000)-implicitDefEqProofs+contextual [-X.ev,So,f3,f7,f8,h,bJ,FP,q]
  apply ah
  ·(simp-implicitDefEqProofs [-X.ev];rfl)
  refine (CK _ _ _ H3 (asA _) yD (oN.ext X3 FT) (by omega)).mono ?_
  rintro x H4 ⟨rfl,X4⟩
  simp (maxSteps:=4000000)-implicitDefEqProofs+contextual [-X.ev,So,f3,f7,f8,w1]
  rw [ai (n:=(i:Int)+1) ⟨by omega,by omega⟩]
  exact ⟨k- 1,by omega,(X2.trans X3).trans X4,i+1,by omega,cA.symm,by simp,rfl⟩
 rw [ass (by omega)]at f3
 rw [kW]at f6
 simp (maxSteps:=4000000)-implicitDefEqProofs+contextual [-X.ev,f6,f3,f7,f8,h]
 exact X2
theorem Nc {H:AH} {m:Nat} {vf:Value} {rest:List Value} {rows:List (List Value)} {a:Option Addr} {n c:Nat} {k:Int} (hw:H.n0≤H.nx) (gm:H.get m=some (.cells 14 (vf::rest))) (h0:H.n0≤m) (ow:gg H 2 vf rows) (hvm:¬ aX vf m) (hb:rows.length≤2^40):
 Ca E O 105 [.pointer (some ⟨m,0,none⟩),.slice a n c,.int .i64 k] H (fun x H'=>∃om,H'.get m=some (.cells 14 (om::rest))∧gg H' 2 om (if n=0 then rows else rows++[[.slice a n c,.int .i64 k]])∧Mod (fun b=>b=m∨aX vf b) H H'∧∀b,aX om b→aX vf b∨H.nx≤b):=by
 refine Ca.aS (F:=a105) rfl rfl rfl ?_
 by_cases hn:n=0
 ·subst hn
  simp (maxSteps:=4000000)-implicitDefEqProofs+contextual [-X.ev,a105]
  exact ⟨vf,gm,ow,Mod.refl _ _,fun b hb=>.inl hb⟩
 ·have hp:0<n:=by omega
  have l0:=aI gm h0 (k:=0) (v:=vf) rfl
  have lY:=rY (sz:=2) (z:=[.slice none 0 0,.int .i64 0]) (H:=H) (v:=.agg #[.slice a n c,.int .i64 k]) rfl rfl rfl
  simp only [fZ]at lY
  have X:=Ext.alloc H (.cells 2 [.slice a n c,.int .i64 k])
  obtain ⟨H2,kl⟩:∃H2,H.alloc (.cells 2 [.slice a n c,.int .i64 k])=H2:=⟨_,rfl⟩
  obtain ⟨om,H3,Sc,o3,M3,k3,nk,sr,aoT⟩:=ow.push (bytes:=32) hw (by omega) (r:=[.slice a n c,.int .i64 k]) rfl kl (by omega) (by omega)
  rw [kl]at lY X
  have Yg:=M3.get hvm gm
  obtain ⟨H4,s4,M4,zP,oQ,g4⟩:=cg Yg (by rw [nk];exact h0) (k:=0) (vs:=[om]) (by simp)
  have ji:aP (vf::rest) 0 [om]=om::rest:=by simp [aP]
  rw [ji]at g4
  obtain ⟨fa,fc,EI⟩:=o3.shape
  rw [asu,List.length_singleton]at EI
  subst EI
  have l02:=X.ld l0
  have uU:fg [.slice none 0 0,.int .i64 0] [(0,1,.slice a n c),(1,1,.int .i64 k)]=some (.agg #[.slice a n c,.int .i64 k]):=rfl
  simp (maxSteps:=4000000)-implicitDefEqProofs+contextual [-X.ev,a105,hp,l0,uU,lY,Sc,s4]
  have Sw:∀b,aX (.slice fa (rows.length+1) fc) b→¬ b=m:=by
   intro b hb q
   subst q
   rcases k3 b hb with h|h
   ·exact hvm h
   ·have:=AH.a8 gm;omega
  refine ⟨_,g4,by rw [if_neg hn];exact o3.mod M4 Sw,(M3.mono fun x _ hx=>.inr hx).trans (M4.mono fun x _ hx=>.inl hx),k3⟩
theorem Nd {G H:AH} {m:Nat} {vf vl:Value} {rest:List Value} {rows rs:List (List Value)} {cs:List Value} {k:Int} (hw:H.n0≤H.nx) (gm:H.get m=some (.cells 14 (vf::rest))) (h0:H.n0≤m) (ow:gg H 2 vf (rows++[[vl,.int .i64 k]])) (hb:rows.length≤2^40) (X:Sub G H) (hr:Rows G 5 vl (cs::rs)):
 Ca E O 106 [.pointer (some ⟨m,0,none⟩)] H (fun x H'=>x= .tuple #[.agg cs.toArray,.int .i64 k,.bool true]∧Ext H H'):=by
 refine Ca.aS (F:=Eg) rfl rfl rfl ?_
 obtain ⟨b,c,rfl,hc,yF,nK,hz,hl,_,_⟩:=ow.last
 have l0:=aI gm h0 (k:=0) (v:=.slice (some ⟨b,0,none⟩) (rows.length+1) c) rfl
 have X1:=Ext.alloc H (.cells 5 zS)
 have gR:=cK H (.cells 5 zS)
 obtain ⟨H1,cJ⟩:∃H1,H.alloc (.cells 5 zS)=H1:=⟨_,rfl⟩
 rw [cJ]at X1 gR
 have lI:=X1.wf hw
 have l01:=X1.ld l0
 have KS:=X1.ldn hl
 obtain ⟨H2,s2,X2,xF,qt,g2⟩:=jy lI (z:=2) (c:=[.slice none 0 0,.int .i64 0]) (vs:=[vl,.int .i64 k]) rfl
 have jr:=X2.wf lI
 have q0:=aI g2 (by rw [qt];exact lI) (k:=0) (v:=vl) rfl
 have q1:=aI g2 (by rw [qt];exact lI) (k:=1) (v:=.int .i64 k) rfl
 obtain ⟨b5,o5,c5,kW,U2⟩:=((hr.sub X).ext (X1.trans X2)).at (i:=0) (r:=cs) rfl
 rw [List.length_cons]at kW
 have gR2:=X2.get gR
 have oG:cs.length=5:=(dH U2).2
 obtain ⟨H3,s3,M3,sr,nk,g3⟩:=cg gR2 (by rw [qt,X1.n0];exact hw) (k:=0) (vs:=cs) (by simp [oG])
 have ji:aP zS 0 cs=cs:=iA _ _ (by rw [oG];rfl)
 rw [ji]at g3
 have l3:H3.ldn ⟨H.nx,0,none⟩ 5=some cs:=by rw [bW g3 (by rw [nk,qt,X1.n0];exact hw) (by omega)];simp [ass (Nat.le_of_eq oG)]
 rw [kW]at q0
 rw [kW]at s2
 have w1:IntKind.i64.wrap (rows.length:Int)=(rows.length:Int):=ai ⟨by omega,by omega⟩
 have n1:=X1.nx
 have n2:=X2.nx
 have Sx:H2.ldn ⟨b5,o5,none⟩ 5=some cs:=by simpa using U2
 have gF:¬ ((rows.length:Int)+1=0):=by omega
 have e1:H1.nx=H.nx+1:=by rw [←cJ];rfl
 have Vh:Nat.beq H1.nx H.nx=false:=Bool.eq_false_iff.2 fun h=>by have:=Nat.eq_of_beq_eq_true h;omega
 have c8:(rows.length:Int)<(rows.length:Int)+1:=by omega
 simp only [kW]at KS
 simp (maxSteps:=4000000)-implicitDefEqProofs+contextual [-X.ev,Eg,cJ,l01,gF,c8,w1,KS,s2,q0,q1,Sx,s3,l3,bm,aJ,aK,X1.n0,qt,nk,xF,sr,oG,AH.pr,AH.eu,Cq,dk,Vh]
 exact (X1.trans X2).mod M3 (fun b hb=>by omega)
theorem Iy {H:AH} {m:Nat} {vf:Value} {rest:List Value} (hw:H.n0≤H.nx) (gm:H.get m=some (.cells 14 (vf::rest))) (h0:H.n0≤m) (ow:gg H 2 vf []):
 Ca E O 106 [.pointer (some ⟨m,0,none⟩)] H (fun x H'=>x= .tuple #[.agg zS.toArray,.int .i64 0,.bool false]∧Ext H H'):=by
 refine Ca.aS (F:=Eg) rfl rfl rfl ?_
 obtain ⟨fa,fc,rfl⟩:=ow.shape
 have l0:=aI gm h0 (k:=0) (v:=.slice fa 0 fc) rfl
 obtain ⟨H2,s2,X2,xF,qt,g2⟩:=jy hw (z:=5) (c:=zS) (vs:=zS) rfl
 have X1:=Ext.alloc H (.cells 5 zS)
 obtain ⟨H1,cJ⟩:∃H1,H.alloc (.cells 5 zS)=H1:=⟨_,rfl⟩
 rw [cJ]at X1 s2
 have l01:=X1.ld l0
 have l3:H2.ldn ⟨H.nx,0,none⟩ 5=some zS:=by rw [bW g2 (by rw [qt];exact hw) (by simp)];rfl
 have uU:fg zS []=some (.agg zS.toArray):=rfl
 simp (maxSteps:=4000000)-implicitDefEqProofs+contextual [-X.ev,Eg,cJ,l01,uU,s2,l3,X2]
theorem agX {G H:AH} (X:Sub G H) {vl:Value} {cs:List Value} {rs:List (List Value)} (hr:Rows G 5 vl (cs::rs)) (hf:Fit G vl):∃a c,cl 5 H vl (some (.int .i64 1)) none none=some (.slice a rs.length c)∧Rows G 5 (.slice a rs.length c) rs∧Fit G (.slice a rs.length c):=by
 obtain ⟨a,n,c,rfl,hc,hz⟩:=hf
 obtain ⟨a',c',e,k⟩:=hr.is
 cases e
 obtain ⟨b,o,ha,xC⟩:=hz (by simp)
 subst ha
 have agY:H.lE b 5=true:=by
  unfold AH.lE at xC⊢
  split at xC
  ·rename_i hg;rw [X.get _ _ hg];exact xC
  ·cases xC
 simp only [List.length_cons]at hc
 by_cases QE:c=1
 ·subst QE
  have FX:rs=[]:=List.eq_nil_of_length_eq_zero (by omega)
  subst FX
  exact ⟨some ⟨b,o,some 1⟩,0,rfl,⟨_,_,rfl,by simp⟩,⟨_,_,_,rfl,asp _,fun h=>absurd h (by simp)⟩⟩
 ·refine ⟨some ⟨b,o+5,none⟩,c- 1,?_,⟨_,_,rfl,fun i r hi=>?_⟩,⟨_,_,_,rfl,by omega,fun _=>⟨b,o+5,rfl,xC⟩⟩⟩
  ·have h1:¬ c=1:=QE
   have h3:(1:Int)≤(rs.length:Int)+1:=by omega
   have h2:1≤c:=by omega
   simp [cl,bH,iS,h1,h3,hc,agY]
   rfl
  ·obtain ⟨b',o',e,hl⟩:=k (i+1) r (by simpa using hi)
   cases e
   refine ⟨b,o+5,rfl,?_⟩
   rw [show o+5+i*5=o+(i+1)*5 by omega]
   exact hl
theorem kA:∀s:bD,1≤bw s
 | .mk op n args thn els=>by have:=aQ thn;have:=aQ els;rw [bw];omega
def yO (rows rs:List (List Value)) (r:List Value):List (List Value):=if rs.length=0 then rows else rows++[r]
theorem Nf {G H:AH} {m:Nat} {vf vl:Value} {rest:List Value} {rows rs:List (List Value)} {cs:List Value} {s:bD} {k:Int} (hw:H.n0≤H.nx) (gm:H.get m=some (.cells 14 (vf::rest))) (h0:H.n0≤m) (ow:gg H 2 vf (rows++[[vl,.int .i64 k]])) (hvm:¬ aX vf m) (hb:rows.length≤2^40) (X:Sub G H) (hS:∀b,(b=m∨aX vf b)→G.get b=none) (hr:Rows G 5 vl (cs::rs)) (hf:Fit G vl) (hs:oN G cs s) (nz:bu s<2^60) (Ar:rs.length<2^60)
 (hk:0≤k∧k≤2^40) (EV:bw s≤2^40):
 Ca E O 143 [.pointer (some ⟨m,0,none⟩)] H (fun x H'=>∃om,H'.get m=some (.cells 14 (om::rest))∧(∃Yh,Rows G 5 Yh rs∧Fit G Yh∧gg H' 2 om (yO rows rs [Yh,.int .i64 (k+bw s)]))∧Mod (fun b=>b=m∨aX vf b) H H'∧∀b,aX om b→aX vf b):=by
 refine Ca.aS (F:=a143) rfl rfl rfl ?_
 obtain ⟨b,c,rfl,hc,yF,nK,hz,hl,eT,_⟩:=ow.last
 have hbm:b≠m:=fun q=>hvm ((bG _ _ _ _ _).2 q.symm)
 have l0:=aI gm h0 (k:=0) (v:=.slice (some ⟨b,0,none⟩) (rows.length+1) c) rfl
 obtain ⟨b5,o5,c5,kW,U2⟩:=(hr.sub X).at (i:=0) (r:=cs) rfl
 rw [List.length_cons]at kW
 have Sx:H.ldn ⟨b5,o5,none⟩ 5=some cs:=by simpa using U2
 have w1:IntKind.i64.wrap (rows.length:Int)=(rows.length:Int):=ai ⟨by omega,by omega⟩
 have c8:(rows.length:Int)<(rows.length:Int)+1:=by omega
 have q0:H.ld ⟨b,rows.length*2,none⟩=some vl:=by simpa using aR hl (j:=0) rfl
 have q1:H.ld ⟨b,rows.length*2+1,none⟩=some (.int .i64 k):=aR hl (j:=1) rfl
 rw [kW]at q0
 have hs0:oN H cs s:=oN.sub X hs
 have Ph:G.get m=none:=hS m (.inl rfl)
 simp (maxSteps:=4000000)-implicitDefEqProofs+contextual [-X.ev,a143,l0,w1,c8,q0,q1,Sx,bm,aJ,aK]
 apply ah
 ·(simp-implicitDefEqProofs [-X.ev];rfl)
 refine (CK _ s cs H (asA _) hw hs0 nz).mono ?_
 rintro x H1 ⟨rfl,X1⟩
 have lI:=X1.wf hw
 have ct:=kA s
 have gm1:=X1.get gm
 have w2:IntKind.i64.wrap (k+bw s)=k+bw s:=ai ⟨by omega,by omega⟩
 obtain ⟨b',c',e,_,mj,aoX,hz1,KS,ag0,_⟩:=(ow.ext X1).last
 cases e
 obtain ⟨H2,s2,o2,M2,xF,qt⟩:=ag0 1 (.int .i64 (k+bw s)) (by omega)
 replace o2:gg H2 2 (.slice (some ⟨b,0,none⟩) (rows.length+1) c) (rows++[[vl,.int .i64 (k+bw s)]]):=o2
 have Xr:=M2.get (fun q=>hbm q.symm) gm1
 have fU:Sub G H2:=(X.RZ X1).mod M2 (fun q hq=>hS q (.inr ((bG _ _ _ _ _).2 hq)))
 obtain ⟨a',FG,yP,FM,hf'⟩:=agX fU hr hf
 obtain ⟨b',c',e,_,iL,aoY,hz2,xE,ag1,_⟩:=o2.last
 cases e
 have p0:H2.ld ⟨b,rows.length*2,none⟩=some vl:=by simpa using aR xE (j:=0) rfl
 obtain ⟨H3,s3,o3,M3,sr,nk⟩:=ag1 0 (.slice a' rs.length FG) (by omega)
 replace o3:gg H3 2 (.slice (some ⟨b,0,none⟩) (rows.length+1) c) (rows++[[.slice a' rs.length FG,.int .i64 (k+bw s)]]):=o3
 have Yg:=M3.get (fun q=>hbm q.symm) Xr
 obtain ⟨b',c',e,hc3,uF,aoZ,hz3,hl3,ao1,o3'⟩:=o3.last
 cases e
 have p3:H3.ld ⟨b,rows.length*2,none⟩=some (.slice a' rs.length FG):=by simpa using aR hl3 (j:=0) rfl
 have s3':H2.st ⟨b,rows.length*2,none⟩ [.slice a' rs.length FG]=some H3:=s3
 rw [kW]at p0 yP
 have q01:=X1.ld q0
 have e03:H3.n0=H.n0:=nk.trans (qt.trans X1.n0)
 have M13:Mod (fun b'=>b'=m∨aX (.slice (some ⟨b,0,none⟩) (rows.length+1) c) b') H H3:=(Mod.cj X1).trans ((M2.mono fun x _ hx=>.inr ((bG _ _ _ _ _).2 hx)).trans (M3.mono fun x _ hx=>.inr ((bG _ _ _ _ _).2 hx)))
 have q1n:=bg.1 q1
 have Yi:=X1.ldn q1n
 have x1x:=X1.nx
 have x1n:=X1.n0
 by_cases FX:(rs.length:Int)=0
 ·obtain ⟨H4,s4,M4,zP,oQ,g4⟩:=cg Yg (by rw [e03];exact h0) (k:=0) (vs:=[.slice (some ⟨b,0,none⟩) rows.length c]) (by simp)
  have ji:aP (.slice (some ⟨b,0,none⟩) (rows.length+1) c::rest) 0 [.slice (some ⟨b,0,none⟩) rows.length c]= .slice (some ⟨b,0,none⟩) rows.length c::rest:=by simp [aP]
  rw [ji]at g4
  have l3:=aI Yg (by rw [e03];exact h0) (k:=0) (v:=.slice (some ⟨b,0,none⟩) (rows.length+1) c) rfl
  have ot:cl 2 H3 (.slice (some ⟨b,0,none⟩) (rows.length+1) c) none (some (.int .i64 rows.length)) none=some (.slice (some ⟨b,0,none⟩) rows.length c):=by
   have h1:¬ c=0:=by omega
   have h2:rows.length≤c:=by omega
   have h3:(rows.length:Int)≤(c:Int):=by omega
   simp [cl,bH,iS,h1,h2,h3]
   rfl
  simp (maxSteps:=4000000)-implicitDefEqProofs+contextual [-X.ev,q01,w2,s2,p0,yP,s3',p3,l3,w1,ot,s4,FX,q1n,Yi,x1x,x1n,qt,xF,bm,aJ,aK]
  refine ⟨⟨oQ.symm,by omega⟩,_,g4,⟨_,FM,hf',?_⟩,M13.trans (M4.mono fun x _ hx=>.inl hx),fun q hq=>?_⟩
  ·rw [yO,if_pos (by omega)]
   exact o3'.mod M4 (fun q hq e=>hbm (by rw [bG]at hq;omega))
  ·rw [bG]at hq⊢;exact hq
 ·have hr2:¬ rs=[]:=fun q=>FX (by rw [q];rfl)
  simp (maxSteps:=4000000)-implicitDefEqProofs+contextual [-X.ev,q01,w2,s2,p0,yP,s3',p3,hr2,q1n,Yi,x1x,x1n,qt,xF,bm,aJ,aK]
  refine ⟨_,Yg,⟨_,FM,hf',?_⟩,M13,fun q hq=>hq⟩
  rw [yO,if_neg (by omega)]
  exact o3
open Go
def Iz (v:Value):Prop:=∃a n c,v= .slice a n c∧n≤c
theorem dN.cap {H:AH} {sz:Nat} {v:Value} {rows:List (List Value)} (h:dN H sz v rows):Iz v:=by
 rcases h.is with⟨rfl,_⟩|⟨b,rfl,_⟩
 ·exact ⟨_,_,_,rfl,asp _⟩
 ·exact ⟨_,_,_,rfl,asp _⟩
theorem Mod.then {R R':Nat→Prop} {H H1 H2:AH} (h:Mod R H H1) (k:Mod R' H1 H2) (hs:∀b,b<H.nx→R' b→R b):Mod R H H2:=
 ⟨k.n0.trans h.n0,Nat.le_trans h.nx k.nx,fun b hb hr=>(k.old b (Nat.lt_of_lt_of_le hb h.nx) fun q=>hr (hs b hb q)).trans (h.old b hb hr)⟩
theorem dz.sub {G H:AH} (X:Sub G H) {v:Value} {l:List Vr} (h:dz G v l):dz H v l:=Rows.sub X h
theorem tM {V:List Vr} {i:Nat} {y:Vr} (hy:V[i]?=some y):bk V ((i+1:Nat):Int)=IntKind.i64.wrap (bk V (i:Int)+y.cells):=by
 simp only [bk,Int.toNat_natCast]
 rw [List.take_add_one]
 simp [du,hy,List.foldl_append]
theorem Sy {H:AH} {vv:Value} {V:List Vr} {n:Int} (hv:dz H vv V) (iV:Iz vv) (hn:0≤n∧n<V.length):∃a c c',vv= .slice a V.length c∧cl 3 H vv none (some (.int .i64 n)) none=some (.slice a n.toNat c'):=by
 obtain ⟨a,m,c,rfl,hc⟩:=iV
 obtain ⟨a',c',e⟩:=hv.len
 cases e
 refine ⟨a,c,c,rfl,?_⟩
 have h1:¬ c=0:=by omega
 have h2:n≤(c:Int):=by omega
 have h3:n.toNat≤c:=by omega
 obtain ⟨y,hy⟩:∃y,V[0]?=some y:=⟨_,asl (by omega)⟩
 obtain ⟨b,o,c',e,_⟩:=hv.at hy
 cases e
 simp [cl,bH,iS,h1,h2,h3,hn.1]
 rfl
theorem vu {w k n:Int} {vv:Value} {V:List Vr} {H:AH} (hw:H.n0≤H.nx) (hv:dz H vv V) (iV:Iz vv) (hl:V.length≤2^40) (hn:0≤n∧n<V.length):
 Ca E O 176 [.agg #[.int .i64 w,vv,.int .i64 k],.int .i64 n] H (fun x H'=>x= .int .i64 (bk V n)∧Ext H H'):=by
 obtain ⟨nn,rfl⟩:∃m:Nat,n=m:=⟨n.toNat,by omega⟩
 refine Ca.aS (F:=LS) rfl rfl rfl ?_
 obtain ⟨a,c,c',lC,yP⟩:=Sy hv iV hn
 have X1:=Ext.alloc H (.cells 3 [.int .i64 w,vv,.int .i64 k])
 have d0:(H.alloc (.cells 3 [.int .i64 w,vv,.int .i64 k])).ld ⟨H.nx,0,none⟩=some (.int .i64 w):=ak hw rfl
 have d1:(H.alloc (.cells 3 [.int .i64 w,vv,.int .i64 k])).ld ⟨H.nx,1,none⟩=some vv:=ak hw rfl
 have d2:(H.alloc (.cells 3 [.int .i64 w,vv,.int .i64 k])).ld ⟨H.nx,2,none⟩=some (.int .i64 k):=ak hw rfl
 have d:(H.alloc (.cells 3 [.int .i64 w,vv,.int .i64 k])).ldn ⟨H.nx,0,none⟩ 3=some [.int .i64 w,vv,.int .i64 k]:=bl hw 3 rfl
 generalize cJ:H.alloc (.cells 3 [.int .i64 w,vv,.int .i64 k])=H1 at X1 d0 d1 d2 d
 have bP:=X1.wf hw
 obtain ⟨a1,c1,c1',Yj,IA⟩:=Sy (hv.ext X1) iV hn
 rw [lC]at Yj
 cases Yj
 rw [lC]at d1 IA
 rw [Int.toNat_natCast]at IA
 simp (maxSteps:=4000000)-implicitDefEqProofs+contextual [-X.ev,LS,cJ,d1,IA]
 refine ch (fun k fr H'=>Ext H1 H'∧∃i:Nat,i+k=nn∧fr.get 11= .slice a nn c1'∧fr.get 12= .int .i64 nn∧fr.get 13= .int .i64 i∧fr.get 5= .int .i64 (bk V (i:Int))) ?_ nn ⟨Ext.refl _,0,by simp,by simp,by simp,by simp,by simp [bk,du]⟩
 rintro k fr H2 ⟨X2,i,hi,f11,f12,f13,f5⟩
 have jr:=X2.wf bP
 have fU:=X1.trans X2
 by_cases h:i<nn
 ·obtain ⟨y,hy⟩:∃y,V[i]?=some y:=⟨_,asl (by omega)⟩
  obtain ⟨b,o,c',cA,bJ,_,_,_⟩:=(hv.ext fU).at hy
  rw [lC]at cA
  cases cA
  simp only [Vr.row]at bJ
  obtain ⟨H3,FP,X3,HU,HV,q,mm⟩:=eN (H:=H2) jr (z:=3) (c:=[.string ⟨#[]⟩,.int .i64 0,.int .i64 0]) (vs:=[.string y.name,.int .i64 y.level,.int .i64 y.cells]) rfl
  have q0:H3.ld ⟨H2.nx,0,none⟩=some (.string y.name):=mm 0 _ rfl
  have q1:H3.ld ⟨H2.nx,1,none⟩=some (.int .i64 y.level):=mm 1 _ rfl
  have q2:H3.ld ⟨H2.nx,2,none⟩=some (.int .i64 y.cells):=mm 2 _ rfl
  clear mm
  replace q:H3.ldn ⟨H2.nx,0,none⟩ 3=some [.string y.name,.int .i64 y.level,.int .i64 y.cells]:=q
  have yD:=X3.wf jr
  have hii:(i:Int)<(nn:Int):=by omega
  have hk:k- 1<k:=by omega
  simp (maxSteps:=4000000)-implicitDefEqProofs+contextual [-X.ev,f11,f12,f13,f5,h,bJ,FP,q2]
  rw [ai (n:=(i:Int)+1) ⟨by omega,by omega⟩]
  exact ⟨k- 1,by omega,X2.trans X3,i+1,by omega,by simp,by rw [tM hy]⟩
 ·simp (maxSteps:=4000000)-implicitDefEqProofs+contextual [-X.ev,f11,f12,f13,f5,h]
  refine ⟨?_,fU⟩
  rw [show(i:Int)=nn by omega]
structure Yk (G:AH) (f:Nat) (first cap:Array Value) (I:List Ev→(Nat→Prop)→AH→Prop):Prop where
 call:∀{oR:List Ev} {R:Nat→Prop} {H:AH} {n i:Int},H.n0≤H.nx→I oR R H→Sub G H→(∀b,R b→G.get b=none)→oR.length<2^40→
  Ca E O f (first.toList++ .int .i64 n:: .int .i64 i::cap.toList) H (fun x H'=>∃R',I (oR++[⟨1,n,i⟩]) R' H'∧Mod R H H'∧∀b,R' b→R b∨H.nx≤b)
 mod:∀{oR:List Ev} {R T:Nat→Prop} {H H':AH},I oR R H→Mod T H H'→(∀b,T b→¬ R b)→I oR R H'
 lt:∀{oR:List Ev} {R:Nat→Prop} {H:AH},I oR R H→∀b,R b→b<H.nx
theorem Yk.ext {G:AH} {f:Nat} {first cap:Array Value} {I:List Ev→(Nat→Prop)→AH→Prop} (h:Yk G f first cap I) {oR:List Ev} {R:Nat→Prop} {H H':AH} (i:I oR R H) (X:Ext H H'):I oR R H':=h.mod i (Mod.cj (S:=fun _=>False) X) (by simp)
def IB (l:List Int):List Value:=[.int .i64 (ei l 0),.int .i64 (ei l 1),.int .i64 (ei l 2)]
theorem qO {w:Int} {V:List Vr} {S:List (List Int)}:∀(l:List b9) (i:Nat),bU w V S (l.take i)=(bU w V S l).take i
 |[],i=>by simp [bU]
 |e::es,0=>by simp [bU]
 |e::es,i+1=>by simp [bU,qO es i]
theorem IC {w:Int} {V:List Vr} {S:List (List Int)} {l:List b9} {i:Nat} {y:b9} (hl:l.length≤3) (hy:l[i]?=some y):aP (IB (bU w V S (l.take i))) i [.int .i64 (GH w V S y)]=IB (bU w V S (l.take (i+1))):=by
 match l,i,hl,hy with
 |[a],0,_,hy=>simp at hy;subst hy;rfl
 |[a,b],0,_,hy=>simp at hy;subst hy;rfl
 |[a,b],1,_,hy=>simp at hy;subst hy;rfl
 |[a,b,c],0,_,hy=>simp at hy;subst hy;rfl
 |[a,b,c],1,_,hy=>simp at hy;subst hy;rfl
 |[a,b,c],2,_,hy=>simp at hy;subst hy;rfl
theorem ID {G:AH} {w:Int} {vv vS:Value} {V:List Vr} {S:List (List Int)} {f:Nat} {first cap:Array Value} {I:List Ev→(Nat→Prop)→AH→Prop} (hV:aC w V=true) (hS:EO w V S) (hv:dz G vv V) (iV:Iz vv) (eT:et G vS S) (tN:Yk G f first cap I):
 ∀(N:Nat) (e:b9) (c:List Value) (H:AH) (oR:List Ev) (R:Nat→Prop),SizeOf.sizeOf e<N→H.n0≤H.nx→Sub G H→I oR R H→(∀b,R b→G.get b=none)→nX G c e→dA w V S.length e=true→(oR.length:Int)+aB e≤2^40→
 Ca E O 168 [.agg #[.int .i64 w,vv,.int .i64 S.length],vS,.agg c.toArray,.func (.func f) first cap] H (fun x H'=>x= .int .i64 (GH w V S e)∧∃R',I (oR++nw w V S e) R' H'∧Mod R H H'∧∀b,R' b→R b∨H.nx≤b):=by
 have eB:1≤w∧w≤8:=⟨(aF hV).1,(aF hV).2.1⟩
 have hp:=fJ eB
 have hVl:=(aF hV).2.2.2
 intro N
 induction N with
 |zero=>intro e c H oR R h;omega
 |succ N ih=>
  intro e c H oR R hN hw X hI PI he hf nz
  cases he with| @mk op n cp va rows args i1 i2 i3 hlen hr hl=>
  refine Ca.aS (F:=a168) rfl rfl rfl ?_
  obtain ⟨aG,hc⟩:=lP eB hf
  have Sc:args.length≤3:=by
   rcases hc with⟨_,rfl,_⟩|⟨_,_,_,_,_,⟨rfl,_⟩|⟨⟨a,rfl⟩,_⟩⟩|⟨_,a,rfl⟩|⟨_,a,b,c,rfl⟩|⟨_,a,b,rfl⟩<;>simp
  have wd:∀y∈args,0≤GH w V S y∧GH w V S y<2^w.toNat:=fun y hy=>iZ hV hS y (aG y hy)
  rw [aB]at nz
  obtain ⟨p0,c0,gq⟩:=hr.len
  rw [hl.length]at gq
  have g1:=cK H (.cells 3 [.int .i64 w,vv,.int .i64 S.length])
  have X1:=Ext.alloc H (.cells 3 [.int .i64 w,vv,.int .i64 S.length])
  have d0:(H.alloc (.cells 3 [.int .i64 w,vv,.int .i64 S.length])).ld ⟨H.nx,0,none⟩=some (.int .i64 w):=ak hw rfl
  have d1:(H.alloc (.cells 3 [.int .i64 w,vv,.int .i64 S.length])).ld ⟨H.nx,1,none⟩=some vv:=ak hw rfl
  have d2:(H.alloc (.cells 3 [.int .i64 w,vv,.int .i64 S.length])).ld ⟨H.nx,2,none⟩=some (.int .i64 S.length):=ak hw rfl
  have d:(H.alloc (.cells 3 [.int .i64 w,vv,.int .i64 S.length])).ldn ⟨H.nx,0,none⟩ 3=some [.int .i64 w,vv,.int .i64 S.length]:=bl hw 3 rfl
  generalize cJ:H.alloc (.cells 3 [.int .i64 w,vv,.int .i64 S.length])=H1 at X1 d0 d1 d2 d
  have bP:=X1.wf hw
  rw [cJ]at g1
  have g2:=cK H1 (.cells 4 [.int .i64 op,.int .i64 n,.int .i64 cp,va])
  have nE1:H1.nx=H.nx+1:=by rw [←cJ];rfl
  have X2:=Ext.alloc H1 (.cells 4 [.int .i64 op,.int .i64 n,.int .i64 cp,va])
  have e0:(H1.alloc (.cells 4 [.int .i64 op,.int .i64 n,.int .i64 cp,va])).ld ⟨H1.nx,0,none⟩=some (.int .i64 op):=ak bP rfl
  have e1:(H1.alloc (.cells 4 [.int .i64 op,.int .i64 n,.int .i64 cp,va])).ld ⟨H1.nx,1,none⟩=some (.int .i64 n):=ak bP rfl
  have e2:(H1.alloc (.cells 4 [.int .i64 op,.int .i64 n,.int .i64 cp,va])).ld ⟨H1.nx,2,none⟩=some (.int .i64 cp):=ak bP rfl
  have e3:(H1.alloc (.cells 4 [.int .i64 op,.int .i64 n,.int .i64 cp,va])).ld ⟨H1.nx,3,none⟩=some va:=ak bP rfl
  have e:(H1.alloc (.cells 4 [.int .i64 op,.int .i64 n,.int .i64 cp,va])).ldn ⟨H1.nx,0,none⟩ 4=some [.int .i64 op,.int .i64 n,.int .i64 cp,va]:=bl bP 4 rfl
  generalize kl:H1.alloc (.cells 4 [.int .i64 op,.int .i64 n,.int .i64 cp,va])=H2 at X2 e0 e1 e2 e3 e
  have jU:=X2.wf bP
  rw [kl]at g2
  have nE2:H2.nx=H.nx+2:=by rw [←kl];show H1.nx+1=_;omega
  have X3:=Ext.alloc H2 (.cells 3 [.int .i64 0,.int .i64 0,.int .i64 0])
  have g3:=cK H2 (.cells 3 [.int .i64 0,.int .i64 0,.int .i64 0])
  obtain ⟨H3,KR⟩:∃H3,H2.alloc (.cells 3 [.int .i64 0,.int .i64 0,.int .i64 0])=H3:=⟨_,rfl⟩
  rw [KR]at X3 g3
  have nE3:H3.nx=H.nx+3:=by rw [←KR];show H2.nx+1=_;omega
  have D3:=X3.ld e3
  rw [gq]at D3
  have iM:=X1.trans (X2.trans X3)
  have Yl:=X3.get (X2.get g1)
  have g2':=X3.get g2
  rw [nE1]at g2' D3
  rw [nE2]at g3
  have Ym:=tN.lt hI
  simp (maxSteps:=4000000)-implicitDefEqProofs+contextual [-X.ev,a168,cJ,kl,KR,nE1,nE2,D3]
  refine ch (fun k fr H'=>Mod R H H'∧H3.nx≤H'.nx∧H'.get H.nx=some (.cells 3 [.int .i64 w,vv,.int .i64 S.length])∧H'.get (H.nx+1)=some (.cells 4 [.int .i64 op,.int .i64 n,.int .i64 cp,va])∧∃(i:Nat) (R':Nat→Prop),i+k=args.length∧H'.get (H.nx+2)=some (.cells 3 (IB (bU w V S (args.take i))))∧I (oR++eI w V S (args.take i)) R' H'∧(∀b,R' b→R b∨H3.nx≤b)∧
   fr.get 1=vS∧fr.get 3= .func (.func f) first cap∧fr.get 4= .pointer (some ⟨H.nx,0,none⟩)∧fr.get 6= .pointer (some ⟨H.nx+1,0,none⟩)∧fr.get 9= .pointer (some ⟨H.nx+2,0,none⟩)∧fr.get 18=va∧fr.get 19= .int .i64 args.length∧fr.get 20= .int .i64 i) ?_ args.length ⟨Mod.cj iM,asp _,Yl,g2',0,R,by simp,by simpa [bU,IB,ei]using g3,by simpa [eI]using tN.ext hI iM,fun b hb=>.inl hb,by simp,by simp,by simp,by simp,by simp,by simp [gq],by simp,by simp⟩
  rintro k fr H4 ⟨M4,zP,k1,k2,i,R4,hi,k3,hI4,Sz,f1,f3,f4,f6,f9,f18,f19,f20⟩
  have qv:=M4.wf hw
  have oQ:=M4.n0
  have Ng:Sub G H4:=X.mod M4 PI
  have Gnx:=X.nx
  have SA:∀b,R4 b→G.get b=none:=fun b hb=>by
   rcases Sz b hb with h|h
   ·exact PI b h
   ·exact AH.sI (by omega)
  have SC:∀b,R4 b→b<H.nx∨H.nx+3≤b:=fun b hb=>by
   rcases Sz b hb with h|h
   ·exact .inl (Ym b h)
   ·omega
  have tl:=mI (w:=w) (V:=V) (S:=S) args i
  by_cases h:i<args.length
  ·obtain ⟨y,hy⟩:∃y,args[i]?=some y:=⟨_,asl h⟩
   have t1:=eK hy
   have t2:=bj args (i+1)
   have iu:=gO (op:=op) (n:=n) (cp:=cp) hy
   obtain ⟨b,o,c',vy,r,cA,bJ,rfl,kO⟩:=gG.row (hr.sub Ng) (gG.sub Ng hl) hy
   obtain ⟨b',o',FG,vy',r',Yn,Yo,rfl,ag5⟩:=gG.row hr hl hy
   rw [cA]at Yn
   cases Yn
   have hvy:vy'=vy:=by
    have:=Ng.ldn Yo
    rw [bJ]at this
    cases this
    rfl
   subst hvy
   have SE:=f18
   rw [cA]at SE
   obtain ⟨H5,sH5,X5,ao5,ao6,q,Yp⟩:=eN (H:=H4) qv (z:=4) (c:=[.int .i64 0,.int .i64 0,.int .i64 0,.slice none 0 0]) (vs:=[.int .i64 y.op,.int .i64 y.n,.int .i64 y.cp,vy']) rfl
   have q0:H5.ld ⟨H4.nx,0,none⟩=some (.int .i64 y.op):=Yp 0 _ rfl
   have q1:H5.ld ⟨H4.nx,1,none⟩=some (.int .i64 y.n):=Yp 1 _ rfl
   have q2:H5.ld ⟨H4.nx,2,none⟩=some (.int .i64 y.cp):=Yp 2 _ rfl
   have q3:H5.ld ⟨H4.nx,3,none⟩=some vy':=Yp 3 _ rfl
   clear Yp
   replace q:H5.ldn ⟨H4.nx,0,none⟩ 4=some [.int .i64 y.op,.int .i64 y.n,.int .i64 y.cp,vy']:=q
   have Yq:=X5.wf qv
   have kk1:=X5.get k1
   have l1:H5.ldn ⟨H.nx,0,none⟩ 3=some [.int .i64 w,vv,.int .i64 S.length]:=by rw [bW kk1 (by rw [X5.n0,oQ];exact hw) (by simp)];rfl
   have n5:=X5.nx
   have evl:((oR++eI w V S (args.take i)).length:Int)+aB y≤2^40:=by
    have u:=bj args i
    have u2:=jJ (w:=w) (V:=V) (S:=S) (l:=args.take i) (fun e _=>dV e)
    rw [asu];omega
   simp (maxSteps:=4000000)-implicitDefEqProofs+contextual [-X.ev,f1,f3,f4,SE,f19,f20,h,bJ,sH5,q,l1]
   apply ah
   ·(simp-implicitDefEqProofs [-X.ev];rfl)
   refine (ih y _ H5 _ R4 (by omega) Yq (Ng.RZ X5) (tN.ext hI4 X5) SA ag5 (aG y (asq hy)) evl).mono ?_
   rintro x H6 ⟨rfl,R6,hI6,M6,hR6⟩
   have ED:=M6.wf Yq
   have n6:=M6.nx
   have nR:∀j,j<3→¬ R4 (H.nx+j):=fun j hj q=>by have:=SC _ q;omega
   have j1:=M6.get (nR 0 (by omega)) kk1
   have j2:=M6.get (nR 1 (by omega)) (X5.get k2)
   have j3:=M6.get (nR 2 (by omega)) (X5.get k3)
   have MY:H6.n0=H.n0:=M6.n0.trans (X5.n0.trans oQ)
   obtain ⟨H7,s7,M7,nx7,EL,g7⟩:=cg j3 (by rw [MY];omega) (k:=i) (vs:=[.int .i64 (GH w V S y)]) (by simp [IB];omega)
   rw [IC Sc hy]at g7
   have hi3:(i:Int)<3:=by omega
   simp (maxSteps:=4000000)-implicitDefEqProofs+contextual [-X.ev,f1,f3,f4,f9,SE,f19,f20,s7,hi3]
   rw [ai (n:=(i:Int)+1) ⟨by omega,by omega⟩]
   refine ⟨k- 1,by omega,((M4.trans (Mod.cj X5)).then M6 (fun b hb q=>?_)).then M7 (fun b hb q=>by omega),by omega,M7.get (by omega) j1,M7.get (by omega) j2,i+1,by omega,g7,R6,?_,fun b hb=>?_,f6,cA.symm,by simp⟩
   ·rcases Sz b q with h|h
    ·exact h
    ·omega
   ·rw [mH hy,←List.append_assoc]
    exact tN.mod hI6 M7 (fun b hb q=>by
     rcases hR6 b q with h|h
     ·have:=SC b h;omega
     ·omega)
   ·rcases hR6 b hb with h|h
    ·exact Sz b h
    ·right;omega
  have hti:args.take i=args:=ass (by omega)
  rw [hti]at k3 hI4
  have B0:H4.n0≤H.nx:=by rw [oQ];exact hw
  have u0:=aI k1 B0 (k:=0) (v:=.int .i64 w) rfl
  have u1:=aI k1 B0 (k:=1) (v:=vv) rfl
  have un:H4.ldn ⟨H.nx,0,none⟩ 3=some [.int .i64 w,vv,.int .i64 S.length]:=by rw [bW k1 B0 (by simp)];rfl
  have v0:=aI k2 (by omega) (k:=0) (v:=.int .i64 op) rfl
  have v1:=aI k2 (by omega) (k:=1) (v:=.int .i64 n) rfl
  have v2:=aI k2 (by omega) (k:=2) (v:=.int .i64 cp) rfl
  have v3:=aI k2 (by omega) (k:=3) (v:=va) rfl
  have x0:=aI k3 (by omega) (k:=0) (v:=.int .i64 (ei (bU w V S args) 0)) rfl
  have x1:=aI k3 (by omega) (k:=1) (v:=.int .i64 (ei (bU w V S args) 1)) rfl
  have x2:=aI k3 (by omega) (k:=2) (v:=.int .i64 (ei (bU w V S args) 2)) rfl
  rw [gq]at f18 v3
  have fin:∀{H':AH},(¬ (op=1∧args≠[]))→Ext H4 H'→∃R',I (oR++nw w V S (.mk op n cp args)) R' H'∧Mod R H H'∧∀b,R' b→R b∨H.nx≤b:=fun rv XX=>by
   refine ⟨R4,?_,M4.trans (Mod.cj XX),fun b hb=>(Sz b hb).imp id (fun q=>by omega)⟩
   rw [nw,if_neg rv,List.append_nil]
   exact tN.ext hI4 XX
  rcases hc with⟨rfl,rfl,h1,h2⟩|⟨rfl,h1,h2,h3,h4,fS⟩|⟨rfl,y0,rfl⟩|⟨rfl,y0,y1,y2,rfl⟩|⟨ho,y0,y1,rfl⟩
  ·have:=fin (H':=H4) (by omega) (Ext.refl _)
   have c8:¬ (i:Int)<0:=by omega
   simp (maxSteps:=4000000)-implicitDefEqProofs+contextual [-X.ev,f18,f19,f20,c8,f6,v0,v1,GH]
   exact this
  ·obtain ⟨s,Na⟩:∃s,S[cp.toNat]?=some s:=⟨_,asl (by omega)⟩
   have ag7:=hS s (asq Na)
   have XU:storeAt S cp=s:=by simp [storeAt,Na]
   have mG:=ny hV ⟨h1,h2⟩ (ei (bU w V S args) 0)
   obtain ⟨x,hx,Gi,zL,AT⟩:=iY eB ag7 (i:=bk V n+ei (bU w V S args) 0%al V n) (by omega)
   have c8:bk V n+ei (bU w V S args) 0%al V n<(s.length:Int):=by
    have:=(asr.1 hx).1;omega
   have Vd:cp<S.length:=by omega
   rcases fS with⟨rfl,Vc⟩|⟨⟨y,rfl⟩,Vc⟩
   ·have FF:¬ (i:Int)<0:=by omega
    obtain ⟨b,o,c',a',FG,oH,eh,uT⟩:=(eT.sub Ng).at Na
    obtain ⟨b3,o3,c3,FD,rZ⟩:=uT.at hx
    cases FD
    have e0:ei (bU w V S []) 0=0:=rfl
    rw [e0]at mG c8 rZ AT
    simp only [Int.zero_emod,Int.add_zero]at mG c8 rZ AT
    have Yr:=bg.1 v2
    have HN:=bg.1 eh
    have ww:IntKind.i64.wrap (bk V n)=bk V n:=ai ⟨by omega,by omega⟩
    have tq:GH w V S (.mk 1 n cp [])=x:=by
     rw [GH,if_neg (by omega),if_pos rfl,XU,e0,Int.zero_emod,Int.add_zero,AT]
    rw [oH]at f1
    simp (maxSteps:=4000000)-implicitDefEqProofs+contextual [-X.ev,f1,f18,f19,f20,FF,f4,f6,v0,v1,v2,v3,un,eh,h3,Vd]
    apply ah
    ·(simp-implicitDefEqProofs [-X.ev];rfl)
    refine (vu qv (dz.sub Ng hv) iV (by omega) ⟨h1,h2⟩).mono ?_
    rintro x' H5 ⟨rfl,X5⟩
    have g1:0≤bk V n:=by omega
    have ag8:=fin (H':=H5) (by simp) X5
    have ag9:=X5.ld rZ
    have aha:=X5.ldn Yr
    have HN5:=X5.ldn HN
    have PJ:=X5.nx
    have KT:=X5.n0
    simp (maxSteps:=4000000)-implicitDefEqProofs+contextual [-X.ev,ww,bm,aJ,aK,Yr,HN,aha,HN5,g1,c8,ag9,tq,PJ,KT]
    exact ag8
   ·have FF:¬ (i:Int)<1:=by simp at h;omega
    obtain ⟨yv,AX⟩:∃yv,V[n.toNat]?=some yv:=⟨_,asl (by omega)⟩
    have AU:al V n=yv.cells:=by simp [al,AX]
    obtain ⟨b,o,c',lC,_,_,_,AZ⟩:=(dz.sub Ng hv).at AX
    have KQ:=wd y (by simp)
    have e0:ei (bU w V S [y]) 0=GH w V S y:=rfl
    rw [e0]at mG c8 hx AT x0
    rw [AU]at mG c8 hx AT Vc
    have rn:=iB (b:=yv.cells) KQ.1
    rw [if_neg (by omega)]at rn
    have u1':=u1
    rw [lC]at u1'
    have bd:((oR++eI w V S [y]).length:Int)<2^40:=by
     have u2:=jJ (w:=w) (V:=V) (S:=S) (l:=[y]) (fun e _=>dV e)
     rw [asu];omega
    simp (maxSteps:=4000000)-implicitDefEqProofs+contextual [-X.ev,f18,f19,f20,FF,f3,f4,f6,f9,v0,v1,v3,x0,u1',h1,h2,AZ,rn,bm,aJ,aK]
    apply kX
    ·(simp-implicitDefEqProofs [-X.ev,-Value.func.injEq,f3];rfl)
    ·(simp-implicitDefEqProofs [-X.ev,f3];rfl)
    refine (tN.call (n:=n) (i:=GH w V S y%yv.cells) qv hI4 Ng SA (by omega)).mono ?_
    rintro x' H5 ⟨R5,hI5,M5,hR5⟩
    have rI:=M5.wf qv
    have SG5:Sub G H5:=Ng.mod M5 SA
    have nR:∀j,j<3→¬ R4 (H.nx+j):=fun j hj q=>by have:=SC _ q;omega
    have vv1:=M5.ld (nR 1 (by omega)) v1
    have vv2:=M5.ld (nR 1 (by omega)) v2
    have vv0:=M5.ld (nR 1 (by omega)) v0
    have unn:=M5.ldn (nR 0 (by omega)) un
    obtain ⟨b5,o5,c5,a',FG,oH,eh,uT⟩:=(eT.sub SG5).at Na
    obtain ⟨b3,o3,c3,FD,rZ⟩:=uT.at hx
    cases FD
    have Yr:=bg.1 vv2
    have HN:=bg.1 eh
    have ww:IntKind.i64.wrap (bk V n+GH w V S y%yv.cells)=bk V n+GH w V S y%yv.cells:=ai ⟨by omega,by omega⟩
    have tq:GH w V S (.mk 1 n cp [y])=x:=by
     rw [GH,if_neg (by omega),if_pos rfl,XU,e0,AU,AT]
    have ahb:nw w V S (.mk 1 n cp [y])=eI w V S [y]++[⟨1,n,GH w V S y%yv.cells⟩]:=by rw [nw,if_pos ⟨rfl,by simp⟩,e0,AU]
    rw [oH]at f1
    simp (maxSteps:=4000000)-implicitDefEqProofs+contextual [-X.ev,f1,f4,f6,vv0,vv1,vv2,unn,eh,h3,Vd]
    apply ah
    ·(simp-implicitDefEqProofs [-X.ev];rfl)
    refine (vu rI (dz.sub SG5 hv) iV (by omega) ⟨h1,h2⟩).mono ?_
    rintro x' H6 ⟨rfl,X6⟩
    have g1:0≤bk V n+GH w V S y%yv.cells:=by omega
    have ahc:=X6.ld rZ
    have ahd:=X6.ldn Yr
    have HN6:=X6.ldn HN
    have x6x:=X6.nx
    have Ys:=X6.n0
    have Pt:=M5.nx
    simp (maxSteps:=4000000)-implicitDefEqProofs+contextual [-X.ev,ww,bm,aJ,aK,Yr,HN,ahd,HN6,g1,c8,ahc,tq,x6x,Ys]
    rw [ahb,←List.append_assoc]
    refine ⟨R5,tN.ext hI5 X6,(M4.then M5 (fun b hb q=>?_)).trans (Mod.cj X6),fun b hb=>?_⟩
    ·rcases Sz b q with h|h
     ·exact h
     ·omega
    ·rcases hR5 b hb with h|h
     ·exact (Sz b h).imp id (fun q=>by omega)
     ·right;omega
  ·have KQ:=wd y0 (by simp)
   have e0:ei (bU w V S [y0]) 0=GH w V S y0:=rfl
   rw [e0]at x0
   have c8:¬ (i:Int)<1:=by simp at h;omega
   simp (maxSteps:=4000000)-implicitDefEqProofs+contextual [-X.ev,f18,f19,f20,c8,f6,f4,f9,v0,u0,x0]
   apply ah
   ·(simp-implicitDefEqProofs [-X.ev];rfl)
   refine (MU qv eB KQ).mono ?_
   rintro x H5 ⟨rfl,X5⟩
   have:=fin (H':=H5) (by omega) X5
   simp (maxSteps:=4000000)-implicitDefEqProofs+contextual [-X.ev]
   refine ⟨?_,this⟩
   rw [GH,if_neg (by omega),if_neg (by omega),if_pos rfl];rfl
  ·have:=fin (H':=H4) (by omega) (Ext.refl _)
   have c8:¬ (i:Int)<3:=by simp at h;omega
   by_cases q:ei (bU w V S [y0,y1,y2]) 0=0
   ·simp (maxSteps:=4000000)-implicitDefEqProofs+contextual [-X.ev,f18,f19,f20,c8,f6,f9,v0,x0,x2,q]
    refine ⟨?_,this⟩
    rw [GH,if_neg (by omega),if_neg (by omega),if_neg (by omega),if_pos rfl,if_pos q]
   ·simp (maxSteps:=4000000)-implicitDefEqProofs+contextual [-X.ev,f18,f19,f20,c8,f6,f9,v0,x0,x1,q]
    refine ⟨?_,this⟩
    rw [GH,if_neg (by omega),if_neg (by omega),if_neg (by omega),if_pos rfl,if_neg q]
  ·have m0:¬ op=0:=by omega
   have m1:¬ op=1:=by omega
   have m12:¬ op=12:=by omega
   have m15:¬ op=15:=by omega
   have e0:ei (bU w V S [y0,y1]) 0=GH w V S y0:=rfl
   have e1:ei (bU w V S [y0,y1]) 1=GH w V S y1:=rfl
   rw [e0]at x0
   rw [e1]at x1
   have c8:¬ (i:Int)<2:=by simp at h;omega
   simp (maxSteps:=4000000)-implicitDefEqProofs+contextual [-X.ev,f18,f19,f20,c8,f6,f4,f9,v0,u0,x0,x1,m0,m1,m12,m15]
   apply ah
   ·(simp-implicitDefEqProofs [-X.ev];rfl)
   refine (Se qv ho eB (wd y0 (by simp)) (wd y1 (by simp))).mono ?_
   rintro x H5 ⟨rfl,X5⟩
   have:=fin (H':=H5) (by omega) X5
   simp (maxSteps:=4000000)-implicitDefEqProofs+contextual [-X.ev]
   refine ⟨?_,this⟩
   rw [GH,if_neg m0,if_neg m1,if_neg m12,if_neg m15,e0,e1]
end Go.Proofs.YtppcmpmnglaleaaGreatDoor.A
namespace Go.Proofs.YtppcmpmnglaleaaGreatDoor.A
open Go
structure MV where
 vf:Value
 w:Int
 vv:Value
 vb:Value
 fuel:Int
 vp:Value
 en:Int
 vs:Value
 vo:Value
 vt:Value
 cost:Int
 used:Int
 wh:Int
 ended:Bool
abbrev MV.rest (v:MV):List Value:=[.int .i64 v.w,v.vv,v.vb,.int .i64 v.fuel,v.vp,.int .i64 v.en,v.vs,v.vo,v.vt,.int .i64 v.cost,.int .i64 v.used,.int .i64 v.wh,.bool v.ended]
abbrev MV.cells (v:MV):List Value:=v.vf::v.rest
def A0 (o:Int×Int):List Value:=[.int .i64 o.1,.int .i64 o.2]
def dD (l:List (Int×Int)):List (List Value):=l.map A0
theorem tO (l m:List (Int×Int)):dD (l++m)=dD l++dD m:=by simp [dD]
theorem jX (l:List (Int×Int)):(dD l).length=l.length:=by simp [dD]
def Mf (m:Nat) (v:MV) (b:Nat):Prop:=b=m∨aX v.vf b∨aX v.vs b∨aX v.vo b∨aX v.vt b
structure MH (G H:AH) (m:Nat) (v:MV) (rows:List (List Value)) (store:List Int) (outs:List (Int×Int)) (trace:List Ev):Prop where
 get:H.get m=some (.cells 14 v.cells)
 n0:H.n0≤m
 sub:Sub G H
 wf:H.n0≤H.nx
 fr:gg H 2 v.vf rows
 st:dN H 1 v.vs (a7 store)
 ou:dN H 2 v.vo (dD outs)
 tr:dN H 3 v.vt (c9 trace)
 d1:¬ aX v.vf m∧¬ aX v.vs m∧¬ aX v.vo m∧¬ aX v.vt m
 d2:∀b,aX v.vf b→¬ aX v.vs b∧¬ aX v.vo b∧¬ aX v.vt b
 d3:∀b,aX v.vs b→¬ aX v.vo b∧¬ aX v.vt b
 d4:∀b,aX v.vo b→¬ aX v.vt b
 out:∀b,Mf m v b→G.get b=none
theorem MH.lt {G H:AH} {m:Nat} {v:MV} {rows:List (List Value)} {store:List Int} {outs:List (Int×Int)} {trace:List Ev} (h:MH G H m v rows store outs trace) {b:Nat} (hb:Mf m v b):b<H.nx:=by
 rcases hb with rfl|hb|hb|hb|hb
 ·exact AH.a8 h.get
 ·exact h.fr.lt hb
 ·exact h.st.lt hb
 ·exact h.ou.lt hb
 ·exact h.tr.lt hb
theorem MH.mod {G H H':AH} {m:Nat} {v:MV} {rows:List (List Value)} {store:List Int} {outs:List (Int×Int)} {trace:List Ev} {T:Nat→Prop} (h:MH G H m v rows store outs trace) (M:Mod T H H') (hT:∀b,T b→¬ Mf m v b) (hG:∀b,T b→G.get b=none):MH G H' m v rows store outs trace where
 get:=M.get (fun q=>hT m q (.inl rfl)) h.get
 n0:=by rw [M.n0];exact h.n0
 sub:=h.sub.mod M hG
 wf:=M.wf h.wf
 fr:=h.fr.mod M fun b hb q=>hT b q (.inr (.inl hb))
 st:=h.st.mod M fun b hb q=>hT b q (.inr (.inr (.inl hb)))
 ou:=h.ou.mod M fun b hb q=>hT b q (.inr (.inr (.inr (.inl hb))))
 tr:=h.tr.mod M fun b hb q=>hT b q (.inr (.inr (.inr (.inr hb))))
 d1:=h.d1
 d2:=h.d2
 d3:=h.d3
 d4:=h.d4
 out:=h.out
theorem MH.ext {G H H':AH} {m:Nat} {v:MV} {rows:List (List Value)} {store:List Int} {outs:List (Int×Int)} {trace:List Ev} (h:MH G H m v rows store outs trace) (X:Ext H H'):MH G H' m v rows store outs trace:=h.mod (Mod.cj (S:=fun _=>False) X) (by simp) (by simp)
theorem MH.wQ {G H H':AH} {m:Nat} {v:MV} {rows:List (List Value)} {store:List Int} {outs:List (Int×Int)} {trace tP:List Ev} {vt:Value} {cost:Int} (h:MH G H m v rows store outs trace) (M:Mod (fun b=>b=m∨aX v.vt b) H H') (g:H'.get m=some (.cells 14 ({v with vt:=vt,cost:=cost}:MV).cells)) (o:dN H' 3 vt (c9 tP)) (hf:∀b,aX vt b→aX v.vt b∨H.nx≤b):MH G H' m {v with vt:=vt,cost:=cost} rows store outs tP where
 get:=g
 n0:=by rw [M.n0];exact h.n0
 sub:=h.sub.mod M fun b hb=>h.out b (by rcases hb with q|q;exact .inl q;exact .inr (.inr (.inr (.inr q))))
 wf:=M.wf h.wf
 fr:=h.fr.mod M fun b hb q=>by rcases q with rfl|q;exact h.d1.1 hb;exact (h.d2 b hb).2.2 q
 st:=h.st.mod M fun b hb q=>by rcases q with rfl|q;exact h.d1.2.1 hb;exact (h.d3 b hb).2 q
 ou:=h.ou.mod M fun b hb q=>by rcases q with rfl|q;exact h.d1.2.2.1 hb;exact h.d4 b hb q
 tr:=o
 d1:=⟨h.d1.1,h.d1.2.1,h.d1.2.2.1,fun q=>by rcases hf m q with q|q;exact h.d1.2.2.2 q;have:=h.lt (.inl rfl);omega⟩
 d2:=fun b hb=>⟨(h.d2 b hb).1,(h.d2 b hb).2.1,fun q=>by rcases hf b q with q|q;exact (h.d2 b hb).2.2 q;have:=h.lt (.inr (.inl hb));omega⟩
 d3:=fun b hb=>⟨(h.d3 b hb).1,fun q=>by rcases hf b q with q|q;exact (h.d3 b hb).2 q;have:=h.lt (.inr (.inr (.inl hb)));omega⟩
 d4:=fun b hb q=>by rcases hf b q with q|q;exact h.d4 b hb q;have:=h.lt (.inr (.inr (.inr (.inl hb))));omega
 out:=fun b hb=>by
  rcases hb with q|q|q|q|q
  ·exact h.out b (.inl q)
  ·exact h.out b (.inr (.inl q))
  ·exact h.out b (.inr (.inr (.inl q)))
  ·exact h.out b (.inr (.inr (.inr (.inl q))))
  ·rcases hf b q with q|q
   ·exact h.out b (.inr (.inr (.inr (.inr q))))
   ·exact AH.sI (Nat.le_trans h.sub.nx q)
theorem tell {H:AH} {m:Nat} {v:MV} {trace:List Ev} (e:Ev) (hw:H.n0≤H.nx) (g:H.get m=some (.cells 14 v.cells)) (h0:H.n0≤m) (o:dN H 3 v.vt (c9 trace)) (hd:¬ aX v.vt m) (hb:trace.length≤2^41):
 ∃H1 a c H2 H3,nL 1 3 [.int .i64 0,.int .i64 0,.int .i64 0] H [(0,3,.agg #[.int .i64 e.kind,.int .i64 e.at_,.int .i64 e.val])]=some (.slice (some ⟨H.nx,0,none⟩) 1 1,H1)∧bI 3 24 H1 v.vt (.slice (some ⟨H.nx,0,none⟩) 1 1)=some (.slice a (trace.length+1) c,H2)∧H2.st ⟨m,9,none⟩ [.slice a (trace.length+1) c]=some H3∧
  H3.get m=some (.cells 14 ({v with vt:=.slice a (trace.length+1) c}:MV).cells)∧dN H3 3 (.slice a (trace.length+1) c) (c9 (trace++[e]))∧Mod (fun b=>b=m∨aX v.vt b) H H3∧(∀b,aX (.slice a (trace.length+1) c) b→H.nx≤b)∧H1.n0=H.n0∧H.nx≤H1.nx∧Ext H H1∧H2.n0=H.n0∧H1.nx≤H2.nx∧H3.n0=H.n0∧H3.nx=H2.nx∧Mod (aX v.vt) H H2:=by
 have lY:=rY (sz:=3) (z:=[.int .i64 0,.int .i64 0,.int .i64 0]) (H:=H) (v:=.agg #[.int .i64 e.kind,.int .i64 e.at_,.int .i64 e.val]) rfl rfl rfl
 simp only [fZ]at lY
 have X:=Ext.alloc H (.cells 3 [.int .i64 e.kind,.int .i64 e.at_,.int .i64 e.val])
 obtain ⟨H1,cJ⟩:∃H1,H.alloc (.cells 3 [.int .i64 e.kind,.int .i64 e.at_,.int .i64 e.val])=H1:=⟨_,rfl⟩
 obtain ⟨s',H2,ha,o2,M2,k2,qt,xF,wf2,CG,It,MZ⟩:=gT (bytes:=24) hw o (r:=[.int .i64 e.kind,.int .i64 e.at_,.int .i64 e.val]) rfl cJ (by rw [cO];omega) (by rw [cO];omega)
 rw [cJ]at lY X
 obtain ⟨a,c,hs⟩:=o2.shape
 rw [asu,List.length_singleton,cO]at hs
 subst hs
 have g2:=M2.get hd g
 obtain ⟨H3,s3,M3,sr,nk,g3⟩:=cg g2 (by rw [qt];exact h0) (k:=9) (vs:=[.slice a (trace.length+1) c]) (by simp)
 refine ⟨H1,a,c,H2,H3,lY,ha,s3,g3,?_,(M2.mono fun x _ hx=>.inr hx).trans (M3.mono fun x _ hx=>.inl hx),k2,CG,It,X,qt,MZ,nk.trans qt,sr,M2⟩
 rw [kL]
 exact o2.mod M3 fun b hb q=>by have:=k2 b hb;have:=AH.a8 g;omega
def Yt (m:Nat) (v:MV) (tr0:List Ev) (oR:List Ev) (R:Nat→Prop) (H:AH):Prop:=∃vt,R=(fun b=>b=m∨aX vt b)∧H.get m=some (.cells 14 ({v with vt:=vt}:MV).cells)∧H.n0≤m∧dN H 3 vt (c9 (tr0++oR))∧¬ aX vt m
theorem SF {G:AH} {m B:Nat} {v:MV} {tr0:List Ev} (hB:G.ld ⟨B,0,none⟩=some (.pointer (some ⟨m,0,none⟩))) (hlen:tr0.length≤2^40):Yk G 158 #[] #[.pointer (some ⟨B,0,none⟩)] (Yt m v tr0)where
 call:=by
  rintro oR R H n i hw ⟨vt,rfl,g,h0,o,hd⟩ X PI hl
  refine Ca.aS (F:=LQ) rfl rfl rfl ?_
  have lB:=X.ld hB
  obtain ⟨H1,a,c,H2,H3,hb,ha,hs,g3,o3,M3,k3,CG,It,X1,qt,xF,nk,sr,M2⟩:=tell (v:={v with vt:=vt}) ⟨1,n,i⟩ hw g h0 o hd (by rw [asu];omega)
  simp only [asu]at ha hs g3 o3 k3
  have ahe:=(X.mod M2 (fun b hb=>PI b (.inr hb))).ldn (bg.1 hB)
  have aph:H1.nx≤H2.nx:=xF
  have l9:=aI g h0 (k:=9) (v:=vt) rfl
  have uU:fg [.int .i64 0,.int .i64 0,.int .i64 0] [(0,1,.int .i64 1),(1,1,.int .i64 n),(2,1,.int .i64 i)]=some (.agg #[.int .i64 1,.int .i64 n,.int .i64 i]):=rfl
  have lBn:=bg.1 lB
  have ahf:=X1.ldn lBn
  simp (maxSteps:=4000000)-implicitDefEqProofs+contextual [-X.ev,LQ,lB,l9,uU,hb,ha,hs,lBn,ahf,ahe,CG,It,qt,xF,nk,sr,bm,aJ,aK]
  exact ⟨_,⟨_,rfl,g3,by rw [nk];exact h0,by simpa [List.append_assoc]using o3,fun q=>by have:=k3 m q;have:=AH.a8 g;omega⟩,M3,fun b hb=>hb.imp (fun q=>.inl q) (fun q=>k3 b q)⟩
 mod:=by
  rintro oR R T H H' ⟨vt,rfl,g,h0,o,hd⟩ M hT
  exact ⟨vt,rfl,M.get (fun q=>hT m q (.inl rfl)) g,by rw [M.n0];exact h0,o.mod M (fun b hb q=>hT b q (.inr hb)),hd⟩
 lt:=by
  rintro oR R H ⟨vt,rfl,g,h0,o,hd⟩ b hb
  rcases hb with rfl|hb
  ·exact AH.a8 g
  ·exact o.lt hb
open Go
theorem IE {G:AH} {w:Int} {vv vS:Value} {V:List Vr} {S:List (List Int)} {f:Nat} {first cap:Array Value} {I:List Ev→(Nat→Prop)→AH→Prop} (hV:aC w V=true) (hS:EO w V S) (hv:dz G vv V) (iV:Iz vv) (eT:et G vS S) (tN:Yk G f first cap I)
 {e:b9} {c:List Value} {H:AH} {oR:List Ev} {R:Nat→Prop} (hw:H.n0≤H.nx) (X:Sub G H) (hI:I oR R H) (PI:∀b,R b→G.get b=none) (he:nX G c e) (hf:dA w V S.length e=true) (hb:(oR.length:Int)+aB e≤2^40):
 Ca E O 157 [.int .i64 w,vv,vS,.agg c.toArray,.func (.func f) first cap] H (fun x H'=>x= .int .i64 (GH w V S e)∧∃R',I (oR++nw w V S e) R' H'∧Mod R H H'∧∀b,R' b→R b∨H.nx≤b):=by
 refine Ca.aS (F:=a157) rfl rfl rfl ?_
 obtain ⟨a,c',hvS⟩:=eT.len
 have hc:c.length=4:=by cases he;rfl
 have Ym:=tN.lt hI
 have X1:=Ext.alloc H (.cells c.length c)
 have d:(H.alloc (.cells c.length c)).ldn ⟨H.nx,0,none⟩ 4=some c:=bl hw 4 (by assumption)
 generalize cJ:H.alloc (.cells c.length c)=H1 at X1 d
 have bP:=X1.wf hw
 have uU:fg [.int .i64 0,.slice none 0 0,.int .i64 0] [(0,1,.int .i64 w),(1,1,vv),(2,1,.int .i64 S.length)]=some (.agg #[.int .i64 w,vv,.int .i64 S.length]):=by
  obtain ⟨a1,n1,c1,rfl,_⟩:=iV
  rfl
 have hh:=ID hV hS hv iV eT tN _ e c H1 oR R (asA _) bP (X.RZ X1) (tN.ext hI X1) PI he hf hb
 rw [hvS]at hh⊢
 simp (maxSteps:=4000000)-implicitDefEqProofs+contextual [-X.ev,a157,cJ,uU,d]
 apply ah
 ·(simp-implicitDefEqProofs [-X.ev];rfl)
 refine (hh).mono ?_
 rintro x H2 ⟨rfl,R2,hI2,M2,hR2⟩
 have x1:=X1.nx
 simp (maxSteps:=4000000)-implicitDefEqProofs+contextual [-X.ev]
 exact ⟨R2,hI2,(Mod.cj X1).then M2 (fun b _ q=>q),fun b hb=>(hR2 b hb).imp id (fun q=>by omega)⟩
theorem IF {G H:AH} {R:Nat→Prop} (X:Sub G H) (hR:∀b,R b→G.get b=none):Sub G (part H 0 R):=
 ⟨by rw [pQ,X.n0],by rw [wO];exact X.nx,fun b x k=>jW.2 ⟨X.get b x k,Nat.zero_le _,fun q=>by rw [hR b q]at k;cases k⟩⟩
theorem vw {H:AH} {n:Nat} {R:Nat→Prop} {b:Nat} (hb:R b):(part H n R).get b=none:=by
 cases h:(part H n R).get b with
 |none=>rfl
 |some x=>exact absurd hb (jW.1 h).2.2
theorem lb {G H:AH} {m:Nat} {v:MV} {rows:List (List Value)} {store:List Int} {outs:List (Int×Int)} {trace:List Ev} {V:List Vr} {e:b9} {c:List Value} (h:MH G H m v rows store outs trace) (hV:aC v.w V=true) (hS:aO v.w V store=true) (hv:dz G v.vv V) (iV:Iz v.vv) (he:nX G c e) (hf:dA v.w V 1 e=true) (hb:(trace.length:Int)+aB e≤2^40) (hc:0≤v.cost∧v.cost+aB e≤2^60):
 Ca E O 142 [.pointer (some ⟨m,0,none⟩),.agg c.toArray] H (fun x H'=>x= .int .i64 (GH v.w V [store] e)∧∃pq,MH G H' m {v with vt:=pq,cost:=v.cost+aB e} rows store outs (trace++nw v.w V [store] e)∧Mod (fun b=>b=m∨aX v.vt b) H H'∧∀b,aX pq b→aX v.vt b∨H.nx≤b):=by
 refine Ca.aS (F:=LN) rfl rfl rfl ?_
 have hc4:c.length=4:=by cases he;rfl
 have hw:=h.wf
 have gB:=cK H (.cells 1 [.pointer (some ⟨m,0,none⟩)])
 have X1:=Ext.alloc H (.cells 1 [.pointer (some ⟨m,0,none⟩)])
 have d0:(H.alloc (.cells 1 [.pointer (some ⟨m,0,none⟩)])).ld ⟨H.nx,0,none⟩=some (.pointer (some ⟨m,0,none⟩)):=ak hw rfl
 have d:(H.alloc (.cells 1 [.pointer (some ⟨m,0,none⟩)])).ldn ⟨H.nx,0,none⟩ 1=some [.pointer (some ⟨m,0,none⟩)]:=bl hw 1 rfl
 generalize cJ:H.alloc (.cells 1 [.pointer (some ⟨m,0,none⟩)])=H1 at X1 d0 d
 have bP:=X1.wf hw
 rw [cJ]at gB
 have X2:=Ext.alloc H1 (.cells c.length c)
 have q:(H1.alloc (.cells c.length c)).ldn ⟨H1.nx,0,none⟩ 4=some c:=bl bP 4 (by assumption)
 generalize kl:H1.alloc (.cells c.length c)=H2 at X2 q
 have jU:=X2.wf bP
 have fU:=X1.trans X2
 have h2:=h.ext fU
 have x1:=X1.nx
 have x2:=X2.nx
 have pn:=ec e
 have ltm:=h.lt (.inl rfl)
 have U7:=X2.ld d0
 have l10:=aI h2.get h2.n0 (k:=10) (v:=.int .i64 v.cost) rfl
 have dn:=bg.1 U7
 have ln:=bg.1 l10
 simp (maxSteps:=4000000)-implicitDefEqProofs+contextual [-X.ev,LN,cJ,kl,U7,l10,q]
 apply ah
 ·(simp-implicitDefEqProofs [-X.ev];rfl)
 refine (vn _ _ c H2 (asA _) jU (he.sub h2.sub) (by omega)).mono ?_
 rintro x H3 ⟨rfl,X3⟩
 have h3:=h2.ext X3
 have x3:=X3.nx
 have x30:=X3.n0
 have dn3:=X3.ldn dn
 have ln3:=X3.ldn ln
 have ww:IntKind.i64.wrap (v.cost+aB e)=v.cost+aB e:=ai ⟨by omega,by omega⟩
 obtain ⟨H4,s4,M4,zP,oQ,g4⟩:=cg h3.get h3.n0 (k:=10) (vs:=[.int .i64 (v.cost+aB e)]) (by simp)
 have h4:MH G H4 m {v with vt:=v.vt,cost:=v.cost+aB e} rows store outs trace:=h3.wQ (M4.mono fun x _ hx=>.inl hx) g4 (h3.tr.mod M4 fun b hb q=>h.d1.2.2.2 (q▸hb)) (fun b hb=>.inl hb)
 have qv:=h4.wf
 have Yu:H4.n0=H.n0:=oQ.trans (x30.trans fU.n0)
 have Ve:=M4.get (fun q=>by omega) (X3.get (X2.get gB))
 have lB4:H4.ld ⟨H.nx,0,none⟩=some (.pointer (some ⟨m,0,none⟩)):=aI Ve (by rw [Yu];exact hw) rfl
 have q4:H4.ldn ⟨H1.nx,0,none⟩ 4=some c:=M4.ldn (fun q=>by simp at q;omega) (X3.ldn q)
 have r1:=aI h4.get h4.n0 (k:=1) (v:=.int .i64 v.w) rfl
 have r2:=aI h4.get h4.n0 (k:=2) (v:=v.vv) rfl
 have r7:=aI h4.get h4.n0 (k:=7) (v:=v.vs) rfl
 obtain ⟨sa,sc,oH⟩:=h.st.shape
 have kN:=rY (sz:=1) (z:=[.slice none 0 0]) (H:=H4) (v:=v.vs) (by rw [oH];rfl) (by rw [oH];rfl) rfl
 have VZ:aZ v.vs=[v.vs]:=by rw [oH];rfl
 rw [VZ]at kN
 have X5:=Ext.alloc H4 (.cells 1 [v.vs])
 have g5:=cK H4 (.cells 1 [v.vs])
 obtain ⟨H5,Sl⟩:∃H5,H4.alloc (.cells 1 [v.vs])=H5:=⟨_,rfl⟩
 rw [Sl]at kN X5 g5
 have h5:=h4.ext X5
 have x5:=X5.nx
 have rI:=h5.wf
 have yG:=X5.n0
 obtain ⟨R0,Yv⟩:∃R0:Nat→Prop,R0=(fun b=>b=m∨aX v.vt b):=⟨_,rfl⟩
 have PI:∀b,R0 b→G.get b=none:=fun b hb=>h.out b (by subst Yv;rcases hb with q|q;exact .inl q;exact .inr (.inr (.inr (.inr q))))
 have Yw:∀b,R0 b→b<H.nx:=fun b hb=>h.lt (by subst Yv;rcases hb with q|q;exact .inl q;exact .inr (.inr (.inr (.inr q))))
 have SG:=IF h5.sub PI
 have lBG:(part H5 0 R0).ld ⟨H.nx,0,none⟩=some (.pointer (some ⟨m,0,none⟩)):=aI (jW.2 ⟨X5.get Ve,Nat.zero_le _,fun q=>by have:=Yw _ q;omega⟩) (by rw [pQ,yG,Yu];exact hw) rfl
 have oS:dN H5 1 (.slice (some ⟨H4.nx,0,none⟩) 1 1) [[v.vs]]:=⟨.inr ⟨H4.nx,rfl,by rw [yG];exact qv,g5⟩,by simp⟩
 have sC:et (part H5 0 R0) (.slice (some ⟨H4.nx,0,none⟩) 1 1) [store]:=⟨[[v.vs]],(oS.part fun b hb=>⟨Nat.zero_le _,fun q=>by rw [bG]at hb;have:=Yw _ q;omega⟩).rows,.cons ⟨v.vs,rfl,(h5.st.part fun b hb=>⟨Nat.zero_le _,fun q=>by
  subst Yv
  rcases q with rfl|q
  ·exact h.d1.2.1 hb
  ·exact (h.d3 b hb).2 q⟩).ints⟩ .nil⟩
 have hI:Yt m {v with vt:=v.vt,cost:=v.cost+aB e} trace [] R0 H5:=⟨v.vt,Yv,h5.get,h5.n0,by simpa using h5.tr,h.d1.2.2.2⟩
 have zU:EO v.w V [store]:=fun t ht=>by simp at ht;subst ht;exact hS
 have key:=IE hV zU (dz.sub SG hv) iV sC (SF lBG (by omega)) rI (CJ _ _ _) hI (fun b hb=>vw hb) (he.sub SG) hf (by simp;omega)
 have w1:=ai (n:=v.cost+aB e) ⟨by omega,by omega⟩
 rw [oH]at r7 kN
 simp (maxSteps:=4000000)-implicitDefEqProofs+contextual [-X.ev,ww,s4,x3,x30,zP,oQ,dn,dn3,ln,ln3,bm,aJ,aK,lB4,r1,r2,r7,kN,X5.ldn q4]
 rw [zP]at key
 apply ah
 ·(simp-implicitDefEqProofs [-X.ev];rfl)
 refine (key).mono ?_
 rintro x H6 ⟨rfl,R6,⟨pq,ahg,g6,h06,o6,hd6⟩,M6,hR6⟩
 have x6:=M6.nx
 have Ys:=M6.n0
 simp (maxSteps:=4000000)-implicitDefEqProofs+contextual [-X.ev,bm,aJ,aK,x5,yG,x6,Ys]
 subst Yv
 have fresh:∀b,aX pq b→aX v.vt b∨H5.nx≤b:=fun b hb=>by
  rcases hR6 b (by rw [ahg];exact .inr hb)with(q|q)|q
  ·subst q;exact absurd hb hd6
  ·exact .inl q
  ·exact .inr q
 refine ⟨pq,h5.wQ M6 g6 (by simpa using o6) fresh,?_,fun b hb=>(fresh b hb).imp id (fun q=>by omega)⟩
 exact (((Mod.cj (fU.trans X3)).trans (M4.mono fun x _ hx=>.inl hx)).trans (Mod.cj X5)).trans M6
end Go.Proofs.YtppcmpmnglaleaaGreatDoor.A
namespace Go.Proofs.YtppcmpmnglaleaaGreatDoor.A
open Go
section
variable{G H H':AH} {m:Nat} {v:MV} {rows dJ:List (List Value)} {store:List Int} {outs tQ:List (Int×Int)} {trace tP:List Ev}
theorem MH.ahh {vf:Value} (h:MH G H m v rows store outs trace) (M:Mod (fun b=>b=m∨aX v.vf b) H H') (g:H'.get m=some (.cells 14 ({v with vf:=vf}:MV).cells)) (o:gg H' 2 vf dJ) (hf:∀b,aX vf b→aX v.vf b∨H.nx≤b):MH G H' m {v with vf:=vf} dJ store outs trace where
 get:=g
 n0:=by rw [M.n0];exact h.n0
 sub:=h.sub.mod M fun b hb=>h.out b (by rcases hb with q|q;exact .inl q;exact .inr (.inl q))
 wf:=M.wf h.wf
 fr:=o
 st:=h.st.mod M fun b hb q=>by rcases q with rfl|q;exact h.d1.2.1 hb;exact (h.d2 b q).1 hb
 ou:=h.ou.mod M fun b hb q=>by rcases q with rfl|q;exact h.d1.2.2.1 hb;exact (h.d2 b q).2.1 hb
 tr:=h.tr.mod M fun b hb q=>by rcases q with rfl|q;exact h.d1.2.2.2 hb;exact (h.d2 b q).2.2 hb
 d1:=⟨fun q=>by rcases hf m q with q|q;exact h.d1.1 q;have:=h.lt (.inl rfl);omega,h.d1.2.1,h.d1.2.2.1,h.d1.2.2.2⟩
 d2:=fun b hb=>by
  rcases hf b hb with q|q
  ·exact h.d2 b q
  ·exact ⟨fun k=>by have:=h.lt (.inr (.inr (.inl k)));omega,fun k=>by have:=h.lt (.inr (.inr (.inr (.inl k))));omega,fun k=>by have:=h.lt (.inr (.inr (.inr (.inr k))));omega⟩
 d3:=h.d3
 d4:=h.d4
 out:=fun b hb=>by
  rcases hb with q|q|q
  ·exact h.out b (.inl q)
  ·rcases hf b q with q|q
   ·exact h.out b (.inr (.inl q))
   ·exact AH.sI (Nat.le_trans h.sub.nx q)
  ·exact h.out b (.inr (.inr q))
theorem MH.Yx {vo:Value} (h:MH G H m v rows store outs trace) (M:Mod (fun b=>b=m∨aX v.vo b) H H') (g:H'.get m=some (.cells 14 ({v with vo:=vo}:MV).cells)) (o:dN H' 2 vo (dD tQ)) (hf:∀b,aX vo b→aX v.vo b∨H.nx≤b):MH G H' m {v with vo:=vo} rows store tQ trace where
 get:=g
 n0:=by rw [M.n0];exact h.n0
 sub:=h.sub.mod M fun b hb=>h.out b (by rcases hb with q|q;exact .inl q;exact .inr (.inr (.inr (.inl q))))
 wf:=M.wf h.wf
 fr:=h.fr.mod M fun b hb q=>by rcases q with rfl|q;exact h.d1.1 hb;exact (h.d2 b hb).2.1 q
 st:=h.st.mod M fun b hb q=>by rcases q with rfl|q;exact h.d1.2.1 hb;exact (h.d3 b hb).1 q
 ou:=o
 tr:=h.tr.mod M fun b hb q=>by rcases q with rfl|q;exact h.d1.2.2.2 hb;exact h.d4 b q hb
 d1:=⟨h.d1.1,h.d1.2.1,fun q=>by rcases hf m q with q|q;exact h.d1.2.2.1 q;have:=h.lt (.inl rfl);omega,h.d1.2.2.2⟩
 d2:=fun b hb=>⟨(h.d2 b hb).1,fun q=>by rcases hf b q with q|q;exact (h.d2 b hb).2.1 q;have:=h.lt (.inr (.inl hb));omega,(h.d2 b hb).2.2⟩
 d3:=fun b hb=>⟨fun q=>by rcases hf b q with q|q;exact (h.d3 b hb).1 q;have:=h.lt (.inr (.inr (.inl hb)));omega,(h.d3 b hb).2⟩
 d4:=fun b hb q=>by rcases hf b hb with k|k;exact h.d4 b k q;have:=h.lt (.inr (.inr (.inr (.inr q))));omega
 out:=fun b hb=>by
  rcases hb with q|q|q|q|q
  ·exact h.out b (.inl q)
  ·exact h.out b (.inr (.inl q))
  ·exact h.out b (.inr (.inr (.inl q)))
  ·rcases hf b q with q|q
   ·exact h.out b (.inr (.inr (.inr (.inl q))))
   ·exact AH.sI (Nat.le_trans h.sub.nx q)
  ·exact h.out b (.inr (.inr (.inr (.inr q))))
theorem MH.SH {v':MV} (h:MH G H m v rows store outs trace) (M:Mod (fun b=>b=m) H H') (g:H'.get m=some (.cells 14 v'.cells)) (e1:v'.vf=v.vf) (e2:v'.vs=v.vs) (e3:v'.vo=v.vo) (e4:v'.vt=v.vt):MH G H' m v' rows store outs trace where
 get:=g
 n0:=by rw [M.n0];exact h.n0
 sub:=h.sub.mod M fun b hb=>h.out b (.inl hb)
 wf:=M.wf h.wf
 fr:=by rw [e1];exact h.fr.mod M fun b hb q=>h.d1.1 (q▸hb)
 st:=by rw [e2];exact h.st.mod M fun b hb q=>h.d1.2.1 (q▸hb)
 ou:=by rw [e3];exact h.ou.mod M fun b hb q=>h.d1.2.2.1 (q▸hb)
 tr:=by rw [e4];exact h.tr.mod M fun b hb q=>h.d1.2.2.2 (q▸hb)
 d1:=by rw [e1,e2,e3,e4];exact h.d1
 d2:=by rw [e1,e2,e3,e4];exact h.d2
 d3:=by rw [e2,e3,e4];exact h.d3
 d4:=by rw [e3,e4];exact h.d4
 out:=fun b hb=>h.out b (by unfold Mf at hb⊢;rw [e1,e2,e3,e4]at hb;exact hb)
theorem oT {x:Value}:∀{l:List Value} {k:Nat},k<l.length→aP l k [x]=l.set k x
 |y::l,0,_=>by simp [aP]
 |y::l,k+1,h=>by simp only [aP,List.set_cons_succ];rw [oT (by simpa using h)]
theorem gU (l:List Int):(a7 l).flatten=l.map (fun n=>.int .i64 n):=by
 induction l with
 |nil=>rfl
 |cons x l ih=>simp only [a7,List.map_cons,List.flatten_cons,List.singleton_append]at ih⊢;rw [ih]
theorem MH.ahi {k:Nat} (a:Int) (h:MH G H m v rows store outs trace) (hk:k<store.length):∃b H',v.vs= .slice (some ⟨b,0,none⟩) store.length store.length∧H.st ⟨b,k,none⟩ [.int .i64 a]=some H'∧MH G H' m v rows (store.set k a) outs trace∧Mod (Mf m v) H H'∧H'.nx=H.nx∧H'.n0=H.n0:=by
 rcases h.st.is with⟨_,e⟩|⟨b,e,h0,g⟩
 · have:=congrArg List.length e;simp [a7]at this;subst this;simp at hk
 rw [gU]at g
 have el:(a7 store).length=store.length:=by simp [a7]
 rw [el]at e
 have hb:aX v.vs b:=by rw [e];exact (bG _ _ _ _ _).2 rfl
 obtain ⟨H',st,M,nx,n0,g'⟩:=cg g h0 (k:=k) (vs:=[.int .i64 a]) (by simp;omega)
 rw [oT (by simpa using hk),←List.map_set,←gU]at g'
 refine ⟨b,H',e,st, ?_,M.mono fun x _ hx=> .inr (.inr (.inl (hx▸hb))),nx,n0⟩
 exact
  {get:=M.get (fun q=>h.d1.2.1 (by rw [q];exact hb)) h.get
   n0:=by rw [n0];exact h.n0
   sub:=h.sub.mod M fun x hx=>h.out x (.inr (.inr (.inl (hx▸hb))))
   wf:=M.wf h.wf
   fr:=h.fr.mod M fun x hx q=>(h.d2 x hx).1 (q▸hb)
   st:=⟨.inr ⟨b,by rw [e];simp [a7],by rw [n0];exact h0,g'⟩,fun r hr=>by obtain ⟨a',_,rfl⟩:=List.mem_map.1 hr;rfl⟩
   ou:=h.ou.mod M fun x hx q=>(h.d3 x (q▸hb)).1 hx
   tr:=h.tr.mod M fun x hx q=>(h.d3 x (q▸hb)).2 hx
   d1:=h.d1,d2:=h.d2,d3:=h.d3,d4:=h.d4,out:=h.out}
end
section
variable{G H:AH} {m:Nat} {v:MV} {rows:List (List Value)} {store:List Int} {outs:List (Int×Int)} {trace:List Ev} {V:List Vr}
theorem CL {op n:Int} {va vt ve:Value} (h:MH G H m v rows store outs trace) (hv:dz G v.vv V) (hn:0≤n∧n<V.length) (hc:¬ 1<al V n):
 Ca E O 141 [.pointer (some ⟨m,0,none⟩),.agg #[.int .i64 op,.int .i64 n,va,vt,ve]] H (fun x H'=>x= .int .i64 0∧Ext H H'):=by
 refine Ca.aS (F:=a141) rfl rfl rfl ?_
 have hw:=h.wf
 have X1:=Ext.alloc H (.cells 5 [.int .i64 op,.int .i64 n,va,vt,ve])
 have d0:(H.alloc (.cells 5 [.int .i64 op,.int .i64 n,va,vt,ve])).ld ⟨H.nx,0,none⟩=some (.int .i64 op):=ak hw rfl
 have d1:(H.alloc (.cells 5 [.int .i64 op,.int .i64 n,va,vt,ve])).ld ⟨H.nx,1,none⟩=some (.int .i64 n):=ak hw rfl
 have d2:(H.alloc (.cells 5 [.int .i64 op,.int .i64 n,va,vt,ve])).ld ⟨H.nx,2,none⟩=some va:=ak hw rfl
 have d3:(H.alloc (.cells 5 [.int .i64 op,.int .i64 n,va,vt,ve])).ld ⟨H.nx,3,none⟩=some vt:=ak hw rfl
 have d4:(H.alloc (.cells 5 [.int .i64 op,.int .i64 n,va,vt,ve])).ld ⟨H.nx,4,none⟩=some ve:=ak hw rfl
 have d:(H.alloc (.cells 5 [.int .i64 op,.int .i64 n,va,vt,ve])).ldn ⟨H.nx,0,none⟩ 5=some [.int .i64 op,.int .i64 n,va,vt,ve]:=bl hw 5 rfl
 generalize cJ:H.alloc (.cells 5 [.int .i64 op,.int .i64 n,va,vt,ve])=H1 at X1 d0 d1 d2 d3 d4 d
 have bP:=X1.wf hw
 have h1:=h.ext X1
 obtain ⟨yv,AX⟩:∃yv,V[n.toNat]?=some yv:=⟨_,asl (by omega)⟩
 have AU:al V n=yv.cells:=by simp [al,AX]
 obtain ⟨b,o,c',lC,_,_,_,AZ⟩:=(dz.sub h1.sub hv).at AX
 have r2:=aI h1.get h1.n0 (k:=2) (v:=v.vv) rfl
 rw [lC]at r2
 rw [AU]at hc
 simp (maxSteps:=4000000)-implicitDefEqProofs+contextual [-X.ev,a141,cJ,r2,d1,hn.1,hn.2,AZ,hc,bm,aJ,aK]
 exact X1
theorem CM {op n:Int} {va vt ve:Value} {ra:List (List Value)} {args:List b9} {y:b9} (h:MH G H m v rows store outs trace) (hV:aC v.w V=true) (hS:aO v.w V store=true) (hv:dz G v.vv V) (iV:Iz v.vv) (hn:0≤n∧n<V.length) (hc:1<al V n)
 (hr:Rows G 4 va ra) (hl:gG G ra args) (hy:args[0]?=some y) (hf:dA v.w V 1 y=true) (hb:(trace.length:Int)+aB y≤2^40) (O2:0≤v.cost∧v.cost+aB y≤2^60):
 Ca E O 141 [.pointer (some ⟨m,0,none⟩),.agg #[.int .i64 op,.int .i64 n,va,vt,ve]] H (fun x H'=>x= .int .i64 (GH v.w V [store] y)∧∃pq,MH G H' m {v with vt:=pq,cost:=v.cost+aB y} rows store outs (trace++nw v.w V [store] y)∧Mod (fun b=>b=m∨aX v.vt b) H H'∧∀b,aX pq b→aX v.vt b∨H.nx≤b):=by
 refine Ca.aS (F:=a141) rfl rfl rfl ?_
 have hw:=h.wf
 have X1:=Ext.alloc H (.cells 5 [.int .i64 op,.int .i64 n,va,vt,ve])
 have d0:(H.alloc (.cells 5 [.int .i64 op,.int .i64 n,va,vt,ve])).ld ⟨H.nx,0,none⟩=some (.int .i64 op):=ak hw rfl
 have d1:(H.alloc (.cells 5 [.int .i64 op,.int .i64 n,va,vt,ve])).ld ⟨H.nx,1,none⟩=some (.int .i64 n):=ak hw rfl
 have d2:(H.alloc (.cells 5 [.int .i64 op,.int .i64 n,va,vt,ve])).ld ⟨H.nx,2,none⟩=some va:=ak hw rfl
 have d3:(H.alloc (.cells 5 [.int .i64 op,.int .i64 n,va,vt,ve])).ld ⟨H.nx,3,none⟩=some vt:=ak hw rfl
 have d4:(H.alloc (.cells 5 [.int .i64 op,.int .i64 n,va,vt,ve])).ld ⟨H.nx,4,none⟩=some ve:=ak hw rfl
 have d:(H.alloc (.cells 5 [.int .i64 op,.int .i64 n,va,vt,ve])).ldn ⟨H.nx,0,none⟩ 5=some [.int .i64 op,.int .i64 n,va,vt,ve]:=bl hw 5 rfl
 generalize cJ:H.alloc (.cells 5 [.int .i64 op,.int .i64 n,va,vt,ve])=H1 at X1 d0 d1 d2 d3 d4 d
 have bP:=X1.wf hw
 have h1:=h.ext X1
 obtain ⟨yv,AX⟩:∃yv,V[n.toNat]?=some yv:=⟨_,asl (by omega)⟩
 have AU:al V n=yv.cells:=by simp [al,AX]
 obtain ⟨b,o,c',lC,_,_,_,AZ⟩:=(dz.sub h1.sub hv).at AX
 have r2:=aI h1.get h1.n0 (k:=2) (v:=v.vv) rfl
 rw [lC]at r2
 rw [AU]at hc
 obtain ⟨b4,o4,c4,vy,r,gq,bJ,yQ,kO⟩:=gG.row hr hl hy
 have jY:=h1.sub.ldn bJ
 simp only [Nat.zero_mul,Nat.add_zero]at jY
 have SJ:0<args.length:=by have:=(asr.1 hy).1;omega
 rw [←yQ]at jY
 have Ey:=d2
 rw [gq]at Ey
 have x1:=X1.nx
 simp (maxSteps:=4000000)-implicitDefEqProofs+contextual [-X.ev,a141,cJ,r2,d1,Ey,hn.1,hn.2,AZ,hc,SJ,jY,bm,aJ,aK]
 apply ah
 ·(simp-implicitDefEqProofs [-X.ev];rfl)
 refine (lb h1 hV hS hv iV kO hf hb O2).mono ?_
 rintro x H2 ⟨rfl,pq,h2,M2,k2⟩
 simp (maxSteps:=4000000)-implicitDefEqProofs+contextual [-X.ev]
 exact ⟨pq,h2,(Mod.cj X1).trans M2,fun b hb=>(k2 b hb).imp id (fun q=>by omega)⟩
end
end Go.Proofs.YtppcmpmnglaleaaGreatDoor.A
namespace Go.Proofs.YtppcmpmnglaleaaGreatDoor.A
open Go
section
variable{G H:AH} {m:Nat} {v:MV} {rows:List (List Value)} {store:List Int} {outs:List (Int×Int)} {trace:List Ev} {V:List Vr}
theorem MH.tell (e:Ev) (h:MH G H m v rows store outs trace) (hb:trace.length≤2^41):
 ∃H1 a c H2 H3,nL 1 3 [.int .i64 0,.int .i64 0,.int .i64 0] H [(0,3,.agg #[.int .i64 e.kind,.int .i64 e.at_,.int .i64 e.val])]=some (.slice (some ⟨H.nx,0,none⟩) 1 1,H1)∧bI 3 24 H1 v.vt (.slice (some ⟨H.nx,0,none⟩) 1 1)=some (.slice a (trace.length+1) c,H2)∧H2.st ⟨m,9,none⟩ [.slice a (trace.length+1) c]=some H3∧
  MH G H3 m {v with vt:=.slice a (trace.length+1) c} rows store outs (trace++[e])∧Mod (fun b=>b=m∨aX v.vt b) H H3∧(∀b,aX (.slice a (trace.length+1) c) b→H.nx≤b)∧H1.n0=H.n0∧H.nx≤H1.nx∧H2.n0=H.n0∧H1.nx≤H2.nx∧H3.n0=H.n0∧H3.nx=H2.nx:=by
 obtain ⟨H1,a,c,H2,H3,mi,ha,hs,g3,o3,M3,k3,CG,It,X1,qt,xF,nk,sr,M2⟩:=A.tell e h.wf h.get h.n0 h.tr h.d1.2.2.2 hb
 exact ⟨H1,a,c,H2,H3,mi,ha,hs,h.wQ M3 g3 o3 (fun b hb=>.inr (k3 b hb)),M3,k3,CG,It,qt,xF,nk,sr⟩
theorem nB {n i a:Int} (h:MH G H m v rows store outs trace) (hV:aC v.w V=true) (hS:aO v.w V store=true) (hv:dz G v.vv V) (iV:Iz v.vv) (hn:0≤n∧n<V.length) (hi:0≤i∧i≤2^40) (hb:trace.length≤2^41):
 Ca E O 144 [.pointer (some ⟨m,0,none⟩),.int .i64 n,.int .i64 i,.int .i64 a] H (fun x H'=>∃pq,MH G H' m {v with vt:=pq} rows (store.set (bk V n+i%al V n).toNat a) outs (trace++if 1<al V n then [⟨2,n,i%al V n⟩]else [])∧Mod (Mf m v) H H'∧∀b,aX pq b→aX v.vt b∨H.nx≤b):=by
 refine Ca.aS (F:=Ei) rfl rfl rfl ?_
 have hw:=h.wf
 obtain ⟨nn,rfl⟩:∃k:Nat,n=k:=⟨n.toNat,by omega⟩
 obtain ⟨yv,AX⟩:∃yv,V[nn]?=some yv:=⟨_,asl (by omega)⟩
 have AU:al V nn=yv.cells:=by simp [al,AX]
 obtain ⟨b,o,c',lC,_,_,_,AZ⟩:=(dz.sub h.sub hv).at AX
 have mG:=ny hV hn i
 have rn:=iB (b:=yv.cells) hi.1
 rw [if_neg (by omega)]at rn
 have hVl:=(aF hV).2.2.2
 have eB:1≤v.w∧v.w≤8:=⟨(aF hV).1,(aF hV).2.1⟩
 obtain ⟨x0,hx0,_⟩:=iY eB hS (i:=bk V nn+i%al V nn) (by omega)
 have c8:=(asr.1 hx0).1
 rw [AU]at mG c8⊢
 have r2:=aI h.get h.n0 (k:=2) (v:=v.vv) rfl
 rw [lC]at r2
 have hn2:nn<V.length:=by omega
 have PL:H.ld ⟨b,o+nn*3+2,none⟩=some (.int .i64 yv.cells):=by simpa using AZ
 have aps:Mf m v m:=.inl rfl
 have Yy:∀b,aX v.vt b→Mf m v b:=fun b hb=>.inr (.inr (.inr (.inr hb)))
 refine tw [.r,.r] (fun fr H1=>fr.get 0= .pointer (some ⟨m,0,none⟩)∧fr.get 1= .int .i64 nn∧fr.get 2= .int .i64 i∧fr.get 3= .int .i64 a∧fr.get 8= .int .i64 yv.cells∧∃pq,MH G H1 m {v with vt:=pq} rows store outs (trace++if 1<yv.cells then [⟨2,nn,i%yv.cells⟩]else [])∧Mod (Mf m v) H H1∧∀b,aX pq b→aX v.vt b∨H.nx≤b) rfl ?_ ?_
 ·rintro fr H1 ⟨f0,f1,f2,f3,f8,pq,h1,M1,k1⟩
  obtain ⟨a',c1,c1',tm,yP⟩:=Sy (n:=nn) (dz.sub h1.sub hv) iV hn
  rw [Int.toNat_natCast]at yP
  have s2:=aI h1.get h1.n0 (k:=2) (v:=v.vv) rfl
  rw [lC]at tm yP s2
  cases tm
  have lI:=h1.wf
  simp (maxSteps:=4000000)-implicitDefEqProofs+contextual [-X.ev,Ei,f0,f1,f2,f3,f8,s2,yP]
  refine ch (fun k fr H'=>Ext H1 H'∧∃j:Nat,j+k=nn∧fr.get 0= .pointer (some ⟨m,0,none⟩)∧fr.get 2= .int .i64 i∧fr.get 3= .int .i64 a∧fr.get 8= .int .i64 yv.cells∧fr.get 45= .slice (some ⟨b,o,none⟩) nn c1'∧fr.get 46= .int .i64 nn∧fr.get 47= .int .i64 j∧fr.get 9= .int .i64 (bk V (j:Int))) ?_ nn ⟨Ext.refl _,0,by simp,by simp [f0],by simp [f2],by simp [f3],by simp [f8],by simp,by simp,by simp,by simp [bk,du]⟩
  clear f0 f1 f2 f3 f8 fr
  rintro k fr H2 ⟨X2,j,hj,f0,f2,f3,f8,f45,f46,f47,f9⟩
  have jr:=X2.wf lI
  have h2:=h1.ext X2
  by_cases q:j<nn
  ·obtain ⟨y,hy⟩:∃y,V[j]?=some y:=⟨_,asl (by omega)⟩
   obtain ⟨b',o',FG,cA,bJ,_,_,_⟩:=(dz.sub h2.sub hv).at hy
   rw [lC]at cA
   cases cA
   simp only [Vr.row]at bJ
   obtain ⟨H3,FP,X3,HU,HV,z,mm⟩:=eN (H:=H2) jr (z:=3) (c:=[.string ⟨#[]⟩,.int .i64 0,.int .i64 0]) (vs:=[.string y.name,.int .i64 y.level,.int .i64 y.cells]) rfl
   have z0:H3.ld ⟨H2.nx,0,none⟩=some (.string y.name):=mm 0 _ rfl
   have z1:H3.ld ⟨H2.nx,1,none⟩=some (.int .i64 y.level):=mm 1 _ rfl
   have z2:H3.ld ⟨H2.nx,2,none⟩=some (.int .i64 y.cells):=mm 2 _ rfl
   clear mm
   replace z:H3.ldn ⟨H2.nx,0,none⟩ 3=some [.string y.name,.int .i64 y.level,.int .i64 y.cells]:=z
   have yD:=X3.wf jr
   simp (maxSteps:=4000000)-implicitDefEqProofs+contextual [-X.ev,f45,f46,f47,f9,q,bJ,FP,z2]
   rw [ai (n:=(j:Int)+1) ⟨by omega,by omega⟩]
   exact ⟨k- 1,by omega,X2.trans X3,j+1,by omega,f0,f2,f3,f8,by simp,by rw [tM hy]⟩
  ·have py:j=nn:=by omega
   subst py
   have ww:IntKind.i64.wrap (bk V j+i%yv.cells)=bk V j+i%yv.cells:=ai ⟨by omega,by omega⟩
   obtain ⟨bs,H3,oH,eT,h3,M3,sr,nk⟩:=h2.ahi (k:=(bk V j+i%yv.cells).toNat) a c8
   have s7:=aI h2.get h2.n0 (k:=7) (v:=v.vs) rfl
   have ahk:v.vs= .slice (some ⟨bs,0,none⟩) store.length store.length:=oH
   rw [ahk]at s7
   have g0:0≤bk V j+i%yv.cells:=by omega
   have gl:bk V j+i%yv.cells<(store.length:Int):=by omega
   simp (maxSteps:=4000000)-implicitDefEqProofs+contextual [-X.ev,f0,f2,f3,f8,f45,f46,f47,f9,q,s7,rn,ww,g0,gl,eT,nk,sr,bm,aJ,aK]
   refine ⟨pq,h3,(M1.trans (Mod.cj X2)).then M3 (fun b hb q=>?_),k1⟩
   rcases q with q|q|q|q|q
   ·exact .inl q
   ·exact .inr (.inl q)
   ·exact .inr (.inr (.inl q))
   ·exact .inr (.inr (.inr (.inl q)))
   ·rcases k1 b q with k|k
    ·exact Yy b k
    ·omega
 ·intro rest dm
  by_cases hc:1<yv.cells
  ·obtain ⟨H1,a',c1,H2,H3,kN,ha,hs,h3,M3,k3,CG,It,qt,xF,nk,sr⟩:=h.tell ⟨2,nn,i%yv.cells⟩ hb
   have s9:=aI h.get h.n0 (k:=9) (v:=v.vt) rfl
   have uU:fg [.int .i64 0,.int .i64 0,.int .i64 0] [(0,1,.int .i64 2),(1,1,.int .i64 nn),(2,1,.int .i64 (i%yv.cells))]=some (.agg #[.int .i64 2,.int .i64 nn,.int .i64 (i%yv.cells)]):=rfl
   rw [if_pos hc]at dm
   simp (maxSteps:=4000000)-implicitDefEqProofs+contextual [-X.ev,Ei,r2,hn2,PL,hc,s9,rn,uU,kN,ha,hs,CG,It,qt,xF,nk,sr,bm,aJ,aK]
   refine dm _ _ ⟨by simp,by simp,by simp,by simp,by simp,_,h3,M3.mono (fun b _ hb=>?_),fun b hb=>.inr (k3 b hb)⟩
   rcases hb with q|q
   ·exact .inl q
   ·exact Yy b q
  ·rw [if_neg hc,List.append_nil]at dm
   simp (maxSteps:=4000000)-implicitDefEqProofs+contextual [-X.ev,Ei,r2,hn2,PL,hc]
   exact dm _ _ ⟨by simp,by simp,by simp,by simp,by simp,_,h,Mod.refl _ _,fun b hb=>.inl hb⟩
end
end Go.Proofs.YtppcmpmnglaleaaGreatDoor.A
namespace Go.Proofs.YtppcmpmnglaleaaGreatDoor.A
open Go
structure ek where
 en:Int
 store:List Int
 outs:List (Int×Int)
 trace:List Ev
 cost:Int
 used:Nat
 wh:Int
 fuel:Int
 todo:List kv
 over:Bool
def dY (c:ek) (e n:Int):ek:={c with en:=e,wh:=n,todo:=[],over:=true}
def fO (V:List Vr) (c:ek) (n i a:Int):ek:={c with store:=c.store.set (bk V n+i%al V n).toNat a,trace:=c.trace++if 1<al V n then [⟨2,n,i%al V n⟩]else []}
def bD.args:bD→List b9| .mk _ _ a _ _=>a
def cL (p:bf) (ps:List Int) (c:ek) (k:Int) (s:bD) (vals:List Int) (next:List kv):ek:=
 match s with
 | .mk op n args thn els=>
  if op=0 then fO p.vars c n (if 1<al p.vars n then ei vals 0 else 0) (ei vals (vals.length- 1))
  else if op=1 then{c with trace:=c.trace++[⟨0,k,if ei vals 0=0 then 0 else 1⟩],todo:=(if ei vals 0=0 then bK els (k+1+ar thn)else bK thn (k+1))++next}
  else if op=2 then{c with trace:=c.trace++[⟨0,k,if ei vals 0=0 then 0 else 1⟩],todo:=if ei vals 0=0 then next else bK thn (k+1)++(k,.mk op n args thn els)::next}
  else if op=3 then{c with outs:=c.outs++[(n,ei vals 0)]}
  else if op=4 then(if ps.length≤c.used then dY c 4 k else fO p.vars {c with used:=c.used+1} n (if 1<al p.vars n then ei vals 0 else 0) (ei ps c.used))
  else if op=5 then(if ei vals 0=0 then dY c 1 k else c)
  else(if ei vals 0=0 then dY c 2 k else c)
def jn (p:bf) (c:ek) (s:bD) (next:List kv):ek:={c with todo:=next,fuel:=c.fuel- 1,cost:=c.cost+1+aw s.args,trace:=c.trace++eI p.w p.vars [c.store] s.args}
def bN (p:bf) (ps:List Int) (c:ek):ek:=
 if c.over=true then c else match c.todo with
 |[]=>c
 |(k,s)::next=>if c.fuel=0 then dY c 3 k else cL p ps (jn p c s next) k s (bU p.w p.vars [c.store] s.args) next
structure ja (G H:AH) (m:Nat) (v:MV) (H':AH) (v':MV) (dJ:List (List Value)) (wR:List Int) (tQ:List (Int×Int)) (tP:List Ev):Prop where
 mh:MH G H' m v' dJ wR tQ tP
 mod:Mod (Mf m v) H H'
 new:∀b,Mf m v' b→Mf m v b∨H.nx≤b
section
variable{G H H1 H2:AH} {m:Nat} {v v1 v2:MV} {rows pW PM:List (List Value)} {store tR IG:List Int} {outs tS PN:List (Int×Int)} {trace oU IH:List Ev} {V:List Vr}
theorem ja.refl (h:MH G H m v rows store outs trace):ja G H m v H v rows store outs trace:=⟨h,Mod.refl _ _,fun b hb=>.inl hb⟩
theorem ja.trans (a:ja G H m v H1 v1 pW tR tS oU) (b:ja G H1 m v1 H2 v2 PM IG PN IH):ja G H m v H2 v2 PM IG PN IH where
 mh:=b.mh
 mod:=a.mod.then b.mod fun x hx q=>by rcases a.new x q with k|k;exact k;omega
 new:=fun x hx=>by
  have:=a.mod.nx
  rcases b.new x hx with q|q
  ·exact a.new x q
  ·right;omega
theorem ja.ext (a:ja G H m v H1 v1 pW tR tS oU) (X:Ext H1 H2):ja G H m v H2 v1 pW tR tS oU:=⟨a.mh.ext X,a.mod.trans (Mod.cj X),a.new⟩
theorem ja.mJ (h:MH G H m v rows store outs trace) (X:Ext H H1):ja G H m v H1 v rows store outs trace:=(ja.refl h).ext X
theorem ja.tr {vt:Value} {cost:Int} (h:MH G H1 m {v with vt:=vt,cost:=cost} pW tR tS oU) (M:Mod (fun b=>b=m∨aX v.vt b) H H1) (k:∀b,aX vt b→aX v.vt b∨H.nx≤b):ja G H m v H1 {v with vt:=vt,cost:=cost} pW tR tS oU where
 mh:=h
 mod:=M.mono fun b _ q=>q.elim .inl fun q=>.inr (.inr (.inr (.inr q)))
 new:=fun b hb=>by
  rcases hb with q|q|q|q|q
  ·exact .inl (.inl q)
  ·exact .inl (.inr (.inl q))
  ·exact .inl (.inr (.inr (.inl q)))
  ·exact .inl (.inr (.inr (.inr (.inl q))))
  ·exact (k b q).imp (fun q=>.inr (.inr (.inr (.inr q)))) id
theorem ja.trW {vt:Value} {wR:List Int} (h:MH G H1 m {v with vt:=vt} pW wR tS oU) (M:Mod (Mf m v) H H1) (k:∀b,aX vt b→aX v.vt b∨H.nx≤b):ja G H m v H1 {v with vt:=vt} pW wR tS oU where
 mh:=h
 mod:=M
 new:=fun b hb=>by
  rcases hb with q|q|q|q|q
  ·exact .inl (.inl q)
  ·exact .inl (.inr (.inl q))
  ·exact .inl (.inr (.inr (.inl q)))
  ·exact .inl (.inr (.inr (.inr (.inl q))))
  ·exact (k b q).imp (fun q=>.inr (.inr (.inr (.inr q)))) id
theorem ja.fr {vf:Value} (h:MH G H m v rows store outs trace) (M:Mod (fun b=>b=m∨aX v.vf b) H H1) (g:H1.get m=some (.cells 14 ({v with vf:=vf}:MV).cells)) (o:gg H1 2 vf pW) (hf:∀b,aX vf b→aX v.vf b∨H.nx≤b):ja G H m v H1 {v with vf:=vf} pW store outs trace where
 mh:=h.ahh M g o hf
 mod:=M.mono fun b _ q=>q.elim .inl fun q=>.inr (.inl q)
 new:=fun b hb=>by
  rcases hb with q|q|q
  ·exact .inl (.inl q)
  ·exact (hf b q).imp (fun q=>.inr (.inl q)) id
  ·exact .inl (.inr (.inr q))
theorem MH.cell {v':MV} (k:Nat) (x:Value) (h:MH G H m v rows store outs trace) (hk:k<14) (e:v.cells.set k x=v'.cells) (e1:v'.vf=v.vf) (e2:v'.vs=v.vs) (e3:v'.vo=v.vo) (e4:v'.vt=v.vt):∃H',H.st ⟨m,k,none⟩ [x]=some H'∧ja G H m v H' v' rows store outs trace∧H'.nx=H.nx∧H'.n0=H.n0:=by
 obtain ⟨H',st,M,nx,n0,g⟩:=cg h.get h.n0 (k:=k) (vs:=[x]) (by simp;omega)
 rw [oT (by simp;omega),e]at g
 refine ⟨H',st,⟨h.SH M g e1 e2 e3 e4,M.mono fun b _ q=>.inl q,fun b hb=>.inl ?_⟩,nx,n0⟩
 unfold Mf at hb⊢
 rw [e1,e2,e3,e4]at hb
 exact hb
theorem tT {op n k:Int} {va vt ve:Value} {ra:List (List Value)} {args:List b9} {y:b9} (h:MH G H m v rows store outs trace) (hV:aC v.w V=true) (hS:aO v.w V store=true) (hv:dz G v.vv V) (iV:Iz v.vv)
 (hr:Rows G 4 va ra) (hl:gG G ra args) (hy:args[0]?=some y) (hf:dA v.w V 1 y=true) (hb:(trace.length:Int)+aB y≤2^40) (O2:0≤v.cost∧v.cost+aB y≤2^60):
 Ca E O 145 [.pointer (some ⟨m,0,none⟩),.agg #[.int .i64 op,.int .i64 n,va,vt,ve],.int .i64 k] H (fun x H'=>x= .bool (!decide (GH v.w V [store] y=0))∧∃pq,ja G H m v H' {v with vt:=pq,cost:=v.cost+aB y} rows store outs (trace++nw v.w V [store] y++[⟨0,k,if GH v.w V [store] y=0 then 0 else 1⟩])):=by
 refine Ca.aS (F:=a145) rfl rfl rfl ?_
 have hw:=h.wf
 have X1:=Ext.alloc H (.cells 5 [.int .i64 op,.int .i64 n,va,vt,ve])
 have d0:(H.alloc (.cells 5 [.int .i64 op,.int .i64 n,va,vt,ve])).ld ⟨H.nx,0,none⟩=some (.int .i64 op):=ak hw rfl
 have d1:(H.alloc (.cells 5 [.int .i64 op,.int .i64 n,va,vt,ve])).ld ⟨H.nx,1,none⟩=some (.int .i64 n):=ak hw rfl
 have d2:(H.alloc (.cells 5 [.int .i64 op,.int .i64 n,va,vt,ve])).ld ⟨H.nx,2,none⟩=some va:=ak hw rfl
 have d3:(H.alloc (.cells 5 [.int .i64 op,.int .i64 n,va,vt,ve])).ld ⟨H.nx,3,none⟩=some vt:=ak hw rfl
 have d4:(H.alloc (.cells 5 [.int .i64 op,.int .i64 n,va,vt,ve])).ld ⟨H.nx,4,none⟩=some ve:=ak hw rfl
 have d:(H.alloc (.cells 5 [.int .i64 op,.int .i64 n,va,vt,ve])).ldn ⟨H.nx,0,none⟩ 5=some [.int .i64 op,.int .i64 n,va,vt,ve]:=bl hw 5 rfl
 generalize cJ:H.alloc (.cells 5 [.int .i64 op,.int .i64 n,va,vt,ve])=H1 at X1 d0 d1 d2 d3 d4 d
 have bP:=X1.wf hw
 have h1:=h.ext X1
 obtain ⟨b4,o4,c4,vy,r,gq,bJ,yQ,kO⟩:=gG.row hr hl hy
 have jY:=h1.sub.ldn bJ
 simp only [Nat.zero_mul,Nat.add_zero]at jY
 have SJ:0<args.length:=by have:=(asr.1 hy).1;omega
 rw [←yQ]at jY
 have Ey:=d2
 rw [gq]at Ey
 have x1:=X1.nx
 have u2:=dV (w:=v.w) (V:=V) (S:=[store]) y
 simp (maxSteps:=4000000)-implicitDefEqProofs+contextual [-X.ev,a145,cJ,Ey,SJ,jY]
 apply ah
 ·(simp-implicitDefEqProofs [-X.ev];rfl)
 refine (lb h1 hV hS hv iV kO hf hb O2).mono ?_
 rintro x H2 ⟨rfl,pq,h2,M2,k2⟩
 obtain ⟨Ha,a',c1,Hb,H3,kN,ha,hs,h3,M3,k3,CG,It,qt,xF,nk,sr⟩:=h2.tell ⟨0,k,if GH v.w V [store] y=0 then 0 else 1⟩ (by rw [asu];omega)
 have s9:=aI h2.get h2.n0 (k:=9) (v:=pq) rfl
 have A2:ja G H1 m v H2 {v with vt:=pq,cost:=v.cost+aB y} rows store outs (trace++nw v.w V [store] y):=ja.tr h2 M2 k2
 have A3:=(ja.mJ h X1).trans (A2.trans (ja.tr (v:={v with vt:=pq,cost:=v.cost+aB y}) h3 M3 (fun b hb=>.inr (k3 b hb))))
 simp only [asu]at ha hs A3
 by_cases q:GH v.w V [store] y=0
 ·rw [if_pos q]at kN A3
  have uU:fg [.int .i64 0,.int .i64 0,.int .i64 0] [(0,1,.int .i64 0),(1,1,.int .i64 k),(2,1,.int .i64 0)]=some (.agg #[.int .i64 0,.int .i64 k,.int .i64 0]):=rfl
  simp (maxSteps:=4000000)-implicitDefEqProofs+contextual [-X.ev,q,s9,uU,kN,ha,hs]
  exact ⟨_,by simpa [q]using A3⟩
 ·rw [if_neg q]at kN A3
  have uU:fg [.int .i64 0,.int .i64 0,.int .i64 0] [(0,1,.int .i64 0),(1,1,.int .i64 k),(2,1,.int .i64 1)]=some (.agg #[.int .i64 0,.int .i64 k,.int .i64 1]):=rfl
  simp (maxSteps:=4000000)-implicitDefEqProofs+contextual [-X.ev,q,s9,uU,kN,ha,hs]
  exact ⟨_,by simpa [q]using A3⟩
end
end Go.Proofs.YtppcmpmnglaleaaGreatDoor.A
namespace Go.Proofs.YtppcmpmnglaleaaGreatDoor.A
open Go
def PQ (G:AH) (r:List Value) (f:List bD×Int):Prop:=∃vl rs,r=[vl,.int .i64 f.2]∧Rows G 5 vl rs∧fh G rs f.1∧Fit G vl∧f.1≠[]∧f.1.length≤2^30
def mK (fs:List (List bD×Int)):List kv:=fs.foldl (fun t f=>bK f.1 f.2++t) []
theorem jZ (fs:List (List bD×Int)) (f:List bD×Int):mK (fs++[f])=bK f.1 f.2++mK fs:=by simp [mK,List.foldl_append]
theorem fN.snoc {α β:Type} {C:α→β→Prop}:∀{l:List α} {k:List β} {a:α} {b:β},fN C l k→C a b→fN C (l++[a]) (k++[b])
 |_,_,_,_,.nil,h=>.cons h .nil
 |_,_,_,_,.cons x y,h=>.cons x (fN.snoc y h)
theorem lR (s:bD) (l:List bD) (k:Int):bK (s::l) k=(k,s)::bK l (k+bw s):=by
 obtain ⟨op,n,args,thn,els⟩:=s
 rw [bK,bw]
 simp only [List.cons.injEq,true_and]
 congr 1
 omega
section
variable{G H:AH} {m:Nat} {v:MV} {rows dw:List (List Value)} {store:List Int} {outs:List (Int×Int)} {trace:List Ev} {V:List Vr}
theorem jc {vl:Value} {cs:List Value} {rs:List (List Value)} {s:bD} {l:List bD} {k:Int} {eP:List (List bD×Int)} (h:MH G H m v (dw++[[vl,.int .i64 k]]) store outs trace) (hr:Rows G 5 vl (cs::rs)) (hf:Fit G vl) (hs:zW G cs s) (hl:fh G rs l) (h0:fN (PQ G) dw eP)
 (hb:dw.length≤2^40) (nz:bu s≤2^30) (Ar:l.length≤2^30) (hk:0≤k∧k≤2^40):
 Ca E O 143 [.pointer (some ⟨m,0,none⟩)] H (fun x H'=>∃om dJ rJ,ja G H m v H' {v with vf:=om} dJ store outs trace∧fN (PQ G) dJ rJ∧mK rJ=bK l (k+bw s)++mK eP∧dJ.length≤dw.length+1):=by
 have jF:bw s≤bu s:=by
  obtain ⟨op,n,args,thn,els⟩:=s
  have:=(aQ thn).2;have:=(aQ els).2;have:=bc args
  rw [bw,bu];omega
 refine (Nf h.wf h.get h.n0 h.fr h.d1.1 hb h.sub (fun b q=>h.out b (q.elim .inl fun q=>.inr (.inl q))) hr hf hs.toC (by omega) (by rw [hl.length];omega) hk (by omega)).mono ?_
 rintro x H' ⟨om,g,⟨Yh,FM,hf',o⟩,M,kk⟩
 have A:=ja.fr h M g o (fun b hb=>.inl (kk b hb))
 by_cases hz:rs.length=0
 ·have FF:l=[]:=List.eq_nil_of_length_eq_zero (by rw [←hl.length];exact hz)
  rw [yO,if_pos hz]at A
  exact ⟨om,dw,eP,A,h0,by rw [FF];rfl,by omega⟩
 ·rw [yO,if_neg hz]at A
  exact ⟨om,_,eP++[(l,k+bw s)],A,h0.snoc ⟨Yh,rs,rfl,FM,hl,hf',fun q=>hz (by rw [hl.length];simp at q;rw [q];rfl),Ar⟩,by rw [jZ],by simp⟩
theorem pX {vt:Value} {rt:List (List Value)} {thn:List bD} {k:Int} {fs:List (List bD×Int)} (h:MH G H m v rows store outs trace) (hr:Rows G 5 vt rt) (hl:fh G rt thn) (hf:Fit G vt) (h0:fN (PQ G) rows fs) (hb:rows.length≤2^40) (hlen:thn.length≤2^30):
 Ca E O 105 [.pointer (some ⟨m,0,none⟩),vt,.int .i64 k] H (fun x H'=>∃om dJ rJ,ja G H m v H' {v with vf:=om} dJ store outs trace∧fN (PQ G) dJ rJ∧mK rJ=bK thn k++mK fs∧dJ.length≤rows.length+1):=by
 obtain ⟨a,c,xG⟩:=hr.len
 rw [hl.length]at xG
 subst xG
 refine (Nc h.wf h.get h.n0 h.fr h.d1.1 hb).mono ?_
 rintro x H' ⟨om,g,o,M,kk⟩
 have A:=ja.fr h M g o kk
 by_cases hz:thn.length=0
 ·have FF:thn=[]:=List.eq_nil_of_length_eq_zero hz
  rw [if_pos hz]at A
  exact ⟨om,rows,fs,A,h0,by rw [FF];rfl,by omega⟩
 ·rw [if_neg hz]at A
  exact ⟨om,_,fs++[(thn,k)],A,h0.snoc ⟨_,rt,rfl,hr,hl,hf,fun q=>hz (by simp at q;rw [q];rfl),hlen⟩,by rw [jZ],by simp⟩
theorem su {how n:Int} (h:MH G H m v rows store outs trace):
 Ca E O 107 [.pointer (some ⟨m,0,none⟩),.int .i64 how,.int .i64 n] H (fun x H'=>x= .bool false∧ja G H m v H' {v with en:=how,wh:=n,ended:=true} rows store outs trace):=by
 refine Ca.aS (F:=a107) rfl rfl rfl ?_
 obtain ⟨H1,s1,A1,_,_⟩:=h.cell (v':={v with ended:=true}) 13 (.bool true) (by omega) rfl rfl rfl rfl rfl
 obtain ⟨H2,s2,A2,_,_⟩:=A1.mh.cell (v':={v with ended:=true,en:=how}) 6 (.int .i64 how) (by omega) rfl rfl rfl rfl rfl
 obtain ⟨H3,s3,A3,_,_⟩:=A2.mh.cell (v':={v with ended:=true,en:=how,wh:=n}) 12 (.int .i64 n) (by omega) rfl rfl rfl rfl rfl
 simp (maxSteps:=4000000)-implicitDefEqProofs+contextual [-X.ev,a107,s1,s2,s3]
 exact A1.trans (A2.trans A3)
end
def Mt (v:MV) (c:ek):Prop:=v.en=c.en∧v.cost=c.cost∧v.used=(c.used:Int)∧v.wh=c.wh∧v.fuel=c.fuel∧v.ended=c.over
def Sm (v v':MV):Prop:=v'.w=v.w∧v'.vv=v.vv∧v'.vp=v.vp∧v'.vb=v.vb
structure KU (G H:AH) (m:Nat) (p:bf) (ps:List Int) (v:MV) (c:ek) (dw:List (List Value)) (eP:List (List bD×Int)) (vl:Value) (cs:List Value) (rs:List (List Value)) (k:Int) (s:bD) (l:List bD):Prop where
 mh:MH G H m v (dw++[[vl,.int .i64 k]]) c.store c.outs c.trace
 hr:Rows G 5 vl (cs::rs)
 hf:Fit G vl
 hs:zW G cs s
 hl:fh G rs l
 h0:fN (PQ G) dw eP
 w:v.w=p.w
 vars:dz G v.vv p.vars
 cap:Iz v.vv
 bS:eM G v.vp ps
 head:aC p.w p.vars=true
 store:aO p.w p.vars c.store=true
 mt:Mt v c
 ov:c.over=false
 row:fm p.w p.vars s=true
 b1:dw.length≤2^30
 b2:0≤k∧k≤2^30
 b3:bu s≤2^20
 b4:l.length+1≤2^30
 b5:c.trace.length≤2^31
 b6:c.outs.length≤2^31
 b7:0≤c.cost∧c.cost≤2^50
 b8:c.used≤ps.length∧ps.length≤2^20
structure Did (G H:AH) (m:Nat) (p:bf) (ps:List Int) (v:MV) (H':AH) (n:Nat) (c':ek):Prop where
 is:∃v' dJ,ja G H m v H' v' dJ c'.store c'.outs c'.trace∧(c'.over=false→∃rJ,fN (PQ G) dJ rJ∧c'.todo=mK rJ)∧dJ.length≤n+2∧Mt v' c'∧Sm v v'
def bT (p:bf) (c:ek) (s:bD) (next:List kv):ek:={c with todo:=next,cost:=c.cost+aw s.args,trace:=c.trace++eI p.w p.vars [c.store] s.args}
abbrev cD (l:List bD) (k:Int) (s:bD) (eP:List (List bD×Int)):List kv:=bK l (k+bw s)++mK eP
section
variable{G H:AH} {m:Nat} {p:bf} {ps:List Int} {v:MV} {c:ek} {dw rs:List (List Value)} {eP:List (List bD×Int)} {vl:Value} {cs:List Value} {k:Int} {s:bD} {l:List bD}
theorem gw {w:Int} {V:List Vr} {op n:Int} {args:List b9} {thn els:List bD} (h:fm w V (.mk op n args thn els)=true):
 (∀e∈args,dA w V 1 e=true∧aB e≤400)∧gu w V thn=true∧gu w V els=true∧
   ((op=0∧(0≤n∧n<V.length)∧((¬ 1<al V n∧∃a,args=[a])∨(1<al V n∧∃a b,args=[a,b])))∨(op=1∧∃a,args=[a])∨(op=2∧∃a,args=[a])∨(op=3∧∃a,args=[a])∨
    (op=4∧(0≤n∧n<V.length)∧((¬ 1<al V n∧args=[])∨(1<al V n∧∃a,args=[a])))∨((op=5∨op=6)∧∃a,args=[a])):=by
 rw [fm,aso,aso,aso,asB]at h
 obtain ⟨h1,h2,h3,h4⟩:=h
 refine ⟨fun e he=>?_,h2,h3,?_⟩
 · have:=h4 e he
   simp only [ie,aso,asx]at this
   exact ⟨this.2.2,this.1⟩
 unfold cB at h1
 by_cases o0:op=0
 · rw [if_pos o0]at h1
   simp only [mD,aso,asx]at h1
   refine .inl ⟨o0,⟨h1.2.1,h1.2.2.1⟩,?_⟩
   by_cases hc:1<al V n
   · have:=h1.2.2.2;rw [if_pos hc]at this
     exact .inr ⟨hc,Pw (by omega)⟩
   · have:=h1.2.2.2;rw [if_neg hc]at this
     exact .inl ⟨hc,List.length_eq_one_iff.1 (by omega)⟩
 rw [if_neg o0]at h1
 by_cases o1:op=1
 · rw [if_pos o1]at h1;simp only [aso,asx]at h1
   exact .inr (.inl ⟨o1,List.length_eq_one_iff.1 (by omega)⟩)
 rw [if_neg o1]at h1
 by_cases o2:op=2
 · rw [if_pos o2]at h1;simp only [aso,asx]at h1
   exact .inr (.inr (.inl ⟨o2,List.length_eq_one_iff.1 (by omega)⟩))
 rw [if_neg o2]at h1
 by_cases o3:op=3
 · rw [if_pos o3]at h1;simp only [aso,asx]at h1
   exact .inr (.inr (.inr (.inl ⟨o3,List.length_eq_one_iff.1 (by omega)⟩)))
 rw [if_neg o3]at h1
 by_cases o4:op=4
 · rw [if_pos o4]at h1
   simp only [mD,aso,asx]at h1
   refine .inr (.inr (.inr (.inr (.inl ⟨o4,⟨h1.2.1,h1.2.2.1⟩,?_⟩))))
   by_cases hc:1<al V n
   · have:=h1.2.2.2;rw [if_pos hc]at this
     exact .inr ⟨hc,List.length_eq_one_iff.1 (by omega)⟩
   · have:=h1.2.2.2;rw [if_neg hc]at this
     exact .inl ⟨hc,List.eq_nil_of_length_eq_zero (by omega)⟩
 rw [if_neg o4]at h1
 by_cases o5:op=5∨op=6
 · rw [if_pos o5]at h1;simp only [aso,asx]at h1
   exact .inr (.inr (.inr (.inr (.inr ⟨o5,List.length_eq_one_iff.1 (by omega)⟩))))
 rw [if_neg o5]at h1
 cases h1
def II (how:Int):AF:=⟨3,21,[.tmp 6],.seq (.bR [o 4 (.box (.t 1)),o 6 (.mv (.k (.bool false)))]) (.seq (.seq (.bR [o 7 (.mv (.t 0)),o 8 (.fa 2 (.t 4)),o 9 (.ld (.t 8)),o 10 (.ia 4 (.t 9) (.k (.int .i64 0))),o 11 (.ldn 4 (.t 10)),o 12 (.call 142 [.t 7,.t 11]),o 13 (.bin .eql (.t 12) (.k (.int .i64 0)))]) (.cond (.t 13) (.seq (.bR [o 14 (.mv (.t 0)),o 15 (.mv (.t 2)),o 16 (.call 107 [.t 14,.k (.int .i64 how),.t 15]),o 6 (.mv (.t 16))]) .ret) .skip)) (.seq (.bR [o 17 (.mv (.t 0)),o 18 (.bz (.t 17)),o 19 (.fa 0 (.t 18)),o 20 (.call 143 [.t 19])]) (.seq (.bR [o 6 (.mv (.k (.bool true)))]) .ret)))⟩
def lS (G H:AH) (f:Nat) (m:Nat) (p:bf) (ps:List Int) (v:MV) (c:ek) (n:Nat) (eP:List (List bD×Int)) (cs:List Value) (k:Int) (s:bD) (l:List bD):Prop:=
 ∀c',c'=cL p ps (bT p c s (cD l k s eP)) k s (bU p.w p.vars [c.store] s.args) (cD l k s eP)→
  Ca E O f [.pointer (some ⟨m,0,none⟩),.agg cs.toArray,.int .i64 k] H (fun x H'=>x= .bool (!c'.over)∧Did G H m p ps v H' n c')
theorem yR {f:Nat} {op n how:Int} {args:List b9} {thn els:List bD} (ho:O f=none) (he:E f=some (II how)) (r6:(op=5∧how=1)∨(op=6∧how=2)) (h:KU G H m p ps v c dw eP vl cs rs k (.mk op n args thn els) l):
 lS G H f m p ps v c dw.length eP cs k (.mk op n args thn els) l:=by
 intro c' mc
 obtain ⟨aG,_,_,CN⟩:=gw h.row
 obtain ⟨y,rfl⟩:∃y,args=[y]:=by
  rcases CN with⟨q,_⟩|⟨q,_⟩|⟨q,_⟩|⟨q,_⟩|⟨q,_⟩|⟨_,q⟩
  ·omega
  ·omega
  ·omega
  ·omega
  ·omega
  ·exact q
 obtain ⟨wS,SK⟩:=aG y (by simp)
 have e0:ei (bU p.w p.vars [c.store] [y]) 0=GH p.w p.vars [c.store] y:=rfl
 have fH:c'=if GH p.w p.vars [c.store] y=0 then dY (bT p c (.mk op n [y] thn els) (cD l k (.mk op n [y] thn els) eP)) how k else bT p c (.mk op n [y] thn els) (cD l k (.mk op n [y] thn els) eP):=by
  rw [mc,cL]
  rcases r6 with⟨rfl,rfl⟩|⟨rfl,rfl⟩
  ·rw [if_neg (by omega),if_neg (by omega),if_neg (by omega),if_neg (by omega),if_neg (by omega),if_pos rfl];rfl
  ·rw [if_neg (by omega),if_neg (by omega),if_neg (by omega),if_neg (by omega),if_neg (by omega),if_neg (by omega)];rfl
 clear mc
 obtain ⟨m1,m2,m3,m4,m5,m6⟩:=h.mt
 have jF:=h.hs
 cases jF with| @mk _ _ va vt ve ra rt re _ _ _ i1 i2 i3 i4 i5 g1 g2 g3 g4 g5 g6 g7 g8=>
 refine Ca.aS (F:=II how) ho he rfl ?_
 have hw:=h.mh.wf
 have X1:=Ext.alloc H (.cells 5 [.int .i64 op,.int .i64 n,va,vt,ve])
 have d0:(H.alloc (.cells 5 [.int .i64 op,.int .i64 n,va,vt,ve])).ld ⟨H.nx,0,none⟩=some (.int .i64 op):=ak hw rfl
 have d1:(H.alloc (.cells 5 [.int .i64 op,.int .i64 n,va,vt,ve])).ld ⟨H.nx,1,none⟩=some (.int .i64 n):=ak hw rfl
 have d2:(H.alloc (.cells 5 [.int .i64 op,.int .i64 n,va,vt,ve])).ld ⟨H.nx,2,none⟩=some va:=ak hw rfl
 have d3:(H.alloc (.cells 5 [.int .i64 op,.int .i64 n,va,vt,ve])).ld ⟨H.nx,3,none⟩=some vt:=ak hw rfl
 have d4:(H.alloc (.cells 5 [.int .i64 op,.int .i64 n,va,vt,ve])).ld ⟨H.nx,4,none⟩=some ve:=ak hw rfl
 have d:(H.alloc (.cells 5 [.int .i64 op,.int .i64 n,va,vt,ve])).ldn ⟨H.nx,0,none⟩ 5=some [.int .i64 op,.int .i64 n,va,vt,ve]:=bl hw 5 rfl
 generalize cJ:H.alloc (.cells 5 [.int .i64 op,.int .i64 n,va,vt,ve])=H1 at X1 d0 d1 d2 d3 d4 d
 have bP:=X1.wf hw
 have h1:=h.mh.ext X1
 obtain ⟨b4,o4,c4,vy,r,gq,bJ,yQ,kO⟩:=gG.row g1 g2 (i:=0) (y:=y) rfl
 have jY:=h1.sub.ldn bJ
 simp only [Nat.zero_mul,Nat.add_zero]at jY
 rw [←yQ]at jY
 have Ey:=d2
 rw [gq]at Ey
 have b7:=h.b7
 have b5:=h.b5
 have yS:=h.w
 have oJ:=h.w.symm
 have key:=lb h1 (by rw [yS];exact h.head) (by rw [yS];exact h.store) h.vars h.cap kO (by rw [yS];exact wS) (by omega) (by rw [m2];omega)
 have A1:=ja.mJ h.mh X1
 have ev:eI p.w p.vars [c.store] [y]=nw p.w p.vars [c.store] y:=by simp [eI]
 have nl:aw [y]=aB y:=by simp [aw]
 simp (maxSteps:=4000000)-implicitDefEqProofs+contextual [-X.ev,II,cJ,Ey,jY]
 apply ah
 ·(simp-implicitDefEqProofs [-X.ev];rfl)
 refine (key).mono ?_
 rintro x H2 ⟨rfl,pq,h2,M2,k2⟩
 have A2:=A1.trans (ja.tr (v:=v) h2 M2 k2)
 rw [oJ]at fH
 have cc:v.cost+aB y=(bT p c (.mk op n [y] thn els) (cD l k (.mk op n [y] thn els) eP)).cost:=by rw [m2,bT];show _=c.cost+aw [y];rw [nl]
 have ct:c.trace++nw v.w p.vars [c.store] y=(bT p c (.mk op n [y] thn els) (cD l k (.mk op n [y] thn els) eP)).trace:=by rw [bT];show _=c.trace++eI p.w p.vars [c.store] [y];rw [ev,oJ]
 by_cases q:GH v.w p.vars [c.store] y=0
 ·rw [if_pos q]at fH
  subst fH
  simp (maxSteps:=4000000)-implicitDefEqProofs+contextual [-X.ev,q]
  apply ah
  ·(simp-implicitDefEqProofs [-X.ev];rfl)
  refine (su (how:=how) (n:=k) A2.mh).mono ?_
  rintro x H3 ⟨rfl,A3⟩
  simp (maxSteps:=4000000)-implicitDefEqProofs+contextual [-X.ev,dY]
  have A:=A2.trans A3
  rw [cc,ct]at A
  exact ⟨_,_,A,fun q=>by simp at q,by simp,⟨rfl,rfl,m3,rfl,m5,rfl⟩,rfl,rfl,rfl,rfl⟩
 ·rw [if_neg q]at fH
  subst fH
  simp (maxSteps:=4000000)-implicitDefEqProofs+contextual [-X.ev,q]
  apply ah
  ·(simp-implicitDefEqProofs [-X.ev];rfl)
  refine (jc A2.mh h.hr h.hf h.hs h.hl h.h0 (by have:=h.b1;omega) (by have:=h.b3;omega) (by have:=h.b4;omega) (by have:=h.b2;omega)).mono ?_
  rintro x H3 ⟨om,dJ,rJ,A3,ha,fX,wz⟩
  have A:=A2.trans A3
  rw [cc,ct]at A
  simp (maxSteps:=4000000)-implicitDefEqProofs+contextual [-X.ev,bT,h.ov]
  exact ⟨_,_,A,fun _=>⟨rJ,ha,fX.symm⟩,by omega,⟨m1,rfl,m3,m4,m5,m6.trans h.ov⟩,rfl,rfl,rfl,rfl⟩
end
end Go.Proofs.YtppcmpmnglaleaaGreatDoor.A
namespace Go.Proofs.YtppcmpmnglaleaaGreatDoor.A
open Go
section
variable{G H:AH} {m:Nat} {p:bf} {ps:List Int} {v:MV} {c:ek} {dw rs:List (List Value)} {eP:List (List bD×Int)} {vl:Value} {cs:List Value} {k:Int} {s:bD} {l:List bD}
theorem ja.ou {H':AH} {rows:List (List Value)} {store:List Int} {outs tQ:List (Int×Int)} {trace:List Ev} {vo:Value} (h:MH G H m v rows store outs trace) (M:Mod (fun b=>b=m∨aX v.vo b) H H') (h':MH G H' m {v with vo:=vo} rows store tQ trace) (hf:∀b,aX vo b→aX v.vo b∨H.nx≤b):ja G H m v H' {v with vo:=vo} rows store tQ trace where
 mh:=h'
 mod:=M.mono fun b _ q=>q.elim .inl fun q=>.inr (.inr (.inr (.inl q)))
 new:=fun b hb=>by
  rcases hb with q|q|q|q|q
  ·exact .inl (.inl q)
  ·exact .inl (.inr (.inl q))
  ·exact .inl (.inr (.inr (.inl q)))
  ·exact (hf b q).imp (fun q=>.inr (.inr (.inr (.inl q)))) id
  ·exact .inl (.inr (.inr (.inr (.inr q))))
theorem IJ {n:Int} {args:List b9} {thn els:List bD} (h:KU G H m p ps v c dw eP vl cs rs k (.mk 5 n args thn els) l):
 lS G H 113 m p ps v c dw.length eP cs k (.mk 5 n args thn els) l:=yR (how:=1) rfl rfl (.inl ⟨rfl,rfl⟩) h
theorem IK {n:Int} {args:List b9} {thn els:List bD} (h:KU G H m p ps v c dw eP vl cs rs k (.mk 6 n args thn els) l):
 lS G H 114 m p ps v c dw.length eP cs k (.mk 6 n args thn els) l:=yR (how:=2) rfl rfl (.inr ⟨rfl,rfl⟩) h
theorem SM {w:Int} {V:List Vr} {op n:Int} {args:List b9} {thn els:List bD} (h:fm w V (.mk op n args thn els)=true) (ho:op=1∨op=2∨op=3):∃y,args=[y]∧dA w V 1 y=true∧aB y≤400:=by
 obtain ⟨aG,_,_,CN⟩:=gw h
 obtain ⟨y,rfl⟩:∃y,args=[y]:=by
  rcases CN with⟨q,_⟩|⟨_,q⟩|⟨_,q⟩|⟨_,q⟩|⟨q,_⟩|⟨q,_⟩
  ·omega
  ·exact q
  ·exact q
  ·exact q
  ·omega
  ·omega
 exact ⟨y,rfl,aG y (by simp)⟩
theorem EW {n:Int} {args:List b9} {thn els:List bD} (h:KU G H m p ps v c dw eP vl cs rs k (.mk 1 n args thn els) l):
 lS G H 109 m p ps v c dw.length eP cs k (.mk 1 n args thn els) l:=by
 intro c' mc
 obtain ⟨y,rfl,wS,SK⟩:=SM h.row (by omega)
 have fH:c'={bT p c (.mk 1 n [y] thn els) (cD l k (.mk 1 n [y] thn els) eP)with trace:=(bT p c (.mk 1 n [y] thn els) (cD l k (.mk 1 n [y] thn els) eP)).trace++[⟨0,k,if GH p.w p.vars [c.store] y=0 then 0 else 1⟩],todo:=(if GH p.w p.vars [c.store] y=0 then bK els (k+1+ar thn)else bK thn (k+1))++cD l k (.mk 1 n [y] thn els) eP}:=by
  rw [mc,cL,if_neg (by omega),if_pos rfl];rfl
 clear mc
 obtain ⟨m1,m2,m3,m4,m5,m6⟩:=h.mt
 have jF:=h.hs
 cases jF with| @mk _ _ va vt ve ra rt re _ _ _ i1 i2 i3 i4 i5 g1 g2 g3 g4 g5 g6 g7 g8=>
 refine Ca.aS (F:=a109) rfl rfl rfl ?_
 have hw:=h.mh.wf
 have X1:=Ext.alloc H (.cells 5 [.int .i64 1,.int .i64 n,va,vt,ve])
 have d0:(H.alloc (.cells 5 [.int .i64 1,.int .i64 n,va,vt,ve])).ld ⟨H.nx,0,none⟩=some (.int .i64 1):=ak hw rfl
 have d1:(H.alloc (.cells 5 [.int .i64 1,.int .i64 n,va,vt,ve])).ld ⟨H.nx,1,none⟩=some (.int .i64 n):=ak hw rfl
 have d2:(H.alloc (.cells 5 [.int .i64 1,.int .i64 n,va,vt,ve])).ld ⟨H.nx,2,none⟩=some va:=ak hw rfl
 have d3:(H.alloc (.cells 5 [.int .i64 1,.int .i64 n,va,vt,ve])).ld ⟨H.nx,3,none⟩=some vt:=ak hw rfl
 have d4:(H.alloc (.cells 5 [.int .i64 1,.int .i64 n,va,vt,ve])).ld ⟨H.nx,4,none⟩=some ve:=ak hw rfl
 have d:(H.alloc (.cells 5 [.int .i64 1,.int .i64 n,va,vt,ve])).ldn ⟨H.nx,0,none⟩ 5=some [.int .i64 1,.int .i64 n,va,vt,ve]:=bl hw 5 rfl
 generalize cJ:H.alloc (.cells 5 [.int .i64 1,.int .i64 n,va,vt,ve])=H1 at X1 d0 d1 d2 d3 d4 d
 have bP:=X1.wf hw
 have h1:=h.mh.ext X1
 have b7:=h.b7
 have b5:=h.b5
 have b1:=h.b1
 have b2:=h.b2
 have b3:=h.b3
 rw [bu]at b3
 have b4:=h.b4
 have pa:=bc [y]
 have bt:=aQ thn
 have Yz:=fA thn
 have rR:=fA els
 have be:=aQ els
 have yS:=h.w
 have oJ:=h.w.symm
 have key:=tT (op:=1) (n:=n) (vt:=vt) (ve:=ve) (k:=k) h1 (by rw [yS];exact h.head) (by rw [yS];exact h.store) h.vars h.cap g1 g2 (y:=y) rfl (by rw [yS];exact wS) (by omega) (by rw [m2];omega)
 have A1:=ja.mJ h.mh X1
 have ev:eI p.w p.vars [c.store] [y]=nw p.w p.vars [c.store] y:=by simp [eI]
 have nl:aw [y]=aB y:=by simp [aw]
 rw [oJ]at fH
 have cc:v.cost+aB y=(bT p c (.mk 1 n [y] thn els) (cD l k (.mk 1 n [y] thn els) eP)).cost:=by rw [m2,bT];show _=c.cost+aw [y];rw [nl]
 have ct:c.trace++nw v.w p.vars [c.store] y=(bT p c (.mk 1 n [y] thn els) (cD l k (.mk 1 n [y] thn els) eP)).trace:=by rw [bT];show _=c.trace++eI p.w p.vars [c.store] [y];rw [ev,oJ]
 rw [cc,ct]at key
 simp (maxSteps:=4000000)-implicitDefEqProofs+contextual [-X.ev,a109,cJ,d]
 apply ah
 ·(simp-implicitDefEqProofs [-X.ev];rfl)
 refine (key).mono ?_
 rintro x H2 ⟨rfl,pq,A2⟩
 have dd:=A2.mod.ldn (a:=⟨H.nx,0,none⟩) (fun q=>by have:=h.mh.lt q;simp at this) d
 simp (maxSteps:=4000000)-implicitDefEqProofs+contextual [-X.ev]
 apply ah
 ·(simp-implicitDefEqProofs [-X.ev];rfl)
 refine (jc A2.mh h.hr h.hf h.hs h.hl h.h0 (by omega) (by rw [bu];omega) (by omega) (by omega)).mono ?_
 rintro x H3 ⟨om,dJ,rJ,A3,ha,fX,wz⟩
 have YA:=A2.trans A3
 have dd3:=YA.mod.ldn (a:=⟨H.nx,0,none⟩) (fun q=>by have:=h.mh.lt q;simp at this) d
 have e3:=aR dd3 (j:=3) rfl
 have e4:=aR dd3 (j:=4) rfl
 by_cases q:GH v.w p.vars [c.store] y=0
 ·rw [if_pos q,if_pos q]at fH
  have w1:IntKind.i64.wrap (k+1)=k+1:=ai ⟨by omega,by omega⟩
  have e3n:=bg.1 e3
  have UT:=bg.1 e4
  simp only [q,if_true]at A3 YA
  have h3:=A3.mh
  simp (maxSteps:=4000000)-implicitDefEqProofs+contextual [-X.ev,q,w1,e3,e4]
  apply ah
  ·(simp-implicitDefEqProofs [-X.ev];rfl)
  refine (EU h3.wf (g3.sub h3.sub) (iN.sub h3.sub g4.XZ) (by omega) (by omega)).mono ?_
  rintro x H4 ⟨rfl,X4⟩
  have YB:=X4.nx
  have YC:=X4.n0
  have ahl:=X4.ldn UT
  have sve:dG ve ve=true:=by obtain ⟨a,c,e⟩:=g6.len;rw [e];simp
  have w2:IntKind.i64.wrap (k+1+ar thn)=k+1+ar thn:=ai ⟨by omega,by omega⟩
  have A34:=A3.ext X4
  simp (maxSteps:=4000000)-implicitDefEqProofs+contextual [-X.ev,w2]
  apply ah
  ·(simp-implicitDefEqProofs [-X.ev];rfl)
  refine (pX (k:=k+1+ar thn) A34.mh g6 g7 g8 ha (by omega) (by omega)).mono ?_
  rintro x H5 ⟨YD,IL,IM,A5,Sj,IN,SN⟩
  have A:=A1.trans ((YA.ext X4).trans A5)
  have PJ:=A5.mod.nx
  have KT:=A5.mod.n0
  simp (maxSteps:=4000000)-implicitDefEqProofs+contextual [-X.ev,bm,aJ,aK,YB,YC,PJ,KT,UT,ahl,sve]
  subst fH
  refine ⟨?_,_,_,A,fun _=>⟨IM,Sj,?_⟩,by omega,⟨m1,rfl,m3,m4,m5,m6⟩,rfl,rfl,rfl,rfl⟩
  ·exact h.ov
  ·rw [IN,fX]
 ·rw [if_neg q,if_neg q]at fH
  have w1:IntKind.i64.wrap (k+1)=k+1:=ai ⟨by omega,by omega⟩
  simp only [q,if_false]at A3 YA
  simp (maxSteps:=4000000)-implicitDefEqProofs+contextual [-X.ev,q,w1,e3,e4]
  apply ah
  ·(simp-implicitDefEqProofs [-X.ev];rfl)
  refine (pX (k:=k+1) A3.mh g3 g4 g5 ha (by omega) (by omega)).mono ?_
  rintro x H4 ⟨YD,IL,IM,A4,Sj,IN,SN⟩
  have A:=A1.trans (YA.trans A4)
  have YC:=A4.mod.n0
  have YB:=A4.mod.nx
  simp (maxSteps:=4000000)-implicitDefEqProofs+contextual [-X.ev,bm,aJ,aK,YC,YB]
  subst fH
  refine ⟨?_,_,_,A,fun _=>⟨IM,Sj,?_⟩,by omega,⟨m1,rfl,m3,m4,m5,m6⟩,rfl,rfl,rfl,rfl⟩
  ·exact h.ov
  ·rw [IN,fX]
theorem Nh {n:Int} {args:List b9} {thn els:List bD} (h:KU G H m p ps v c dw eP vl cs rs k (.mk 2 n args thn els) l):
 lS G H 110 m p ps v c dw.length eP cs k (.mk 2 n args thn els) l:=by
 intro c' mc
 obtain ⟨y,rfl,wS,SK⟩:=SM h.row (by omega)
 have fH:c'={bT p c (.mk 2 n [y] thn els) (cD l k (.mk 2 n [y] thn els) eP)with trace:=(bT p c (.mk 2 n [y] thn els) (cD l k (.mk 2 n [y] thn els) eP)).trace++[⟨0,k,if GH p.w p.vars [c.store] y=0 then 0 else 1⟩],todo:=if GH p.w p.vars [c.store] y=0 then cD l k (.mk 2 n [y] thn els) eP else bK thn (k+1)++(k,.mk 2 n [y] thn els)::cD l k (.mk 2 n [y] thn els) eP}:=by
  rw [mc,cL,if_neg (by omega),if_neg (by omega),if_pos rfl];rfl
 clear mc
 obtain ⟨m1,m2,m3,m4,m5,m6⟩:=h.mt
 have jF:=h.hs
 cases jF with| @mk _ _ va vt ve ra rt re _ _ _ i1 i2 i3 i4 i5 g1 g2 g3 g4 g5 g6 g7 g8=>
 refine Ca.aS (F:=LA) rfl rfl rfl ?_
 have hw:=h.mh.wf
 have X1:=Ext.alloc H (.cells 5 [.int .i64 2,.int .i64 n,va,vt,ve])
 have d0:(H.alloc (.cells 5 [.int .i64 2,.int .i64 n,va,vt,ve])).ld ⟨H.nx,0,none⟩=some (.int .i64 2):=ak hw rfl
 have d1:(H.alloc (.cells 5 [.int .i64 2,.int .i64 n,va,vt,ve])).ld ⟨H.nx,1,none⟩=some (.int .i64 n):=ak hw rfl
 have d2:(H.alloc (.cells 5 [.int .i64 2,.int .i64 n,va,vt,ve])).ld ⟨H.nx,2,none⟩=some va:=ak hw rfl
 have d3:(H.alloc (.cells 5 [.int .i64 2,.int .i64 n,va,vt,ve])).ld ⟨H.nx,3,none⟩=some vt:=ak hw rfl
 have d4:(H.alloc (.cells 5 [.int .i64 2,.int .i64 n,va,vt,ve])).ld ⟨H.nx,4,none⟩=some ve:=ak hw rfl
 have d:(H.alloc (.cells 5 [.int .i64 2,.int .i64 n,va,vt,ve])).ldn ⟨H.nx,0,none⟩ 5=some [.int .i64 2,.int .i64 n,va,vt,ve]:=bl hw 5 rfl
 generalize cJ:H.alloc (.cells 5 [.int .i64 2,.int .i64 n,va,vt,ve])=H1 at X1 d0 d1 d2 d3 d4 d
 have bP:=X1.wf hw
 have h1:=h.mh.ext X1
 have b7:=h.b7
 have b5:=h.b5
 have b1:=h.b1
 have b2:=h.b2
 have b3:=h.b3
 rw [bu]at b3
 have b4:=h.b4
 have pa:=bc [y]
 have bt:=aQ thn
 have Yz:=fA thn
 have rR:=fA els
 have be:=aQ els
 have yS:=h.w
 have oJ:=h.w.symm
 have key:=tT (op:=2) (n:=n) (vt:=vt) (ve:=ve) (k:=k) h1 (by rw [yS];exact h.head) (by rw [yS];exact h.store) h.vars h.cap g1 g2 (y:=y) rfl (by rw [yS];exact wS) (by omega) (by rw [m2];omega)
 have A1:=ja.mJ h.mh X1
 have ev:eI p.w p.vars [c.store] [y]=nw p.w p.vars [c.store] y:=by simp [eI]
 have nl:aw [y]=aB y:=by simp [aw]
 rw [oJ]at fH
 have cc:v.cost+aB y=(bT p c (.mk 2 n [y] thn els) (cD l k (.mk 2 n [y] thn els) eP)).cost:=by rw [m2,bT];show _=c.cost+aw [y];rw [nl]
 have ct:c.trace++nw v.w p.vars [c.store] y=(bT p c (.mk 2 n [y] thn els) (cD l k (.mk 2 n [y] thn els) eP)).trace:=by rw [bT];show _=c.trace++eI p.w p.vars [c.store] [y];rw [ev,oJ]
 rw [cc,ct]at key
 simp (maxSteps:=4000000)-implicitDefEqProofs+contextual [-X.ev,LA,cJ,d]
 apply ah
 ·(simp-implicitDefEqProofs [-X.ev];rfl)
 refine (key).mono ?_
 rintro x H2 ⟨rfl,pq,A2⟩
 have dd:=A2.mod.ldn (a:=⟨H.nx,0,none⟩) (fun q=>by have:=h.mh.lt q;simp at this) d
 have e3:=aR dd (j:=3) rfl
 by_cases q:GH v.w p.vars [c.store] y=0
 ·rw [if_pos q,if_pos q]at fH
  simp only [q,if_true]at A2
  simp (maxSteps:=4000000)-implicitDefEqProofs+contextual [-X.ev,q]
  apply ah
  ·(simp-implicitDefEqProofs [-X.ev];rfl)
  refine (jc A2.mh h.hr h.hf h.hs h.hl h.h0 (by omega) (by rw [bu];omega) (by omega) (by omega)).mono ?_
  rintro x H3 ⟨om,dJ,rJ,A3,ha,fX,wz⟩
  have A:=A1.trans (A2.trans A3)
  simp (maxSteps:=4000000)-implicitDefEqProofs+contextual [-X.ev]
  subst fH
  refine ⟨?_,_,_,A,fun _=>⟨rJ,ha,?_⟩,by omega,⟨m1,rfl,m3,m4,m5,m6⟩,rfl,rfl,rfl,rfl⟩
  ·exact h.ov
  ·exact fX.symm
 ·rw [if_neg q,if_neg q]at fH
  have w1:IntKind.i64.wrap (k+1)=k+1:=ai ⟨by omega,by omega⟩
  simp only [q,if_false]at A2
  have EI:fN (PQ G) (dw++[[vl,.int .i64 k]]) (eP++[(.mk 2 n [y] thn els::l,k)]):=h.h0.snoc ⟨vl,_,rfl,h.hr,.cons h.hs h.hl,h.hf,by simp,by simpa using b4⟩
  simp (maxSteps:=4000000)-implicitDefEqProofs+contextual [-X.ev,q,w1,e3]
  apply ah
  ·(simp-implicitDefEqProofs [-X.ev];rfl)
  refine (pX (k:=k+1) A2.mh g3 g4 g5 EI (by simp;omega) (by omega)).mono ?_
  rintro x H4 ⟨YD,IL,IM,A4,Sj,IN,SN⟩
  have A:=A1.trans (A2.trans A4)
  have YC:=A4.mod.n0
  have YB:=A4.mod.nx
  simp (maxSteps:=4000000)-implicitDefEqProofs+contextual [-X.ev,bm,aJ,aK,YC,YB]
  subst fH
  simp at SN
  refine ⟨?_,_,_,A,fun _=>⟨IM,Sj,?_⟩,by omega,⟨m1,rfl,m3,m4,m5,m6⟩,rfl,rfl,rfl,rfl⟩
  ·exact h.ov
  ·rw [IN,jZ,lR];simp
theorem Ni {n:Int} {args:List b9} {thn els:List bD} (h:KU G H m p ps v c dw eP vl cs rs k (.mk 3 n args thn els) l):
 lS G H 111 m p ps v c dw.length eP cs k (.mk 3 n args thn els) l:=by
 intro c' mc
 obtain ⟨y,rfl,wS,SK⟩:=SM h.row (by omega)
 have fH:c'={bT p c (.mk 3 n [y] thn els) (cD l k (.mk 3 n [y] thn els) eP)with outs:=c.outs++[(n,GH p.w p.vars [c.store] y)]}:=by
  rw [mc,cL,if_neg (by omega),if_neg (by omega),if_neg (by omega),if_pos rfl];rfl
 clear mc
 obtain ⟨m1,m2,m3,m4,m5,m6⟩:=h.mt
 have jF:=h.hs
 cases jF with| @mk _ _ va vt ve ra rt re _ _ _ i1 i2 i3 i4 i5 g1 g2 g3 g4 g5 g6 g7 g8=>
 refine Ca.aS (F:=LB) rfl rfl rfl ?_
 have hw:=h.mh.wf
 have X1:=Ext.alloc H (.cells 5 [.int .i64 3,.int .i64 n,va,vt,ve])
 have d0:(H.alloc (.cells 5 [.int .i64 3,.int .i64 n,va,vt,ve])).ld ⟨H.nx,0,none⟩=some (.int .i64 3):=ak hw rfl
 have d1:(H.alloc (.cells 5 [.int .i64 3,.int .i64 n,va,vt,ve])).ld ⟨H.nx,1,none⟩=some (.int .i64 n):=ak hw rfl
 have d2:(H.alloc (.cells 5 [.int .i64 3,.int .i64 n,va,vt,ve])).ld ⟨H.nx,2,none⟩=some va:=ak hw rfl
 have d3:(H.alloc (.cells 5 [.int .i64 3,.int .i64 n,va,vt,ve])).ld ⟨H.nx,3,none⟩=some vt:=ak hw rfl
 have d4:(H.alloc (.cells 5 [.int .i64 3,.int .i64 n,va,vt,ve])).ld ⟨H.nx,4,none⟩=some ve:=ak hw rfl
 have d:(H.alloc (.cells 5 [.int .i64 3,.int .i64 n,va,vt,ve])).ldn ⟨H.nx,0,none⟩ 5=some [.int .i64 3,.int .i64 n,va,vt,ve]:=bl hw 5 rfl
 generalize cJ:H.alloc (.cells 5 [.int .i64 3,.int .i64 n,va,vt,ve])=H1 at X1 d0 d1 d2 d3 d4 d
 have bP:=X1.wf hw
 have h1:=h.mh.ext X1
 have b7:=h.b7
 have b5:=h.b5
 have b6:=h.b6
 have b1:=h.b1
 have b2:=h.b2
 have b3:=h.b3
 have b4:=h.b4
 have yS:=h.w
 have oJ:=h.w.symm
 obtain ⟨b4',o4,c4,vy,r,gq,bJ,yQ,kO⟩:=gG.row g1 g2 (i:=0) (y:=y) rfl
 have jY:=h1.sub.ldn bJ
 simp only [Nat.zero_mul,Nat.add_zero]at jY
 rw [←yQ]at jY
 have Ey:=d2
 rw [gq]at Ey
 have key:=lb h1 (by rw [yS];exact h.head) (by rw [yS];exact h.store) h.vars h.cap kO (by rw [yS];exact wS) (by omega) (by rw [m2];omega)
 have A1:=ja.mJ h.mh X1
 have ev:eI p.w p.vars [c.store] [y]=nw p.w p.vars [c.store] y:=by simp [eI]
 have nl:aw [y]=aB y:=by simp [aw]
 rw [oJ]at fH
 have cc:v.cost+aB y=(bT p c (.mk 3 n [y] thn els) (cD l k (.mk 3 n [y] thn els) eP)).cost:=by rw [m2,bT];show _=c.cost+aw [y];rw [nl]
 have ct:c.trace++nw v.w p.vars [c.store] y=(bT p c (.mk 3 n [y] thn els) (cD l k (.mk 3 n [y] thn els) eP)).trace:=by rw [bT];show _=c.trace++eI p.w p.vars [c.store] [y];rw [ev,oJ]
 rw [cc,ct]at key
 have r8:=aI h1.get h1.n0 (k:=8) (v:=v.vo) rfl
 obtain ⟨oa,oc,zK⟩:=h.mh.ou.shape
 simp (maxSteps:=4000000)-implicitDefEqProofs+contextual [-X.ev,LB,cJ,d1,Ey,jY,r8]
 apply ah
 ·(simp-implicitDefEqProofs [-X.ev];rfl)
 refine (key).mono ?_
 rintro x H2 ⟨rfl,pq,h2,M2,k2⟩
 have A2:=A1.trans (ja.tr (v:=v) h2 M2 k2)
 have x2x:=M2.nx
 have YE:=M2.n0
 have r82:=aI h2.get h2.n0 (k:=8) (v:=v.vo) rfl
 have r8n:=bg.1 r8
 have ahm:=bg.1 r82
 have dd:=M2.ldn (a:=⟨H.nx,0,none⟩) (fun q=>by
  rcases q with q|q
  ·have:=h.mh.lt (.inl rfl);simp at q;omega
  ·have:=h.mh.tr.lt q;simp at this) d
 have e1n:=bg.1 d1
 have ahn:=bg.1 (aR dd (j:=1) rfl)
 have lY:=rY (sz:=2) (z:=[.int .i64 0,.int .i64 0]) (H:=H2) (v:=.agg #[.int .i64 n,.int .i64 (GH v.w p.vars [c.store] y)]) rfl rfl rfl
 simp only [fZ]at lY
 have X3:=Ext.alloc H2 (.cells 2 [.int .i64 n,.int .i64 (GH v.w p.vars [c.store] y)])
 obtain ⟨H3,KR⟩:∃H3,H2.alloc (.cells 2 [.int .i64 n,.int .i64 (GH v.w p.vars [c.store] y)])=H3:=⟨_,rfl⟩
 obtain ⟨s',H4,ha,o4',M4,k4,oQ,zP,wf4,nk,sr,aho⟩:=gT (bytes:=16) h2.wf h2.ou (r:=[.int .i64 n,.int .i64 (GH v.w p.vars [c.store] y)]) rfl KR (by rw [jX];omega) (by rw [jX];omega)
 rw [KR]at lY X3
 obtain ⟨a,c1,hs⟩:=o4'.shape
 rw [asu,List.length_singleton,jX]at hs
 subst hs
 have g4':=M4.get h2.d1.2.2.1 h2.get
 obtain ⟨H5,s5,M5,Pt,yG,g5'⟩:=cg g4' (by rw [oQ];exact h2.n0) (k:=8) (vs:=[.slice a (c.outs.length+1) c1]) (by simp)
 have o5:dN H5 2 (.slice a (c.outs.length+1) c1) (dD (c.outs++[(n,GH v.w p.vars [c.store] y)])):=by
  rw [tO]
  exact o4'.mod M5 fun b hb q=>by have:=k4 b hb;have:=h2.lt (.inl rfl);omega
 have Pu:Mod (fun b=>b=m∨aX v.vo b) H2 H5:=(M4.mono fun x _ hx=>.inr hx).trans (M5.mono fun x _ hx=>.inl hx)
 have h5:=h2.Yx (vo:=.slice a (c.outs.length+1) c1) Pu g5' o5 (fun b hb=>.inr (k4 b hb))
 have A5:=ja.ou h2 Pu h5 (fun b hb=>.inr (k4 b hb))
 have svo:dG v.vo v.vo=true:=by rw [zK];simp
 have uU:fg [.int .i64 0,.int .i64 0] [(0,1,.int .i64 n),(1,1,.int .i64 (GH v.w p.vars [c.store] y))]=some (.agg #[.int .i64 n,.int .i64 (GH v.w p.vars [c.store] y)]):=rfl
 simp (maxSteps:=4000000)-implicitDefEqProofs+contextual [-X.ev,uU,lY,ha,s5,x2x,YE,r8n,ahm,e1n,ahn,svo,nk,oQ,yG,sr,aho,Pt,bm,aJ,aK]
 apply ah
 ·(simp-implicitDefEqProofs [-X.ev];rfl)
 refine (jc A5.mh h.hr h.hf h.hs h.hl h.h0 (by omega) (by omega) (by omega) (by omega)).mono ?_
 rintro x H6 ⟨om,dJ,rJ,A6,Sn,fX,wz⟩
 have A:=A2.trans (A5.trans A6)
 simp (maxSteps:=4000000)-implicitDefEqProofs+contextual [-X.ev]
 subst fH
 refine ⟨?_,_,_,A,fun _=>⟨rJ,Sn,?_⟩,by omega,⟨m1,rfl,m3,m4,m5,m6⟩,rfl,rfl,rfl,rfl⟩
 ·exact h.ov
 ·exact fX.symm
end
end Go.Proofs.YtppcmpmnglaleaaGreatDoor.A
namespace Go.Proofs.YtppcmpmnglaleaaGreatDoor.A
open Go
section
variable{G H:AH} {m:Nat} {p:bf} {ps:List Int} {v:MV} {c:ek} {dw rs:List (List Value)} {eP:List (List bD×Int)} {vl:Value} {cs:List Value} {k:Int} {s:bD} {l:List bD}
theorem Nj {n:Int} {args:List b9} {thn els:List bD} (h:KU G H m p ps v c dw eP vl cs rs k (.mk 0 n args thn els) l):
 lS G H 108 m p ps v c dw.length eP cs k (.mk 0 n args thn els) l:=by
 intro c' mc
 rw [cL,if_pos rfl]at mc
 obtain ⟨aG,_,_,CN⟩:=gw h.row
 obtain ⟨m1,m2,m3,m4,m5,m6⟩:=h.mt
 have jF:=h.hs
 cases jF with| @mk _ _ va vt ve ra rt re _ _ _ i1 i2 i3 i4 i5 g1 g2 g3 g4 g5 g6 g7 g8=>
 refine Ca.aS (F:=Hn) rfl rfl rfl ?_
 have hw:=h.mh.wf
 have X1:=Ext.alloc H (.cells 5 [.int .i64 0,.int .i64 n,va,vt,ve])
 have d0:(H.alloc (.cells 5 [.int .i64 0,.int .i64 n,va,vt,ve])).ld ⟨H.nx,0,none⟩=some (.int .i64 0):=ak hw rfl
 have d1:(H.alloc (.cells 5 [.int .i64 0,.int .i64 n,va,vt,ve])).ld ⟨H.nx,1,none⟩=some (.int .i64 n):=ak hw rfl
 have d2:(H.alloc (.cells 5 [.int .i64 0,.int .i64 n,va,vt,ve])).ld ⟨H.nx,2,none⟩=some va:=ak hw rfl
 have d3:(H.alloc (.cells 5 [.int .i64 0,.int .i64 n,va,vt,ve])).ld ⟨H.nx,3,none⟩=some vt:=ak hw rfl
 have d4:(H.alloc (.cells 5 [.int .i64 0,.int .i64 n,va,vt,ve])).ld ⟨H.nx,4,none⟩=some ve:=ak hw rfl
 have d:(H.alloc (.cells 5 [.int .i64 0,.int .i64 n,va,vt,ve])).ldn ⟨H.nx,0,none⟩ 5=some [.int .i64 0,.int .i64 n,va,vt,ve]:=bl hw 5 rfl
 generalize cJ:H.alloc (.cells 5 [.int .i64 0,.int .i64 n,va,vt,ve])=H1 at X1 d0 d1 d2 d3 d4 d
 have bP:=X1.wf hw
 have h1:=h.mh.ext X1
 have b7:=h.b7
 have b5:=h.b5
 have b6:=h.b6
 have b1:=h.b1
 have b2:=h.b2
 have b3:=h.b3
 have b4:=h.b4
 have b8:=h.b8
 have yS:=h.w
 have oJ:=h.w.symm
 have hV:=h.head
 have hS:=h.store
 rw [oJ]at hV hS
 have A1:=ja.mJ h.mh X1
 have eB:1≤v.w∧v.w≤8:=⟨(aF hV).1,(aF hV).2.1⟩
 have hp:=fJ eB
 have zU:EO v.w p.vars [c.store]:=fun t ht=>by simp at ht;subst ht;exact hS
 have out:∀b,(b=m∨aX v.vt b)→b≠H.nx:=fun b hb e=>by
  subst e
  rcases hb with q|q
  ·have:=h.mh.lt (.inl q);omega
  ·have:=h.mh.tr.lt q;omega
 rw [oJ]at aG
 have nb:¬ Mf m v H.nx:=fun q=>by have:=h.mh.lt q;omega
 have w0:IntKind.i64.wrap 0=0:=rfl
 have YF:IntKind.i64.wrap 1=1:=rfl
 obtain ⟨hn,fS⟩:(0≤n∧n<p.vars.length)∧((¬ 1<al p.vars n∧∃a,args=[a])∨(1<al p.vars n∧∃a b,args=[a,b])):=by
  rcases CN with⟨_,q⟩|⟨q,_⟩|⟨q,_⟩|⟨q,_⟩|⟨q,_⟩|⟨q,_⟩
  ·exact q
  ·omega
  ·omega
  ·omega
  ·omega
  ·omega
 rcases fS with⟨hc,y,rfl⟩|⟨hc,z,y,rfl⟩
 ·obtain ⟨wS,SK⟩:=aG y (by simp)
  have KQ:=iZ hV zU y wS
  obtain ⟨b4',o4,c4,vy,r,gq,bJ,yQ,kO⟩:=gG.row g1 g2 (i:=0) (y:=y) rfl
  simp only [Nat.zero_mul,Nat.add_zero]at bJ
  rw [←yQ]at bJ
  simp (maxSteps:=4000000)-implicitDefEqProofs+contextual [-X.ev,Hn,cJ,d]
  apply ah
  ·(simp-implicitDefEqProofs [-X.ev];rfl)
  refine (CL (op:=0) (n:=n) (va:=va) (vt:=vt) (ve:=ve) h1 h.vars hn hc).mono ?_
  rintro x H2 ⟨rfl,X2⟩
  have h2:=h1.ext X2
  have yp:=h2.sub.ldn bJ
  have e2:=aR (X2.ldn d) (j:=2) rfl
  rw [gq]at e2
  have B2:=ja.mJ h1 X2
  have u2:=dV (w:=v.w) (V:=p.vars) (S:=[c.store]) y
  simp (maxSteps:=4000000)-implicitDefEqProofs+contextual [-X.ev,e2,yp,w0]
  apply ah
  ·(simp-implicitDefEqProofs [-X.ev];rfl)
  refine (lb h2 hV hS h.vars h.cap kO wS (by omega) (by rw [m2];omega)).mono ?_
  rintro x H3 ⟨rfl,pq,h3,M3,k3⟩
  have B3:=B2.trans (ja.tr (v:=v) h3 M3 k3)
  simp (maxSteps:=4000000)-implicitDefEqProofs+contextual [-X.ev]
  apply ah
  ·(simp-implicitDefEqProofs [-X.ev];rfl)
  refine (jc B3.mh h.hr h.hf h.hs h.hl h.h0 (by omega) (by omega) (by omega) (by omega)).mono ?_
  rintro x H4 ⟨om,dJ,rJ,A4,ha,fX,wz⟩
  have B4:=B3.trans A4
  have e1:=aR (B4.mod.ldn (a:=⟨H.nx,0,none⟩) nb d) (j:=1) rfl
  simp (maxSteps:=4000000)-implicitDefEqProofs+contextual [-X.ev,e1]
  apply ah
  ·(simp-implicitDefEqProofs [-X.ev];rfl)
  refine (nB (n:=n) (i:=0) (a:=GH v.w p.vars [c.store] y) A4.mh hV hS h.vars h.cap hn (by omega) (by simp only [asu];omega)).mono ?_
  rintro x H5 ⟨SO,h5,M5,k5⟩
  have B5:=B4.trans (ja.trW h5 M5 k5)
  have A:=A1.trans B5
  simp (maxSteps:=4000000)-implicitDefEqProofs+contextual [-X.ev]
  have fH:c'=fO p.vars (bT p c (.mk 0 n [y] thn els) (cD l k (.mk 0 n [y] thn els) eP)) n 0 (GH v.w p.vars [c.store] y):=by
   rw [mc,if_neg hc]
   show fO _ _ _ _ (GH p.w p.vars [c.store] y)=_
   rw [oJ]
  subst fH
  have eT:(fO p.vars (bT p c (.mk 0 n [y] thn els) (cD l k (.mk 0 n [y] thn els) eP)) n 0 (GH v.w p.vars [c.store] y)).store=c.store.set (bk p.vars n+0%al p.vars n).toNat (GH v.w p.vars [c.store] y):=rfl
  have A7:(fO p.vars (bT p c (.mk 0 n [y] thn els) (cD l k (.mk 0 n [y] thn els) eP)) n 0 (GH v.w p.vars [c.store] y)).trace=c.trace++nw v.w p.vars [c.store] y++if 1<al p.vars n then [⟨2,n,0%al p.vars n⟩]else []:=by
   show c.trace++eI p.w p.vars [c.store] [y]++_=_
   rw [oJ];simp [eI]
  rw [←eT,←A7]at A
  refine ⟨?_,_,dJ,A,fun _=>⟨rJ,ha,fX.symm⟩,by omega,⟨m1,?_,m3,m4,m5,m6⟩,rfl,rfl,rfl,rfl⟩
  ·exact h.ov
  ·show v.cost+aB y=c.cost+aw [y]
   rw [m2];simp [aw]
 ·obtain ⟨wS,SK⟩:=aG y (by simp)
  obtain ⟨hfz,hnz⟩:=aG z (by simp)
  have KQ:=iZ hV zU y wS
  have hwz:=iZ hV zU z hfz
  obtain ⟨b4',o4,c4,vy,r,gq,bJ,yQ,kO⟩:=gG.row g1 g2 (i:=1) (y:=y) rfl
  simp only [Nat.one_mul]at bJ
  rw [←yQ]at bJ
  simp (maxSteps:=4000000)-implicitDefEqProofs+contextual [-X.ev,Hn,cJ,d]
  apply ah
  ·(simp-implicitDefEqProofs [-X.ev];rfl)
  refine (CM (op:=0) (n:=n) (va:=va) (vt:=vt) (ve:=ve) h1 hV hS h.vars h.cap hn hc g1 g2 (y:=z) rfl hfz (by omega) (by rw [m2];omega)).mono ?_
  rintro x H2 ⟨rfl,vt1,h2,M2,k2⟩
  have yp:=h2.sub.ldn bJ
  have B2:=ja.tr (v:=v) h2 M2 k2
  have e2:=aR (B2.mod.ldn (a:=⟨H.nx,0,none⟩) nb d) (j:=2) rfl
  rw [gq]at e2
  have u1:=dV (w:=v.w) (V:=p.vars) (S:=[c.store]) z
  have u2:=dV (w:=v.w) (V:=p.vars) (S:=[c.store]) y
  have pz:=ec z
  simp (maxSteps:=4000000)-implicitDefEqProofs+contextual [-X.ev,e2,yp,YF]
  apply ah
  ·(simp-implicitDefEqProofs [-X.ev];rfl)
  refine (lb h2 hV hS h.vars h.cap kO wS (by rw [asu];omega) (by show 0≤v.cost+aB z∧v.cost+aB z+aB y≤2^60;rw [m2];omega)).mono ?_
  rintro x H3 ⟨rfl,pq,h3,M3,k3⟩
  have B3:=B2.trans (ja.tr (v:={v with vt:=vt1,cost:=v.cost+aB z}) h3 M3 k3)
  simp (maxSteps:=4000000)-implicitDefEqProofs+contextual [-X.ev]
  apply ah
  ·(simp-implicitDefEqProofs [-X.ev];rfl)
  refine (jc B3.mh h.hr h.hf h.hs h.hl h.h0 (by omega) (by omega) (by omega) (by omega)).mono ?_
  rintro x H4 ⟨om,dJ,rJ,A4,ha,fX,wz⟩
  have B4:=B3.trans A4
  have e1:=aR (B4.mod.ldn (a:=⟨H.nx,0,none⟩) nb d) (j:=1) rfl
  simp (maxSteps:=4000000)-implicitDefEqProofs+contextual [-X.ev,e1]
  apply ah
  ·(simp-implicitDefEqProofs [-X.ev];rfl)
  refine (nB (n:=n) (i:=(GH v.w p.vars [c.store] z)) (a:=GH v.w p.vars [c.store] y) A4.mh hV hS h.vars h.cap hn (by omega) (by simp only [asu];omega)).mono ?_
  rintro x H5 ⟨SO,h5,M5,k5⟩
  have B5:=B4.trans (ja.trW h5 M5 k5)
  have A:=A1.trans B5
  simp (maxSteps:=4000000)-implicitDefEqProofs+contextual [-X.ev]
  have fH:c'=fO p.vars (bT p c (.mk 0 n [z,y] thn els) (cD l k (.mk 0 n [z,y] thn els) eP)) n (GH v.w p.vars [c.store] z) (GH v.w p.vars [c.store] y):=by
   rw [mc,if_pos hc]
   show fO _ _ _ _ (GH p.w p.vars [c.store] y)=_
   rw [oJ];rfl
  subst fH
  have eT:(fO p.vars (bT p c (.mk 0 n [z,y] thn els) (cD l k (.mk 0 n [z,y] thn els) eP)) n (GH v.w p.vars [c.store] z) (GH v.w p.vars [c.store] y)).store=c.store.set (bk p.vars n+(GH v.w p.vars [c.store] z)%al p.vars n).toNat (GH v.w p.vars [c.store] y):=rfl
  have A7:(fO p.vars (bT p c (.mk 0 n [z,y] thn els) (cD l k (.mk 0 n [z,y] thn els) eP)) n (GH v.w p.vars [c.store] z) (GH v.w p.vars [c.store] y)).trace=c.trace++nw v.w p.vars [c.store] z++nw v.w p.vars [c.store] y++if 1<al p.vars n then [⟨2,n,(GH v.w p.vars [c.store] z)%al p.vars n⟩]else []:=by
   show c.trace++eI p.w p.vars [c.store] [z,y]++_=_
   rw [oJ];simp [eI]
  rw [←eT,←A7]at A
  refine ⟨?_,_,dJ,A,fun _=>⟨rJ,ha,fX.symm⟩,by omega,⟨m1,?_,m3,m4,m5,m6⟩,rfl,rfl,rfl,rfl⟩
  ·exact h.ov
  ·show v.cost+aB z+aB y=c.cost+aw [z,y]
   rw [m2];simp [aw];omega
end
end Go.Proofs.YtppcmpmnglaleaaGreatDoor.A
namespace Go.Proofs.YtppcmpmnglaleaaGreatDoor.A
open Go
section
variable{G H:AH} {m:Nat} {p:bf} {ps:List Int} {v:MV} {c:ek} {dw rs:List (List Value)} {eP:List (List bD×Int)} {vl:Value} {cs:List Value} {k:Int} {s:bD} {l:List bD}
theorem IP {n:Int} {args:List b9} {thn els:List bD} (h:KU G H m p ps v c dw eP vl cs rs k (.mk 4 n args thn els) l):
 lS G H 112 m p ps v c dw.length eP cs k (.mk 4 n args thn els) l:=by
 intro c' mc
 rw [cL,if_neg (by omega),if_neg (by omega),if_neg (by omega),if_neg (by omega),if_pos rfl]at mc
 rw [show(bT p c (.mk 4 n args thn els) (cD l k (.mk 4 n args thn els) eP)).used=c.used from rfl]at mc
 obtain ⟨aG,_,_,CN⟩:=gw h.row
 obtain ⟨m1,m2,m3,m4,m5,m6⟩:=h.mt
 have jF:=h.hs
 cases jF with| @mk _ _ va vt ve ra rt re _ _ _ i1 i2 i3 i4 i5 g1 g2 g3 g4 g5 g6 g7 g8=>
 refine Ca.aS (F:=Ho) rfl rfl rfl ?_
 have hw:=h.mh.wf
 have X1:=Ext.alloc H (.cells 5 [.int .i64 4,.int .i64 n,va,vt,ve])
 have d0:(H.alloc (.cells 5 [.int .i64 4,.int .i64 n,va,vt,ve])).ld ⟨H.nx,0,none⟩=some (.int .i64 4):=ak hw rfl
 have d1:(H.alloc (.cells 5 [.int .i64 4,.int .i64 n,va,vt,ve])).ld ⟨H.nx,1,none⟩=some (.int .i64 n):=ak hw rfl
 have d2:(H.alloc (.cells 5 [.int .i64 4,.int .i64 n,va,vt,ve])).ld ⟨H.nx,2,none⟩=some va:=ak hw rfl
 have d3:(H.alloc (.cells 5 [.int .i64 4,.int .i64 n,va,vt,ve])).ld ⟨H.nx,3,none⟩=some vt:=ak hw rfl
 have d4:(H.alloc (.cells 5 [.int .i64 4,.int .i64 n,va,vt,ve])).ld ⟨H.nx,4,none⟩=some ve:=ak hw rfl
 have d:(H.alloc (.cells 5 [.int .i64 4,.int .i64 n,va,vt,ve])).ldn ⟨H.nx,0,none⟩ 5=some [.int .i64 4,.int .i64 n,va,vt,ve]:=bl hw 5 rfl
 generalize cJ:H.alloc (.cells 5 [.int .i64 4,.int .i64 n,va,vt,ve])=H1 at X1 d0 d1 d2 d3 d4 d
 have bP:=X1.wf hw
 have h1:=h.mh.ext X1
 have b7:=h.b7
 have b5:=h.b5
 have b6:=h.b6
 have b1:=h.b1
 have b2:=h.b2
 have b3:=h.b3
 have b4:=h.b4
 have b8:=h.b8
 have yS:=h.w
 have oJ:=h.w.symm
 have hV:=h.head
 have hS:=h.store
 rw [oJ]at hV hS
 have A1:=ja.mJ h.mh X1
 have eB:1≤v.w∧v.w≤8:=⟨(aF hV).1,(aF hV).2.1⟩
 have hp:=fJ eB
 have zU:EO v.w p.vars [c.store]:=fun t ht=>by simp at ht;subst ht;exact hS
 have out:∀b,(b=m∨aX v.vt b)→b≠H.nx:=fun b hb e=>by
  subst e
  rcases hb with q|q
  ·have:=h.mh.lt (.inl q);omega
  ·have:=h.mh.tr.lt q;omega
 rw [oJ]at aG
 have nb:¬ Mf m v H.nx:=fun q=>by have:=h.mh.lt q;omega
 have w0:IntKind.i64.wrap 0=0:=rfl
 have YF:IntKind.i64.wrap 1=1:=rfl
 obtain ⟨hn,fS⟩:(0≤n∧n<p.vars.length)∧((¬ 1<al p.vars n∧args=[])∨(1<al p.vars n∧∃a,args=[a])):=by
  rcases CN with⟨q,_⟩|⟨q,_⟩|⟨q,_⟩|⟨q,_⟩|⟨_,q⟩|⟨q,_⟩
  ·omega
  ·omega
  ·omega
  ·omega
  ·exact q
  ·omega
 obtain ⟨pa,pc,YG⟩:=h.bS.len
 rcases fS with⟨hc,rfl⟩|⟨hc,y,rfl⟩
 ·simp (maxSteps:=4000000)-implicitDefEqProofs+contextual [-X.ev,Ho,cJ,d]
  apply ah
  ·(simp-implicitDefEqProofs [-X.ev];rfl)
  refine (CL (op:=4) (n:=n) (va:=va) (vt:=vt) (ve:=ve) h1 h.vars hn hc).mono ?_
  rintro x H2 ⟨rfl,X2⟩
  have h2:=h1.ext X2
  have B2:=ja.mJ h1 X2
  have f5:=aI h2.get h2.n0 (k:=5) (v:=v.vp) rfl
  have f11:=aI h2.get h2.n0 (k:=11) (v:=.int .i64 v.used) rfl
  rw [YG]at f5
  rw [m3]at f11
  by_cases q:ps.length≤c.used
  ·have hq:(c.used:Int)=(ps.length:Int):=by omega
   rw [if_pos q]at mc
   simp (maxSteps:=4000000)-implicitDefEqProofs+contextual [-X.ev,f5,f11,m3,hq,bm,aJ,aK]
   apply ah
   ·(simp-implicitDefEqProofs [-X.ev];rfl)
   refine (su (how:=4) (n:=k) B2.mh).mono ?_
   rintro x H3 ⟨rfl,A3⟩
   have A:=(A1.trans B2).trans A3
   simp (maxSteps:=4000000)-implicitDefEqProofs+contextual [-X.ev]
   subst mc
   have A7:(dY (bT p c (.mk 4 n [] thn els) (cD l k (.mk 4 n [] thn els) eP)) 4 k).trace=c.trace:=by
    show c.trace++eI p.w p.vars [c.store] []=_
    rw [oJ];simp [eI]
   rw [←A7]at A
   refine ⟨?_,_,_,A,fun q=>by simp [dY]at q,by simp,⟨rfl,?_,m3,rfl,m5,rfl⟩,rfl,rfl,rfl,rfl⟩
   ·rfl
   ·show v.cost=c.cost+aw []
    rw [m2];simp [aw]
  ·have hq:¬ (c.used:Int)=(ps.length:Int):=by omega
   rw [if_neg q]at mc
   simp (maxSteps:=4000000)-implicitDefEqProofs+contextual [-X.ev,f5,f11,m3,hq,bm,aJ,aK]
   apply ah
   ·(simp-implicitDefEqProofs [-X.ev];rfl)
   refine (jc B2.mh h.hr h.hf h.hs h.hl h.h0 (by omega) (by omega) (by omega) (by omega)).mono ?_
   rintro x H3 ⟨om,dJ,rJ,A3,ha,fX,wz⟩
   have B3:=B2.trans A3
   have g11:=aI A3.mh.get A3.mh.n0 (k:=11) (v:=.int .i64 v.used) rfl
   obtain ⟨H4,s4,A4,zP,oQ⟩:=A3.mh.cell (v':={v with vf:=om,used:=(c.used:Int)+1}) 11 (.int .i64 ((c.used:Int)+1)) (by omega) rfl rfl rfl rfl rfl
   have B4:=B3.trans A4
   have w2:IntKind.i64.wrap ((c.used:Int)+1)=(c.used:Int)+1:=ai ⟨by omega,by omega⟩
   have w3:IntKind.i64.wrap (c.used:Int)=(c.used:Int):=ai ⟨by omega,by omega⟩
   have e1:=aR (B4.mod.ldn (a:=⟨H.nx,0,none⟩) nb d) (j:=1) rfl
   have h4:=A4.mh
   obtain ⟨a,YH⟩:∃a,ps[c.used]?=some a:=⟨_,asl (by omega)⟩
   have gq:ei ps c.used=a:=by simp [ei,YH]
   obtain ⟨bp,op_,cp_,Pv,eh⟩:=(eM.sub h4.sub h.bS).at YH
   have YI:=aI h4.get h4.n0 (k:=5) (v:=v.vp) rfl
   have SP:=aI h4.get h4.n0 (k:=11) (v:=.int .i64 ((c.used:Int)+1)) rfl
   rw [Pv]at YI
   have c8:(c.used:Int)<(ps.length:Int):=by omega
   rw [m3]at g11
   simp (maxSteps:=4000000)-implicitDefEqProofs+contextual [-X.ev,g11,w2,s4,e1,YI,SP,w3,c8,eh]
   apply ah
   ·(simp-implicitDefEqProofs [-X.ev];rfl)
   refine (nB (n:=n) (i:=0) (a:=a) h4 hV hS h.vars h.cap hn (by omega) (by omega)).mono ?_
   rintro x H5 ⟨SO,h5,M5,k5⟩
   have A45:=ja.trW h5 M5 k5
   have A:=A1.trans (B4.trans A45)
   have PJ:=M5.nx
   have KT:=M5.n0
   simp (maxSteps:=4000000)-implicitDefEqProofs+contextual [-X.ev,bm,aJ,aK,PJ,KT]
   have fH:c'=fO p.vars {bT p c (.mk 4 n [] thn els) (cD l k (.mk 4 n [] thn els) eP)with used:=c.used+1} n 0 a:=by
    rw [mc,if_neg hc,gq]
   subst fH
   have eT:(fO p.vars {bT p c (.mk 4 n [] thn els) (cD l k (.mk 4 n [] thn els) eP)with used:=c.used+1} n 0 a).store=c.store.set (bk p.vars n+0%al p.vars n).toNat a:=rfl
   have A7:(fO p.vars {bT p c (.mk 4 n [] thn els) (cD l k (.mk 4 n [] thn els) eP)with used:=c.used+1} n 0 a).trace=c.trace++if 1<al p.vars n then [⟨2,n,0%al p.vars n⟩]else []:=by
    show c.trace++eI p.w p.vars [c.store] []++_=_
    rw [oJ];simp [eI]
   rw [←eT,←A7]at A
   refine ⟨?_,_,dJ,A,fun _=>⟨rJ,ha,fX.symm⟩,by omega,⟨m1,?_,by show(c.used:Int)+1=((c.used+1:Nat):Int);omega,m4,m5,m6⟩,rfl,rfl,rfl,rfl⟩
   ·exact h.ov
   ·show v.cost=c.cost+aw []
    rw [m2];simp [aw]
 ·obtain ⟨wS,SK⟩:=aG y (by simp)
  have KQ:=iZ hV zU y wS
  simp (maxSteps:=4000000)-implicitDefEqProofs+contextual [-X.ev,Ho,cJ,d]
  apply ah
  ·(simp-implicitDefEqProofs [-X.ev];rfl)
  refine (CM (op:=4) (n:=n) (va:=va) (vt:=vt) (ve:=ve) h1 hV hS h.vars h.cap hn hc g1 g2 (y:=y) rfl wS (by omega) (by rw [m2];omega)).mono ?_
  rintro x H2 ⟨rfl,vt1,h2,M2,k2⟩
  have B2:=ja.tr (v:=v) h2 M2 k2
  have u1:=dV (w:=v.w) (V:=p.vars) (S:=[c.store]) y
  have f5:=aI h2.get h2.n0 (k:=5) (v:=v.vp) rfl
  have f11:=aI h2.get h2.n0 (k:=11) (v:=.int .i64 v.used) rfl
  rw [YG]at f5
  rw [m3]at f11
  by_cases q:ps.length≤c.used
  ·have hq:(c.used:Int)=(ps.length:Int):=by omega
   rw [if_pos q]at mc
   simp (maxSteps:=4000000)-implicitDefEqProofs+contextual [-X.ev,f5,f11,m3,hq,bm,aJ,aK]
   apply ah
   ·(simp-implicitDefEqProofs [-X.ev];rfl)
   refine (su (how:=4) (n:=k) B2.mh).mono ?_
   rintro x H3 ⟨rfl,A3⟩
   have A:=(A1.trans B2).trans A3
   simp (maxSteps:=4000000)-implicitDefEqProofs+contextual [-X.ev]
   subst mc
   have A7:(dY (bT p c (.mk 4 n [y] thn els) (cD l k (.mk 4 n [y] thn els) eP)) 4 k).trace=c.trace++nw v.w p.vars [c.store] y:=by
    show c.trace++eI p.w p.vars [c.store] [y]=_
    rw [oJ];simp [eI]
   rw [←A7]at A
   refine ⟨?_,_,_,A,fun q=>by simp [dY]at q,by simp,⟨rfl,?_,m3,rfl,m5,rfl⟩,rfl,rfl,rfl,rfl⟩
   ·rfl
   ·show v.cost+aB y=c.cost+aw [y]
    rw [m2];simp [aw]
  ·have hq:¬ (c.used:Int)=(ps.length:Int):=by omega
   rw [if_neg q]at mc
   simp (maxSteps:=4000000)-implicitDefEqProofs+contextual [-X.ev,f5,f11,m3,hq,bm,aJ,aK]
   apply ah
   ·(simp-implicitDefEqProofs [-X.ev];rfl)
   refine (jc B2.mh h.hr h.hf h.hs h.hl h.h0 (by omega) (by omega) (by omega) (by omega)).mono ?_
   rintro x H3 ⟨om,dJ,rJ,A3,ha,fX,wz⟩
   have B3:=B2.trans A3
   have g11:=aI A3.mh.get A3.mh.n0 (k:=11) (v:=.int .i64 v.used) rfl
   obtain ⟨H4,s4,A4,zP,oQ⟩:=A3.mh.cell (v':={v with vt:=vt1,cost:=v.cost+aB y,vf:=om,used:=(c.used:Int)+1}) 11 (.int .i64 ((c.used:Int)+1)) (by omega) rfl rfl rfl rfl rfl
   have B4:=B3.trans A4
   have w2:IntKind.i64.wrap ((c.used:Int)+1)=(c.used:Int)+1:=ai ⟨by omega,by omega⟩
   have w3:IntKind.i64.wrap (c.used:Int)=(c.used:Int):=ai ⟨by omega,by omega⟩
   have e1:=aR (B4.mod.ldn (a:=⟨H.nx,0,none⟩) nb d) (j:=1) rfl
   have h4:=A4.mh
   obtain ⟨a,YH⟩:∃a,ps[c.used]?=some a:=⟨_,asl (by omega)⟩
   have gq:ei ps c.used=a:=by simp [ei,YH]
   obtain ⟨bp,op_,cp_,Pv,eh⟩:=(eM.sub h4.sub h.bS).at YH
   have YI:=aI h4.get h4.n0 (k:=5) (v:=v.vp) rfl
   have SP:=aI h4.get h4.n0 (k:=11) (v:=.int .i64 ((c.used:Int)+1)) rfl
   rw [Pv]at YI
   have c8:(c.used:Int)<(ps.length:Int):=by omega
   rw [m3]at g11
   simp (maxSteps:=4000000)-implicitDefEqProofs+contextual [-X.ev,g11,w2,s4,e1,YI,SP,w3,c8,eh]
   apply ah
   ·(simp-implicitDefEqProofs [-X.ev];rfl)
   refine (nB (n:=n) (i:=(GH v.w p.vars [c.store] y)) (a:=a) h4 hV hS h.vars h.cap hn (by omega) (by simp only [asu];omega)).mono ?_
   rintro x H5 ⟨SO,h5,M5,k5⟩
   have A45:=ja.trW h5 M5 k5
   have A:=A1.trans (B4.trans A45)
   have PJ:=M5.nx
   have KT:=M5.n0
   simp (maxSteps:=4000000)-implicitDefEqProofs+contextual [-X.ev,bm,aJ,aK,PJ,KT]
   have fH:c'=fO p.vars {bT p c (.mk 4 n [y] thn els) (cD l k (.mk 4 n [y] thn els) eP)with used:=c.used+1} n (GH v.w p.vars [c.store] y) a:=by
    rw [mc,if_pos hc,gq]
    show fO _ _ _ (GH p.w p.vars [c.store] y) _=_
    rw [oJ]
   subst fH
   have eT:(fO p.vars {bT p c (.mk 4 n [y] thn els) (cD l k (.mk 4 n [y] thn els) eP)with used:=c.used+1} n (GH v.w p.vars [c.store] y) a).store=c.store.set (bk p.vars n+(GH v.w p.vars [c.store] y)%al p.vars n).toNat a:=rfl
   have A7:(fO p.vars {bT p c (.mk 4 n [y] thn els) (cD l k (.mk 4 n [y] thn els) eP)with used:=c.used+1} n (GH v.w p.vars [c.store] y) a).trace=c.trace++nw v.w p.vars [c.store] y++if 1<al p.vars n then [⟨2,n,(GH v.w p.vars [c.store] y)%al p.vars n⟩]else []:=by
    show c.trace++eI p.w p.vars [c.store] [y]++_=_
    rw [oJ];simp [eI]
   rw [←eT,←A7]at A
   refine ⟨?_,_,dJ,A,fun _=>⟨rJ,ha,fX.symm⟩,by omega,⟨m1,?_,by show(c.used:Int)+1=((c.used+1:Nat):Int);omega,m4,m5,m6⟩,rfl,rfl,rfl,rfl⟩
   ·exact h.ov
   ·show v.cost+aB y=c.cost+aw [y]
    rw [m2];simp [aw]
end
end Go.Proofs.YtppcmpmnglaleaaGreatDoor.A
namespace Go.Proofs.YtppcmpmnglaleaaGreatDoor.A
open Go
structure Inv (p:bf) (ps:List Int) (c:ek):Prop where
 head:aC p.w p.vars=true
 store:aO p.w p.vars c.store=true
 words:∀a∈ps,0≤a∧a<2^p.w.toNat
 used:c.used≤ps.length∧ps.length≤16
 Vi:ar p.body≤400
 todo:∀it∈c.todo,0≤it.1∧it.1+bw it.2≤ar p.body∧fm p.w p.vars it.2=true∧bu it.2≤400
 fuel:0≤c.fuel∧c.fuel≤4096
 tr:(c.trace.length:Int)+500*c.fuel≤2^30
 ou:(c.outs.length:Int)+c.fuel≤2^30
 co:0≤c.cost∧c.cost+500*c.fuel≤2^40
theorem pY {w:Int} {V:List Vr} {C N:Int}:∀(l:List bD) (k:Int),0≤k→k+ar l≤C→gu w V l=true→av l≤N→∀it∈bK l k,0≤it.1∧it.1+bw it.2≤C∧fm w V it.2=true∧bu it.2≤N
 |[],k,_,_,_,_,it,h=>by simp [bK]at h
 |s::l,k,hk,hC,hr,hn,it,h=>by
  rw [lR]at h
  rw [ar]at hC
  rw [av]at hn
  rw [gu,aso]at hr
  have h1:=aQ l
  have h2:=kA s
  have h3:=ku s
  have h4:=bF l
  rcases List.mem_cons.1 h with rfl|h
  ·exact ⟨hk,by show k+bw s≤C;omega,hr.1,by show bu s≤N;omega⟩
  ·exact pY l _ (by omega) (by omega) hr.2 (by omega) it h
theorem yT {w:Int} {V:List Vr} {s:List Int} (eB:1≤w∧w≤8) (h:aO w V s=true) (k:Nat) {a:Int} (ha:0≤a∧a<2^w.toNat):aO w V (s.set k a)=true:=by
 simp only [aO,aso,asx,asB,List.length_set]at h⊢
 refine ⟨h.1,fun b hb=>?_⟩
 rcases List.mem_or_eq_of_mem_set hb with q|q
 ·exact h.2 b q
 ·rw [q];exact nv eB ha
theorem CO {p:bf} {ps:List Int} {c:ek} {n i a:Int} (h:Inv p ps c) (h':(c.trace.length:Int)+1+500*c.fuel≤2^30) (ha:0≤a∧a<2^p.w.toNat):Inv p ps (fO p.vars c n i a)where
 head:=h.head
 store:=yT ⟨(aF h.head).1,(aF h.head).2.1⟩ h.store _ ha
 words:=h.words
 used:=h.used
 Vi:=h.Vi
 todo:=h.todo
 fuel:=h.fuel
 tr:=by
  show((c.trace++_).length:Int)+500*c.fuel≤2^30
  rw [asu]
  split
  ·simp;omega
  ·simp;have:=h.tr;omega
 ou:=h.ou
 co:=h.co
theorem mL {p:bf} {ps:List Int} {c:ek} (h:Inv p ps c) (e n:Int):Inv p ps (dY c e n):={h with todo:=by simp [dY]}
theorem vx {p:bf} {S:List (List Int)} (hV:aC p.w p.vars=true) (hS:EO p.w p.vars S):∀(l:List b9),(∀e∈l,dA p.w p.vars S.length e=true)→∀i,i<l.length→0≤ei (bU p.w p.vars S l) i∧ei (bU p.w p.vars S l) i<2^p.w.toNat:=by
 intro l hl i hi
 have:ei (bU p.w p.vars S l) i=GH p.w p.vars S (l[i]):=by
  unfold ei
  rw [tJ,asl hi];rfl
 rw [this]
 exact iZ hV hS _ (hl _ (List.getElem_mem hi))
theorem jd {w:Int} {V:List Vr} {S:List (List Int)}:∀l:List b9,(bU w V S l).length=l.length
 |[]=>rfl
 |e::l=>by simp [bU,jd l]
theorem yU {p:bf} {ps:List Int} {c:ek} (h:Inv p ps c):Inv p ps (bN p ps c):=by
 unfold bN
 by_cases ho:c.over=true
 ·rw [if_pos ho];exact h
 rw [if_neg ho]
 cases ht:c.todo with
 |nil=>exact h
 |cons it next=>
  obtain ⟨k,s⟩:=it
  show Inv p ps (if c.fuel=0 then _ else _)
  by_cases hf:c.fuel=0
  ·rw [if_pos hf];exact mL h _ _
  rw [if_neg hf]
  obtain ⟨op,n,args,thn,els⟩:=s
  obtain ⟨FY,EV,mb,nz⟩:=h.todo (k,.mk op n args thn els) (by rw [ht];simp)
  obtain ⟨aG,SQ,yQ,CN⟩:=gw mb
  have apF:bw (.mk op n args thn els)=1+ar thn+ar els:=by rw [bw]
  simp only at FY EV nz
  rw [bu]at nz
  have pa:=bc args
  have pt:=bF thn
  have pe:=bF els
  have bt:=aQ thn
  have be:=aQ els
  have hp:=fJ (w:=p.w) ⟨(aF h.head).1,(aF h.head).2.1⟩
  have zU:EO p.w p.vars [c.store]:=fun t ht=>by simp at ht;subst ht;exact h.store
  have Nk:=vx (S:=[c.store]) h.head zU args (fun e he=>(aG e he).1)
  have evb:=jJ (w:=p.w) (V:=p.vars) (S:=[c.store]) (l:=args) (fun e _=>dV e)
  have hfu:=h.fuel
  have A7:=h.tr
  have hou:=h.ou
  have O2:=h.co
  obtain ⟨b,hb⟩:∃b,jn p c (.mk op n args thn els) next=b:=⟨_,rfl⟩
  have e1:b.trace=c.trace++eI p.w p.vars [c.store] args:=by rw [←hb];rfl
  have e2:b.cost=c.cost+1+aw args:=by rw [←hb];rfl
  have e3:b.fuel=c.fuel- 1:=by rw [←hb];rfl
  have e4:b.todo=next:=by rw [←hb];rfl
  have e5:b.outs=c.outs:=by rw [←hb];rfl
  have e6:b.used=c.used:=by rw [←hb];rfl
  have yV:∀it∈next,0≤it.1∧it.1+bw it.2≤ar p.body∧fm p.w p.vars it.2=true∧bu it.2≤400:=fun it A8=>h.todo it (by rw [ht];simp [A8])
  have Hk:(b.trace.length:Int)+99+500*b.fuel≤2^30:=by rw [e1,e3,asu];omega
  have ib:Inv p ps b:={head:=h.head,store:=by rw [←hb];exact h.store,words:=h.words,used:=by rw [e6];exact h.used,Vi:=h.Vi,todo:=by rw [e4];exact yV,fuel:=by rw [e3];omega,tr:=by omega,ou:=by rw [e5,e3];omega,co:=by rw [e2,e3];omega}
  rw [show(bD.mk op n args thn els).args=args from rfl]
  have YJ:=pY (w:=p.w) (V:=p.vars) (C:=ar p.body) (N:=400) thn (k+1) (by omega) (by omega) SQ (by omega)
  have ahr:=pY (w:=p.w) (V:=p.vars) (C:=ar p.body) (N:=400) els (k+1+ar thn) (by omega) (by omega) yQ (by omega)
  have both:∀(l:List kv),(∀it∈l,0≤it.1∧it.1+bw it.2≤ar p.body∧fm p.w p.vars it.2=true∧bu it.2≤400)→∀(e:Ev),Inv p ps {b with trace:=b.trace++[e],todo:=l}:=fun l hl e=>
   {ib with todo:=hl,tr:=by show((b.trace++[e]).length:Int)+500*b.fuel≤2^30;rw [asu];simp;omega}
  have app:∀(l m:List kv),(∀it∈l,0≤it.1∧it.1+bw it.2≤ar p.body∧fm p.w p.vars it.2=true∧bu it.2≤400)→(∀it∈m,0≤it.1∧it.1+bw it.2≤ar p.body∧fm p.w p.vars it.2=true∧bu it.2≤400)→∀it∈l++m,0≤it.1∧it.1+bw it.2≤ar p.body∧fm p.w p.vars it.2=true∧bu it.2≤400:=fun l m hl hm it A8=>(List.mem_append.1 A8).elim (hl it) (hm it)
  rw [hb]
  unfold cL
  by_cases o0:op=0
  ·simp only [if_pos o0]
   have hlen:0<args.length:=by
    rcases CN with⟨_,_,⟨_,a,rfl⟩|⟨_,a,b,rfl⟩⟩|⟨q,_⟩|⟨q,_⟩|⟨q,_⟩|⟨q,_⟩|⟨q,_⟩
    ·simp
    ·simp
    all_goals omega
   exact CO ib (by omega) (Nk _ (by rw [jd];omega))
  simp only [if_neg o0]
  by_cases o1:op=1
  ·simp only [if_pos o1]
   by_cases q:ei (bU p.w p.vars [c.store] args) 0=0
   ·simp only [if_pos q];exact both _ (app _ _ ahr yV) _
   ·simp only [if_neg q];exact both _ (app _ _ YJ yV) _
  simp only [if_neg o1]
  by_cases o2:op=2
  ·simp only [if_pos o2]
   by_cases q:ei (bU p.w p.vars [c.store] args) 0=0
   ·simp only [if_pos q];exact both _ yV _
   ·simp only [if_neg q]
    exact both _ (app _ _ YJ (fun it A8=>by
     rcases List.mem_cons.1 A8 with rfl|A8
     ·exact ⟨FY,EV,mb,by show bu (.mk op n args thn els)≤400;rw [bu];omega⟩
     ·exact yV it A8)) _
  simp only [if_neg o2]
  by_cases o3:op=3
  ·simp only [if_pos o3]
   exact {ib with ou:=by show((b.outs++[_]).length:Int)+b.fuel≤2^30;rw [asu,e5,e3];simp;omega}
  simp only [if_neg o3]
  by_cases o4:op=4
  ·simp only [if_pos o4]
   by_cases q:ps.length≤b.used
   ·simp only [if_pos q];exact mL ib _ _
   ·simp only [if_neg q]
    have hu:=ib.used
    refine CO (c:={b with used:=b.used+1}) {ib with used:=by show b.used+1≤ps.length∧_;omega} (by show(b.trace.length:Int)+1+500*b.fuel≤2^30;omega) ?_
    have:ei ps b.used=ps[b.used]'(by omega):=by simp [ei,asl (show b.used<ps.length by omega)]
    rw [this]
    exact h.words _ (List.getElem_mem _)
  simp only [if_neg o4]
  by_cases o5:op=5
  ·simp only [if_pos o5]
   by_cases q:ei (bU p.w p.vars [c.store] args) 0=0
   ·simp only [if_pos q];exact mL ib _ _
   ·simp only [if_neg q];exact ib
  simp only [if_neg o5]
  by_cases q:ei (bU p.w p.vars [c.store] args) 0=0
  ·simp only [if_pos q];exact mL ib _ _
  ·simp only [if_neg q];exact ib
end Go.Proofs.YtppcmpmnglaleaaGreatDoor.A
