/- Texts that stand one behind the other: S36, S37, S38, S39, S40, S41, S42, S43, S44, S45, S46, S47. -/
import Derived.Test.YtoijnpfpjpefgaaGreatG12
/- A text without what this claim does not need: S36. -/
set_option linter.unusedVariables false
set_option linter.unusedSimpArgs false
set_option maxRecDepth 10000
namespace Go.Proofs.YtoijnpfpjpefgaaGreat.A
open Go
theorem sizeOf_ca {l:List Stm} {vl:Value} {rows:List (List Value)} {H:AH} (hw:H.n0 ≤ H.nx) (hr:Rows H 5 vl rows) (hl:StL H rows l) (hlen:l.length < 2 ^ 40) (hnd:nodesS l < 2 ^ 60) :
  Ca E O 88 [vl] H (fun x H'=>x = .int .i64 (countS l) ∧ Ext H H'):=by
 refine Ca.bodyV (F:=a88) rfl rfl rfl ?_
 obtain ⟨p0,c0,hvl⟩:=hr.len
 rw [hl.length] at hvl
 simp (maxSteps:=4000000) -implicitDefEqProofs +contextual [-X.ev,a88,hvl]
 refine Vk_loop (fun k fr H'=>Ext H H' ∧ ∃ i:Nat,i + k = l.length ∧ fr.get 6 = vl ∧ fr.get 7 = .int .i64 l.length ∧ fr.get 8 = .int .i64 i ∧ fr.get 3 = .int .i64 (countS (l.take i))) ?_ l.length ⟨Ext.refl _,0,by simp,by simp [hvl],by simp,by simp,by simp [countS]⟩
 rintro k fr H2 ⟨X2,i,hi,f6,f7,f8,f3⟩
 have hw2:=X2.wf hw
 have bt:=countS_bound l
 by_cases h:i < l.length
 ·obtain ⟨y,hy⟩:∃ y,l[i]? = some y:=⟨_,List.getElem?_eq_getElem h⟩
  have t1:=nodesS_take hy
  have t2:=nodesS_take_le l (i + 1)
  have t3:=nodesS_take_le l i
  have u1:=countS_take hy
  have u2:=countS_take_le l i
  have u3:=countS_take_le l (i + 1)
  obtain ⟨yop,yn,yargs,ythn,yels⟩:=y
  obtain ⟨b,o,c',yva,yvt,yve,yra,yrt,yre,hv',hldn,_,_,_,_,_,j1,j2,j3,j4,j5,g1,g2,g3,g4,g5,g6⟩:=StL.row (hr.ext X2) (StL.ext X2 hl) hy
  have hyc:StC H2 [.int .i64 yop,.int .i64 yn,yva,yvt,yve] (.mk yop yn yargs ythn yels):=.mk j1 j2 j3 j4 j5 g1 g2 g3 g4 g5 g6
  have f6':=f6
  rw [hv'] at f6'
  obtain ⟨H3,sH3,X3,nxH3,n0H3,q,lH3⟩:=st_new (H:=H2) hw2 (z:=5) (c:=[.int .i64 0,.int .i64 0,.slice none 0 0,.slice none 0 0,.slice none 0 0]) (vs:=[.int .i64 yop,.int .i64 yn,yva,yvt,yve]) rfl
  have q0:H3.ld ⟨H2.nx,0,none⟩ = some (.int .i64 yop):=lH3 0 _ rfl
  have q1:H3.ld ⟨H2.nx,1,none⟩ = some (.int .i64 yn):=lH3 1 _ rfl
  have q2:H3.ld ⟨H2.nx,2,none⟩ = some yva:=lH3 2 _ rfl
  have q3:H3.ld ⟨H2.nx,3,none⟩ = some yvt:=lH3 3 _ rfl
  have q4:H3.ld ⟨H2.nx,4,none⟩ = some yve:=lH3 4 _ rfl
  clear lH3
  replace q:H3.ldn ⟨H2.nx,0,none⟩ 5 = some [.int .i64 yop,.int .i64 yn,yva,yvt,yve]:=q
  have hwH3:=X3.wf hw2
  have w1:IntKind.i64.wrap (countS (l.take i) + countSt (.mk yop yn yargs ythn yels)) = countS (l.take (i + 1)):=by rw [wrap_in ⟨by omega,by omega⟩]; omega
  simp (maxSteps:=4000000) -implicitDefEqProofs +contextual [-X.ev,f6',f3,f7,f8,h,hldn,sH3,q]
  apply Vx_callM
  ·(simp -implicitDefEqProofs [-X.ev]; rfl)
  refine (size_ca _ _ _ H3 (Nat.lt_succ_self _) hwH3 (StC.ext X3 hyc) (by omega)).mono ?_
  rintro x H4 ⟨rfl,X4⟩
  simp (maxSteps:=4000000) -implicitDefEqProofs +contextual [-X.ev,f6',f3,f7,f8,w1]
  rw [wrap_in (n:=(i:Int) + 1) ⟨by omega,by omega⟩]
  exact ⟨k - 1,by omega,(X2.trans X3).trans X4,i + 1,by omega,hv'.symm,by simp,rfl⟩
 rw [List.take_of_length_le (by omega)] at f3
 rw [hvl] at f6
 simp (maxSteps:=4000000) -implicitDefEqProofs +contextual [-X.ev,f6,f3,f7,f8,h]
 exact X2
theorem push_ca {H:AH} {m:Nat} {vf:Value} {rest:List Value} {rows:List (List Value)} {a:Option Addr} {n c:Nat} {k:Int} (hw:H.n0 ≤ H.nx) (gm:H.get m = some (.cells 14 (vf :: rest))) (h0:H.n0 ≤ m) (ow:Ownr H 2 vf rows) (hvm:¬ blk vf m) (hb:rows.length ≤ 2 ^ 40) :
  Ca E O 50 [.pointer (some ⟨m,0,none⟩),.slice a n c,.int .i64 k] H (fun x H'=>∃ vf',H'.get m = some (.cells 14 (vf' :: rest)) ∧ Ownr H' 2 vf' (if n = 0 then rows else rows ++ [[.slice a n c,.int .i64 k]]) ∧ Mod (fun b=>b = m ∨ blk vf b) H H' ∧ ∀ b,blk vf' b → blk vf b ∨ H.nx ≤ b):=by
 refine Ca.bodyV (F:=a50) rfl rfl rfl ?_
 by_cases hn:n = 0
 ·subst hn
  simp (maxSteps:=4000000) -implicitDefEqProofs +contextual [-X.ev,a50]
  exact ⟨vf,gm,ow,Mod.refl _ _,fun b hb=>.inl hb⟩
 ·have hp:0 < n:=by omega
  have l0:=ld_get gm h0 (k:=0) (v:=vf) rfl
  have hb4:=bsl1 (sz:=2) (z:=[.slice none 0 0,.int .i64 0]) (H:=H) (v:=.agg #[.slice a n c,.int .i64 k]) rfl rfl rfl
  simp only [vcells_agg] at hb4
  have X:=Ext.alloc H (.cells 2 [.slice a n c,.int .i64 k])
  obtain ⟨H2,hH2⟩:∃ H2,H.alloc (.cells 2 [.slice a n c,.int .i64 k]) = H2:=⟨_,rfl⟩
  obtain ⟨vf',H3,ha3,o3,M3,k3,n03,nx3,nx3'⟩:=ow.push (bytes:=32) hw (by omega) (r:=[.slice a n c,.int .i64 k]) rfl hH2 (by omega) (by omega)
  rw [hH2] at hb4 X
  have gm3:=M3.get hvm gm
  obtain ⟨H4,s4,M4,nx4,n04,g4⟩:=st_get gm3 (by rw [n03]; exact h0) (k:=0) (vs:=[vf']) (by simp)
  have hsp:splice (vf :: rest) 0 [vf'] = vf' :: rest:=by simp [splice]
  rw [hsp] at g4
  obtain ⟨fa,fc,hfs⟩:=o3.shape
  rw [List.length_append,List.length_singleton] at hfs
  subst hfs
  have l02:=X.ld l0
  have hbu:buildV [.slice none 0 0,.int .i64 0] [(0,1,.slice a n c),(1,1,.int .i64 k)] = some (.agg #[.slice a n c,.int .i64 k]):=rfl
  simp (maxSteps:=4000000) -implicitDefEqProofs +contextual [-X.ev,a50,hp,l0,hbu,hb4,ha3,s4]
  have hnm:∀ b,blk (.slice fa (rows.length + 1) fc) b → ¬ b = m:=by
   intro b hb q
   subst q
   rcases k3 b hb with h | h
   ·exact hvm h
   ·have:=AH.get_lt gm; omega
  refine ⟨_,g4,by rw [if_neg hn]; exact o3.mod M4 hnm,(M3.mono fun x _ hx=>.inr hx).trans (M4.mono fun x _ hx=>.inl hx),k3⟩
theorem mtop_ca {G H:AH} {m:Nat} {vf vl:Value} {rest:List Value} {rows rs:List (List Value)} {cs:List Value} {k:Int} (hw:H.n0 ≤ H.nx) (gm:H.get m = some (.cells 14 (vf :: rest))) (h0:H.n0 ≤ m) (ow:Ownr H 2 vf (rows ++ [[vl,.int .i64 k]])) (hb:rows.length ≤ 2 ^ 40) (X:Sub G H) (hr:Rows G 5 vl (cs :: rs)) :
  Ca E O 51 [.pointer (some ⟨m,0,none⟩)] H (fun x H'=>x = .tuple #[.agg cs.toArray,.int .i64 k,.bool true] ∧ Ext H H'):=by
 refine Ca.bodyV (F:=a51) rfl rfl rfl ?_
 obtain ⟨b,c,rfl,hc,hb0,hbl,hz,hl,_,_⟩:=ow.last
 have l0:=ld_get gm h0 (k:=0) (v:=.slice (some ⟨b,0,none⟩) (rows.length + 1) c) rfl
 have X1:=Ext.alloc H (.cells 5 zS)
 have gR:=get_new H (.cells 5 zS)
 obtain ⟨H1,hH1⟩:∃ H1,H.alloc (.cells 5 zS) = H1:=⟨_,rfl⟩
 rw [hH1] at X1 gR
 have hw1:=X1.wf hw
 have l01:=X1.ld l0
 have hl1:=X1.ldn hl
 obtain ⟨H2,s2,X2,nx2,n02,g2⟩:=var_new hw1 (z:=2) (c:=[.slice none 0 0,.int .i64 0]) (vs:=[vl,.int .i64 k]) rfl
 have hw2:=X2.wf hw1
 have q0:=ld_get g2 (by rw [n02]; exact hw1) (k:=0) (v:=vl) rfl
 have q1:=ld_get g2 (by rw [n02]; exact hw1) (k:=1) (v:=.int .i64 k) rfl
 obtain ⟨b5,o5,c5,hvl,hl5⟩:=((hr.sub X).ext (X1.trans X2)).at (i:=0) (r:=cs) rfl
 rw [List.length_cons] at hvl
 have gR2:=X2.get gR
 have hcl:cs.length = 5:=(ldn_some hl5).2
 obtain ⟨H3,s3,M3,nx3,n03,g3⟩:=st_get gR2 (by rw [n02,X1.n0]; exact hw) (k:=0) (vs:=cs) (by simp [hcl])
 have hsp:splice zS 0 cs = cs:=splice_all _ _ (by rw [hcl]; rfl)
 rw [hsp] at g3
 have l3:H3.ldn ⟨H.nx,0,none⟩ 5 = some cs:=by rw [ldn_get g3 (by rw [n03,n02,X1.n0]; exact hw) (by omega)]; simp [List.take_of_length_le (Nat.le_of_eq hcl)]
 rw [hvl] at q0
 rw [hvl] at s2
 have w1:IntKind.i64.wrap (rows.length:Int) = (rows.length:Int):=wrap_in ⟨by omega,by omega⟩
 have n1:=X1.nx
 have n2:=X2.nx
 have hl5':H2.ldn ⟨b5,o5,none⟩ 5 = some cs:=by simpa using hl5
 have hne:¬ ((rows.length:Int) + 1 = 0):=by omega
 have e1:H1.nx = H.nx + 1:=by rw [← hH1]; rfl
 have hbq:Nat.beq H1.nx H.nx = false:=Bool.eq_false_iff.2 fun h=>by have:=Nat.eq_of_beq_eq_true h; omega
 have hlt:(rows.length:Int) < (rows.length:Int) + 1:=by omega
 simp only [hvl] at hl1
 simp (maxSteps:=4000000) -implicitDefEqProofs +contextual [-X.ev,a51,hH1,l01,hne,hlt,w1,hl1,s2,q0,q1,hl5',s3,l3,okD_of,chain_2,chain_1,X1.n0,n02,n03,nx2,nx3,hcl,AH.alloc_n0,AH.alloc_nx,ckO_2,adrOf,hbq]
 exact (X1.trans X2).mod M3 (fun b hb=>by omega)
theorem mtop_nil {H:AH} {m:Nat} {vf:Value} {rest:List Value} (hw:H.n0 ≤ H.nx) (gm:H.get m = some (.cells 14 (vf :: rest))) (h0:H.n0 ≤ m) (ow:Ownr H 2 vf []) :
  Ca E O 51 [.pointer (some ⟨m,0,none⟩)] H (fun x H'=>x = .tuple #[.agg zS.toArray,.int .i64 0,.bool false] ∧ Ext H H'):=by
 refine Ca.bodyV (F:=a51) rfl rfl rfl ?_
 obtain ⟨fa,fc,rfl⟩:=ow.shape
 have l0:=ld_get gm h0 (k:=0) (v:=.slice fa 0 fc) rfl
 obtain ⟨H2,s2,X2,nx2,n02,g2⟩:=var_new hw (z:=5) (c:=zS) (vs:=zS) rfl
 have X1:=Ext.alloc H (.cells 5 zS)
 obtain ⟨H1,hH1⟩:∃ H1,H.alloc (.cells 5 zS) = H1:=⟨_,rfl⟩
 rw [hH1] at X1 s2
 have l01:=X1.ld l0
 have l3:H2.ldn ⟨H.nx,0,none⟩ 5 = some zS:=by rw [ldn_get g2 (by rw [n02]; exact hw) (by simp)]; rfl
 have hbu:buildV zS [] = some (.agg zS.toArray):=rfl
 simp (maxSteps:=4000000) -implicitDefEqProofs +contextual [-X.ev,a51,hH1,l01,hbu,s2,l3,X2]
theorem cut1 {G H:AH} (X:Sub G H) {vl:Value} {cs:List Value} {rs:List (List Value)} (hr:Rows G 5 vl (cs :: rs)) (hf:Fit G vl):∃ a c,aslice 5 H vl (some (.int .i64 1)) none none = some (.slice a rs.length c) ∧ Rows G 5 (.slice a rs.length c) rs ∧ Fit G (.slice a rs.length c):=by
 obtain ⟨a,n,c,rfl,hc,hz⟩:=hf
 obtain ⟨a',c',e,k⟩:=hr.is
 cases e
 obtain ⟨b,o,ha,hzk⟩:=hz (by simp)
 subst ha
 have hzk2:H.zok b 5 = true:=by
  unfold AH.zok at hzk ⊢
  split at hzk
  ·rename_i hg; rw [X.get _ _ hg]; exact hzk
  ·cases hzk
 simp only [List.length_cons] at hc
 by_cases hc1:c = 1
 ·subst hc1
  have hr0:rs = []:=List.eq_nil_of_length_eq_zero (by omega)
  subst hr0
  exact ⟨some ⟨b,o,some 1⟩,0,rfl,⟨_,_,rfl,by simp⟩,⟨_,_,_,rfl,Nat.le_refl _,fun h=>absurd h (by simp)⟩⟩
 ·refine ⟨some ⟨b,o + 5,none⟩,c - 1,?_,⟨_,_,rfl,fun i r hi=>?_⟩,⟨_,_,_,rfl,by omega,fun _=>⟨b,o + 5,rfl,hzk⟩⟩⟩
  ·have h1:¬ c = 1:=hc1
   have h3:(1:Int) ≤ (rs.length:Int) + 1:=by omega
   have h2:1 ≤ c:=by omega
   simp [aslice,abounds,abnd,h1,h3,hc,hzk2]
   rfl
  ·obtain ⟨b',o',e,hl⟩:=k (i + 1) r (by simpa using hi)
   cases e
   refine ⟨b,o + 5,rfl,?_⟩
   rw [show o + 5 + i * 5 = o + (i + 1) * 5 by omega]
   exact hl
theorem countSt_pos:∀ s:Stm,1 ≤ countSt s
 | .mk op n args thn els=>by have:=countS_bound thn; have:=countS_bound els; rw [countSt]; omega
def dropR (rows rs:List (List Value)) (r:List Value):List (List Value):=if rs.length = 0 then rows else rows ++ [r]
theorem drop_ca {G H:AH} {m:Nat} {vf vl:Value} {rest:List Value} {rows rs:List (List Value)} {cs:List Value} {s:Stm} {k:Int} (hw:H.n0 ≤ H.nx) (gm:H.get m = some (.cells 14 (vf :: rest))) (h0:H.n0 ≤ m) (ow:Ownr H 2 vf (rows ++ [[vl,.int .i64 k]])) (hvm:¬ blk vf m) (hb:rows.length ≤ 2 ^ 40) (X:Sub G H) (hS:∀ b,(b = m ∨ blk vf b) → G.get b = none) (hr:Rows G 5 vl (cs :: rs)) (hf:Fit G vl) (hs:StC G cs s) (hnd:nodesSt s < 2 ^ 60) (hrs:rs.length < 2 ^ 60)
  (hk:0 ≤ k ∧ k ≤ 2 ^ 40) (hk2:countSt s ≤ 2 ^ 40) :
  Ca E O 85 [.pointer (some ⟨m,0,none⟩)] H (fun x H'=>∃ vf',H'.get m = some (.cells 14 (vf' :: rest)) ∧ (∃ vl',Rows G 5 vl' rs ∧ Fit G vl' ∧ Ownr H' 2 vf' (dropR rows rs [vl',.int .i64 (k + countSt s)])) ∧ Mod (fun b=>b = m ∨ blk vf b) H H' ∧ ∀ b,blk vf' b → blk vf b):=by
 refine Ca.bodyV (F:=a85) rfl rfl rfl ?_
 obtain ⟨b,c,rfl,hc,hb0,hbl,hz,hl,hst,_⟩:=ow.last
 have hbm:b ≠ m:=fun q=>hvm ((blk_slice _ _ _ _ _).2 q.symm)
 have l0:=ld_get gm h0 (k:=0) (v:=.slice (some ⟨b,0,none⟩) (rows.length + 1) c) rfl
 obtain ⟨b5,o5,c5,hvl,hl5⟩:=(hr.sub X).at (i:=0) (r:=cs) rfl
 rw [List.length_cons] at hvl
 have hl5':H.ldn ⟨b5,o5,none⟩ 5 = some cs:=by simpa using hl5
 have w1:IntKind.i64.wrap (rows.length:Int) = (rows.length:Int):=wrap_in ⟨by omega,by omega⟩
 have hlt:(rows.length:Int) < (rows.length:Int) + 1:=by omega
 have q0:H.ld ⟨b,rows.length * 2,none⟩ = some vl:=by simpa using ld_of_ldn hl (j:=0) rfl
 have q1:H.ld ⟨b,rows.length * 2 + 1,none⟩ = some (.int .i64 k):=ld_of_ldn hl (j:=1) rfl
 rw [hvl] at q0
 have hs0:StC H cs s:=StC.sub X hs
 have hm0:G.get m = none:=hS m (.inl rfl)
 simp (maxSteps:=4000000) -implicitDefEqProofs +contextual [-X.ev,a85,l0,w1,hlt,q0,q1,hl5',okD_of,chain_2,chain_1]
 apply Vx_callM
 ·(simp -implicitDefEqProofs [-X.ev]; rfl)
 refine (size_ca _ s cs H (Nat.lt_succ_self _) hw hs0 hnd).mono ?_
 rintro x H1 ⟨rfl,X1⟩
 have hw1:=X1.wf hw
 have ct:=countSt_pos s
 have gm1:=X1.get gm
 have w2:IntKind.i64.wrap (k + countSt s) = k + countSt s:=wrap_in ⟨by omega,by omega⟩
 obtain ⟨b',c',e,_,hb1,hbl1,hz1,hl1,hst1,_⟩:=(ow.ext X1).last
 cases e
 obtain ⟨H2,s2,o2,M2,nx2,n02⟩:=hst1 1 (.int .i64 (k + countSt s)) (by omega)
 replace o2:Ownr H2 2 (.slice (some ⟨b,0,none⟩) (rows.length + 1) c) (rows ++ [[vl,.int .i64 (k + countSt s)]]):=o2
 have gm2:=M2.get (fun q=>hbm q.symm) gm1
 have X02:Sub G H2:=(X.exto X1).mod M2 (fun q hq=>hS q (.inr ((blk_slice _ _ _ _ _).2 hq)))
 obtain ⟨a',c'',hcut,hr',hf'⟩:=cut1 X02 hr hf
 obtain ⟨b',c',e,_,hb2,hbl2,hz2,hl2,hst2,_⟩:=o2.last
 cases e
 have p0:H2.ld ⟨b,rows.length * 2,none⟩ = some vl:=by simpa using ld_of_ldn hl2 (j:=0) rfl
 obtain ⟨H3,s3,o3,M3,nx3,n03⟩:=hst2 0 (.slice a' rs.length c'') (by omega)
 replace o3:Ownr H3 2 (.slice (some ⟨b,0,none⟩) (rows.length + 1) c) (rows ++ [[.slice a' rs.length c'',.int .i64 (k + countSt s)]]):=o3
 have gm3:=M3.get (fun q=>hbm q.symm) gm2
 obtain ⟨b',c',e,hc3,hb3,hbl3,hz3,hl3,hst3,o3'⟩:=o3.last
 cases e
 have p3:H3.ld ⟨b,rows.length * 2,none⟩ = some (.slice a' rs.length c''):=by simpa using ld_of_ldn hl3 (j:=0) rfl
 have s3':H2.st ⟨b,rows.length * 2,none⟩ [.slice a' rs.length c''] = some H3:=s3
 rw [hvl] at p0 hcut
 have q01:=X1.ld q0
 have e03:H3.n0 = H.n0:=n03.trans (n02.trans X1.n0)
 have M13:Mod (fun b'=>b' = m ∨ blk (.slice (some ⟨b,0,none⟩) (rows.length + 1) c) b') H H3:=(Mod.of_ext X1).trans ((M2.mono fun x _ hx=>.inr ((blk_slice _ _ _ _ _).2 hx)).trans (M3.mono fun x _ hx=>.inr ((blk_slice _ _ _ _ _).2 hx)))
 have q1n:=ld_ldn.1 q1
 have q1n1:=X1.ldn q1n
 have x1x:=X1.nx
 have x1n:=X1.n0
 by_cases hr0:(rs.length:Int) = 0
 ·obtain ⟨H4,s4,M4,nx4,n04,g4⟩:=st_get gm3 (by rw [e03]; exact h0) (k:=0) (vs:=[.slice (some ⟨b,0,none⟩) rows.length c]) (by simp)
  have hsp:splice (.slice (some ⟨b,0,none⟩) (rows.length + 1) c :: rest) 0 [.slice (some ⟨b,0,none⟩) rows.length c] = .slice (some ⟨b,0,none⟩) rows.length c :: rest:=by simp [splice]
  rw [hsp] at g4
  have l3:=ld_get gm3 (by rw [e03]; exact h0) (k:=0) (v:=.slice (some ⟨b,0,none⟩) (rows.length + 1) c) rfl
  have hsl:aslice 2 H3 (.slice (some ⟨b,0,none⟩) (rows.length + 1) c) none (some (.int .i64 rows.length)) none = some (.slice (some ⟨b,0,none⟩) rows.length c):=by
   have h1:¬ c = 0:=by omega
   have h2:rows.length ≤ c:=by omega
   have h3:(rows.length:Int) ≤ (c:Int):=by omega
   simp [aslice,abounds,abnd,h1,h2,h3]
   rfl
  simp (maxSteps:=4000000) -implicitDefEqProofs +contextual [-X.ev,q01,w2,s2,p0,hcut,s3',p3,l3,w1,hsl,s4,hr0,q1n,q1n1,x1x,x1n,n02,nx2,okD_of,chain_2,chain_1]
  refine ⟨⟨n04.symm,by omega⟩,_,g4,⟨_,hr',hf',?_⟩,M13.trans (M4.mono fun x _ hx=>.inl hx),fun q hq=>?_⟩
  ·rw [dropR,if_pos (by omega)]
   exact o3'.mod M4 (fun q hq e=>hbm (by rw [blk_slice] at hq; omega))
  ·rw [blk_slice] at hq ⊢; exact hq
 ·have hr2:¬ rs = []:=fun q=>hr0 (by rw [q]; rfl)
  simp (maxSteps:=4000000) -implicitDefEqProofs +contextual [-X.ev,q01,w2,s2,p0,hcut,s3',p3,hr2,q1n,q1n1,x1x,x1n,n02,nx2,okD_of,chain_2,chain_1]
  refine ⟨_,gm3,⟨_,hr',hf',?_⟩,M13,fun q hq=>hq⟩
  rw [dropR,if_neg (by omega)]
  exact o3
end Go.Proofs.YtoijnpfpjpefgaaGreat.A
/- A text without what this claim does not need: S37. -/
set_option linter.unusedVariables false
set_option linter.unusedSimpArgs false
set_option maxRecDepth 10000
namespace Go.Proofs.YtoijnpfpjpefgaaGreat.A
open Go
def Cap (v:Value):Prop:=∃ a n c,v = .slice a n c ∧ n ≤ c
theorem Own.cap {H:AH} {sz:Nat} {v:Value} {rows:List (List Value)} (h:Own H sz v rows):Cap v:=by
 rcases h.is with ⟨rfl,_⟩ | ⟨b,rfl,_⟩
 ·exact ⟨_,_,_,rfl,Nat.le_refl _⟩
 ·exact ⟨_,_,_,rfl,Nat.le_refl _⟩
theorem Mod.then {R R':Nat → Prop} {H H1 H2:AH} (h:Mod R H H1) (k:Mod R' H1 H2) (hs:∀ b,b < H.nx → R' b → R b):Mod R H H2 :=
 ⟨k.n0.trans h.n0,Nat.le_trans h.nx k.nx,fun b hb hr=>(k.old b (Nat.lt_of_lt_of_le hb h.nx) fun q=>hr (hs b hb q)).trans (h.old b hb hr)⟩
theorem Vars.sub {G H:AH} (X:Sub G H) {v:Value} {l:List Vr} (h:Vars G v l):Vars H v l:=Rows.sub X h
theorem firstV_add {V:List Vr} {i:Nat} {y:Vr} (hy:V[i]? = some y):firstV V ((i + 1:Nat):Int) = IntKind.i64.wrap (firstV V (i:Int) + y.cells):=by
 simp only [firstV,Int.toNat_natCast]
 rw [List.take_add_one]
 simp [wsum,hy,List.foldl_append]
theorem cutV {H:AH} {vv:Value} {V:List Vr} {n:Int} (hv:Vars H vv V) (hcap:Cap vv) (hn:0 ≤ n ∧ n < V.length):∃ a c c',vv = .slice a V.length c ∧ aslice 3 H vv none (some (.int .i64 n)) none = some (.slice a n.toNat c'):=by
 obtain ⟨a,m,c,rfl,hc⟩:=hcap
 obtain ⟨a',c',e⟩:=hv.len
 cases e
 refine ⟨a,c,c,rfl,?_⟩
 have h1:¬ c = 0:=by omega
 have h2:n ≤ (c:Int):=by omega
 have h3:n.toNat ≤ c:=by omega
 obtain ⟨y,hy⟩:∃ y,V[0]? = some y:=⟨_,List.getElem?_eq_getElem (by omega)⟩
 obtain ⟨b,o,c',e,_⟩:=hv.at hy
 cases e
 simp [aslice,abounds,abnd,h1,h2,h3,hn.1]
 rfl
theorem hfirst_ca {w k n:Int} {vv:Value} {V:List Vr} {H:AH} (hw:H.n0 ≤ H.nx) (hv:Vars H vv V) (hcap:Cap vv) (hl:V.length ≤ 2 ^ 40) (hn:0 ≤ n ∧ n < V.length) :
  Ca E O 136 [.agg #[.int .i64 w,vv,.int .i64 k],.int .i64 n] H (fun x H'=>x = .int .i64 (firstV V n) ∧ Ext H H'):=by
 obtain ⟨nn,rfl⟩:∃ m:Nat,n = m:=⟨n.toNat,by omega⟩
 refine Ca.bodyV (F:=a136) rfl rfl rfl ?_
 obtain ⟨a,c,c',hvv,hcut⟩:=cutV hv hcap hn
 have X1:=Ext.alloc H (.cells 3 [.int .i64 w,vv,.int .i64 k])
 have d0:(H.alloc (.cells 3 [.int .i64 w,vv,.int .i64 k])).ld ⟨H.nx,0,none⟩ = some (.int .i64 w):=ld_new hw rfl
 have d1:(H.alloc (.cells 3 [.int .i64 w,vv,.int .i64 k])).ld ⟨H.nx,1,none⟩ = some vv:=ld_new hw rfl
 have d2:(H.alloc (.cells 3 [.int .i64 w,vv,.int .i64 k])).ld ⟨H.nx,2,none⟩ = some (.int .i64 k):=ld_new hw rfl
 have d:(H.alloc (.cells 3 [.int .i64 w,vv,.int .i64 k])).ldn ⟨H.nx,0,none⟩ 3 = some [.int .i64 w,vv,.int .i64 k]:=ld_box hw 3 rfl
 generalize hH1:H.alloc (.cells 3 [.int .i64 w,vv,.int .i64 k]) = H1 at X1 d0 d1 d2 d
 have hwH1:=X1.wf hw
 obtain ⟨a1,c1,c1',hvv',hcut1⟩:=cutV (hv.ext X1) hcap hn
 rw [hvv] at hvv'
 cases hvv'
 rw [hvv] at d1 hcut1
 rw [Int.toNat_natCast] at hcut1
 simp (maxSteps:=4000000) -implicitDefEqProofs +contextual [-X.ev,a136,hH1,d1,hcut1]
 refine Vk_loop (fun k fr H'=>Ext H1 H' ∧ ∃ i:Nat,i + k = nn ∧ fr.get 11 = .slice a nn c1' ∧ fr.get 12 = .int .i64 nn ∧ fr.get 13 = .int .i64 i ∧ fr.get 5 = .int .i64 (firstV V (i:Int))) ?_ nn ⟨Ext.refl _,0,by simp,by simp,by simp,by simp,by simp [firstV,wsum]⟩
 rintro k fr H2 ⟨X2,i,hi,f11,f12,f13,f5⟩
 have hw2:=X2.wf hwH1
 have X02:=X1.trans X2
 by_cases h:i < nn
 ·obtain ⟨y,hy⟩:∃ y,V[i]? = some y:=⟨_,List.getElem?_eq_getElem (by omega)⟩
  obtain ⟨b,o,c',hv',hldn,_,_,_⟩:=(hv.ext X02).at hy
  rw [hvv] at hv'
  cases hv'
  simp only [Vr.row] at hldn
  obtain ⟨H3,sH3,X3,nxH3,n0H3,q,lH3⟩:=st_new (H:=H2) hw2 (z:=3) (c:=[.string ⟨#[]⟩,.int .i64 0,.int .i64 0]) (vs:=[.string y.name,.int .i64 y.level,.int .i64 y.cells]) rfl
  have q0:H3.ld ⟨H2.nx,0,none⟩ = some (.string y.name):=lH3 0 _ rfl
  have q1:H3.ld ⟨H2.nx,1,none⟩ = some (.int .i64 y.level):=lH3 1 _ rfl
  have q2:H3.ld ⟨H2.nx,2,none⟩ = some (.int .i64 y.cells):=lH3 2 _ rfl
  clear lH3
  replace q:H3.ldn ⟨H2.nx,0,none⟩ 3 = some [.string y.name,.int .i64 y.level,.int .i64 y.cells]:=q
  have hwH3:=X3.wf hw2
  have hii:(i:Int) < (nn:Int):=by omega
  have hk:k - 1 < k:=by omega
  simp (maxSteps:=4000000) -implicitDefEqProofs +contextual [-X.ev,f11,f12,f13,f5,h,hldn,sH3,q2]
  rw [wrap_in (n:=(i:Int) + 1) ⟨by omega,by omega⟩]
  exact ⟨k - 1,by omega,X2.trans X3,i + 1,by omega,by simp,by rw [firstV_add hy]⟩
 ·simp (maxSteps:=4000000) -implicitDefEqProofs +contextual [-X.ev,f11,f12,f13,f5,h]
  refine ⟨?_,X02⟩
  rw [show (i:Int) = nn by omega]
structure See (G:AH) (f:Nat) (first cap:Array Value) (I:List Ev → (Nat → Prop) → AH → Prop):Prop where
 call:∀ {evs:List Ev} {R:Nat → Prop} {H:AH} {n i:Int},H.n0 ≤ H.nx → I evs R H → Sub G H → (∀ b,R b → G.get b = none) → evs.length < 2 ^ 40 →
  Ca E O f (first.toList ++ .int .i64 n :: .int .i64 i :: cap.toList) H (fun x H'=>∃ R',I (evs ++ [⟨1,n,i⟩]) R' H' ∧ Mod R H H' ∧ ∀ b,R' b → R b ∨ H.nx ≤ b)
 mod:∀ {evs:List Ev} {R T:Nat → Prop} {H H':AH},I evs R H → Mod T H H' → (∀ b,T b → ¬ R b) → I evs R H'
 lt:∀ {evs:List Ev} {R:Nat → Prop} {H:AH},I evs R H → ∀ b,R b → b < H.nx
theorem See.ext {G:AH} {f:Nat} {first cap:Array Value} {I:List Ev → (Nat → Prop) → AH → Prop} (h:See G f first cap I) {evs:List Ev} {R:Nat → Prop} {H H':AH} (i:I evs R H) (X:Ext H H'):I evs R H':=h.mod i (Mod.of_ext (S:=fun _=>False) X) (by simp)
def pad3 (l:List Int):List Value:=[.int .i64 (vAt l 0),.int .i64 (vAt l 1),.int .i64 (vAt l 2)]
theorem valL_take {w:Int} {V:List Vr} {S:List (List Int)}:∀ (l:List Exp) (i:Nat),valL w V S (l.take i) = (valL w V S l).take i
 | [],i=>by simp [valL]
 | e :: es,0=>by simp [valL]
 | e :: es,i + 1=>by simp [valL,valL_take es i]
theorem pad3_set {w:Int} {V:List Vr} {S:List (List Int)} {l:List Exp} {i:Nat} {y:Exp} (hl:l.length ≤ 3) (hy:l[i]? = some y):splice (pad3 (valL w V S (l.take i))) i [.int .i64 (valE w V S y)] = pad3 (valL w V S (l.take (i + 1))):=by
 match l,i,hl,hy with
 | [a],0,_,hy=>simp at hy; subst hy; rfl
 | [a,b],0,_,hy=>simp at hy; subst hy; rfl
 | [a,b],1,_,hy=>simp at hy; subst hy; rfl
 | [a,b,c],0,_,hy=>simp at hy; subst hy; rfl
 | [a,b,c],1,_,hy=>simp at hy; subst hy; rfl
 | [a,b,c],2,_,hy=>simp at hy; subst hy; rfl
theorem HEval_ca {G:AH} {w:Int} {vv vS:Value} {V:List Vr} {S:List (List Int)} {f:Nat} {first cap:Array Value} {I:List Ev → (Nat → Prop) → AH → Prop} (hV:isHeading w V = true) (hS:SOk w V S) (hv:Vars G vv V) (hcap:Cap vv) (hst:StoresC G vS S) (hsee:See G f first cap I) :
  ∀ (N:Nat) (e:Exp) (c:List Value) (H:AH) (evs:List Ev) (R:Nat → Prop),SizeOf.sizeOf e < N → H.n0 ≤ H.nx → Sub G H → I evs R H → (∀ b,R b → G.get b = none) → ExC G c e → formE w V S.length e = true → (evs.length:Int) + nodesE e ≤ 2 ^ 40 →
  Ca E O 128 [.agg #[.int .i64 w,vv,.int .i64 S.length],vS,.agg c.toArray,.func (.func f) first cap] H (fun x H'=>x = .int .i64 (valE w V S e) ∧ ∃ R',I (evs ++ evE w V S e) R' H' ∧ Mod R H H' ∧ ∀ b,R' b → R b ∨ H.nx ≤ b):=by
 have hw8:1 ≤ w ∧ w ≤ 8:=⟨(isHeading_w hV).1,(isHeading_w hV).2.1⟩
 have hp:=pow_w hw8
 have hVl:=(isHeading_w hV).2.2.2
 intro N
 induction N with
 | zero=>intro e c H evs R h; omega
 | succ N ih =>
  intro e c H evs R hN hw X hI hRG he hf hnd
  cases he with | @mk op n cp va rows args i1 i2 i3 hlen hr hl =>
  refine Ca.bodyV (F:=a128) rfl rfl rfl ?_
  obtain ⟨hall,hc⟩:=form_cases hw8 hf
  have ha3:args.length ≤ 3:=by
   rcases hc with ⟨_,rfl,_⟩ | ⟨_,_,_,_,_,⟨rfl,_⟩ | ⟨⟨a,rfl⟩,_⟩⟩ | ⟨_,a,rfl⟩ | ⟨_,a,b,c,rfl⟩ | ⟨_,a,b,rfl⟩ <;> simp
  have wd:∀ y ∈ args,0 ≤ valE w V S y ∧ valE w V S y < 2 ^ w.toNat:=fun y hy=>val_word hV hS y (hall y hy)
  rw [nodesE] at hnd
  obtain ⟨p0,c0,hva⟩:=hr.len
  rw [hl.length] at hva
  have g1:=get_new H (.cells 3 [.int .i64 w,vv,.int .i64 S.length])
  have X1:=Ext.alloc H (.cells 3 [.int .i64 w,vv,.int .i64 S.length])
  have d0:(H.alloc (.cells 3 [.int .i64 w,vv,.int .i64 S.length])).ld ⟨H.nx,0,none⟩ = some (.int .i64 w):=ld_new hw rfl
  have d1:(H.alloc (.cells 3 [.int .i64 w,vv,.int .i64 S.length])).ld ⟨H.nx,1,none⟩ = some vv:=ld_new hw rfl
  have d2:(H.alloc (.cells 3 [.int .i64 w,vv,.int .i64 S.length])).ld ⟨H.nx,2,none⟩ = some (.int .i64 S.length):=ld_new hw rfl
  have d:(H.alloc (.cells 3 [.int .i64 w,vv,.int .i64 S.length])).ldn ⟨H.nx,0,none⟩ 3 = some [.int .i64 w,vv,.int .i64 S.length]:=ld_box hw 3 rfl
  generalize hH1:H.alloc (.cells 3 [.int .i64 w,vv,.int .i64 S.length]) = H1 at X1 d0 d1 d2 d
  have hwH1:=X1.wf hw
  rw [hH1] at g1
  have g2:=get_new H1 (.cells 4 [.int .i64 op,.int .i64 n,.int .i64 cp,va])
  have nE1:H1.nx = H.nx + 1:=by rw [← hH1]; rfl
  have X2:=Ext.alloc H1 (.cells 4 [.int .i64 op,.int .i64 n,.int .i64 cp,va])
  have e0:(H1.alloc (.cells 4 [.int .i64 op,.int .i64 n,.int .i64 cp,va])).ld ⟨H1.nx,0,none⟩ = some (.int .i64 op):=ld_new hwH1 rfl
  have e1:(H1.alloc (.cells 4 [.int .i64 op,.int .i64 n,.int .i64 cp,va])).ld ⟨H1.nx,1,none⟩ = some (.int .i64 n):=ld_new hwH1 rfl
  have e2:(H1.alloc (.cells 4 [.int .i64 op,.int .i64 n,.int .i64 cp,va])).ld ⟨H1.nx,2,none⟩ = some (.int .i64 cp):=ld_new hwH1 rfl
  have e3:(H1.alloc (.cells 4 [.int .i64 op,.int .i64 n,.int .i64 cp,va])).ld ⟨H1.nx,3,none⟩ = some va:=ld_new hwH1 rfl
  have e:(H1.alloc (.cells 4 [.int .i64 op,.int .i64 n,.int .i64 cp,va])).ldn ⟨H1.nx,0,none⟩ 4 = some [.int .i64 op,.int .i64 n,.int .i64 cp,va]:=ld_box hwH1 4 rfl
  generalize hH2:H1.alloc (.cells 4 [.int .i64 op,.int .i64 n,.int .i64 cp,va]) = H2 at X2 e0 e1 e2 e3 e
  have hwH2:=X2.wf hwH1
  rw [hH2] at g2
  have nE2:H2.nx = H.nx + 2:=by rw [← hH2]; show H1.nx + 1 = _; omega
  have X3:=Ext.alloc H2 (.cells 3 [.int .i64 0,.int .i64 0,.int .i64 0])
  have g3:=get_new H2 (.cells 3 [.int .i64 0,.int .i64 0,.int .i64 0])
  obtain ⟨H3,hH3⟩:∃ H3,H2.alloc (.cells 3 [.int .i64 0,.int .i64 0,.int .i64 0]) = H3:=⟨_,rfl⟩
  rw [hH3] at X3 g3
  have nE3:H3.nx = H.nx + 3:=by rw [← hH3]; show H2.nx + 1 = _; omega
  have D3:=X3.ld e3
  rw [hva] at D3
  have X03:=X1.trans (X2.trans X3)
  have g1':=X3.get (X2.get g1)
  have g2':=X3.get g2
  rw [nE1] at g2' D3
  rw [nE2] at g3
  have hIlt:=hsee.lt hI
  simp (maxSteps:=4000000) -implicitDefEqProofs +contextual [-X.ev,a128,hH1,hH2,hH3,nE1,nE2,D3]
  refine Vk_loop (fun k fr H'=>Mod R H H' ∧ H3.nx ≤ H'.nx ∧ H'.get H.nx = some (.cells 3 [.int .i64 w,vv,.int .i64 S.length]) ∧ H'.get (H.nx + 1) = some (.cells 4 [.int .i64 op,.int .i64 n,.int .i64 cp,va]) ∧ ∃ (i:Nat) (R':Nat → Prop),i + k = args.length ∧ H'.get (H.nx + 2) = some (.cells 3 (pad3 (valL w V S (args.take i)))) ∧ I (evs ++ evL w V S (args.take i)) R' H' ∧ (∀ b,R' b → R b ∨ H3.nx ≤ b) ∧
   fr.get 1 = vS ∧ fr.get 3 = .func (.func f) first cap ∧ fr.get 4 = .pointer (some ⟨H.nx,0,none⟩) ∧ fr.get 6 = .pointer (some ⟨H.nx + 1,0,none⟩) ∧ fr.get 9 = .pointer (some ⟨H.nx + 2,0,none⟩) ∧ fr.get 18 = va ∧ fr.get 19 = .int .i64 args.length ∧ fr.get 20 = .int .i64 i) ?_ args.length ⟨Mod.of_ext X03,Nat.le_refl _,g1',g2',0,R,by simp,by simpa [valL,pad3,vAt] using g3,by simpa [evL] using hsee.ext hI X03,fun b hb=>.inl hb,by simp,by simp,by simp,by simp,by simp,by simp [hva],by simp,by simp⟩
  rintro k fr H4 ⟨M4,nx4,k1,k2,i,R4,hi,k3,hI4,hR4,f1,f3,f4,f6,f9,f18,f19,f20⟩
  have hw4:=M4.wf hw
  have n04:=M4.n0
  have SG4:Sub G H4:=X.mod M4 hRG
  have Gnx:=X.nx
  have hRG4:∀ b,R4 b → G.get b = none:=fun b hb=>by
   rcases hR4 b hb with h | h
   ·exact hRG b h
   ·exact AH.get_ge (by omega)
  have hR4':∀ b,R4 b → b < H.nx ∨ H.nx + 3 ≤ b:=fun b hb=>by
   rcases hR4 b hb with h | h
   ·exact .inl (hIlt b h)
   ·omega
  have tl:=evL_take_le (w:=w) (V:=V) (S:=S) args i
  by_cases h:i < args.length
  ·obtain ⟨y,hy⟩:∃ y,args[i]? = some y:=⟨_,List.getElem?_eq_getElem h⟩
   have t1:=nodesL_take hy
   have t2:=nodesL_take_le args (i + 1)
   have hsz:=size_arg (op:=op) (n:=n) (cp:=cp) hy
   obtain ⟨b,o,c',vy,r,hv',hldn,rfl,hey⟩:=ExL.row (hr.sub SG4) (ExL.sub SG4 hl) hy
   obtain ⟨b',o',c'',vy',r',hv'',hldn',rfl,hey'⟩:=ExL.row hr hl hy
   rw [hv'] at hv''
   cases hv''
   have hvy:vy' = vy:=by
    have:=SG4.ldn hldn'
    rw [hldn] at this
    cases this
    rfl
   subst hvy
   have f18':=f18
   rw [hv'] at f18'
   obtain ⟨H5,sH5,X5,nxH5,n0H5,q,lH5⟩:=st_new (H:=H4) hw4 (z:=4) (c:=[.int .i64 0,.int .i64 0,.int .i64 0,.slice none 0 0]) (vs:=[.int .i64 y.op,.int .i64 y.n,.int .i64 y.cp,vy']) rfl
   have q0:H5.ld ⟨H4.nx,0,none⟩ = some (.int .i64 y.op):=lH5 0 _ rfl
   have q1:H5.ld ⟨H4.nx,1,none⟩ = some (.int .i64 y.n):=lH5 1 _ rfl
   have q2:H5.ld ⟨H4.nx,2,none⟩ = some (.int .i64 y.cp):=lH5 2 _ rfl
   have q3:H5.ld ⟨H4.nx,3,none⟩ = some vy':=lH5 3 _ rfl
   clear lH5
   replace q:H5.ldn ⟨H4.nx,0,none⟩ 4 = some [.int .i64 y.op,.int .i64 y.n,.int .i64 y.cp,vy']:=q
   have hwH5:=X5.wf hw4
   have kk1:=X5.get k1
   have l1:H5.ldn ⟨H.nx,0,none⟩ 3 = some [.int .i64 w,vv,.int .i64 S.length]:=by rw [ldn_get kk1 (by rw [X5.n0,n04]; exact hw) (by simp)]; rfl
   have n5:=X5.nx
   have evl:((evs ++ evL w V S (args.take i)).length:Int) + nodesE y ≤ 2 ^ 40:=by
    have u:=nodesL_take_le args i
    have u2:=evL_bound (w:=w) (V:=V) (S:=S) (l:=args.take i) (fun e _=>evE_bound e)
    rw [List.length_append]; omega
   simp (maxSteps:=4000000) -implicitDefEqProofs +contextual [-X.ev,f1,f3,f4,f18',f19,f20,h,hldn,sH5,q,l1]
   apply Vx_callM
   ·(simp -implicitDefEqProofs [-X.ev]; rfl)
   refine (ih y _ H5 _ R4 (by omega) hwH5 (SG4.exto X5) (hsee.ext hI4 X5) hRG4 hey' (hall y (List.mem_of_getElem? hy)) evl).mono ?_
   rintro x H6 ⟨rfl,R6,hI6,M6,hR6⟩
   have hw6:=M6.wf hwH5
   have n6:=M6.nx
   have nR:∀ j,j < 3 → ¬ R4 (H.nx + j):=fun j hj q=>by have:=hR4' _ q; omega
   have j1:=M6.get (nR 0 (by omega)) kk1
   have j2:=M6.get (nR 1 (by omega)) (X5.get k2)
   have j3:=M6.get (nR 2 (by omega)) (X5.get k3)
   have n06:H6.n0 = H.n0:=M6.n0.trans (X5.n0.trans n04)
   obtain ⟨H7,s7,M7,nx7,n07,g7⟩:=st_get j3 (by rw [n06]; omega) (k:=i) (vs:=[.int .i64 (valE w V S y)]) (by simp [pad3]; omega)
   rw [pad3_set ha3 hy] at g7
   have hi3:(i:Int) < 3:=by omega
   simp (maxSteps:=4000000) -implicitDefEqProofs +contextual [-X.ev,f1,f3,f4,f9,f18',f19,f20,s7,hi3]
   rw [wrap_in (n:=(i:Int) + 1) ⟨by omega,by omega⟩]
   refine ⟨k - 1,by omega,((M4.trans (Mod.of_ext X5)).then M6 (fun b hb q=>?_)).then M7 (fun b hb q=>by omega),by omega,M7.get (by omega) j1,M7.get (by omega) j2,i + 1,by omega,g7,R6,?_,fun b hb=>?_,f6,hv'.symm,by simp⟩
   ·rcases hR4 b q with h | h
    ·exact h
    ·omega
   ·rw [evL_take hy,← List.append_assoc]
    exact hsee.mod hI6 M7 (fun b hb q=>by
     rcases hR6 b q with h | h
     ·have:=hR4' b h; omega
     ·omega)
   ·rcases hR6 b hb with h | h
    ·exact hR4 b h
    ·right; omega
  have hti:args.take i = args:=List.take_of_length_le (by omega)
  rw [hti] at k3 hI4
  have B0:H4.n0 ≤ H.nx:=by rw [n04]; exact hw
  have u0:=ld_get k1 B0 (k:=0) (v:=.int .i64 w) rfl
  have u1:=ld_get k1 B0 (k:=1) (v:=vv) rfl
  have un:H4.ldn ⟨H.nx,0,none⟩ 3 = some [.int .i64 w,vv,.int .i64 S.length]:=by rw [ldn_get k1 B0 (by simp)]; rfl
  have v0:=ld_get k2 (by omega) (k:=0) (v:=.int .i64 op) rfl
  have v1:=ld_get k2 (by omega) (k:=1) (v:=.int .i64 n) rfl
  have v2:=ld_get k2 (by omega) (k:=2) (v:=.int .i64 cp) rfl
  have v3:=ld_get k2 (by omega) (k:=3) (v:=va) rfl
  have x0:=ld_get k3 (by omega) (k:=0) (v:=.int .i64 (vAt (valL w V S args) 0)) rfl
  have x1:=ld_get k3 (by omega) (k:=1) (v:=.int .i64 (vAt (valL w V S args) 1)) rfl
  have x2:=ld_get k3 (by omega) (k:=2) (v:=.int .i64 (vAt (valL w V S args) 2)) rfl
  rw [hva] at f18 v3
  have fin:∀ {H':AH},(¬ (op = 1 ∧ args ≠ [])) → Ext H4 H' → ∃ R',I (evs ++ evE w V S (.mk op n cp args)) R' H' ∧ Mod R H H' ∧ ∀ b,R' b → R b ∨ H.nx ≤ b:=fun hno XX=>by
   refine ⟨R4,?_,M4.trans (Mod.of_ext XX),fun b hb=>(hR4 b hb).imp id (fun q=>by omega)⟩
   rw [evE,if_neg hno,List.append_nil]
   exact hsee.ext hI4 XX
  rcases hc with ⟨rfl,rfl,h1,h2⟩ | ⟨rfl,h1,h2,h3,h4,hargs⟩ | ⟨rfl,y0,rfl⟩ | ⟨rfl,y0,y1,y2,rfl⟩ | ⟨ho,y0,y1,rfl⟩
  ·have:=fin (H':=H4) (by omega) (Ext.refl _)
   have hlt:¬ (i:Int) < 0:=by omega
   simp (maxSteps:=4000000) -implicitDefEqProofs +contextual [-X.ev,f18,f19,f20,hlt,f6,v0,v1,valE]
   exact this
  ·obtain ⟨s,hss⟩:∃ s,S[cp.toNat]? = some s:=⟨_,List.getElem?_eq_getElem (by omega)⟩
   have hsto:=hS s (List.mem_of_getElem? hss)
   have hsa:storeAt S cp = s:=by simp [storeAt,hss]
   have hcell:=cell_in hV ⟨h1,h2⟩ (vAt (valL w V S args) 0)
   obtain ⟨x,hx,hx1,hx2,hx3⟩:=isStore_get hw8 hsto (i:=firstV V n + vAt (valL w V S args) 0 % cellsAt V n) (by omega)
   have hlt:firstV V n + vAt (valL w V S args) 0 % cellsAt V n < (s.length:Int):=by
    have:=(List.getElem?_eq_some_iff.1 hx).1; omega
   have cpS:cp < S.length:=by omega
   rcases hargs with ⟨rfl,hcn⟩ | ⟨⟨y,rfl⟩,hcn⟩
   ·have hl0:¬ (i:Int) < 0:=by omega
    obtain ⟨b,o,c',a',c'',hvs,hld,hin⟩:=(hst.sub SG4).at hss
    obtain ⟨b3,o3,c3,hv3,hld3⟩:=hin.at hx
    cases hv3
    have e0:vAt (valL w V S []) 0 = 0:=rfl
    rw [e0] at hcell hlt hld3 hx3
    simp only [Int.zero_emod,Int.add_zero] at hcell hlt hld3 hx3
    have V2n:=ld_ldn.1 v2
    have HN:=ld_ldn.1 hld
    have ww:IntKind.i64.wrap (firstV V n) = firstV V n:=wrap_in ⟨by omega,by omega⟩
    have hve:valE w V S (.mk 1 n cp []) = x:=by
     rw [valE,if_neg (by omega),if_pos rfl,hsa,e0,Int.zero_emod,Int.add_zero,hx3]
    rw [hvs] at f1
    simp (maxSteps:=4000000) -implicitDefEqProofs +contextual [-X.ev,f1,f18,f19,f20,hl0,f4,f6,v0,v1,v2,v3,un,hld,h3,cpS]
    apply Vx_callM
    ·(simp -implicitDefEqProofs [-X.ev]; rfl)
    refine (hfirst_ca hw4 (Vars.sub SG4 hv) hcap (by omega) ⟨h1,h2⟩).mono ?_
    rintro x' H5 ⟨rfl,X5⟩
    have g1:0 ≤ firstV V n:=by omega
    have fin':=fin (H':=H5) (by simp) X5
    have hld5:=X5.ld hld3
    have V2n5:=X5.ldn V2n
    have HN5:=X5.ldn HN
    have x5x:=X5.nx
    have x5n:=X5.n0
    simp (maxSteps:=4000000) -implicitDefEqProofs +contextual [-X.ev,ww,okD_of,chain_2,chain_1,V2n,HN,V2n5,HN5,g1,hlt,hld5,hve,x5x,x5n]
    exact fin'
   ·have hl0:¬ (i:Int) < 1:=by simp at h; omega
    obtain ⟨yv,hyv⟩:∃ yv,V[n.toNat]? = some yv:=⟨_,List.getElem?_eq_getElem (by omega)⟩
    have hcy:cellsAt V n = yv.cells:=by simp [cellsAt,hyv]
    obtain ⟨b,o,c',hvv,_,_,_,hldc⟩:=(Vars.sub SG4 hv).at hyv
    have hwy:=wd y (by simp)
    have e0:vAt (valL w V S [y]) 0 = valE w V S y:=rfl
    rw [e0] at hcell hlt hx hx3 x0
    rw [hcy] at hcell hlt hx hx3 hcn
    have rn:=rem_nn (b:=yv.cells) hwy.1
    rw [if_neg (by omega)] at rn
    have u1':=u1
    rw [hvv] at u1'
    have bd:((evs ++ evL w V S [y]).length:Int) < 2 ^ 40:=by
     have u2:=evL_bound (w:=w) (V:=V) (S:=S) (l:=[y]) (fun e _=>evE_bound e)
     rw [List.length_append]; omega
    simp (maxSteps:=4000000) -implicitDefEqProofs +contextual [-X.ev,f18,f19,f20,hl0,f3,f4,f6,f9,v0,v1,v3,x0,u1',h1,h2,hldc,rn,okD_of,chain_2,chain_1]
    apply Vx_callvM
    ·(simp -implicitDefEqProofs [-X.ev,-Value.func.injEq,f3]; rfl)
    ·(simp -implicitDefEqProofs [-X.ev,f3]; rfl)
    refine (hsee.call (n:=n) (i:=valE w V S y % yv.cells) hw4 hI4 SG4 hRG4 (by omega)).mono ?_
    rintro x' H5 ⟨R5,hI5,M5,hR5⟩
    have hw5:=M5.wf hw4
    have SG5:Sub G H5:=SG4.mod M5 hRG4
    have nR:∀ j,j < 3 → ¬ R4 (H.nx + j):=fun j hj q=>by have:=hR4' _ q; omega
    have vv1:=M5.ld (nR 1 (by omega)) v1
    have vv2:=M5.ld (nR 1 (by omega)) v2
    have vv0:=M5.ld (nR 1 (by omega)) v0
    have unn:=M5.ldn (nR 0 (by omega)) un
    obtain ⟨b5,o5,c5,a',c'',hvs,hld,hin⟩:=(hst.sub SG5).at hss
    obtain ⟨b3,o3,c3,hv3,hld3⟩:=hin.at hx
    cases hv3
    have V2n:=ld_ldn.1 vv2
    have HN:=ld_ldn.1 hld
    have ww:IntKind.i64.wrap (firstV V n + valE w V S y % yv.cells) = firstV V n + valE w V S y % yv.cells:=wrap_in ⟨by omega,by omega⟩
    have hve:valE w V S (.mk 1 n cp [y]) = x:=by
     rw [valE,if_neg (by omega),if_pos rfl,hsa,e0,hcy,hx3]
    have hve2:evE w V S (.mk 1 n cp [y]) = evL w V S [y] ++ [⟨1,n,valE w V S y % yv.cells⟩]:=by rw [evE,if_pos ⟨rfl,by simp⟩,e0,hcy]
    rw [hvs] at f1
    simp (maxSteps:=4000000) -implicitDefEqProofs +contextual [-X.ev,f1,f4,f6,vv0,vv1,vv2,unn,hld,h3,cpS]
    apply Vx_callM
    ·(simp -implicitDefEqProofs [-X.ev]; rfl)
    refine (hfirst_ca hw5 (Vars.sub SG5 hv) hcap (by omega) ⟨h1,h2⟩).mono ?_
    rintro x' H6 ⟨rfl,X6⟩
    have g1:0 ≤ firstV V n + valE w V S y % yv.cells:=by omega
    have hld6:=X6.ld hld3
    have V2n6:=X6.ldn V2n
    have HN6:=X6.ldn HN
    have x6x:=X6.nx
    have x6n:=X6.n0
    have nx5:=M5.nx
    simp (maxSteps:=4000000) -implicitDefEqProofs +contextual [-X.ev,ww,okD_of,chain_2,chain_1,V2n,HN,V2n6,HN6,g1,hlt,hld6,hve,x6x,x6n]
    rw [hve2,← List.append_assoc]
    refine ⟨R5,hsee.ext hI5 X6,(M4.then M5 (fun b hb q=>?_)).trans (Mod.of_ext X6),fun b hb=>?_⟩
    ·rcases hR4 b q with h | h
     ·exact h
     ·omega
    ·rcases hR5 b hb with h | h
     ·exact (hR4 b h).imp id (fun q=>by omega)
     ·right; omega
  ·have hwy:=wd y0 (by simp)
   have e0:vAt (valL w V S [y0]) 0 = valE w V S y0:=rfl
   rw [e0] at x0
   have hlt:¬ (i:Int) < 1:=by simp at h; omega
   simp (maxSteps:=4000000) -implicitDefEqProofs +contextual [-X.ev,f18,f19,f20,hlt,f6,f4,f9,v0,u0,x0]
   apply Vx_callM
   ·(simp -implicitDefEqProofs [-X.ev]; rfl)
   refine (WNot_ca hw4 hw8 hwy).mono ?_
   rintro x H5 ⟨rfl,X5⟩
   have:=fin (H':=H5) (by omega) X5
   simp (maxSteps:=4000000) -implicitDefEqProofs +contextual [-X.ev]
   refine ⟨?_,this⟩
   rw [valE,if_neg (by omega),if_neg (by omega),if_pos rfl]; rfl
  ·have:=fin (H':=H4) (by omega) (Ext.refl _)
   have hlt:¬ (i:Int) < 3:=by simp at h; omega
   by_cases q:vAt (valL w V S [y0,y1,y2]) 0 = 0
   ·simp (maxSteps:=4000000) -implicitDefEqProofs +contextual [-X.ev,f18,f19,f20,hlt,f6,f9,v0,x0,x2,q]
    refine ⟨?_,this⟩
    rw [valE,if_neg (by omega),if_neg (by omega),if_neg (by omega),if_pos rfl,if_pos q]
   ·simp (maxSteps:=4000000) -implicitDefEqProofs +contextual [-X.ev,f18,f19,f20,hlt,f6,f9,v0,x0,x1,q]
    refine ⟨?_,this⟩
    rw [valE,if_neg (by omega),if_neg (by omega),if_neg (by omega),if_pos rfl,if_neg q]
  ·have m0:¬ op = 0:=by omega
   have m1:¬ op = 1:=by omega
   have m12:¬ op = 12:=by omega
   have m15:¬ op = 15:=by omega
   have e0:vAt (valL w V S [y0,y1]) 0 = valE w V S y0:=rfl
   have e1:vAt (valL w V S [y0,y1]) 1 = valE w V S y1:=rfl
   rw [e0] at x0
   rw [e1] at x1
   have hlt:¬ (i:Int) < 2:=by simp at h; omega
   simp (maxSteps:=4000000) -implicitDefEqProofs +contextual [-X.ev,f18,f19,f20,hlt,f6,f4,f9,v0,u0,x0,x1,m0,m1,m12,m15]
   apply Vx_callM
   ·(simp -implicitDefEqProofs [-X.ev]; rfl)
   refine (WDo_ca hw4 ho hw8 (wd y0 (by simp)) (wd y1 (by simp))).mono ?_
   rintro x H5 ⟨rfl,X5⟩
   have:=fin (H':=H5) (by omega) X5
   simp (maxSteps:=4000000) -implicitDefEqProofs +contextual [-X.ev]
   refine ⟨?_,this⟩
   rw [valE,if_neg m0,if_neg m1,if_neg m12,if_neg m15,e0,e1]
end Go.Proofs.YtoijnpfpjpefgaaGreat.A
/- A text without what this claim does not need: S38. -/
set_option linter.unusedVariables false
set_option linter.unusedSimpArgs false
set_option maxRecDepth 10000
namespace Go.Proofs.YtoijnpfpjpefgaaGreat.A
open Go
structure MV where
 vf:Value
 w:Int
 vv:Value
 vb:Value
 fuel:Int
 vp:Value
 en:Int
 vs:Value
 vo:Value
 vt:Value
 cost:Int
 used:Int
 wh:Int
 ended:Bool
abbrev MV.rest (v:MV):List Value:=[.int .i64 v.w,v.vv,v.vb,.int .i64 v.fuel,v.vp,.int .i64 v.en,v.vs,v.vo,v.vt,.int .i64 v.cost,.int .i64 v.used,.int .i64 v.wh,.bool v.ended]
abbrev MV.cells (v:MV):List Value:=v.vf :: v.rest
def outRow (o:Int × Int):List Value:=[.int .i64 o.1,.int .i64 o.2]
def outRows (l:List (Int × Int)):List (List Value):=l.map outRow
theorem outRows_append (l m:List (Int × Int)):outRows (l ++ m) = outRows l ++ outRows m:=by simp [outRows]
theorem outRows_length (l:List (Int × Int)):(outRows l).length = l.length:=by simp [outRows]
def Mf (m:Nat) (v:MV) (b:Nat):Prop:=b = m ∨ blk v.vf b ∨ blk v.vs b ∨ blk v.vo b ∨ blk v.vt b
structure MH (G H:AH) (m:Nat) (v:MV) (rows:List (List Value)) (store:List Int) (outs:List (Int × Int)) (trace:List Ev):Prop where
 get:H.get m = some (.cells 14 v.cells)
 n0:H.n0 ≤ m
 sub:Sub G H
 wf:H.n0 ≤ H.nx
 fr:Ownr H 2 v.vf rows
 st:Own H 1 v.vs (intRows store)
 ou:Own H 2 v.vo (outRows outs)
 tr:Own H 3 v.vt (evRows trace)
 d1:¬ blk v.vf m ∧ ¬ blk v.vs m ∧ ¬ blk v.vo m ∧ ¬ blk v.vt m
 d2:∀ b,blk v.vf b → ¬ blk v.vs b ∧ ¬ blk v.vo b ∧ ¬ blk v.vt b
 d3:∀ b,blk v.vs b → ¬ blk v.vo b ∧ ¬ blk v.vt b
 d4:∀ b,blk v.vo b → ¬ blk v.vt b
 out:∀ b,Mf m v b → G.get b = none
theorem MH.lt {G H:AH} {m:Nat} {v:MV} {rows:List (List Value)} {store:List Int} {outs:List (Int × Int)} {trace:List Ev} (h:MH G H m v rows store outs trace) {b:Nat} (hb:Mf m v b):b < H.nx:=by
 rcases hb with rfl | hb | hb | hb | hb
 ·exact AH.get_lt h.get
 ·exact h.fr.lt hb
 ·exact h.st.lt hb
 ·exact h.ou.lt hb
 ·exact h.tr.lt hb
theorem MH.mod {G H H':AH} {m:Nat} {v:MV} {rows:List (List Value)} {store:List Int} {outs:List (Int × Int)} {trace:List Ev} {T:Nat → Prop} (h:MH G H m v rows store outs trace) (M:Mod T H H') (hT:∀ b,T b → ¬ Mf m v b) (hG:∀ b,T b → G.get b = none):MH G H' m v rows store outs trace where
 get:=M.get (fun q=>hT m q (.inl rfl)) h.get
 n0:=by rw [M.n0]; exact h.n0
 sub:=h.sub.mod M hG
 wf:=M.wf h.wf
 fr:=h.fr.mod M fun b hb q=>hT b q (.inr (.inl hb))
 st:=h.st.mod M fun b hb q=>hT b q (.inr (.inr (.inl hb)))
 ou:=h.ou.mod M fun b hb q=>hT b q (.inr (.inr (.inr (.inl hb))))
 tr:=h.tr.mod M fun b hb q=>hT b q (.inr (.inr (.inr (.inr hb))))
 d1:=h.d1
 d2:=h.d2
 d3:=h.d3
 d4:=h.d4
 out:=h.out
theorem MH.ext {G H H':AH} {m:Nat} {v:MV} {rows:List (List Value)} {store:List Int} {outs:List (Int × Int)} {trace:List Ev} (h:MH G H m v rows store outs trace) (X:Ext H H'):MH G H' m v rows store outs trace:=h.mod (Mod.of_ext (S:=fun _=>False) X) (by simp) (by simp)
theorem MH.retrace {G H H':AH} {m:Nat} {v:MV} {rows:List (List Value)} {store:List Int} {outs:List (Int × Int)} {trace trace':List Ev} {vt:Value} {cost:Int} (h:MH G H m v rows store outs trace) (M:Mod (fun b=>b = m ∨ blk v.vt b) H H') (g:H'.get m = some (.cells 14 ({ v with vt:=vt,cost:=cost }:MV).cells)) (o:Own H' 3 vt (evRows trace')) (hf:∀ b,blk vt b → blk v.vt b ∨ H.nx ≤ b):MH G H' m { v with vt:=vt,cost:=cost } rows store outs trace' where
 get:=g
 n0:=by rw [M.n0]; exact h.n0
 sub:=h.sub.mod M fun b hb=>h.out b (by rcases hb with q | q; exact .inl q; exact .inr (.inr (.inr (.inr q))))
 wf:=M.wf h.wf
 fr:=h.fr.mod M fun b hb q=>by rcases q with rfl | q; exact h.d1.1 hb; exact (h.d2 b hb).2.2 q
 st:=h.st.mod M fun b hb q=>by rcases q with rfl | q; exact h.d1.2.1 hb; exact (h.d3 b hb).2 q
 ou:=h.ou.mod M fun b hb q=>by rcases q with rfl | q; exact h.d1.2.2.1 hb; exact h.d4 b hb q
 tr:=o
 d1:=⟨h.d1.1,h.d1.2.1,h.d1.2.2.1,fun q=>by rcases hf m q with q | q; exact h.d1.2.2.2 q; have:=h.lt (.inl rfl); omega⟩
 d2:=fun b hb=>⟨(h.d2 b hb).1,(h.d2 b hb).2.1,fun q=>by rcases hf b q with q | q; exact (h.d2 b hb).2.2 q; have:=h.lt (.inr (.inl hb)); omega⟩
 d3:=fun b hb=>⟨(h.d3 b hb).1,fun q=>by rcases hf b q with q | q; exact (h.d3 b hb).2 q; have:=h.lt (.inr (.inr (.inl hb))); omega⟩
 d4:=fun b hb q=>by rcases hf b q with q | q; exact h.d4 b hb q; have:=h.lt (.inr (.inr (.inr (.inl hb)))); omega
 out:=fun b hb=>by
  rcases hb with q | q | q | q | q
  ·exact h.out b (.inl q)
  ·exact h.out b (.inr (.inl q))
  ·exact h.out b (.inr (.inr (.inl q)))
  ·exact h.out b (.inr (.inr (.inr (.inl q))))
  ·rcases hf b q with q | q
   ·exact h.out b (.inr (.inr (.inr (.inr q))))
   ·exact AH.get_ge (Nat.le_trans h.sub.nx q)
theorem tell {H:AH} {m:Nat} {v:MV} {trace:List Ev} (e:Ev) (hw:H.n0 ≤ H.nx) (g:H.get m = some (.cells 14 v.cells)) (h0:H.n0 ≤ m) (o:Own H 3 v.vt (evRows trace)) (hd:¬ blk v.vt m) (hb:trace.length ≤ 2 ^ 41) :
  ∃ H1 a c H2 H3,bslV 1 3 [.int .i64 0,.int .i64 0,.int .i64 0] H [(0,3,.agg #[.int .i64 e.kind,.int .i64 e.at_,.int .i64 e.val])] = some (.slice (some ⟨H.nx,0,none⟩) 1 1,H1) ∧ aappend 3 24 H1 v.vt (.slice (some ⟨H.nx,0,none⟩) 1 1) = some (.slice a (trace.length + 1) c,H2) ∧ H2.st ⟨m,9,none⟩ [.slice a (trace.length + 1) c] = some H3 ∧
   H3.get m = some (.cells 14 ({ v with vt:=.slice a (trace.length + 1) c }:MV).cells) ∧ Own H3 3 (.slice a (trace.length + 1) c) (evRows (trace ++ [e])) ∧ Mod (fun b=>b = m ∨ blk v.vt b) H H3 ∧ (∀ b,blk (.slice a (trace.length + 1) c) b → H.nx ≤ b) ∧ H1.n0 = H.n0 ∧ H.nx ≤ H1.nx ∧ Ext H H1 ∧ H2.n0 = H.n0 ∧ H1.nx ≤ H2.nx ∧ H3.n0 = H.n0 ∧ H3.nx = H2.nx ∧ Mod (blk v.vt) H H2:=by
 have hb4:=bsl1 (sz:=3) (z:=[.int .i64 0,.int .i64 0,.int .i64 0]) (H:=H) (v:=.agg #[.int .i64 e.kind,.int .i64 e.at_,.int .i64 e.val]) rfl rfl rfl
 simp only [vcells_agg] at hb4
 have X:=Ext.alloc H (.cells 3 [.int .i64 e.kind,.int .i64 e.at_,.int .i64 e.val])
 obtain ⟨H1,hH1⟩:∃ H1,H.alloc (.cells 3 [.int .i64 e.kind,.int .i64 e.at_,.int .i64 e.val]) = H1:=⟨_,rfl⟩
 obtain ⟨s',H2,ha,o2,M2,k2,n02,nx2,wf2,n01,nx1,nx12⟩:=app1_own (bytes:=24) hw o (r:=[.int .i64 e.kind,.int .i64 e.at_,.int .i64 e.val]) rfl hH1 (by rw [evRows_length]; omega) (by rw [evRows_length]; omega)
 rw [hH1] at hb4 X
 obtain ⟨a,c,hs⟩:=o2.shape
 rw [List.length_append,List.length_singleton,evRows_length] at hs
 subst hs
 have g2:=M2.get hd g
 obtain ⟨H3,s3,M3,nx3,n03,g3⟩:=st_get g2 (by rw [n02]; exact h0) (k:=9) (vs:=[.slice a (trace.length + 1) c]) (by simp)
 refine ⟨H1,a,c,H2,H3,hb4,ha,s3,g3,?_,(M2.mono fun x _ hx=>.inr hx).trans (M3.mono fun x _ hx=>.inl hx),k2,n01,nx1,X,n02,nx12,n03.trans n02,nx3,M2⟩
 rw [evRows_append]
 exact o2.mod M3 fun b hb q=>by have:=k2 b hb; have:=AH.get_lt g; omega
def seeI (m:Nat) (v:MV) (tr0:List Ev) (evs:List Ev) (R:Nat → Prop) (H:AH):Prop:=∃ vt,R = (fun b=>b = m ∨ blk vt b) ∧ H.get m = some (.cells 14 ({ v with vt:=vt }:MV).cells) ∧ H.n0 ≤ m ∧ Own H 3 vt (evRows (tr0 ++ evs)) ∧ ¬ blk vt m
theorem see_ca {G:AH} {m B:Nat} {v:MV} {tr0:List Ev} (hB:G.ld ⟨B,0,none⟩ = some (.pointer (some ⟨m,0,none⟩))) (hlen:tr0.length ≤ 2 ^ 40):See G 111 #[] #[.pointer (some ⟨B,0,none⟩)] (seeI m v tr0) where
 call:=by
  rintro evs R H n i hw ⟨vt,rfl,g,h0,o,hd⟩ X hRG hl
  refine Ca.bodyV (F:=a111) rfl rfl rfl ?_
  have lB:=X.ld hB
  obtain ⟨H1,a,c,H2,H3,hb,ha,hs,g3,o3,M3,k3,n01,nx1,X1,n02,nx2,n03,nx3,M2⟩:=tell (v:={ v with vt:=vt }) ⟨1,n,i⟩ hw g h0 o hd (by rw [List.length_append]; omega)
  simp only [List.length_append] at ha hs g3 o3 k3
  have lBn2:=(X.mod M2 (fun b hb=>hRG b (.inr hb))).ldn (ld_ldn.1 hB)
  have nx13:H1.nx ≤ H2.nx:=nx2
  have l9:=ld_get g h0 (k:=9) (v:=vt) rfl
  have hbu:buildV [.int .i64 0,.int .i64 0,.int .i64 0] [(0,1,.int .i64 1),(1,1,.int .i64 n),(2,1,.int .i64 i)] = some (.agg #[.int .i64 1,.int .i64 n,.int .i64 i]):=rfl
  have lBn:=ld_ldn.1 lB
  have lBn1:=X1.ldn lBn
  simp (maxSteps:=4000000) -implicitDefEqProofs +contextual [-X.ev,a111,lB,l9,hbu,hb,ha,hs,lBn,lBn1,lBn2,n01,nx1,n02,nx2,n03,nx3,okD_of,chain_2,chain_1]
  exact ⟨_,⟨_,rfl,g3,by rw [n03]; exact h0,by simpa [List.append_assoc] using o3,fun q=>by have:=k3 m q; have:=AH.get_lt g; omega⟩,M3,fun b hb=>hb.imp (fun q=>.inl q) (fun q=>k3 b q)⟩
 mod:=by
  rintro evs R T H H' ⟨vt,rfl,g,h0,o,hd⟩ M hT
  exact ⟨vt,rfl,M.get (fun q=>hT m q (.inl rfl)) g,by rw [M.n0]; exact h0,o.mod M (fun b hb q=>hT b q (.inr hb)),hd⟩
 lt:=by
  rintro evs R H ⟨vt,rfl,g,h0,o,hd⟩ b hb
  rcases hb with rfl | hb
  ·exact AH.get_lt g
  ·exact o.lt hb
end Go.Proofs.YtoijnpfpjpefgaaGreat.A
/- A text without what this claim does not need: S39. -/
set_option linter.unusedVariables false
set_option linter.unusedSimpArgs false
set_option maxRecDepth 10000
namespace Go.Proofs.YtoijnpfpjpefgaaGreat.A
open Go
theorem EEval_ca {G:AH} {w:Int} {vv vS:Value} {V:List Vr} {S:List (List Int)} {f:Nat} {first cap:Array Value} {I:List Ev → (Nat → Prop) → AH → Prop} (hV:isHeading w V = true) (hS:SOk w V S) (hv:Vars G vv V) (hcap:Cap vv) (hst:StoresC G vS S) (hsee:See G f first cap I)
  {e:Exp} {c:List Value} {H:AH} {evs:List Ev} {R:Nat → Prop} (hw:H.n0 ≤ H.nx) (X:Sub G H) (hI:I evs R H) (hRG:∀ b,R b → G.get b = none) (he:ExC G c e) (hf:formE w V S.length e = true) (hb:(evs.length:Int) + nodesE e ≤ 2 ^ 40) :
  Ca E O 110 [.int .i64 w,vv,vS,.agg c.toArray,.func (.func f) first cap] H (fun x H'=>x = .int .i64 (valE w V S e) ∧ ∃ R',I (evs ++ evE w V S e) R' H' ∧ Mod R H H' ∧ ∀ b,R' b → R b ∨ H.nx ≤ b):=by
 refine Ca.bodyV (F:=a110) rfl rfl rfl ?_
 obtain ⟨a,c',hvS⟩:=hst.len
 have hc:c.length = 4:=by cases he; rfl
 have hIlt:=hsee.lt hI
 have X1:=Ext.alloc H (.cells c.length c)
 have d:(H.alloc (.cells c.length c)).ldn ⟨H.nx,0,none⟩ 4 = some c:=ld_box hw 4 (by assumption)
 generalize hH1:H.alloc (.cells c.length c) = H1 at X1 d
 have hwH1:=X1.wf hw
 have hbu:buildV [.int .i64 0,.slice none 0 0,.int .i64 0] [(0,1,.int .i64 w),(1,1,vv),(2,1,.int .i64 S.length)] = some (.agg #[.int .i64 w,vv,.int .i64 S.length]):=by
  obtain ⟨a1,n1,c1,rfl,_⟩:=hcap
  rfl
 have hh:=HEval_ca hV hS hv hcap hst hsee _ e c H1 evs R (Nat.lt_succ_self _) hwH1 (X.exto X1) (hsee.ext hI X1) hRG he hf hb
 rw [hvS] at hh ⊢
 simp (maxSteps:=4000000) -implicitDefEqProofs +contextual [-X.ev,a110,hH1,hbu,d]
 apply Vx_callM
 ·(simp -implicitDefEqProofs [-X.ev]; rfl)
 refine (hh).mono ?_
 rintro x H2 ⟨rfl,R2,hI2,M2,hR2⟩
 have x1:=X1.nx
 simp (maxSteps:=4000000) -implicitDefEqProofs +contextual [-X.ev]
 exact ⟨R2,hI2,(Mod.of_ext X1).then M2 (fun b _ q=>q),fun b hb=>(hR2 b hb).imp id (fun q=>by omega)⟩
theorem sub_part {G H:AH} {R:Nat → Prop} (X:Sub G H) (hR:∀ b,R b → G.get b = none):Sub G (part H 0 R) :=
 ⟨by rw [part_n0,X.n0],by rw [part_nx]; exact X.nx,fun b x k=>part_get.2 ⟨X.get b x k,Nat.zero_le _,fun q=>by rw [hR b q] at k; cases k⟩⟩
theorem part_none {H:AH} {n:Nat} {R:Nat → Prop} {b:Nat} (hb:R b):(part H n R).get b = none:=by
 cases h:(part H n R).get b with
 | none=>rfl
 | some x=>exact absurd hb (part_get.1 h).2.2
theorem meval_ca {G H:AH} {m:Nat} {v:MV} {rows:List (List Value)} {store:List Int} {outs:List (Int × Int)} {trace:List Ev} {V:List Vr} {e:Exp} {c:List Value} (h:MH G H m v rows store outs trace) (hV:isHeading v.w V = true) (hS:isStore v.w V store = true) (hv:Vars G v.vv V) (hcap:Cap v.vv) (he:ExC G c e) (hf:formE v.w V 1 e = true) (hb:(trace.length:Int) + nodesE e ≤ 2 ^ 40) (hc:0 ≤ v.cost ∧ v.cost + nodesE e ≤ 2 ^ 60) :
  Ca E O 84 [.pointer (some ⟨m,0,none⟩),.agg c.toArray] H (fun x H'=>x = .int .i64 (valE v.w V [store] e) ∧ ∃ vt',MH G H' m { v with vt:=vt',cost:=v.cost + nodesE e } rows store outs (trace ++ evE v.w V [store] e) ∧ Mod (fun b=>b = m ∨ blk v.vt b) H H' ∧ ∀ b,blk vt' b → blk v.vt b ∨ H.nx ≤ b):=by
 refine Ca.bodyV (F:=a84) rfl rfl rfl ?_
 have hc4:c.length = 4:=by cases he; rfl
 have hw:=h.wf
 have gB:=get_new H (.cells 1 [.pointer (some ⟨m,0,none⟩)])
 have X1:=Ext.alloc H (.cells 1 [.pointer (some ⟨m,0,none⟩)])
 have d0:(H.alloc (.cells 1 [.pointer (some ⟨m,0,none⟩)])).ld ⟨H.nx,0,none⟩ = some (.pointer (some ⟨m,0,none⟩)):=ld_new hw rfl
 have d:(H.alloc (.cells 1 [.pointer (some ⟨m,0,none⟩)])).ldn ⟨H.nx,0,none⟩ 1 = some [.pointer (some ⟨m,0,none⟩)]:=ld_box hw 1 rfl
 generalize hH1:H.alloc (.cells 1 [.pointer (some ⟨m,0,none⟩)]) = H1 at X1 d0 d
 have hwH1:=X1.wf hw
 rw [hH1] at gB
 have X2:=Ext.alloc H1 (.cells c.length c)
 have q:(H1.alloc (.cells c.length c)).ldn ⟨H1.nx,0,none⟩ 4 = some c:=ld_box hwH1 4 (by assumption)
 generalize hH2:H1.alloc (.cells c.length c) = H2 at X2 q
 have hwH2:=X2.wf hwH1
 have X02:=X1.trans X2
 have h2:=h.ext X02
 have x1:=X1.nx
 have x2:=X2.nx
 have pn:=nodesE_pos e
 have ltm:=h.lt (.inl rfl)
 have d0':=X2.ld d0
 have l10:=ld_get h2.get h2.n0 (k:=10) (v:=.int .i64 v.cost) rfl
 have dn:=ld_ldn.1 d0'
 have ln:=ld_ldn.1 l10
 simp (maxSteps:=4000000) -implicitDefEqProofs +contextual [-X.ev,a84,hH1,hH2,d0',l10,q]
 apply Vx_callM
 ·(simp -implicitDefEqProofs [-X.ev]; rfl)
 refine (ENodes_ca _ _ c H2 (Nat.lt_succ_self _) hwH2 (he.sub h2.sub) (by omega)).mono ?_
 rintro x H3 ⟨rfl,X3⟩
 have h3:=h2.ext X3
 have x3:=X3.nx
 have x30:=X3.n0
 have dn3:=X3.ldn dn
 have ln3:=X3.ldn ln
 have ww:IntKind.i64.wrap (v.cost + nodesE e) = v.cost + nodesE e:=wrap_in ⟨by omega,by omega⟩
 obtain ⟨H4,s4,M4,nx4,n04,g4⟩:=st_get h3.get h3.n0 (k:=10) (vs:=[.int .i64 (v.cost + nodesE e)]) (by simp)
 have h4:MH G H4 m { v with vt:=v.vt,cost:=v.cost + nodesE e } rows store outs trace:=h3.retrace (M4.mono fun x _ hx=>.inl hx) g4 (h3.tr.mod M4 fun b hb q=>h.d1.2.2.2 (q ▸ hb)) (fun b hb=>.inl hb)
 have hw4:=h4.wf
 have n04':H4.n0 = H.n0:=n04.trans (x30.trans X02.n0)
 have gB4:=M4.get (fun q=>by omega) (X3.get (X2.get gB))
 have lB4:H4.ld ⟨H.nx,0,none⟩ = some (.pointer (some ⟨m,0,none⟩)):=ld_get gB4 (by rw [n04']; exact hw) rfl
 have q4:H4.ldn ⟨H1.nx,0,none⟩ 4 = some c:=M4.ldn (fun q=>by simp at q; omega) (X3.ldn q)
 have r1:=ld_get h4.get h4.n0 (k:=1) (v:=.int .i64 v.w) rfl
 have r2:=ld_get h4.get h4.n0 (k:=2) (v:=v.vv) rfl
 have r7:=ld_get h4.get h4.n0 (k:=7) (v:=v.vs) rfl
 obtain ⟨sa,sc,hvs⟩:=h.st.shape
 have hbs:=bsl1 (sz:=1) (z:=[.slice none 0 0]) (H:=H4) (v:=v.vs) (by rw [hvs]; rfl) (by rw [hvs]; rfl) rfl
 have hvc:vcells v.vs = [v.vs]:=by rw [hvs]; rfl
 rw [hvc] at hbs
 have X5:=Ext.alloc H4 (.cells 1 [v.vs])
 have g5:=get_new H4 (.cells 1 [v.vs])
 obtain ⟨H5,hH5⟩:∃ H5,H4.alloc (.cells 1 [v.vs]) = H5:=⟨_,rfl⟩
 rw [hH5] at hbs X5 g5
 have h5:=h4.ext X5
 have x5:=X5.nx
 have hw5:=h5.wf
 have n05:=X5.n0
 -- what stays
 obtain ⟨R0,hR0⟩:∃ R0:Nat → Prop,R0 = (fun b=>b = m ∨ blk v.vt b):=⟨_,rfl⟩
 have hRG:∀ b,R0 b → G.get b = none:=fun b hb=>h.out b (by subst hR0; rcases hb with q | q; exact .inl q; exact .inr (.inr (.inr (.inr q))))
 have hRlt:∀ b,R0 b → b < H.nx:=fun b hb=>h.lt (by subst hR0; rcases hb with q | q; exact .inl q; exact .inr (.inr (.inr (.inr q))))
 have SG:=sub_part h5.sub hRG
 have lBG:(part H5 0 R0).ld ⟨H.nx,0,none⟩ = some (.pointer (some ⟨m,0,none⟩)):=ld_get (part_get.2 ⟨X5.get gB4,Nat.zero_le _,fun q=>by have:=hRlt _ q; omega⟩) (by rw [part_n0,n05,n04']; exact hw) rfl
 have oS:Own H5 1 (.slice (some ⟨H4.nx,0,none⟩) 1 1) [[v.vs]]:=⟨.inr ⟨H4.nx,rfl,by rw [n05]; exact hw4,g5⟩,by simp⟩
 have sC:StoresC (part H5 0 R0) (.slice (some ⟨H4.nx,0,none⟩) 1 1) [store]:=⟨[[v.vs]],(oS.part fun b hb=>⟨Nat.zero_le _,fun q=>by rw [blk_slice] at hb; have:=hRlt _ q; omega⟩).rows,.cons ⟨v.vs,rfl,(h5.st.part fun b hb=>⟨Nat.zero_le _,fun q=>by
  subst hR0
  rcases q with rfl | q
  ·exact h.d1.2.1 hb
  ·exact (h.d3 b hb).2 q⟩).ints⟩ .nil⟩
 have hI:seeI m { v with vt:=v.vt,cost:=v.cost + nodesE e } trace [] R0 H5:=⟨v.vt,hR0,h5.get,h5.n0,by simpa using h5.tr,h.d1.2.2.2⟩
 have hSO:SOk v.w V [store]:=fun t ht=>by simp at ht; subst ht; exact hS
 have key:=EEval_ca hV hSO (Vars.sub SG hv) hcap sC (see_ca lBG (by omega)) hw5 (part_of _ _ _) hI (fun b hb=>part_none hb) (he.sub SG) hf (by simp; omega)
 have w1:=wrap_in (n:=v.cost + nodesE e) ⟨by omega,by omega⟩
 rw [hvs] at r7 hbs
 simp (maxSteps:=4000000) -implicitDefEqProofs +contextual [-X.ev,ww,s4,x3,x30,nx4,n04,dn,dn3,ln,ln3,okD_of,chain_2,chain_1,lB4,r1,r2,r7,hbs,X5.ldn q4]
 rw [nx4] at key
 apply Vx_callM
 ·(simp -implicitDefEqProofs [-X.ev]; rfl)
 refine (key).mono ?_
 rintro x H6 ⟨rfl,R6,⟨vt',hR6',g6,h06,o6,hd6⟩,M6,hR6⟩
 have x6:=M6.nx
 have x6n:=M6.n0
 simp (maxSteps:=4000000) -implicitDefEqProofs +contextual [-X.ev,okD_of,chain_2,chain_1,x5,n05,x6,x6n]
 subst hR0
 have fresh:∀ b,blk vt' b → blk v.vt b ∨ H5.nx ≤ b:=fun b hb=>by
  rcases hR6 b (by rw [hR6']; exact .inr hb) with (q | q) | q
  ·subst q; exact absurd hb hd6
  ·exact .inl q
  ·exact .inr q
 refine ⟨vt',h5.retrace M6 g6 (by simpa using o6) fresh,?_,fun b hb=>(fresh b hb).imp id (fun q=>by omega)⟩
 exact (((Mod.of_ext (X02.trans X3)).trans (M4.mono fun x _ hx=>.inl hx)).trans (Mod.of_ext X5)).trans M6
end Go.Proofs.YtoijnpfpjpefgaaGreat.A
/- A text without what this claim does not need: S40. -/
set_option linter.unusedVariables false
set_option linter.unusedSimpArgs false
set_option maxRecDepth 10000
namespace Go.Proofs.YtoijnpfpjpefgaaGreat.A
open Go
section
variable {G H H':AH} {m:Nat} {v:MV} {rows rows':List (List Value)} {store:List Int} {outs outs':List (Int × Int)} {trace trace':List Ev}
theorem MH.refr {vf:Value} (h:MH G H m v rows store outs trace) (M:Mod (fun b=>b = m ∨ blk v.vf b) H H') (g:H'.get m = some (.cells 14 ({ v with vf:=vf }:MV).cells)) (o:Ownr H' 2 vf rows') (hf:∀ b,blk vf b → blk v.vf b ∨ H.nx ≤ b):MH G H' m { v with vf:=vf } rows' store outs trace where
 get:=g
 n0:=by rw [M.n0]; exact h.n0
 sub:=h.sub.mod M fun b hb=>h.out b (by rcases hb with q | q; exact .inl q; exact .inr (.inl q))
 wf:=M.wf h.wf
 fr:=o
 st:=h.st.mod M fun b hb q=>by rcases q with rfl | q; exact h.d1.2.1 hb; exact (h.d2 b q).1 hb
 ou:=h.ou.mod M fun b hb q=>by rcases q with rfl | q; exact h.d1.2.2.1 hb; exact (h.d2 b q).2.1 hb
 tr:=h.tr.mod M fun b hb q=>by rcases q with rfl | q; exact h.d1.2.2.2 hb; exact (h.d2 b q).2.2 hb
 d1:=⟨fun q=>by rcases hf m q with q | q; exact h.d1.1 q; have:=h.lt (.inl rfl); omega,h.d1.2.1,h.d1.2.2.1,h.d1.2.2.2⟩
 d2:=fun b hb=>by
  rcases hf b hb with q | q
  ·exact h.d2 b q
  ·exact ⟨fun k=>by have:=h.lt (.inr (.inr (.inl k))); omega,fun k=>by have:=h.lt (.inr (.inr (.inr (.inl k)))); omega,fun k=>by have:=h.lt (.inr (.inr (.inr (.inr k)))); omega⟩
 d3:=h.d3
 d4:=h.d4
 out:=fun b hb=>by
  rcases hb with q | q | q
  ·exact h.out b (.inl q)
  ·rcases hf b q with q | q
   ·exact h.out b (.inr (.inl q))
   ·exact AH.get_ge (Nat.le_trans h.sub.nx q)
  ·exact h.out b (.inr (.inr q))
theorem MH.reout {vo:Value} (h:MH G H m v rows store outs trace) (M:Mod (fun b=>b = m ∨ blk v.vo b) H H') (g:H'.get m = some (.cells 14 ({ v with vo:=vo }:MV).cells)) (o:Own H' 2 vo (outRows outs')) (hf:∀ b,blk vo b → blk v.vo b ∨ H.nx ≤ b):MH G H' m { v with vo:=vo } rows store outs' trace where
 get:=g
 n0:=by rw [M.n0]; exact h.n0
 sub:=h.sub.mod M fun b hb=>h.out b (by rcases hb with q | q; exact .inl q; exact .inr (.inr (.inr (.inl q))))
 wf:=M.wf h.wf
 fr:=h.fr.mod M fun b hb q=>by rcases q with rfl | q; exact h.d1.1 hb; exact (h.d2 b hb).2.1 q
 st:=h.st.mod M fun b hb q=>by rcases q with rfl | q; exact h.d1.2.1 hb; exact (h.d3 b hb).1 q
 ou:=o
 tr:=h.tr.mod M fun b hb q=>by rcases q with rfl | q; exact h.d1.2.2.2 hb; exact h.d4 b q hb
 d1:=⟨h.d1.1,h.d1.2.1,fun q=>by rcases hf m q with q | q; exact h.d1.2.2.1 q; have:=h.lt (.inl rfl); omega,h.d1.2.2.2⟩
 d2:=fun b hb=>⟨(h.d2 b hb).1,fun q=>by rcases hf b q with q | q; exact (h.d2 b hb).2.1 q; have:=h.lt (.inr (.inl hb)); omega,(h.d2 b hb).2.2⟩
 d3:=fun b hb=>⟨fun q=>by rcases hf b q with q | q; exact (h.d3 b hb).1 q; have:=h.lt (.inr (.inr (.inl hb))); omega,(h.d3 b hb).2⟩
 d4:=fun b hb q=>by rcases hf b hb with k | k; exact h.d4 b k q; have:=h.lt (.inr (.inr (.inr (.inr q)))); omega
 out:=fun b hb=>by
  rcases hb with q | q | q | q | q
  ·exact h.out b (.inl q)
  ·exact h.out b (.inr (.inl q))
  ·exact h.out b (.inr (.inr (.inl q)))
  ·rcases hf b q with q | q
   ·exact h.out b (.inr (.inr (.inr (.inl q))))
   ·exact AH.get_ge (Nat.le_trans h.sub.nx q)
  ·exact h.out b (.inr (.inr (.inr (.inr q))))
theorem MH.recell {v':MV} (h:MH G H m v rows store outs trace) (M:Mod (fun b=>b = m) H H') (g:H'.get m = some (.cells 14 v'.cells)) (e1:v'.vf = v.vf) (e2:v'.vs = v.vs) (e3:v'.vo = v.vo) (e4:v'.vt = v.vt):MH G H' m v' rows store outs trace where
 get:=g
 n0:=by rw [M.n0]; exact h.n0
 sub:=h.sub.mod M fun b hb=>h.out b (.inl hb)
 wf:=M.wf h.wf
 fr:=by rw [e1]; exact h.fr.mod M fun b hb q=>h.d1.1 (q ▸ hb)
 st:=by rw [e2]; exact h.st.mod M fun b hb q=>h.d1.2.1 (q ▸ hb)
 ou:=by rw [e3]; exact h.ou.mod M fun b hb q=>h.d1.2.2.1 (q ▸ hb)
 tr:=by rw [e4]; exact h.tr.mod M fun b hb q=>h.d1.2.2.2 (q ▸ hb)
 d1:=by rw [e1,e2,e3,e4]; exact h.d1
 d2:=by rw [e1,e2,e3,e4]; exact h.d2
 d3:=by rw [e2,e3,e4]; exact h.d3
 d4:=by rw [e3,e4]; exact h.d4
 out:=fun b hb=>h.out b (by unfold Mf at hb ⊢; rw [e1,e2,e3,e4] at hb; exact hb)
theorem splice_one {x:Value}:∀ {l:List Value} {k:Nat},k < l.length → splice l k [x] = l.set k x
 | y :: l,0,_=>by simp [splice]
 | y :: l,k + 1,h=>by simp only [splice,List.set_cons_succ]; rw [splice_one (by simpa using h)]
theorem intRows_flat (l:List Int):(intRows l).flatten = l.map (fun n=>.int .i64 n):=by
 induction l with
 | nil=>rfl
 | cons x l ih=>simp only [intRows,List.map_cons,List.flatten_cons,List.singleton_append] at ih ⊢; rw [ih]
theorem MH.poke {k : Nat} (a : Int) (h : MH G H m v rows store outs trace) (hk : k < store.length) : ∃ b H', v.vs = .slice (some ⟨b, 0, none⟩) store.length store.length ∧ H.st ⟨b, k, none⟩ [.int .i64 a] = some H' ∧ MH G H' m v rows (store.set k a) outs trace ∧ Mod (Mf m v) H H' ∧ H'.nx = H.nx ∧ H'.n0 = H.n0 := by
  rcases h.st.is with ⟨_, e⟩ | ⟨b, e, h0, g⟩
  · have := congrArg List.length e; simp [intRows] at this; subst this; simp at hk
  rw [intRows_flat] at g
  have el : (intRows store).length = store.length := by simp [intRows]
  rw [el] at e
  have hb : blk v.vs b := by rw [e]; exact (blk_slice _ _ _ _ _).2 rfl
  obtain ⟨H', st, M, nx, n0, g'⟩ := st_get g h0 (k := k) (vs := [.int .i64 a]) (by simp; omega)
  rw [splice_one (by simpa using hk), ← List.map_set, ← intRows_flat] at g'
  refine ⟨b, H', e, st, ?_, M.mono fun x _ hx => .inr (.inr (.inl (hx ▸ hb))), nx, n0⟩
  exact
    { get := M.get (fun q => h.d1.2.1 (by rw [q]; exact hb)) h.get
      n0 := by rw [n0]; exact h.n0
      sub := h.sub.mod M fun x hx => h.out x (.inr (.inr (.inl (hx ▸ hb))))
      wf := M.wf h.wf
      fr := h.fr.mod M fun x hx q => (h.d2 x hx).1 (q ▸ hb)
      st := ⟨.inr ⟨b, by rw [e]; simp [intRows], by rw [n0]; exact h0, g'⟩, fun r hr => by obtain ⟨a', _, rfl⟩ := List.mem_map.1 hr; rfl⟩
      ou := h.ou.mod M fun x hx q => (h.d3 x (q ▸ hb)).1 hx
      tr := h.tr.mod M fun x hx q => (h.d3 x (q ▸ hb)).2 hx
      d1 := h.d1, d2 := h.d2, d3 := h.d3, d4 := h.d4, out := h.out }
end
section
variable {G H:AH} {m:Nat} {v:MV} {rows:List (List Value)} {store:List Int} {outs:List (Int × Int)} {trace:List Ev} {V:List Vr}
theorem mindex0 {op n:Int} {va vt ve:Value} (h:MH G H m v rows store outs trace) (hv:Vars G v.vv V) (hn:0 ≤ n ∧ n < V.length) (hc:¬ 1 < cellsAt V n) :
  Ca E O 83 [.pointer (some ⟨m,0,none⟩),.agg #[.int .i64 op,.int .i64 n,va,vt,ve]] H (fun x H'=>x = .int .i64 0 ∧ Ext H H'):=by
 refine Ca.bodyV (F:=a83) rfl rfl rfl ?_
 have hw:=h.wf
 have X1:=Ext.alloc H (.cells 5 [.int .i64 op,.int .i64 n,va,vt,ve])
 have d0:(H.alloc (.cells 5 [.int .i64 op,.int .i64 n,va,vt,ve])).ld ⟨H.nx,0,none⟩ = some (.int .i64 op):=ld_new hw rfl
 have d1:(H.alloc (.cells 5 [.int .i64 op,.int .i64 n,va,vt,ve])).ld ⟨H.nx,1,none⟩ = some (.int .i64 n):=ld_new hw rfl
 have d2:(H.alloc (.cells 5 [.int .i64 op,.int .i64 n,va,vt,ve])).ld ⟨H.nx,2,none⟩ = some va:=ld_new hw rfl
 have d3:(H.alloc (.cells 5 [.int .i64 op,.int .i64 n,va,vt,ve])).ld ⟨H.nx,3,none⟩ = some vt:=ld_new hw rfl
 have d4:(H.alloc (.cells 5 [.int .i64 op,.int .i64 n,va,vt,ve])).ld ⟨H.nx,4,none⟩ = some ve:=ld_new hw rfl
 have d:(H.alloc (.cells 5 [.int .i64 op,.int .i64 n,va,vt,ve])).ldn ⟨H.nx,0,none⟩ 5 = some [.int .i64 op,.int .i64 n,va,vt,ve]:=ld_box hw 5 rfl
 generalize hH1:H.alloc (.cells 5 [.int .i64 op,.int .i64 n,va,vt,ve]) = H1 at X1 d0 d1 d2 d3 d4 d
 have hwH1:=X1.wf hw
 have h1:=h.ext X1
 obtain ⟨yv,hyv⟩:∃ yv,V[n.toNat]? = some yv:=⟨_,List.getElem?_eq_getElem (by omega)⟩
 have hcy:cellsAt V n = yv.cells:=by simp [cellsAt,hyv]
 obtain ⟨b,o,c',hvv,_,_,_,hldc⟩:=(Vars.sub h1.sub hv).at hyv
 have r2:=ld_get h1.get h1.n0 (k:=2) (v:=v.vv) rfl
 rw [hvv] at r2
 rw [hcy] at hc
 simp (maxSteps:=4000000) -implicitDefEqProofs +contextual [-X.ev,a83,hH1,r2,d1,hn.1,hn.2,hldc,hc,okD_of,chain_2,chain_1]
 exact X1
theorem mindex1 {op n:Int} {va vt ve:Value} {ra:List (List Value)} {args:List Exp} {y:Exp} (h:MH G H m v rows store outs trace) (hV:isHeading v.w V = true) (hS:isStore v.w V store = true) (hv:Vars G v.vv V) (hcap:Cap v.vv) (hn:0 ≤ n ∧ n < V.length) (hc:1 < cellsAt V n)
  (hr:Rows G 4 va ra) (hl:ExL G ra args) (hy:args[0]? = some y) (hf:formE v.w V 1 y = true) (hb:(trace.length:Int) + nodesE y ≤ 2 ^ 40) (hco:0 ≤ v.cost ∧ v.cost + nodesE y ≤ 2 ^ 60) :
  Ca E O 83 [.pointer (some ⟨m,0,none⟩),.agg #[.int .i64 op,.int .i64 n,va,vt,ve]] H (fun x H'=>x = .int .i64 (valE v.w V [store] y) ∧ ∃ vt',MH G H' m { v with vt:=vt',cost:=v.cost + nodesE y } rows store outs (trace ++ evE v.w V [store] y) ∧ Mod (fun b=>b = m ∨ blk v.vt b) H H' ∧ ∀ b,blk vt' b → blk v.vt b ∨ H.nx ≤ b):=by
 refine Ca.bodyV (F:=a83) rfl rfl rfl ?_
 have hw:=h.wf
 have X1:=Ext.alloc H (.cells 5 [.int .i64 op,.int .i64 n,va,vt,ve])
 have d0:(H.alloc (.cells 5 [.int .i64 op,.int .i64 n,va,vt,ve])).ld ⟨H.nx,0,none⟩ = some (.int .i64 op):=ld_new hw rfl
 have d1:(H.alloc (.cells 5 [.int .i64 op,.int .i64 n,va,vt,ve])).ld ⟨H.nx,1,none⟩ = some (.int .i64 n):=ld_new hw rfl
 have d2:(H.alloc (.cells 5 [.int .i64 op,.int .i64 n,va,vt,ve])).ld ⟨H.nx,2,none⟩ = some va:=ld_new hw rfl
 have d3:(H.alloc (.cells 5 [.int .i64 op,.int .i64 n,va,vt,ve])).ld ⟨H.nx,3,none⟩ = some vt:=ld_new hw rfl
 have d4:(H.alloc (.cells 5 [.int .i64 op,.int .i64 n,va,vt,ve])).ld ⟨H.nx,4,none⟩ = some ve:=ld_new hw rfl
 have d:(H.alloc (.cells 5 [.int .i64 op,.int .i64 n,va,vt,ve])).ldn ⟨H.nx,0,none⟩ 5 = some [.int .i64 op,.int .i64 n,va,vt,ve]:=ld_box hw 5 rfl
 generalize hH1:H.alloc (.cells 5 [.int .i64 op,.int .i64 n,va,vt,ve]) = H1 at X1 d0 d1 d2 d3 d4 d
 have hwH1:=X1.wf hw
 have h1:=h.ext X1
 obtain ⟨yv,hyv⟩:∃ yv,V[n.toNat]? = some yv:=⟨_,List.getElem?_eq_getElem (by omega)⟩
 have hcy:cellsAt V n = yv.cells:=by simp [cellsAt,hyv]
 obtain ⟨b,o,c',hvv,_,_,_,hldc⟩:=(Vars.sub h1.sub hv).at hyv
 have r2:=ld_get h1.get h1.n0 (k:=2) (v:=v.vv) rfl
 rw [hvv] at r2
 rw [hcy] at hc
 obtain ⟨b4,o4,c4,vy,r,hva,hldn,hre,hey⟩:=ExL.row hr hl hy
 have hldn1:=h1.sub.ldn hldn
 simp only [Nat.zero_mul,Nat.add_zero] at hldn1
 have alen:0 < args.length:=by have:=(List.getElem?_eq_some_iff.1 hy).1; omega
 rw [← hre] at hldn1
 have d2':=d2
 rw [hva] at d2'
 have x1:=X1.nx
 simp (maxSteps:=4000000) -implicitDefEqProofs +contextual [-X.ev,a83,hH1,r2,d1,d2',hn.1,hn.2,hldc,hc,alen,hldn1,okD_of,chain_2,chain_1]
 apply Vx_callM
 ·(simp -implicitDefEqProofs [-X.ev]; rfl)
 refine (meval_ca h1 hV hS hv hcap hey hf hb hco).mono ?_
 rintro x H2 ⟨rfl,vt',h2,M2,k2⟩
 simp (maxSteps:=4000000) -implicitDefEqProofs +contextual [-X.ev]
 exact ⟨vt',h2,(Mod.of_ext X1).trans M2,fun b hb=>(k2 b hb).imp id (fun q=>by omega)⟩
end
end Go.Proofs.YtoijnpfpjpefgaaGreat.A
/- A text without what this claim does not need: S41. -/
set_option linter.unusedVariables false
set_option linter.unusedSimpArgs false
set_option maxRecDepth 10000
namespace Go.Proofs.YtoijnpfpjpefgaaGreat.A
open Go
section
variable {G H:AH} {m:Nat} {v:MV} {rows:List (List Value)} {store:List Int} {outs:List (Int × Int)} {trace:List Ev} {V:List Vr}
theorem MH.tell (e:Ev) (h:MH G H m v rows store outs trace) (hb:trace.length ≤ 2 ^ 41) :
  ∃ H1 a c H2 H3,bslV 1 3 [.int .i64 0,.int .i64 0,.int .i64 0] H [(0,3,.agg #[.int .i64 e.kind,.int .i64 e.at_,.int .i64 e.val])] = some (.slice (some ⟨H.nx,0,none⟩) 1 1,H1) ∧ aappend 3 24 H1 v.vt (.slice (some ⟨H.nx,0,none⟩) 1 1) = some (.slice a (trace.length + 1) c,H2) ∧ H2.st ⟨m,9,none⟩ [.slice a (trace.length + 1) c] = some H3 ∧
   MH G H3 m { v with vt:=.slice a (trace.length + 1) c } rows store outs (trace ++ [e]) ∧ Mod (fun b=>b = m ∨ blk v.vt b) H H3 ∧ (∀ b,blk (.slice a (trace.length + 1) c) b → H.nx ≤ b) ∧ H1.n0 = H.n0 ∧ H.nx ≤ H1.nx ∧ H2.n0 = H.n0 ∧ H1.nx ≤ H2.nx ∧ H3.n0 = H.n0 ∧ H3.nx = H2.nx:=by
 obtain ⟨H1,a,c,H2,H3,hb',ha,hs,g3,o3,M3,k3,n01,nx1,X1,n02,nx2,n03,nx3,M2⟩:=A.tell e h.wf h.get h.n0 h.tr h.d1.2.2.2 hb
 exact ⟨H1,a,c,H2,H3,hb',ha,hs,h.retrace M3 g3 o3 (fun b hb=>.inr (k3 b hb)),M3,k3,n01,nx1,n02,nx2,n03,nx3⟩
theorem mwrite_ca {n i a:Int} (h:MH G H m v rows store outs trace) (hV:isHeading v.w V = true) (hS:isStore v.w V store = true) (hv:Vars G v.vv V) (hcap:Cap v.vv) (hn:0 ≤ n ∧ n < V.length) (hi:0 ≤ i ∧ i ≤ 2 ^ 40) (hb:trace.length ≤ 2 ^ 41) :
  Ca E O 86 [.pointer (some ⟨m,0,none⟩),.int .i64 n,.int .i64 i,.int .i64 a] H (fun x H'=>∃ vt',MH G H' m { v with vt:=vt' } rows (store.set (firstV V n + i % cellsAt V n).toNat a) outs (trace ++ if 1 < cellsAt V n then [⟨2,n,i % cellsAt V n⟩] else []) ∧ Mod (Mf m v) H H' ∧ ∀ b,blk vt' b → blk v.vt b ∨ H.nx ≤ b):=by
 refine Ca.bodyV (F:=a86) rfl rfl rfl ?_
 have hw:=h.wf
 obtain ⟨nn,rfl⟩:∃ k:Nat,n = k:=⟨n.toNat,by omega⟩
 obtain ⟨yv,hyv⟩:∃ yv,V[nn]? = some yv:=⟨_,List.getElem?_eq_getElem (by omega)⟩
 have hcy:cellsAt V nn = yv.cells:=by simp [cellsAt,hyv]
 obtain ⟨b,o,c',hvv,_,_,_,hldc⟩:=(Vars.sub h.sub hv).at hyv
 have hcell:=cell_in hV hn i
 have rn:=rem_nn (b:=yv.cells) hi.1
 rw [if_neg (by omega)] at rn
 have hVl:=(isHeading_w hV).2.2.2
 have hw8:1 ≤ v.w ∧ v.w ≤ 8:=⟨(isHeading_w hV).1,(isHeading_w hV).2.1⟩
 obtain ⟨x0,hx0,_⟩:=isStore_get hw8 hS (i:=firstV V nn + i % cellsAt V nn) (by omega)
 have hlt:=(List.getElem?_eq_some_iff.1 hx0).1
 rw [hcy] at hcell hlt ⊢
 have r2:=ld_get h.get h.n0 (k:=2) (v:=v.vv) rfl
 rw [hvv] at r2
 have hn2:nn < V.length:=by omega
 have hldc':H.ld ⟨b,o + nn * 3 + 2,none⟩ = some (.int .i64 yv.cells):=by simpa using hldc
 have hMfm:Mf m v m:=.inl rfl
 have hMft:∀ b,blk v.vt b → Mf m v b:=fun b hb=>.inr (.inr (.inr (.inr hb)))
 refine Vk_at [.r,.r] (fun fr H1=>fr.get 0 = .pointer (some ⟨m,0,none⟩) ∧ fr.get 1 = .int .i64 nn ∧ fr.get 2 = .int .i64 i ∧ fr.get 3 = .int .i64 a ∧ fr.get 8 = .int .i64 yv.cells ∧ ∃ vt',MH G H1 m { v with vt:=vt' } rows store outs (trace ++ if 1 < yv.cells then [⟨2,nn,i % yv.cells⟩] else []) ∧ Mod (Mf m v) H H1 ∧ ∀ b,blk vt' b → blk v.vt b ∨ H.nx ≤ b) rfl ?_ ?_
 ·rintro fr H1 ⟨f0,f1,f2,f3,f8,vt',h1,M1,k1⟩
  obtain ⟨a',c1,c1',hv1,hcut⟩:=cutV (n:=nn) (Vars.sub h1.sub hv) hcap hn
  rw [Int.toNat_natCast] at hcut
  have s2:=ld_get h1.get h1.n0 (k:=2) (v:=v.vv) rfl
  rw [hvv] at hv1 hcut s2
  cases hv1
  have hw1:=h1.wf
  simp (maxSteps:=4000000) -implicitDefEqProofs +contextual [-X.ev,a86,f0,f1,f2,f3,f8,s2,hcut]
  refine Vk_loop (fun k fr H'=>Ext H1 H' ∧ ∃ j:Nat,j + k = nn ∧ fr.get 0 = .pointer (some ⟨m,0,none⟩) ∧ fr.get 2 = .int .i64 i ∧ fr.get 3 = .int .i64 a ∧ fr.get 8 = .int .i64 yv.cells ∧ fr.get 45 = .slice (some ⟨b,o,none⟩) nn c1' ∧ fr.get 46 = .int .i64 nn ∧ fr.get 47 = .int .i64 j ∧ fr.get 9 = .int .i64 (firstV V (j:Int))) ?_ nn ⟨Ext.refl _,0,by simp,by simp [f0],by simp [f2],by simp [f3],by simp [f8],by simp,by simp,by simp,by simp [firstV,wsum]⟩
  clear f0 f1 f2 f3 f8 fr
  rintro k fr H2 ⟨X2,j,hj,f0,f2,f3,f8,f45,f46,f47,f9⟩
  have hw2:=X2.wf hw1
  have h2:=h1.ext X2
  by_cases q:j < nn
  ·obtain ⟨y,hy⟩:∃ y,V[j]? = some y:=⟨_,List.getElem?_eq_getElem (by omega)⟩
   obtain ⟨b',o',c'',hv',hldn,_,_,_⟩:=(Vars.sub h2.sub hv).at hy
   rw [hvv] at hv'
   cases hv'
   simp only [Vr.row] at hldn
   obtain ⟨H3,sH3,X3,nxH3,n0H3,z,lH3⟩:=st_new (H:=H2) hw2 (z:=3) (c:=[.string ⟨#[]⟩,.int .i64 0,.int .i64 0]) (vs:=[.string y.name,.int .i64 y.level,.int .i64 y.cells]) rfl
   have z0:H3.ld ⟨H2.nx,0,none⟩ = some (.string y.name):=lH3 0 _ rfl
   have z1:H3.ld ⟨H2.nx,1,none⟩ = some (.int .i64 y.level):=lH3 1 _ rfl
   have z2:H3.ld ⟨H2.nx,2,none⟩ = some (.int .i64 y.cells):=lH3 2 _ rfl
   clear lH3
   replace z:H3.ldn ⟨H2.nx,0,none⟩ 3 = some [.string y.name,.int .i64 y.level,.int .i64 y.cells]:=z
   have hwH3:=X3.wf hw2
   simp (maxSteps:=4000000) -implicitDefEqProofs +contextual [-X.ev,f45,f46,f47,f9,q,hldn,sH3,z2]
   rw [wrap_in (n:=(j:Int) + 1) ⟨by omega,by omega⟩]
   exact ⟨k - 1,by omega,X2.trans X3,j + 1,by omega,f0,f2,f3,f8,by simp,by rw [firstV_add hy]⟩
  ·have hjn:j = nn:=by omega
   subst hjn
   have ww:IntKind.i64.wrap (firstV V j + i % yv.cells) = firstV V j + i % yv.cells:=wrap_in ⟨by omega,by omega⟩
   obtain ⟨bs,H3,hvs,hst,h3,M3,nx3,n03⟩:=h2.poke (k:=(firstV V j + i % yv.cells).toNat) a hlt
   have s7:=ld_get h2.get h2.n0 (k:=7) (v:=v.vs) rfl
   have hvs':v.vs = .slice (some ⟨bs,0,none⟩) store.length store.length:=hvs
   rw [hvs'] at s7
   have g0:0 ≤ firstV V j + i % yv.cells:=by omega
   have gl:firstV V j + i % yv.cells < (store.length:Int):=by omega
   simp (maxSteps:=4000000) -implicitDefEqProofs +contextual [-X.ev,f0,f2,f3,f8,f45,f46,f47,f9,q,s7,rn,ww,g0,gl,hst,n03,nx3,okD_of,chain_2,chain_1]
   refine ⟨vt',h3,(M1.trans (Mod.of_ext X2)).then M3 (fun b hb q=>?_),k1⟩
   rcases q with q | q | q | q | q
   ·exact .inl q
   ·exact .inr (.inl q)
   ·exact .inr (.inr (.inl q))
   ·exact .inr (.inr (.inr (.inl q)))
   ·rcases k1 b q with k | k
    ·exact hMft b k
    ·omega
 ·intro rest hrest
  by_cases hc:1 < yv.cells
  ·obtain ⟨H1,a',c1,H2,H3,hbs,ha,hs,h3,M3,k3,n01,nx1,n02,nx2,n03,nx3⟩:=h.tell ⟨2,nn,i % yv.cells⟩ hb
   have s9:=ld_get h.get h.n0 (k:=9) (v:=v.vt) rfl
   have hbu:buildV [.int .i64 0,.int .i64 0,.int .i64 0] [(0,1,.int .i64 2),(1,1,.int .i64 nn),(2,1,.int .i64 (i % yv.cells))] = some (.agg #[.int .i64 2,.int .i64 nn,.int .i64 (i % yv.cells)]):=rfl
   rw [if_pos hc] at hrest
   simp (maxSteps:=4000000) -implicitDefEqProofs +contextual [-X.ev,a86,r2,hn2,hldc',hc,s9,rn,hbu,hbs,ha,hs,n01,nx1,n02,nx2,n03,nx3,okD_of,chain_2,chain_1]
   refine hrest _ _ ⟨by simp,by simp,by simp,by simp,by simp,_,h3,M3.mono (fun b _ hb=>?_),fun b hb=>.inr (k3 b hb)⟩
   rcases hb with q | q
   ·exact .inl q
   ·exact hMft b q
  ·rw [if_neg hc,List.append_nil] at hrest
   simp (maxSteps:=4000000) -implicitDefEqProofs +contextual [-X.ev,a86,r2,hn2,hldc',hc]
   exact hrest _ _ ⟨by simp,by simp,by simp,by simp,by simp,_,h,Mod.refl _ _,fun b hb=>.inl hb⟩
end
end Go.Proofs.YtoijnpfpjpefgaaGreat.A
/- A text without what this claim does not need: S42. -/
set_option linter.unusedVariables false
set_option linter.unusedSimpArgs false
set_option maxRecDepth 10000
namespace Go.Proofs.YtoijnpfpjpefgaaGreat.A
open Go
structure CfM where
 en:Int
 store:List Int
 outs:List (Int × Int)
 trace:List Ev
 cost:Int
 used:Nat
 wh:Int
 fuel:Int
 todo:List Itm
 over:Bool
def stopM (c:CfM) (e n:Int):CfM:={ c with en:=e,wh:=n,todo:=[],over:=true }
def setM (V:List Vr) (c:CfM) (n i a:Int):CfM:={ c with store:=c.store.set (firstV V n + i % cellsAt V n).toNat a,trace:=c.trace ++ if 1 < cellsAt V n then [⟨2,n,i % cellsAt V n⟩] else [] }
def Stm.args:Stm → List Exp | .mk _ _ a _ _=>a
def actM (p:Prg) (ps:List Int) (c:CfM) (k:Int) (s:Stm) (vals:List Int) (next:List Itm):CfM :=
 match s with
 | .mk op n args thn els =>
  if op = 0 then setM p.vars c n (if 1 < cellsAt p.vars n then vAt vals 0 else 0) (vAt vals (vals.length - 1))
  else if op = 1 then { c with trace:=c.trace ++ [⟨0,k,if vAt vals 0 = 0 then 0 else 1⟩],todo:=(if vAt vals 0 = 0 then itemsM els (k + 1 + countS thn) else itemsM thn (k + 1)) ++ next }
  else if op = 2 then { c with trace:=c.trace ++ [⟨0,k,if vAt vals 0 = 0 then 0 else 1⟩],todo:=if vAt vals 0 = 0 then next else itemsM thn (k + 1) ++ (k,.mk op n args thn els) :: next }
  else if op = 3 then { c with outs:=c.outs ++ [(n,vAt vals 0)] }
  else if op = 4 then (if ps.length ≤ c.used then stopM c 4 k else setM p.vars { c with used:=c.used + 1 } n (if 1 < cellsAt p.vars n then vAt vals 0 else 0) (vAt ps c.used))
  else if op = 5 then (if vAt vals 0 = 0 then stopM c 1 k else c)
  else (if vAt vals 0 = 0 then stopM c 2 k else c)
def begunM (p:Prg) (c:CfM) (s:Stm) (next:List Itm):CfM:={ c with todo:=next,fuel:=c.fuel - 1,cost:=c.cost + 1 + nodesL s.args,trace:=c.trace ++ evL p.w p.vars [c.store] s.args }
def stepM (p:Prg) (ps:List Int) (c:CfM):CfM :=
 if c.over = true then c else match c.todo with
 | []=>c
 | (k,s) :: next=>if c.fuel = 0 then stopM c 3 k else actM p ps (begunM p c s next) k s (valL p.w p.vars [c.store] s.args) next
structure Adv (G H:AH) (m:Nat) (v:MV) (H':AH) (v':MV) (rows':List (List Value)) (store':List Int) (outs':List (Int × Int)) (trace':List Ev):Prop where
 mh:MH G H' m v' rows' store' outs' trace'
 mod:Mod (Mf m v) H H'
 new:∀ b,Mf m v' b → Mf m v b ∨ H.nx ≤ b
section
variable {G H H1 H2:AH} {m:Nat} {v v1 v2:MV} {rows rows1 rows2:List (List Value)} {store store1 store2:List Int} {outs outs1 outs2:List (Int × Int)} {trace trace1 trace2:List Ev} {V:List Vr}
theorem Adv.refl (h:MH G H m v rows store outs trace):Adv G H m v H v rows store outs trace:=⟨h,Mod.refl _ _,fun b hb=>.inl hb⟩
theorem Adv.trans (a:Adv G H m v H1 v1 rows1 store1 outs1 trace1) (b:Adv G H1 m v1 H2 v2 rows2 store2 outs2 trace2):Adv G H m v H2 v2 rows2 store2 outs2 trace2 where
 mh:=b.mh
 mod:=a.mod.then b.mod fun x hx q=>by rcases a.new x q with k | k; exact k; omega
 new:=fun x hx=>by
  have:=a.mod.nx
  rcases b.new x hx with q | q
  ·exact a.new x q
  ·right; omega
theorem Adv.ext (a:Adv G H m v H1 v1 rows1 store1 outs1 trace1) (X:Ext H1 H2):Adv G H m v H2 v1 rows1 store1 outs1 trace1:=⟨a.mh.ext X,a.mod.trans (Mod.of_ext X),a.new⟩
theorem Adv.ofExt (h:MH G H m v rows store outs trace) (X:Ext H H1):Adv G H m v H1 v rows store outs trace:=(Adv.refl h).ext X
theorem Adv.tr {vt:Value} {cost:Int} (h:MH G H1 m { v with vt:=vt,cost:=cost } rows1 store1 outs1 trace1) (M:Mod (fun b=>b = m ∨ blk v.vt b) H H1) (k:∀ b,blk vt b → blk v.vt b ∨ H.nx ≤ b):Adv G H m v H1 { v with vt:=vt,cost:=cost } rows1 store1 outs1 trace1 where
 mh:=h
 mod:=M.mono fun b _ q=>q.elim .inl fun q=>.inr (.inr (.inr (.inr q)))
 new:=fun b hb=>by
  rcases hb with q | q | q | q | q
  ·exact .inl (.inl q)
  ·exact .inl (.inr (.inl q))
  ·exact .inl (.inr (.inr (.inl q)))
  ·exact .inl (.inr (.inr (.inr (.inl q))))
  ·exact (k b q).imp (fun q=>.inr (.inr (.inr (.inr q)))) id
theorem Adv.trW {vt:Value} {store':List Int} (h:MH G H1 m { v with vt:=vt } rows1 store' outs1 trace1) (M:Mod (Mf m v) H H1) (k:∀ b,blk vt b → blk v.vt b ∨ H.nx ≤ b):Adv G H m v H1 { v with vt:=vt } rows1 store' outs1 trace1 where
 mh:=h
 mod:=M
 new:=fun b hb=>by
  rcases hb with q | q | q | q | q
  ·exact .inl (.inl q)
  ·exact .inl (.inr (.inl q))
  ·exact .inl (.inr (.inr (.inl q)))
  ·exact .inl (.inr (.inr (.inr (.inl q))))
  ·exact (k b q).imp (fun q=>.inr (.inr (.inr (.inr q)))) id
theorem Adv.fr {vf:Value} (h:MH G H m v rows store outs trace) (M:Mod (fun b=>b = m ∨ blk v.vf b) H H1) (g:H1.get m = some (.cells 14 ({ v with vf:=vf }:MV).cells)) (o:Ownr H1 2 vf rows1) (hf:∀ b,blk vf b → blk v.vf b ∨ H.nx ≤ b):Adv G H m v H1 { v with vf:=vf } rows1 store outs trace where
 mh:=h.refr M g o hf
 mod:=M.mono fun b _ q=>q.elim .inl fun q=>.inr (.inl q)
 new:=fun b hb=>by
  rcases hb with q | q | q
  ·exact .inl (.inl q)
  ·exact (hf b q).imp (fun q=>.inr (.inl q)) id
  ·exact .inl (.inr (.inr q))
theorem MH.cell {v':MV} (k:Nat) (x:Value) (h:MH G H m v rows store outs trace) (hk:k < 14) (e:v.cells.set k x = v'.cells) (e1:v'.vf = v.vf) (e2:v'.vs = v.vs) (e3:v'.vo = v.vo) (e4:v'.vt = v.vt):∃ H',H.st ⟨m,k,none⟩ [x] = some H' ∧ Adv G H m v H' v' rows store outs trace ∧ H'.nx = H.nx ∧ H'.n0 = H.n0:=by
 obtain ⟨H',st,M,nx,n0,g⟩:=st_get h.get h.n0 (k:=k) (vs:=[x]) (by simp; omega)
 rw [splice_one (by simp; omega),e] at g
 refine ⟨H',st,⟨h.recell M g e1 e2 e3 e4,M.mono fun b _ q=>.inl q,fun b hb=>.inl ?_⟩,nx,n0⟩
 unfold Mf at hb ⊢
 rw [e1,e2,e3,e4] at hb
 exact hb
theorem mbranch_ca {op n k:Int} {va vt ve:Value} {ra:List (List Value)} {args:List Exp} {y:Exp} (h:MH G H m v rows store outs trace) (hV:isHeading v.w V = true) (hS:isStore v.w V store = true) (hv:Vars G v.vv V) (hcap:Cap v.vv)
  (hr:Rows G 4 va ra) (hl:ExL G ra args) (hy:args[0]? = some y) (hf:formE v.w V 1 y = true) (hb:(trace.length:Int) + nodesE y ≤ 2 ^ 40) (hco:0 ≤ v.cost ∧ v.cost + nodesE y ≤ 2 ^ 60) :
  Ca E O 87 [.pointer (some ⟨m,0,none⟩),.agg #[.int .i64 op,.int .i64 n,va,vt,ve],.int .i64 k] H (fun x H'=>x = .bool (!decide (valE v.w V [store] y = 0)) ∧ ∃ vt',Adv G H m v H' { v with vt:=vt',cost:=v.cost + nodesE y } rows store outs (trace ++ evE v.w V [store] y ++ [⟨0,k,if valE v.w V [store] y = 0 then 0 else 1⟩])):=by
 refine Ca.bodyV (F:=a87) rfl rfl rfl ?_
 have hw:=h.wf
 have X1:=Ext.alloc H (.cells 5 [.int .i64 op,.int .i64 n,va,vt,ve])
 have d0:(H.alloc (.cells 5 [.int .i64 op,.int .i64 n,va,vt,ve])).ld ⟨H.nx,0,none⟩ = some (.int .i64 op):=ld_new hw rfl
 have d1:(H.alloc (.cells 5 [.int .i64 op,.int .i64 n,va,vt,ve])).ld ⟨H.nx,1,none⟩ = some (.int .i64 n):=ld_new hw rfl
 have d2:(H.alloc (.cells 5 [.int .i64 op,.int .i64 n,va,vt,ve])).ld ⟨H.nx,2,none⟩ = some va:=ld_new hw rfl
 have d3:(H.alloc (.cells 5 [.int .i64 op,.int .i64 n,va,vt,ve])).ld ⟨H.nx,3,none⟩ = some vt:=ld_new hw rfl
 have d4:(H.alloc (.cells 5 [.int .i64 op,.int .i64 n,va,vt,ve])).ld ⟨H.nx,4,none⟩ = some ve:=ld_new hw rfl
 have d:(H.alloc (.cells 5 [.int .i64 op,.int .i64 n,va,vt,ve])).ldn ⟨H.nx,0,none⟩ 5 = some [.int .i64 op,.int .i64 n,va,vt,ve]:=ld_box hw 5 rfl
 generalize hH1:H.alloc (.cells 5 [.int .i64 op,.int .i64 n,va,vt,ve]) = H1 at X1 d0 d1 d2 d3 d4 d
 have hwH1:=X1.wf hw
 have h1:=h.ext X1
 obtain ⟨b4,o4,c4,vy,r,hva,hldn,hre,hey⟩:=ExL.row hr hl hy
 have hldn1:=h1.sub.ldn hldn
 simp only [Nat.zero_mul,Nat.add_zero] at hldn1
 have alen:0 < args.length:=by have:=(List.getElem?_eq_some_iff.1 hy).1; omega
 rw [← hre] at hldn1
 have d2':=d2
 rw [hva] at d2'
 have x1:=X1.nx
 have u2:=evE_bound (w:=v.w) (V:=V) (S:=[store]) y
 simp (maxSteps:=4000000) -implicitDefEqProofs +contextual [-X.ev,a87,hH1,d2',alen,hldn1]
 apply Vx_callM
 ·(simp -implicitDefEqProofs [-X.ev]; rfl)
 refine (meval_ca h1 hV hS hv hcap hey hf hb hco).mono ?_
 rintro x H2 ⟨rfl,vt',h2,M2,k2⟩
 obtain ⟨Ha,a',c1,Hb,H3,hbs,ha,hs,h3,M3,k3,n01,nx1,n02,nx2,n03,nx3⟩:=h2.tell ⟨0,k,if valE v.w V [store] y = 0 then 0 else 1⟩ (by rw [List.length_append]; omega)
 have s9:=ld_get h2.get h2.n0 (k:=9) (v:=vt') rfl
 have A2:Adv G H1 m v H2 { v with vt:=vt',cost:=v.cost + nodesE y } rows store outs (trace ++ evE v.w V [store] y):=Adv.tr h2 M2 k2
 have A3:=(Adv.ofExt h X1).trans (A2.trans (Adv.tr (v:={ v with vt:=vt',cost:=v.cost + nodesE y }) h3 M3 (fun b hb=>.inr (k3 b hb))))
 simp only [List.length_append] at ha hs A3
 by_cases q:valE v.w V [store] y = 0
 ·rw [if_pos q] at hbs A3
  have hbu:buildV [.int .i64 0,.int .i64 0,.int .i64 0] [(0,1,.int .i64 0),(1,1,.int .i64 k),(2,1,.int .i64 0)] = some (.agg #[.int .i64 0,.int .i64 k,.int .i64 0]):=rfl
  simp (maxSteps:=4000000) -implicitDefEqProofs +contextual [-X.ev,q,s9,hbu,hbs,ha,hs]
  exact ⟨_,by simpa [q] using A3⟩
 ·rw [if_neg q] at hbs A3
  have hbu:buildV [.int .i64 0,.int .i64 0,.int .i64 0] [(0,1,.int .i64 0),(1,1,.int .i64 k),(2,1,.int .i64 1)] = some (.agg #[.int .i64 0,.int .i64 k,.int .i64 1]):=rfl
  simp (maxSteps:=4000000) -implicitDefEqProofs +contextual [-X.ev,q,s9,hbu,hbs,ha,hs]
  exact ⟨_,by simpa [q] using A3⟩
end
end Go.Proofs.YtoijnpfpjpefgaaGreat.A
/- A text without what this claim does not need: S43. -/
set_option linter.unusedVariables false
set_option linter.unusedSimpArgs false
set_option maxRecDepth 10000
namespace Go.Proofs.YtoijnpfpjpefgaaGreat.A
open Go
def Fra (G:AH) (r:List Value) (f:List Stm × Int):Prop:=∃ vl rs,r = [vl,.int .i64 f.2] ∧ Rows G 5 vl rs ∧ StKL G rs f.1 ∧ Fit G vl ∧ f.1 ≠ [] ∧ f.1.length ≤ 2 ^ 30
def flatF (fs:List (List Stm × Int)):List Itm:=fs.foldl (fun t f=>itemsM f.1 f.2 ++ t) []
theorem flatF_snoc (fs:List (List Stm × Int)) (f:List Stm × Int):flatF (fs ++ [f]) = itemsM f.1 f.2 ++ flatF fs:=by simp [flatF,List.foldl_append]
theorem All2.snoc {α β:Type} {C:α → β → Prop}:∀ {l:List α} {k:List β} {a:α} {b:β},All2 C l k → C a b → All2 C (l ++ [a]) (k ++ [b])
 | _,_,_,_,.nil,h=>.cons h .nil
 | _,_,_,_,.cons x y,h=>.cons x (All2.snoc y h)
theorem items_cons (s:Stm) (l:List Stm) (k:Int):itemsM (s :: l) k = (k,s) :: itemsM l (k + countSt s):=by
 obtain ⟨op,n,args,thn,els⟩:=s
 rw [itemsM,countSt]
 simp only [List.cons.injEq,true_and]
 congr 1
 omega
section
variable {G H:AH} {m:Nat} {v:MV} {rows rows0:List (List Value)} {store:List Int} {outs:List (Int × Int)} {trace:List Ev} {V:List Vr}
theorem mdrop_ca {vl:Value} {cs:List Value} {rs:List (List Value)} {s:Stm} {l:List Stm} {k:Int} {fs0:List (List Stm × Int)} (h:MH G H m v (rows0 ++ [[vl,.int .i64 k]]) store outs trace) (hr:Rows G 5 vl (cs :: rs)) (hf:Fit G vl) (hs:StK G cs s) (hl:StKL G rs l) (h0:All2 (Fra G) rows0 fs0)
  (hb:rows0.length ≤ 2 ^ 40) (hnd:nodesSt s ≤ 2 ^ 30) (hrs:l.length ≤ 2 ^ 30) (hk:0 ≤ k ∧ k ≤ 2 ^ 40) :
  Ca E O 85 [.pointer (some ⟨m,0,none⟩)] H (fun x H'=>∃ vf' rows' fs',Adv G H m v H' { v with vf:=vf' } rows' store outs trace ∧ All2 (Fra G) rows' fs' ∧ flatF fs' = itemsM l (k + countSt s) ++ flatF fs0 ∧ rows'.length ≤ rows0.length + 1):=by
 have hcs:countSt s ≤ nodesSt s:=by
  obtain ⟨op,n,args,thn,els⟩:=s
  have:=(countS_bound thn).2; have:=(countS_bound els).2; have:=nodesL_pos args
  rw [countSt,nodesSt]; omega
 refine (drop_ca h.wf h.get h.n0 h.fr h.d1.1 hb h.sub (fun b q=>h.out b (q.elim .inl fun q=>.inr (.inl q))) hr hf hs.toC (by omega) (by rw [hl.length]; omega) hk (by omega)).mono ?_
 rintro x H' ⟨vf',g,⟨vl',hr',hf',o⟩,M,kk⟩
 have A:=Adv.fr h M g o (fun b hb=>.inl (kk b hb))
 by_cases hz:rs.length = 0
 ·have hl0:l = []:=List.eq_nil_of_length_eq_zero (by rw [← hl.length]; exact hz)
  rw [dropR,if_pos hz] at A
  exact ⟨vf',rows0,fs0,A,h0,by rw [hl0]; rfl,by omega⟩
 ·rw [dropR,if_neg hz] at A
  exact ⟨vf',_,fs0 ++ [(l,k + countSt s)],A,h0.snoc ⟨vl',rs,rfl,hr',hl,hf',fun q=>hz (by rw [hl.length]; simp at q; rw [q]; rfl),hrs⟩,by rw [flatF_snoc],by simp⟩
theorem mpush_ca {vt:Value} {rt:List (List Value)} {thn:List Stm} {k:Int} {fs:List (List Stm × Int)} (h:MH G H m v rows store outs trace) (hr:Rows G 5 vt rt) (hl:StKL G rt thn) (hf:Fit G vt) (h0:All2 (Fra G) rows fs) (hb:rows.length ≤ 2 ^ 40) (hlen:thn.length ≤ 2 ^ 30) :
  Ca E O 50 [.pointer (some ⟨m,0,none⟩),vt,.int .i64 k] H (fun x H'=>∃ vf' rows' fs',Adv G H m v H' { v with vf:=vf' } rows' store outs trace ∧ All2 (Fra G) rows' fs' ∧ flatF fs' = itemsM thn k ++ flatF fs ∧ rows'.length ≤ rows.length + 1):=by
 obtain ⟨a,c,hvt⟩:=hr.len
 rw [hl.length] at hvt
 subst hvt
 refine (push_ca h.wf h.get h.n0 h.fr h.d1.1 hb).mono ?_
 rintro x H' ⟨vf',g,o,M,kk⟩
 have A:=Adv.fr h M g o kk
 by_cases hz:thn.length = 0
 ·have hl0:thn = []:=List.eq_nil_of_length_eq_zero hz
  rw [if_pos hz] at A
  exact ⟨vf',rows,fs,A,h0,by rw [hl0]; rfl,by omega⟩
 ·rw [if_neg hz] at A
  exact ⟨vf',_,fs ++ [(thn,k)],A,h0.snoc ⟨_,rt,rfl,hr,hl,hf,fun q=>hz (by simp at q; rw [q]; rfl),hlen⟩,by rw [flatF_snoc],by simp⟩
theorem mend_ca {how n:Int} (h:MH G H m v rows store outs trace) :
  Ca E O 52 [.pointer (some ⟨m,0,none⟩),.int .i64 how,.int .i64 n] H (fun x H'=>x = .bool false ∧ Adv G H m v H' { v with en:=how,wh:=n,ended:=true } rows store outs trace):=by
 refine Ca.bodyV (F:=a52) rfl rfl rfl ?_
 obtain ⟨H1,s1,A1,_,_⟩:=h.cell (v':={ v with ended:=true }) 13 (.bool true) (by omega) rfl rfl rfl rfl rfl
 obtain ⟨H2,s2,A2,_,_⟩:=A1.mh.cell (v':={ v with ended:=true,en:=how }) 6 (.int .i64 how) (by omega) rfl rfl rfl rfl rfl
 obtain ⟨H3,s3,A3,_,_⟩:=A2.mh.cell (v':={ v with ended:=true,en:=how,wh:=n }) 12 (.int .i64 n) (by omega) rfl rfl rfl rfl rfl
 simp (maxSteps:=4000000) -implicitDefEqProofs +contextual [-X.ev,a52,s1,s2,s3]
 exact A1.trans (A2.trans A3)
end
def Mt (v:MV) (c:CfM):Prop:=v.en = c.en ∧ v.cost = c.cost ∧ v.used = (c.used:Int) ∧ v.wh = c.wh ∧ v.fuel = c.fuel ∧ v.ended = c.over
def Sm (v v':MV):Prop:=v'.w = v.w ∧ v'.vv = v.vv ∧ v'.vp = v.vp ∧ v'.vb = v.vb
structure Atm (G H:AH) (m:Nat) (p:Prg) (ps:List Int) (v:MV) (c:CfM) (rows0:List (List Value)) (fs0:List (List Stm × Int)) (vl:Value) (cs:List Value) (rs:List (List Value)) (k:Int) (s:Stm) (l:List Stm):Prop where
 mh:MH G H m v (rows0 ++ [[vl,.int .i64 k]]) c.store c.outs c.trace
 hr:Rows G 5 vl (cs :: rs)
 hf:Fit G vl
 hs:StK G cs s
 hl:StKL G rs l
 h0:All2 (Fra G) rows0 fs0
 w:v.w = p.w
 vars:Vars G v.vv p.vars
 cap:Cap v.vv
 picks:Ints G v.vp ps
 head:isHeading p.w p.vars = true
 store:isStore p.w p.vars c.store = true
 mt:Mt v c
 ov:c.over = false
 row:rowSt p.w p.vars s = true
 b1:rows0.length ≤ 2 ^ 30
 b2:0 ≤ k ∧ k ≤ 2 ^ 30
 b3:nodesSt s ≤ 2 ^ 20
 b4:l.length + 1 ≤ 2 ^ 30
 b5:c.trace.length ≤ 2 ^ 31
 b6:c.outs.length ≤ 2 ^ 31
 b7:0 ≤ c.cost ∧ c.cost ≤ 2 ^ 50
 b8:c.used ≤ ps.length ∧ ps.length ≤ 2 ^ 20
structure Did (G H:AH) (m:Nat) (p:Prg) (ps:List Int) (v:MV) (H':AH) (n:Nat) (c':CfM):Prop where
 is:∃ v' rows',Adv G H m v H' v' rows' c'.store c'.outs c'.trace ∧ (c'.over = false → ∃ fs',All2 (Fra G) rows' fs' ∧ c'.todo = flatF fs') ∧ rows'.length ≤ n + 2 ∧ Mt v' c' ∧ Sm v v'
def evaldM (p:Prg) (c:CfM) (s:Stm) (next:List Itm):CfM:={ c with todo:=next,cost:=c.cost + nodesL s.args,trace:=c.trace ++ evL p.w p.vars [c.store] s.args }
abbrev nextM (l:List Stm) (k:Int) (s:Stm) (fs0:List (List Stm × Int)):List Itm:=itemsM l (k + countSt s) ++ flatF fs0
section
variable {G H:AH} {m:Nat} {p:Prg} {ps:List Int} {v:MV} {c:CfM} {rows0 rs:List (List Value)} {fs0:List (List Stm × Int)} {vl:Value} {cs:List Value} {k:Int} {s:Stm} {l:List Stm}
theorem row_cases {w:Int} {V:List Vr} {op n:Int} {args:List Exp} {thn els:List Stm} (h:rowSt w V (.mk op n args thn els) = true) :
    (∀ e ∈ args,formE w V 1 e = true ∧ nodesE e ≤ 400) ∧ rowsS w V thn = true ∧ rowsS w V els = true ∧
      ((op = 0 ∧ (0 ≤ n ∧ n < V.length) ∧ ((¬ 1 < cellsAt V n ∧ ∃ a,args = [a]) ∨ (1 < cellsAt V n ∧ ∃ a b,args = [a,b]))) ∨ (op = 1 ∧ ∃ a,args = [a]) ∨ (op = 2 ∧ ∃ a,args = [a]) ∨ (op = 3 ∧ ∃ a,args = [a]) ∨
       (op = 4 ∧ (0 ≤ n ∧ n < V.length) ∧ ((¬ 1 < cellsAt V n ∧ args = []) ∨ (1 < cellsAt V n ∧ ∃ a,args = [a]))) ∨ ((op = 5 ∨ op = 6) ∧ ∃ a,args = [a])):=by
  rw [rowSt,Bool.and_eq_true,Bool.and_eq_true,Bool.and_eq_true,List.all_eq_true] at h
  obtain ⟨h1,h2,h3,h4⟩:=h
  refine ⟨fun e he=>?_,h2,h3,?_⟩
  · have:=h4 e he
    simp only [isExp,Bool.and_eq_true,decide_eq_true_eq] at this
    exact ⟨this.2.2,this.1⟩
  unfold headOk at h1
  by_cases o0:op = 0
  · rw [if_pos o0] at h1
    simp only [varOk,Bool.and_eq_true,decide_eq_true_eq] at h1
    refine .inl ⟨o0,⟨h1.2.1,h1.2.2.1⟩,?_⟩
    by_cases hc:1 < cellsAt V n
    · have:=h1.2.2.2; rw [if_pos hc] at this
      exact .inr ⟨hc,list2 (by omega)⟩
    · have:=h1.2.2.2; rw [if_neg hc] at this
      exact .inl ⟨hc,List.length_eq_one_iff.1 (by omega)⟩
  rw [if_neg o0] at h1
  by_cases o1:op = 1
  · rw [if_pos o1] at h1; simp only [Bool.and_eq_true,decide_eq_true_eq] at h1
    exact .inr (.inl ⟨o1,List.length_eq_one_iff.1 (by omega)⟩)
  rw [if_neg o1] at h1
  by_cases o2:op = 2
  · rw [if_pos o2] at h1; simp only [Bool.and_eq_true,decide_eq_true_eq] at h1
    exact .inr (.inr (.inl ⟨o2,List.length_eq_one_iff.1 (by omega)⟩))
  rw [if_neg o2] at h1
  by_cases o3:op = 3
  · rw [if_pos o3] at h1; simp only [Bool.and_eq_true,decide_eq_true_eq] at h1
    exact .inr (.inr (.inr (.inl ⟨o3,List.length_eq_one_iff.1 (by omega)⟩)))
  rw [if_neg o3] at h1
  by_cases o4:op = 4
  · rw [if_pos o4] at h1
    simp only [varOk,Bool.and_eq_true,decide_eq_true_eq] at h1
    refine .inr (.inr (.inr (.inr (.inl ⟨o4,⟨h1.2.1,h1.2.2.1⟩,?_⟩))))
    by_cases hc:1 < cellsAt V n
    · have:=h1.2.2.2; rw [if_pos hc] at this
      exact .inr ⟨hc,List.length_eq_one_iff.1 (by omega)⟩
    · have:=h1.2.2.2; rw [if_neg hc] at this
      exact .inl ⟨hc,List.eq_nil_of_length_eq_zero (by omega)⟩
  rw [if_neg o4] at h1
  by_cases o5:op = 5 ∨ op = 6
  · rw [if_pos o5] at h1; simp only [Bool.and_eq_true,decide_eq_true_eq] at h1
    exact .inr (.inr (.inr (.inr (.inr ⟨o5,List.length_eq_one_iff.1 (by omega)⟩))))
  rw [if_neg o5] at h1
  cases h1
def needF (how:Int):AF:=⟨3,21,[.tmp 6],.seq (.reg [o 4 (.box (.t 1)),o 6 (.mv (.k (.bool false)))]) (.seq (.seq (.reg [o 7 (.mv (.t 0)),o 8 (.fa 2 (.t 4)),o 9 (.ld (.t 8)),o 10 (.ia 4 (.t 9) (.k (.int .i64 0))),o 11 (.ldn 4 (.t 10)),o 12 (.call 84 [.t 7,.t 11]),o 13 (.bin .eql (.t 12) (.k (.int .i64 0)))]) (.cond (.t 13) (.seq (.reg [o 14 (.mv (.t 0)),o 15 (.mv (.t 2)),o 16 (.call 52 [.t 14,.k (.int .i64 how),.t 15]),o 6 (.mv (.t 16))]) .ret) .skip)) (.seq (.reg [o 17 (.mv (.t 0)),o 18 (.nilc (.t 17)),o 19 (.fa 0 (.t 18)),o 20 (.call 85 [.t 19])]) (.seq (.reg [o 6 (.mv (.k (.bool true)))]) .ret)))⟩
def ActsAs (G H:AH) (f:Nat) (m:Nat) (p:Prg) (ps:List Int) (v:MV) (c:CfM) (n:Nat) (fs0:List (List Stm × Int)) (cs:List Value) (k:Int) (s:Stm) (l:List Stm):Prop :=
 ∀ c',c' = actM p ps (evaldM p c s (nextM l k s fs0)) k s (valL p.w p.vars [c.store] s.args) (nextM l k s fs0) →
  Ca E O f [.pointer (some ⟨m,0,none⟩),.agg cs.toArray,.int .i64 k] H (fun x H'=>x = .bool (!c'.over) ∧ Did G H m p ps v H' n c')
theorem need_gen {f:Nat} {op n how:Int} {args:List Exp} {thn els:List Stm} (ho:O f = none) (he:E f = some (needF how)) (hop:(op = 5 ∧ how = 1) ∨ (op = 6 ∧ how = 2)) (h:Atm G H m p ps v c rows0 fs0 vl cs rs k (.mk op n args thn els) l) :
  ActsAs G H f m p ps v c rows0.length fs0 cs k (.mk op n args thn els) l:=by
 intro c' hc'
 obtain ⟨hall,_,_,hrc⟩:=row_cases h.row
 obtain ⟨y,rfl⟩:∃ y,args = [y]:=by
  rcases hrc with ⟨q,_⟩ | ⟨q,_⟩ | ⟨q,_⟩ | ⟨q,_⟩ | ⟨q,_⟩ | ⟨_,q⟩
  ·omega
  ·omega
  ·omega
  ·omega
  ·omega
  ·exact q
 obtain ⟨hfy,hny⟩:=hall y (by simp)
 have e0:vAt (valL p.w p.vars [c.store] [y]) 0 = valE p.w p.vars [c.store] y:=rfl
 have hact:c' = if valE p.w p.vars [c.store] y = 0 then stopM (evaldM p c (.mk op n [y] thn els) (nextM l k (.mk op n [y] thn els) fs0)) how k else evaldM p c (.mk op n [y] thn els) (nextM l k (.mk op n [y] thn els) fs0):=by
  rw [hc',actM]
  rcases hop with ⟨rfl,rfl⟩ | ⟨rfl,rfl⟩
  ·rw [if_neg (by omega),if_neg (by omega),if_neg (by omega),if_neg (by omega),if_neg (by omega),if_pos rfl]; rfl
  ·rw [if_neg (by omega),if_neg (by omega),if_neg (by omega),if_neg (by omega),if_neg (by omega),if_neg (by omega)]; rfl
 clear hc'
 obtain ⟨m1,m2,m3,m4,m5,m6⟩:=h.mt
 have hcs:=h.hs
 cases hcs with | @mk _ _ va vt ve ra rt re _ _ _ i1 i2 i3 i4 i5 g1 g2 g3 g4 g5 g6 g7 g8 =>
 refine Ca.bodyV (F:=needF how) ho he rfl ?_
 have hw:=h.mh.wf
 have X1:=Ext.alloc H (.cells 5 [.int .i64 op,.int .i64 n,va,vt,ve])
 have d0:(H.alloc (.cells 5 [.int .i64 op,.int .i64 n,va,vt,ve])).ld ⟨H.nx,0,none⟩ = some (.int .i64 op):=ld_new hw rfl
 have d1:(H.alloc (.cells 5 [.int .i64 op,.int .i64 n,va,vt,ve])).ld ⟨H.nx,1,none⟩ = some (.int .i64 n):=ld_new hw rfl
 have d2:(H.alloc (.cells 5 [.int .i64 op,.int .i64 n,va,vt,ve])).ld ⟨H.nx,2,none⟩ = some va:=ld_new hw rfl
 have d3:(H.alloc (.cells 5 [.int .i64 op,.int .i64 n,va,vt,ve])).ld ⟨H.nx,3,none⟩ = some vt:=ld_new hw rfl
 have d4:(H.alloc (.cells 5 [.int .i64 op,.int .i64 n,va,vt,ve])).ld ⟨H.nx,4,none⟩ = some ve:=ld_new hw rfl
 have d:(H.alloc (.cells 5 [.int .i64 op,.int .i64 n,va,vt,ve])).ldn ⟨H.nx,0,none⟩ 5 = some [.int .i64 op,.int .i64 n,va,vt,ve]:=ld_box hw 5 rfl
 generalize hH1:H.alloc (.cells 5 [.int .i64 op,.int .i64 n,va,vt,ve]) = H1 at X1 d0 d1 d2 d3 d4 d
 have hwH1:=X1.wf hw
 have h1:=h.mh.ext X1
 obtain ⟨b4,o4,c4,vy,r,hva,hldn,hre,hey⟩:=ExL.row g1 g2 (i:=0) (y:=y) rfl
 have hldn1:=h1.sub.ldn hldn
 simp only [Nat.zero_mul,Nat.add_zero] at hldn1
 rw [← hre] at hldn1
 have d2':=d2
 rw [hva] at d2'
 have b7:=h.b7
 have b5:=h.b5
 have hw':=h.w
 have hpw:=h.w.symm
 have key:=meval_ca h1 (by rw [hw']; exact h.head) (by rw [hw']; exact h.store) h.vars h.cap hey (by rw [hw']; exact hfy) (by omega) (by rw [m2]; omega)
 have A1:=Adv.ofExt h.mh X1
 have ev:evL p.w p.vars [c.store] [y] = evE p.w p.vars [c.store] y:=by simp [evL]
 have nl:nodesL [y] = nodesE y:=by simp [nodesL]
 simp (maxSteps:=4000000) -implicitDefEqProofs +contextual [-X.ev,needF,hH1,d2',hldn1]
 apply Vx_callM
 ·(simp -implicitDefEqProofs [-X.ev]; rfl)
 refine (key).mono ?_
 rintro x H2 ⟨rfl,vt',h2,M2,k2⟩
 have A2:=A1.trans (Adv.tr (v:=v) h2 M2 k2)
 rw [hpw] at hact
 have cc:v.cost + nodesE y = (evaldM p c (.mk op n [y] thn els) (nextM l k (.mk op n [y] thn els) fs0)).cost:=by rw [m2,evaldM]; show _ = c.cost + nodesL [y]; rw [nl]
 have ct:c.trace ++ evE v.w p.vars [c.store] y = (evaldM p c (.mk op n [y] thn els) (nextM l k (.mk op n [y] thn els) fs0)).trace:=by rw [evaldM]; show _ = c.trace ++ evL p.w p.vars [c.store] [y]; rw [ev,hpw]
 by_cases q:valE v.w p.vars [c.store] y = 0
 ·rw [if_pos q] at hact
  subst hact
  simp (maxSteps:=4000000) -implicitDefEqProofs +contextual [-X.ev,q]
  apply Vx_callM
  ·(simp -implicitDefEqProofs [-X.ev]; rfl)
  refine (mend_ca (how:=how) (n:=k) A2.mh).mono ?_
  rintro x H3 ⟨rfl,A3⟩
  simp (maxSteps:=4000000) -implicitDefEqProofs +contextual [-X.ev,stopM]
  have A:=A2.trans A3
  rw [cc,ct] at A
  exact ⟨_,_,A,fun q=>by simp at q,by simp,⟨rfl,rfl,m3,rfl,m5,rfl⟩,rfl,rfl,rfl,rfl⟩
 ·rw [if_neg q] at hact
  subst hact
  simp (maxSteps:=4000000) -implicitDefEqProofs +contextual [-X.ev,q]
  apply Vx_callM
  ·(simp -implicitDefEqProofs [-X.ev]; rfl)
  refine (mdrop_ca A2.mh h.hr h.hf h.hs h.hl h.h0 (by have:=h.b1; omega) (by have:=h.b3; omega) (by have:=h.b4; omega) (by have:=h.b2; omega)).mono ?_
  rintro x H3 ⟨vf',rows',fs',A3,ha,hfl,hrl⟩
  have A:=A2.trans A3
  rw [cc,ct] at A
  simp (maxSteps:=4000000) -implicitDefEqProofs +contextual [-X.ev,evaldM,h.ov]
  exact ⟨_,_,A,fun _=>⟨fs',ha,hfl.symm⟩,by omega,⟨m1,rfl,m3,m4,m5,m6.trans h.ov⟩,rfl,rfl,rfl,rfl⟩
end
end Go.Proofs.YtoijnpfpjpefgaaGreat.A
/- A text without what this claim does not need: S44. -/
set_option linter.unusedVariables false
set_option linter.unusedSimpArgs false
set_option maxRecDepth 10000
namespace Go.Proofs.YtoijnpfpjpefgaaGreat.A
open Go
section
variable {G H:AH} {m:Nat} {p:Prg} {ps:List Int} {v:MV} {c:CfM} {rows0 rs:List (List Value)} {fs0:List (List Stm × Int)} {vl:Value} {cs:List Value} {k:Int} {s:Stm} {l:List Stm}
theorem Adv.ou {H':AH} {rows:List (List Value)} {store:List Int} {outs outs':List (Int × Int)} {trace:List Ev} {vo:Value} (h:MH G H m v rows store outs trace) (M:Mod (fun b=>b = m ∨ blk v.vo b) H H') (h':MH G H' m { v with vo:=vo } rows store outs' trace) (hf:∀ b,blk vo b → blk v.vo b ∨ H.nx ≤ b):Adv G H m v H' { v with vo:=vo } rows store outs' trace where
 mh:=h'
 mod:=M.mono fun b _ q=>q.elim .inl fun q=>.inr (.inr (.inr (.inl q)))
 new:=fun b hb=>by
  rcases hb with q | q | q | q | q
  ·exact .inl (.inl q)
  ·exact .inl (.inr (.inl q))
  ·exact .inl (.inr (.inr (.inl q)))
  ·exact (hf b q).imp (fun q=>.inr (.inr (.inr (.inl q)))) id
  ·exact .inl (.inr (.inr (.inr (.inr q))))
theorem mneed_ca {n:Int} {args:List Exp} {thn els:List Stm} (h:Atm G H m p ps v c rows0 fs0 vl cs rs k (.mk 5 n args thn els) l) :
  ActsAs G H 58 m p ps v c rows0.length fs0 cs k (.mk 5 n args thn els) l:=need_gen (how:=1) rfl rfl (.inl ⟨rfl,rfl⟩) h
theorem mmust_ca {n:Int} {args:List Exp} {thn els:List Stm} (h:Atm G H m p ps v c rows0 fs0 vl cs rs k (.mk 6 n args thn els) l) :
  ActsAs G H 59 m p ps v c rows0.length fs0 cs k (.mk 6 n args thn els) l:=need_gen (how:=2) rfl rfl (.inr ⟨rfl,rfl⟩) h
theorem row1 {w:Int} {V:List Vr} {op n:Int} {args:List Exp} {thn els:List Stm} (h:rowSt w V (.mk op n args thn els) = true) (ho:op = 1 ∨ op = 2 ∨ op = 3):∃ y,args = [y] ∧ formE w V 1 y = true ∧ nodesE y ≤ 400:=by
 obtain ⟨hall,_,_,hrc⟩:=row_cases h
 obtain ⟨y,rfl⟩:∃ y,args = [y]:=by
  rcases hrc with ⟨q,_⟩ | ⟨_,q⟩ | ⟨_,q⟩ | ⟨_,q⟩ | ⟨q,_⟩ | ⟨q,_⟩
  ·omega
  ·exact q
  ·exact q
  ·exact q
  ·omega
  ·omega
 exact ⟨y,rfl,hall y (by simp)⟩
theorem choose_ca {n:Int} {args:List Exp} {thn els:List Stm} (h:Atm G H m p ps v c rows0 fs0 vl cs rs k (.mk 1 n args thn els) l) :
  ActsAs G H 54 m p ps v c rows0.length fs0 cs k (.mk 1 n args thn els) l:=by
 intro c' hc'
 obtain ⟨y,rfl,hfy,hny⟩:=row1 h.row (by omega)
 have hact:c' = { evaldM p c (.mk 1 n [y] thn els) (nextM l k (.mk 1 n [y] thn els) fs0) with trace:=(evaldM p c (.mk 1 n [y] thn els) (nextM l k (.mk 1 n [y] thn els) fs0)).trace ++ [⟨0,k,if valE p.w p.vars [c.store] y = 0 then 0 else 1⟩],todo:=(if valE p.w p.vars [c.store] y = 0 then itemsM els (k + 1 + countS thn) else itemsM thn (k + 1)) ++ nextM l k (.mk 1 n [y] thn els) fs0 }:=by
  rw [hc',actM,if_neg (by omega),if_pos rfl]; rfl
 clear hc'
 obtain ⟨m1,m2,m3,m4,m5,m6⟩:=h.mt
 have hcs:=h.hs
 cases hcs with | @mk _ _ va vt ve ra rt re _ _ _ i1 i2 i3 i4 i5 g1 g2 g3 g4 g5 g6 g7 g8 =>
 refine Ca.bodyV (F:=a54) rfl rfl rfl ?_
 have hw:=h.mh.wf
 have X1:=Ext.alloc H (.cells 5 [.int .i64 1,.int .i64 n,va,vt,ve])
 have d0:(H.alloc (.cells 5 [.int .i64 1,.int .i64 n,va,vt,ve])).ld ⟨H.nx,0,none⟩ = some (.int .i64 1):=ld_new hw rfl
 have d1:(H.alloc (.cells 5 [.int .i64 1,.int .i64 n,va,vt,ve])).ld ⟨H.nx,1,none⟩ = some (.int .i64 n):=ld_new hw rfl
 have d2:(H.alloc (.cells 5 [.int .i64 1,.int .i64 n,va,vt,ve])).ld ⟨H.nx,2,none⟩ = some va:=ld_new hw rfl
 have d3:(H.alloc (.cells 5 [.int .i64 1,.int .i64 n,va,vt,ve])).ld ⟨H.nx,3,none⟩ = some vt:=ld_new hw rfl
 have d4:(H.alloc (.cells 5 [.int .i64 1,.int .i64 n,va,vt,ve])).ld ⟨H.nx,4,none⟩ = some ve:=ld_new hw rfl
 have d:(H.alloc (.cells 5 [.int .i64 1,.int .i64 n,va,vt,ve])).ldn ⟨H.nx,0,none⟩ 5 = some [.int .i64 1,.int .i64 n,va,vt,ve]:=ld_box hw 5 rfl
 generalize hH1:H.alloc (.cells 5 [.int .i64 1,.int .i64 n,va,vt,ve]) = H1 at X1 d0 d1 d2 d3 d4 d
 have hwH1:=X1.wf hw
 have h1:=h.mh.ext X1
 have b7:=h.b7
 have b5:=h.b5
 have b1:=h.b1
 have b2:=h.b2
 have b3:=h.b3
 rw [nodesSt] at b3
 have b4:=h.b4
 have pa:=nodesL_pos [y]
 have bt:=countS_bound thn
 have lt1:=nodesS_len thn
 have le1:=nodesS_len els
 have be:=countS_bound els
 have hw':=h.w
 have hpw:=h.w.symm
 have key:=mbranch_ca (op:=1) (n:=n) (vt:=vt) (ve:=ve) (k:=k) h1 (by rw [hw']; exact h.head) (by rw [hw']; exact h.store) h.vars h.cap g1 g2 (y:=y) rfl (by rw [hw']; exact hfy) (by omega) (by rw [m2]; omega)
 have A1:=Adv.ofExt h.mh X1
 have ev:evL p.w p.vars [c.store] [y] = evE p.w p.vars [c.store] y:=by simp [evL]
 have nl:nodesL [y] = nodesE y:=by simp [nodesL]
 rw [hpw] at hact
 have cc:v.cost + nodesE y = (evaldM p c (.mk 1 n [y] thn els) (nextM l k (.mk 1 n [y] thn els) fs0)).cost:=by rw [m2,evaldM]; show _ = c.cost + nodesL [y]; rw [nl]
 have ct:c.trace ++ evE v.w p.vars [c.store] y = (evaldM p c (.mk 1 n [y] thn els) (nextM l k (.mk 1 n [y] thn els) fs0)).trace:=by rw [evaldM]; show _ = c.trace ++ evL p.w p.vars [c.store] [y]; rw [ev,hpw]
 rw [cc,ct] at key
 simp (maxSteps:=4000000) -implicitDefEqProofs +contextual [-X.ev,a54,hH1,d]
 apply Vx_callM
 ·(simp -implicitDefEqProofs [-X.ev]; rfl)
 refine (key).mono ?_
 rintro x H2 ⟨rfl,vt',A2⟩
 have dd:=A2.mod.ldn (a:=⟨H.nx,0,none⟩) (fun q=>by have:=h.mh.lt q; simp at this) d
 simp (maxSteps:=4000000) -implicitDefEqProofs +contextual [-X.ev]
 apply Vx_callM
 ·(simp -implicitDefEqProofs [-X.ev]; rfl)
 refine (mdrop_ca A2.mh h.hr h.hf h.hs h.hl h.h0 (by omega) (by rw [nodesSt]; omega) (by omega) (by omega)).mono ?_
 rintro x H3 ⟨vf',rows',fs',A3,ha,hfl,hrl⟩
 have A23:=A2.trans A3
 have dd3:=A23.mod.ldn (a:=⟨H.nx,0,none⟩) (fun q=>by have:=h.mh.lt q; simp at this) d
 have e3:=ld_of_ldn dd3 (j:=3) rfl
 have e4:=ld_of_ldn dd3 (j:=4) rfl
 by_cases q:valE v.w p.vars [c.store] y = 0
 ·rw [if_pos q,if_pos q] at hact
  have w1:IntKind.i64.wrap (k + 1) = k + 1:=wrap_in ⟨by omega,by omega⟩
  have e3n:=ld_ldn.1 e3
  have e4n:=ld_ldn.1 e4
  simp only [q,if_true] at A3 A23
  have h3:=A3.mh
  simp (maxSteps:=4000000) -implicitDefEqProofs +contextual [-X.ev,q,w1,e3,e4]
  apply Vx_callM
  ·(simp -implicitDefEqProofs [-X.ev]; rfl)
  refine (sizeOf_ca h3.wf (g3.sub h3.sub) (StL.sub h3.sub g4.toL) (by omega) (by omega)).mono ?_
  rintro x H4 ⟨rfl,X4⟩
  have x4x:=X4.nx
  have x4n:=X4.n0
  have e4n4:=X4.ldn e4n
  have sve:same1 ve ve = true:=by obtain ⟨a,c,e⟩:=g6.len; rw [e]; simp
  have w2:IntKind.i64.wrap (k + 1 + countS thn) = k + 1 + countS thn:=wrap_in ⟨by omega,by omega⟩
  have A34:=A3.ext X4
  simp (maxSteps:=4000000) -implicitDefEqProofs +contextual [-X.ev,w2]
  apply Vx_callM
  ·(simp -implicitDefEqProofs [-X.ev]; rfl)
  refine (mpush_ca (k:=k + 1 + countS thn) A34.mh g6 g7 g8 ha (by omega) (by omega)).mono ?_
  rintro x H5 ⟨vf'',rows'',fs'',A5,ha4,hfl4,hrl4⟩
  have A:=A1.trans ((A23.ext X4).trans A5)
  have x5x:=A5.mod.nx
  have x5n:=A5.mod.n0
  simp (maxSteps:=4000000) -implicitDefEqProofs +contextual [-X.ev,okD_of,chain_2,chain_1,x4x,x4n,x5x,x5n,e4n,e4n4,sve]
  subst hact
  refine ⟨?_,_,_,A,fun _=>⟨fs'',ha4,?_⟩,by omega,⟨m1,rfl,m3,m4,m5,m6⟩,rfl,rfl,rfl,rfl⟩
  ·exact h.ov
  ·rw [hfl4,hfl]
 ·rw [if_neg q,if_neg q] at hact
  have w1:IntKind.i64.wrap (k + 1) = k + 1:=wrap_in ⟨by omega,by omega⟩
  simp only [q,if_false] at A3 A23
  simp (maxSteps:=4000000) -implicitDefEqProofs +contextual [-X.ev,q,w1,e3,e4]
  apply Vx_callM
  ·(simp -implicitDefEqProofs [-X.ev]; rfl)
  refine (mpush_ca (k:=k + 1) A3.mh g3 g4 g5 ha (by omega) (by omega)).mono ?_
  rintro x H4 ⟨vf'',rows'',fs'',A4,ha4,hfl4,hrl4⟩
  have A:=A1.trans (A23.trans A4)
  have x4n:=A4.mod.n0
  have x4x:=A4.mod.nx
  simp (maxSteps:=4000000) -implicitDefEqProofs +contextual [-X.ev,okD_of,chain_2,chain_1,x4n,x4x]
  subst hact
  refine ⟨?_,_,_,A,fun _=>⟨fs'',ha4,?_⟩,by omega,⟨m1,rfl,m3,m4,m5,m6⟩,rfl,rfl,rfl,rfl⟩
  ·exact h.ov
  ·rw [hfl4,hfl]
theorem loop_ca {n:Int} {args:List Exp} {thn els:List Stm} (h:Atm G H m p ps v c rows0 fs0 vl cs rs k (.mk 2 n args thn els) l) :
  ActsAs G H 55 m p ps v c rows0.length fs0 cs k (.mk 2 n args thn els) l:=by
 intro c' hc'
 obtain ⟨y,rfl,hfy,hny⟩:=row1 h.row (by omega)
 have hact:c' = { evaldM p c (.mk 2 n [y] thn els) (nextM l k (.mk 2 n [y] thn els) fs0) with trace:=(evaldM p c (.mk 2 n [y] thn els) (nextM l k (.mk 2 n [y] thn els) fs0)).trace ++ [⟨0,k,if valE p.w p.vars [c.store] y = 0 then 0 else 1⟩],todo:=if valE p.w p.vars [c.store] y = 0 then nextM l k (.mk 2 n [y] thn els) fs0 else itemsM thn (k + 1) ++ (k,.mk 2 n [y] thn els) :: nextM l k (.mk 2 n [y] thn els) fs0 }:=by
  rw [hc',actM,if_neg (by omega),if_neg (by omega),if_pos rfl]; rfl
 clear hc'
 obtain ⟨m1,m2,m3,m4,m5,m6⟩:=h.mt
 have hcs:=h.hs
 cases hcs with | @mk _ _ va vt ve ra rt re _ _ _ i1 i2 i3 i4 i5 g1 g2 g3 g4 g5 g6 g7 g8 =>
 refine Ca.bodyV (F:=a55) rfl rfl rfl ?_
 have hw:=h.mh.wf
 have X1:=Ext.alloc H (.cells 5 [.int .i64 2,.int .i64 n,va,vt,ve])
 have d0:(H.alloc (.cells 5 [.int .i64 2,.int .i64 n,va,vt,ve])).ld ⟨H.nx,0,none⟩ = some (.int .i64 2):=ld_new hw rfl
 have d1:(H.alloc (.cells 5 [.int .i64 2,.int .i64 n,va,vt,ve])).ld ⟨H.nx,1,none⟩ = some (.int .i64 n):=ld_new hw rfl
 have d2:(H.alloc (.cells 5 [.int .i64 2,.int .i64 n,va,vt,ve])).ld ⟨H.nx,2,none⟩ = some va:=ld_new hw rfl
 have d3:(H.alloc (.cells 5 [.int .i64 2,.int .i64 n,va,vt,ve])).ld ⟨H.nx,3,none⟩ = some vt:=ld_new hw rfl
 have d4:(H.alloc (.cells 5 [.int .i64 2,.int .i64 n,va,vt,ve])).ld ⟨H.nx,4,none⟩ = some ve:=ld_new hw rfl
 have d:(H.alloc (.cells 5 [.int .i64 2,.int .i64 n,va,vt,ve])).ldn ⟨H.nx,0,none⟩ 5 = some [.int .i64 2,.int .i64 n,va,vt,ve]:=ld_box hw 5 rfl
 generalize hH1:H.alloc (.cells 5 [.int .i64 2,.int .i64 n,va,vt,ve]) = H1 at X1 d0 d1 d2 d3 d4 d
 have hwH1:=X1.wf hw
 have h1:=h.mh.ext X1
 have b7:=h.b7
 have b5:=h.b5
 have b1:=h.b1
 have b2:=h.b2
 have b3:=h.b3
 rw [nodesSt] at b3
 have b4:=h.b4
 have pa:=nodesL_pos [y]
 have bt:=countS_bound thn
 have lt1:=nodesS_len thn
 have le1:=nodesS_len els
 have be:=countS_bound els
 have hw':=h.w
 have hpw:=h.w.symm
 have key:=mbranch_ca (op:=2) (n:=n) (vt:=vt) (ve:=ve) (k:=k) h1 (by rw [hw']; exact h.head) (by rw [hw']; exact h.store) h.vars h.cap g1 g2 (y:=y) rfl (by rw [hw']; exact hfy) (by omega) (by rw [m2]; omega)
 have A1:=Adv.ofExt h.mh X1
 have ev:evL p.w p.vars [c.store] [y] = evE p.w p.vars [c.store] y:=by simp [evL]
 have nl:nodesL [y] = nodesE y:=by simp [nodesL]
 rw [hpw] at hact
 have cc:v.cost + nodesE y = (evaldM p c (.mk 2 n [y] thn els) (nextM l k (.mk 2 n [y] thn els) fs0)).cost:=by rw [m2,evaldM]; show _ = c.cost + nodesL [y]; rw [nl]
 have ct:c.trace ++ evE v.w p.vars [c.store] y = (evaldM p c (.mk 2 n [y] thn els) (nextM l k (.mk 2 n [y] thn els) fs0)).trace:=by rw [evaldM]; show _ = c.trace ++ evL p.w p.vars [c.store] [y]; rw [ev,hpw]
 rw [cc,ct] at key
 simp (maxSteps:=4000000) -implicitDefEqProofs +contextual [-X.ev,a55,hH1,d]
 apply Vx_callM
 ·(simp -implicitDefEqProofs [-X.ev]; rfl)
 refine (key).mono ?_
 rintro x H2 ⟨rfl,vt',A2⟩
 have dd:=A2.mod.ldn (a:=⟨H.nx,0,none⟩) (fun q=>by have:=h.mh.lt q; simp at this) d
 have e3:=ld_of_ldn dd (j:=3) rfl
 by_cases q:valE v.w p.vars [c.store] y = 0
 ·rw [if_pos q,if_pos q] at hact
  simp only [q,if_true] at A2
  simp (maxSteps:=4000000) -implicitDefEqProofs +contextual [-X.ev,q]
  apply Vx_callM
  ·(simp -implicitDefEqProofs [-X.ev]; rfl)
  refine (mdrop_ca A2.mh h.hr h.hf h.hs h.hl h.h0 (by omega) (by rw [nodesSt]; omega) (by omega) (by omega)).mono ?_
  rintro x H3 ⟨vf',rows',fs',A3,ha,hfl,hrl⟩
  have A:=A1.trans (A2.trans A3)
  simp (maxSteps:=4000000) -implicitDefEqProofs +contextual [-X.ev]
  subst hact
  refine ⟨?_,_,_,A,fun _=>⟨fs',ha,?_⟩,by omega,⟨m1,rfl,m3,m4,m5,m6⟩,rfl,rfl,rfl,rfl⟩
  ·exact h.ov
  ·exact hfl.symm
 ·rw [if_neg q,if_neg q] at hact
  have w1:IntKind.i64.wrap (k + 1) = k + 1:=wrap_in ⟨by omega,by omega⟩
  simp only [q,if_false] at A2
  have hfs:All2 (Fra G) (rows0 ++ [[vl,.int .i64 k]]) (fs0 ++ [(.mk 2 n [y] thn els :: l,k)]):=h.h0.snoc ⟨vl,_,rfl,h.hr,.cons h.hs h.hl,h.hf,by simp,by simpa using b4⟩
  simp (maxSteps:=4000000) -implicitDefEqProofs +contextual [-X.ev,q,w1,e3]
  apply Vx_callM
  ·(simp -implicitDefEqProofs [-X.ev]; rfl)
  refine (mpush_ca (k:=k + 1) A2.mh g3 g4 g5 hfs (by simp; omega) (by omega)).mono ?_
  rintro x H4 ⟨vf'',rows'',fs'',A4,ha4,hfl4,hrl4⟩
  have A:=A1.trans (A2.trans A4)
  have x4n:=A4.mod.n0
  have x4x:=A4.mod.nx
  simp (maxSteps:=4000000) -implicitDefEqProofs +contextual [-X.ev,okD_of,chain_2,chain_1,x4n,x4x]
  subst hact
  simp at hrl4
  refine ⟨?_,_,_,A,fun _=>⟨fs'',ha4,?_⟩,by omega,⟨m1,rfl,m3,m4,m5,m6⟩,rfl,rfl,rfl,rfl⟩
  ·exact h.ov
  ·rw [hfl4,flatF_snoc,items_cons]; simp
theorem mout_ca {n:Int} {args:List Exp} {thn els:List Stm} (h:Atm G H m p ps v c rows0 fs0 vl cs rs k (.mk 3 n args thn els) l) :
  ActsAs G H 56 m p ps v c rows0.length fs0 cs k (.mk 3 n args thn els) l:=by
 intro c' hc'
 obtain ⟨y,rfl,hfy,hny⟩:=row1 h.row (by omega)
 have hact:c' = { evaldM p c (.mk 3 n [y] thn els) (nextM l k (.mk 3 n [y] thn els) fs0) with outs:=c.outs ++ [(n,valE p.w p.vars [c.store] y)] }:=by
  rw [hc',actM,if_neg (by omega),if_neg (by omega),if_neg (by omega),if_pos rfl]; rfl
 clear hc'
 obtain ⟨m1,m2,m3,m4,m5,m6⟩:=h.mt
 have hcs:=h.hs
 cases hcs with | @mk _ _ va vt ve ra rt re _ _ _ i1 i2 i3 i4 i5 g1 g2 g3 g4 g5 g6 g7 g8 =>
 refine Ca.bodyV (F:=a56) rfl rfl rfl ?_
 have hw:=h.mh.wf
 have X1:=Ext.alloc H (.cells 5 [.int .i64 3,.int .i64 n,va,vt,ve])
 have d0:(H.alloc (.cells 5 [.int .i64 3,.int .i64 n,va,vt,ve])).ld ⟨H.nx,0,none⟩ = some (.int .i64 3):=ld_new hw rfl
 have d1:(H.alloc (.cells 5 [.int .i64 3,.int .i64 n,va,vt,ve])).ld ⟨H.nx,1,none⟩ = some (.int .i64 n):=ld_new hw rfl
 have d2:(H.alloc (.cells 5 [.int .i64 3,.int .i64 n,va,vt,ve])).ld ⟨H.nx,2,none⟩ = some va:=ld_new hw rfl
 have d3:(H.alloc (.cells 5 [.int .i64 3,.int .i64 n,va,vt,ve])).ld ⟨H.nx,3,none⟩ = some vt:=ld_new hw rfl
 have d4:(H.alloc (.cells 5 [.int .i64 3,.int .i64 n,va,vt,ve])).ld ⟨H.nx,4,none⟩ = some ve:=ld_new hw rfl
 have d:(H.alloc (.cells 5 [.int .i64 3,.int .i64 n,va,vt,ve])).ldn ⟨H.nx,0,none⟩ 5 = some [.int .i64 3,.int .i64 n,va,vt,ve]:=ld_box hw 5 rfl
 generalize hH1:H.alloc (.cells 5 [.int .i64 3,.int .i64 n,va,vt,ve]) = H1 at X1 d0 d1 d2 d3 d4 d
 have hwH1:=X1.wf hw
 have h1:=h.mh.ext X1
 have b7:=h.b7
 have b5:=h.b5
 have b6:=h.b6
 have b1:=h.b1
 have b2:=h.b2
 have b3:=h.b3
 have b4:=h.b4
 have hw':=h.w
 have hpw:=h.w.symm
 obtain ⟨b4',o4,c4,vy,r,hva,hldn,hre,hey⟩:=ExL.row g1 g2 (i:=0) (y:=y) rfl
 have hldn1:=h1.sub.ldn hldn
 simp only [Nat.zero_mul,Nat.add_zero] at hldn1
 rw [← hre] at hldn1
 have d2':=d2
 rw [hva] at d2'
 have key:=meval_ca h1 (by rw [hw']; exact h.head) (by rw [hw']; exact h.store) h.vars h.cap hey (by rw [hw']; exact hfy) (by omega) (by rw [m2]; omega)
 have A1:=Adv.ofExt h.mh X1
 have ev:evL p.w p.vars [c.store] [y] = evE p.w p.vars [c.store] y:=by simp [evL]
 have nl:nodesL [y] = nodesE y:=by simp [nodesL]
 rw [hpw] at hact
 have cc:v.cost + nodesE y = (evaldM p c (.mk 3 n [y] thn els) (nextM l k (.mk 3 n [y] thn els) fs0)).cost:=by rw [m2,evaldM]; show _ = c.cost + nodesL [y]; rw [nl]
 have ct:c.trace ++ evE v.w p.vars [c.store] y = (evaldM p c (.mk 3 n [y] thn els) (nextM l k (.mk 3 n [y] thn els) fs0)).trace:=by rw [evaldM]; show _ = c.trace ++ evL p.w p.vars [c.store] [y]; rw [ev,hpw]
 rw [cc,ct] at key
 have r8:=ld_get h1.get h1.n0 (k:=8) (v:=v.vo) rfl
 obtain ⟨oa,oc,hvo⟩:=h.mh.ou.shape
 simp (maxSteps:=4000000) -implicitDefEqProofs +contextual [-X.ev,a56,hH1,d1,d2',hldn1,r8]
 apply Vx_callM
 ·(simp -implicitDefEqProofs [-X.ev]; rfl)
 refine (key).mono ?_
 rintro x H2 ⟨rfl,vt',h2,M2,k2⟩
 have A2:=A1.trans (Adv.tr (v:=v) h2 M2 k2)
 have x2x:=M2.nx
 have x2n:=M2.n0
 have r82:=ld_get h2.get h2.n0 (k:=8) (v:=v.vo) rfl
 have r8n:=ld_ldn.1 r8
 have r82n:=ld_ldn.1 r82
 have dd:=M2.ldn (a:=⟨H.nx,0,none⟩) (fun q=>by
  rcases q with q | q
  ·have:=h.mh.lt (.inl rfl); simp at q; omega
  ·have:=h.mh.tr.lt q; simp at this) d
 have e1n:=ld_ldn.1 d1
 have e1n2:=ld_ldn.1 (ld_of_ldn dd (j:=1) rfl)
 have hb4:=bsl1 (sz:=2) (z:=[.int .i64 0,.int .i64 0]) (H:=H2) (v:=.agg #[.int .i64 n,.int .i64 (valE v.w p.vars [c.store] y)]) rfl rfl rfl
 simp only [vcells_agg] at hb4
 have X3:=Ext.alloc H2 (.cells 2 [.int .i64 n,.int .i64 (valE v.w p.vars [c.store] y)])
 obtain ⟨H3,hH3⟩:∃ H3,H2.alloc (.cells 2 [.int .i64 n,.int .i64 (valE v.w p.vars [c.store] y)]) = H3:=⟨_,rfl⟩
 obtain ⟨s',H4,ha,o4',M4,k4,n04,nx4,wf4,n03,nx3,nx34⟩:=app1_own (bytes:=16) h2.wf h2.ou (r:=[.int .i64 n,.int .i64 (valE v.w p.vars [c.store] y)]) rfl hH3 (by rw [outRows_length]; omega) (by rw [outRows_length]; omega)
 rw [hH3] at hb4 X3
 obtain ⟨a,c1,hs⟩:=o4'.shape
 rw [List.length_append,List.length_singleton,outRows_length] at hs
 subst hs
 have g4':=M4.get h2.d1.2.2.1 h2.get
 obtain ⟨H5,s5,M5,nx5,n05,g5'⟩:=st_get g4' (by rw [n04]; exact h2.n0) (k:=8) (vs:=[.slice a (c.outs.length + 1) c1]) (by simp)
 have o5:Own H5 2 (.slice a (c.outs.length + 1) c1) (outRows (c.outs ++ [(n,valE v.w p.vars [c.store] y)])):=by
  rw [outRows_append]
  exact o4'.mod M5 fun b hb q=>by have:=k4 b hb; have:=h2.lt (.inl rfl); omega
 have M25:Mod (fun b=>b = m ∨ blk v.vo b) H2 H5:=(M4.mono fun x _ hx=>.inr hx).trans (M5.mono fun x _ hx=>.inl hx)
 have h5:=h2.reout (vo:=.slice a (c.outs.length + 1) c1) M25 g5' o5 (fun b hb=>.inr (k4 b hb))
 have A5:=Adv.ou h2 M25 h5 (fun b hb=>.inr (k4 b hb))
 have svo:same1 v.vo v.vo = true:=by rw [hvo]; simp
 have hbu:buildV [.int .i64 0,.int .i64 0] [(0,1,.int .i64 n),(1,1,.int .i64 (valE v.w p.vars [c.store] y))] = some (.agg #[.int .i64 n,.int .i64 (valE v.w p.vars [c.store] y)]):=rfl
 simp (maxSteps:=4000000) -implicitDefEqProofs +contextual [-X.ev,hbu,hb4,ha,s5,x2x,x2n,r8n,r82n,e1n,e1n2,svo,n03,n04,n05,nx3,nx34,nx5,okD_of,chain_2,chain_1]
 apply Vx_callM
 ·(simp -implicitDefEqProofs [-X.ev]; rfl)
 refine (mdrop_ca A5.mh h.hr h.hf h.hs h.hl h.h0 (by omega) (by omega) (by omega) (by omega)).mono ?_
 rintro x H6 ⟨vf',rows',fs',A6,ha6,hfl,hrl⟩
 have A:=A2.trans (A5.trans A6)
 simp (maxSteps:=4000000) -implicitDefEqProofs +contextual [-X.ev]
 subst hact
 refine ⟨?_,_,_,A,fun _=>⟨fs',ha6,?_⟩,by omega,⟨m1,rfl,m3,m4,m5,m6⟩,rfl,rfl,rfl,rfl⟩
 ·exact h.ov
 ·exact hfl.symm
end
end Go.Proofs.YtoijnpfpjpefgaaGreat.A
/- A text without what this claim does not need: S45. -/
set_option linter.unusedVariables false
set_option linter.unusedSimpArgs false
set_option maxRecDepth 10000
namespace Go.Proofs.YtoijnpfpjpefgaaGreat.A
open Go
section
variable {G H:AH} {m:Nat} {p:Prg} {ps:List Int} {v:MV} {c:CfM} {rows0 rs:List (List Value)} {fs0:List (List Stm × Int)} {vl:Value} {cs:List Value} {k:Int} {s:Stm} {l:List Stm}
theorem mset_ca {n:Int} {args:List Exp} {thn els:List Stm} (h:Atm G H m p ps v c rows0 fs0 vl cs rs k (.mk 0 n args thn els) l) :
  ActsAs G H 53 m p ps v c rows0.length fs0 cs k (.mk 0 n args thn els) l:=by
 intro c' hc'
 rw [actM,if_pos rfl] at hc'
 obtain ⟨hall,_,_,hrc⟩:=row_cases h.row
 obtain ⟨m1,m2,m3,m4,m5,m6⟩:=h.mt
 have hcs:=h.hs
 cases hcs with | @mk _ _ va vt ve ra rt re _ _ _ i1 i2 i3 i4 i5 g1 g2 g3 g4 g5 g6 g7 g8 =>
 refine Ca.bodyV (F:=a53) rfl rfl rfl ?_
 have hw:=h.mh.wf
 have X1:=Ext.alloc H (.cells 5 [.int .i64 0,.int .i64 n,va,vt,ve])
 have d0:(H.alloc (.cells 5 [.int .i64 0,.int .i64 n,va,vt,ve])).ld ⟨H.nx,0,none⟩ = some (.int .i64 0):=ld_new hw rfl
 have d1:(H.alloc (.cells 5 [.int .i64 0,.int .i64 n,va,vt,ve])).ld ⟨H.nx,1,none⟩ = some (.int .i64 n):=ld_new hw rfl
 have d2:(H.alloc (.cells 5 [.int .i64 0,.int .i64 n,va,vt,ve])).ld ⟨H.nx,2,none⟩ = some va:=ld_new hw rfl
 have d3:(H.alloc (.cells 5 [.int .i64 0,.int .i64 n,va,vt,ve])).ld ⟨H.nx,3,none⟩ = some vt:=ld_new hw rfl
 have d4:(H.alloc (.cells 5 [.int .i64 0,.int .i64 n,va,vt,ve])).ld ⟨H.nx,4,none⟩ = some ve:=ld_new hw rfl
 have d:(H.alloc (.cells 5 [.int .i64 0,.int .i64 n,va,vt,ve])).ldn ⟨H.nx,0,none⟩ 5 = some [.int .i64 0,.int .i64 n,va,vt,ve]:=ld_box hw 5 rfl
 generalize hH1:H.alloc (.cells 5 [.int .i64 0,.int .i64 n,va,vt,ve]) = H1 at X1 d0 d1 d2 d3 d4 d
 have hwH1:=X1.wf hw
 have h1:=h.mh.ext X1
 have b7:=h.b7
 have b5:=h.b5
 have b6:=h.b6
 have b1:=h.b1
 have b2:=h.b2
 have b3:=h.b3
 have b4:=h.b4
 have b8:=h.b8
 have hw':=h.w
 have hpw:=h.w.symm
 have hV:=h.head
 have hS:=h.store
 rw [hpw] at hV hS
 have A1:=Adv.ofExt h.mh X1
 have hw8:1 ≤ v.w ∧ v.w ≤ 8:=⟨(isHeading_w hV).1,(isHeading_w hV).2.1⟩
 have hp:=pow_w hw8
 have hSO:SOk v.w p.vars [c.store]:=fun t ht=>by simp at ht; subst ht; exact hS
 have out:∀ b,(b = m ∨ blk v.vt b) → b ≠ H.nx:=fun b hb e=>by
  subst e
  rcases hb with q | q
  ·have:=h.mh.lt (.inl q); omega
  ·have:=h.mh.tr.lt q; omega
 rw [hpw] at hall
 have nb:¬ Mf m v H.nx:=fun q=>by have:=h.mh.lt q; omega
 have w0:IntKind.i64.wrap 0 = 0:=rfl
 have w1':IntKind.i64.wrap 1 = 1:=rfl
 obtain ⟨hn,hargs⟩:(0 ≤ n ∧ n < p.vars.length) ∧ ((¬ 1 < cellsAt p.vars n ∧ ∃ a,args = [a]) ∨ (1 < cellsAt p.vars n ∧ ∃ a b,args = [a,b])):=by
  rcases hrc with ⟨_,q⟩ | ⟨q,_⟩ | ⟨q,_⟩ | ⟨q,_⟩ | ⟨q,_⟩ | ⟨q,_⟩
  ·exact q
  ·omega
  ·omega
  ·omega
  ·omega
  ·omega
 rcases hargs with ⟨hc,y,rfl⟩ | ⟨hc,z,y,rfl⟩
 ·obtain ⟨hfy,hny⟩:=hall y (by simp)
  have hwy:=val_word hV hSO y hfy
  obtain ⟨b4',o4,c4,vy,r,hva,hldn,hre,hey⟩:=ExL.row g1 g2 (i:=0) (y:=y) rfl
  simp only [Nat.zero_mul,Nat.add_zero] at hldn
  rw [← hre] at hldn
  simp (maxSteps:=4000000) -implicitDefEqProofs +contextual [-X.ev,a53,hH1,d]
  apply Vx_callM
  ·(simp -implicitDefEqProofs [-X.ev]; rfl)
  refine (mindex0 (op:=0) (n:=n) (va:=va) (vt:=vt) (ve:=ve) h1 h.vars hn hc).mono ?_
  rintro x H2 ⟨rfl,X2⟩
  have h2:=h1.ext X2
  have hldn2:=h2.sub.ldn hldn
  have e2:=ld_of_ldn (X2.ldn d) (j:=2) rfl
  rw [hva] at e2
  have B2:=Adv.ofExt h1 X2
  have u2:=evE_bound (w:=v.w) (V:=p.vars) (S:=[c.store]) y
  simp (maxSteps:=4000000) -implicitDefEqProofs +contextual [-X.ev,e2,hldn2,w0]
  apply Vx_callM
  ·(simp -implicitDefEqProofs [-X.ev]; rfl)
  refine (meval_ca h2 hV hS h.vars h.cap hey hfy (by omega) (by rw [m2]; omega)).mono ?_
  rintro x H3 ⟨rfl,vt',h3,M3,k3⟩
  have B3:=B2.trans (Adv.tr (v:=v) h3 M3 k3)
  simp (maxSteps:=4000000) -implicitDefEqProofs +contextual [-X.ev]
  apply Vx_callM
  ·(simp -implicitDefEqProofs [-X.ev]; rfl)
  refine (mdrop_ca B3.mh h.hr h.hf h.hs h.hl h.h0 (by omega) (by omega) (by omega) (by omega)).mono ?_
  rintro x H4 ⟨vf',rows',fs',A4,ha,hfl,hrl⟩
  have B4:=B3.trans A4
  have e1:=ld_of_ldn (B4.mod.ldn (a:=⟨H.nx,0,none⟩) nb d) (j:=1) rfl
  simp (maxSteps:=4000000) -implicitDefEqProofs +contextual [-X.ev,e1]
  apply Vx_callM
  ·(simp -implicitDefEqProofs [-X.ev]; rfl)
  refine (mwrite_ca (n:=n) (i:=0) (a:=valE v.w p.vars [c.store] y) A4.mh hV hS h.vars h.cap hn (by omega) (by simp only [List.length_append]; omega)).mono ?_
  rintro x H5 ⟨vt'',h5,M5,k5⟩
  have B5:=B4.trans (Adv.trW h5 M5 k5)
  have A:=A1.trans B5
  simp (maxSteps:=4000000) -implicitDefEqProofs +contextual [-X.ev]
  have hact:c' = setM p.vars (evaldM p c (.mk 0 n [y] thn els) (nextM l k (.mk 0 n [y] thn els) fs0)) n 0 (valE v.w p.vars [c.store] y):=by
   rw [hc',if_neg hc]
   show setM _ _ _ _ (valE p.w p.vars [c.store] y) = _
   rw [hpw]
  subst hact
  have hst:(setM p.vars (evaldM p c (.mk 0 n [y] thn els) (nextM l k (.mk 0 n [y] thn els) fs0)) n 0 (valE v.w p.vars [c.store] y)).store = c.store.set (firstV p.vars n + 0 % cellsAt p.vars n).toNat (valE v.w p.vars [c.store] y):=rfl
  have htr:(setM p.vars (evaldM p c (.mk 0 n [y] thn els) (nextM l k (.mk 0 n [y] thn els) fs0)) n 0 (valE v.w p.vars [c.store] y)).trace = c.trace ++ evE v.w p.vars [c.store] y ++ if 1 < cellsAt p.vars n then [⟨2,n,0 % cellsAt p.vars n⟩] else []:=by
   show c.trace ++ evL p.w p.vars [c.store] [y] ++ _ = _
   rw [hpw]; simp [evL]
  rw [← hst,← htr] at A
  refine ⟨?_,_,rows',A,fun _=>⟨fs',ha,hfl.symm⟩,by omega,⟨m1,?_,m3,m4,m5,m6⟩,rfl,rfl,rfl,rfl⟩
  ·exact h.ov
  ·show v.cost + nodesE y = c.cost + nodesL [y]
   rw [m2]; simp [nodesL]
 ·obtain ⟨hfy,hny⟩:=hall y (by simp)
  obtain ⟨hfz,hnz⟩:=hall z (by simp)
  have hwy:=val_word hV hSO y hfy
  have hwz:=val_word hV hSO z hfz
  obtain ⟨b4',o4,c4,vy,r,hva,hldn,hre,hey⟩:=ExL.row g1 g2 (i:=1) (y:=y) rfl
  simp only [Nat.one_mul] at hldn
  rw [← hre] at hldn
  simp (maxSteps:=4000000) -implicitDefEqProofs +contextual [-X.ev,a53,hH1,d]
  apply Vx_callM
  ·(simp -implicitDefEqProofs [-X.ev]; rfl)
  refine (mindex1 (op:=0) (n:=n) (va:=va) (vt:=vt) (ve:=ve) h1 hV hS h.vars h.cap hn hc g1 g2 (y:=z) rfl hfz (by omega) (by rw [m2]; omega)).mono ?_
  rintro x H2 ⟨rfl,vt1,h2,M2,k2⟩
  have hldn2:=h2.sub.ldn hldn
  have B2:=Adv.tr (v:=v) h2 M2 k2
  have e2:=ld_of_ldn (B2.mod.ldn (a:=⟨H.nx,0,none⟩) nb d) (j:=2) rfl
  rw [hva] at e2
  have u1:=evE_bound (w:=v.w) (V:=p.vars) (S:=[c.store]) z
  have u2:=evE_bound (w:=v.w) (V:=p.vars) (S:=[c.store]) y
  have pz:=nodesE_pos z
  simp (maxSteps:=4000000) -implicitDefEqProofs +contextual [-X.ev,e2,hldn2,w1']
  apply Vx_callM
  ·(simp -implicitDefEqProofs [-X.ev]; rfl)
  refine (meval_ca h2 hV hS h.vars h.cap hey hfy (by rw [List.length_append]; omega) (by show 0 ≤ v.cost + nodesE z ∧ v.cost + nodesE z + nodesE y ≤ 2 ^ 60; rw [m2]; omega)).mono ?_
  rintro x H3 ⟨rfl,vt',h3,M3,k3⟩
  have B3:=B2.trans (Adv.tr (v:={ v with vt:=vt1,cost:=v.cost + nodesE z }) h3 M3 k3)
  simp (maxSteps:=4000000) -implicitDefEqProofs +contextual [-X.ev]
  apply Vx_callM
  ·(simp -implicitDefEqProofs [-X.ev]; rfl)
  refine (mdrop_ca B3.mh h.hr h.hf h.hs h.hl h.h0 (by omega) (by omega) (by omega) (by omega)).mono ?_
  rintro x H4 ⟨vf',rows',fs',A4,ha,hfl,hrl⟩
  have B4:=B3.trans A4
  have e1:=ld_of_ldn (B4.mod.ldn (a:=⟨H.nx,0,none⟩) nb d) (j:=1) rfl
  simp (maxSteps:=4000000) -implicitDefEqProofs +contextual [-X.ev,e1]
  apply Vx_callM
  ·(simp -implicitDefEqProofs [-X.ev]; rfl)
  refine (mwrite_ca (n:=n) (i:=(valE v.w p.vars [c.store] z)) (a:=valE v.w p.vars [c.store] y) A4.mh hV hS h.vars h.cap hn (by omega) (by simp only [List.length_append]; omega)).mono ?_
  rintro x H5 ⟨vt'',h5,M5,k5⟩
  have B5:=B4.trans (Adv.trW h5 M5 k5)
  have A:=A1.trans B5
  simp (maxSteps:=4000000) -implicitDefEqProofs +contextual [-X.ev]
  have hact:c' = setM p.vars (evaldM p c (.mk 0 n [z,y] thn els) (nextM l k (.mk 0 n [z,y] thn els) fs0)) n (valE v.w p.vars [c.store] z) (valE v.w p.vars [c.store] y):=by
   rw [hc',if_pos hc]
   show setM _ _ _ _ (valE p.w p.vars [c.store] y) = _
   rw [hpw]; rfl
  subst hact
  have hst:(setM p.vars (evaldM p c (.mk 0 n [z,y] thn els) (nextM l k (.mk 0 n [z,y] thn els) fs0)) n (valE v.w p.vars [c.store] z) (valE v.w p.vars [c.store] y)).store = c.store.set (firstV p.vars n + (valE v.w p.vars [c.store] z) % cellsAt p.vars n).toNat (valE v.w p.vars [c.store] y):=rfl
  have htr:(setM p.vars (evaldM p c (.mk 0 n [z,y] thn els) (nextM l k (.mk 0 n [z,y] thn els) fs0)) n (valE v.w p.vars [c.store] z) (valE v.w p.vars [c.store] y)).trace = c.trace ++ evE v.w p.vars [c.store] z ++ evE v.w p.vars [c.store] y ++ if 1 < cellsAt p.vars n then [⟨2,n,(valE v.w p.vars [c.store] z) % cellsAt p.vars n⟩] else []:=by
   show c.trace ++ evL p.w p.vars [c.store] [z,y] ++ _ = _
   rw [hpw]; simp [evL]
  rw [← hst,← htr] at A
  refine ⟨?_,_,rows',A,fun _=>⟨fs',ha,hfl.symm⟩,by omega,⟨m1,?_,m3,m4,m5,m6⟩,rfl,rfl,rfl,rfl⟩
  ·exact h.ov
  ·show v.cost + nodesE z + nodesE y = c.cost + nodesL [z,y]
   rw [m2]; simp [nodesL]; omega
end
end Go.Proofs.YtoijnpfpjpefgaaGreat.A
/- A text without what this claim does not need: S46. -/
set_option linter.unusedVariables false
set_option linter.unusedSimpArgs false
set_option maxRecDepth 10000
namespace Go.Proofs.YtoijnpfpjpefgaaGreat.A
open Go
section
variable {G H:AH} {m:Nat} {p:Prg} {ps:List Int} {v:MV} {c:CfM} {rows0 rs:List (List Value)} {fs0:List (List Stm × Int)} {vl:Value} {cs:List Value} {k:Int} {s:Stm} {l:List Stm}
theorem mpick_ca {n:Int} {args:List Exp} {thn els:List Stm} (h:Atm G H m p ps v c rows0 fs0 vl cs rs k (.mk 4 n args thn els) l) :
  ActsAs G H 57 m p ps v c rows0.length fs0 cs k (.mk 4 n args thn els) l:=by
 intro c' hc'
 rw [actM,if_neg (by omega),if_neg (by omega),if_neg (by omega),if_neg (by omega),if_pos rfl] at hc'
 rw [show (evaldM p c (.mk 4 n args thn els) (nextM l k (.mk 4 n args thn els) fs0)).used = c.used from rfl] at hc'
 obtain ⟨hall,_,_,hrc⟩:=row_cases h.row
 obtain ⟨m1,m2,m3,m4,m5,m6⟩:=h.mt
 have hcs:=h.hs
 cases hcs with | @mk _ _ va vt ve ra rt re _ _ _ i1 i2 i3 i4 i5 g1 g2 g3 g4 g5 g6 g7 g8 =>
 refine Ca.bodyV (F:=a57) rfl rfl rfl ?_
 have hw:=h.mh.wf
 have X1:=Ext.alloc H (.cells 5 [.int .i64 4,.int .i64 n,va,vt,ve])
 have d0:(H.alloc (.cells 5 [.int .i64 4,.int .i64 n,va,vt,ve])).ld ⟨H.nx,0,none⟩ = some (.int .i64 4):=ld_new hw rfl
 have d1:(H.alloc (.cells 5 [.int .i64 4,.int .i64 n,va,vt,ve])).ld ⟨H.nx,1,none⟩ = some (.int .i64 n):=ld_new hw rfl
 have d2:(H.alloc (.cells 5 [.int .i64 4,.int .i64 n,va,vt,ve])).ld ⟨H.nx,2,none⟩ = some va:=ld_new hw rfl
 have d3:(H.alloc (.cells 5 [.int .i64 4,.int .i64 n,va,vt,ve])).ld ⟨H.nx,3,none⟩ = some vt:=ld_new hw rfl
 have d4:(H.alloc (.cells 5 [.int .i64 4,.int .i64 n,va,vt,ve])).ld ⟨H.nx,4,none⟩ = some ve:=ld_new hw rfl
 have d:(H.alloc (.cells 5 [.int .i64 4,.int .i64 n,va,vt,ve])).ldn ⟨H.nx,0,none⟩ 5 = some [.int .i64 4,.int .i64 n,va,vt,ve]:=ld_box hw 5 rfl
 generalize hH1:H.alloc (.cells 5 [.int .i64 4,.int .i64 n,va,vt,ve]) = H1 at X1 d0 d1 d2 d3 d4 d
 have hwH1:=X1.wf hw
 have h1:=h.mh.ext X1
 have b7:=h.b7
 have b5:=h.b5
 have b6:=h.b6
 have b1:=h.b1
 have b2:=h.b2
 have b3:=h.b3
 have b4:=h.b4
 have b8:=h.b8
 have hw':=h.w
 have hpw:=h.w.symm
 have hV:=h.head
 have hS:=h.store
 rw [hpw] at hV hS
 have A1:=Adv.ofExt h.mh X1
 have hw8:1 ≤ v.w ∧ v.w ≤ 8:=⟨(isHeading_w hV).1,(isHeading_w hV).2.1⟩
 have hp:=pow_w hw8
 have hSO:SOk v.w p.vars [c.store]:=fun t ht=>by simp at ht; subst ht; exact hS
 have out:∀ b,(b = m ∨ blk v.vt b) → b ≠ H.nx:=fun b hb e=>by
  subst e
  rcases hb with q | q
  ·have:=h.mh.lt (.inl q); omega
  ·have:=h.mh.tr.lt q; omega
 rw [hpw] at hall
 have nb:¬ Mf m v H.nx:=fun q=>by have:=h.mh.lt q; omega
 have w0:IntKind.i64.wrap 0 = 0:=rfl
 have w1':IntKind.i64.wrap 1 = 1:=rfl
 obtain ⟨hn,hargs⟩:(0 ≤ n ∧ n < p.vars.length) ∧ ((¬ 1 < cellsAt p.vars n ∧ args = []) ∨ (1 < cellsAt p.vars n ∧ ∃ a,args = [a])):=by
  rcases hrc with ⟨q,_⟩ | ⟨q,_⟩ | ⟨q,_⟩ | ⟨q,_⟩ | ⟨_,q⟩ | ⟨q,_⟩
  ·omega
  ·omega
  ·omega
  ·omega
  ·exact q
  ·omega
 obtain ⟨pa,pc,hvp0⟩:=h.picks.len
 rcases hargs with ⟨hc,rfl⟩ | ⟨hc,y,rfl⟩
 ·simp (maxSteps:=4000000) -implicitDefEqProofs +contextual [-X.ev,a57,hH1,d]
  apply Vx_callM
  ·(simp -implicitDefEqProofs [-X.ev]; rfl)
  refine (mindex0 (op:=4) (n:=n) (va:=va) (vt:=vt) (ve:=ve) h1 h.vars hn hc).mono ?_
  rintro x H2 ⟨rfl,X2⟩
  have h2:=h1.ext X2
  have B2:=Adv.ofExt h1 X2
  have f5:=ld_get h2.get h2.n0 (k:=5) (v:=v.vp) rfl
  have f11:=ld_get h2.get h2.n0 (k:=11) (v:=.int .i64 v.used) rfl
  rw [hvp0] at f5
  rw [m3] at f11
  by_cases q:ps.length ≤ c.used
  ·have hq:(c.used:Int) = (ps.length:Int):=by omega
   rw [if_pos q] at hc'
   simp (maxSteps:=4000000) -implicitDefEqProofs +contextual [-X.ev,f5,f11,m3,hq,okD_of,chain_2,chain_1]
   apply Vx_callM
   ·(simp -implicitDefEqProofs [-X.ev]; rfl)
   refine (mend_ca (how:=4) (n:=k) B2.mh).mono ?_
   rintro x H3 ⟨rfl,A3⟩
   have A:=(A1.trans B2).trans A3
   simp (maxSteps:=4000000) -implicitDefEqProofs +contextual [-X.ev]
   subst hc'
   have htr:(stopM (evaldM p c (.mk 4 n [] thn els) (nextM l k (.mk 4 n [] thn els) fs0)) 4 k).trace = c.trace:=by
    show c.trace ++ evL p.w p.vars [c.store] [] = _
    rw [hpw]; simp [evL]
   rw [← htr] at A
   refine ⟨?_,_,_,A,fun q=>by simp [stopM] at q,by simp,⟨rfl,?_,m3,rfl,m5,rfl⟩,rfl,rfl,rfl,rfl⟩
   ·rfl
   ·show v.cost = c.cost + nodesL []
    rw [m2]; simp [nodesL]
  ·have hq:¬ (c.used:Int) = (ps.length:Int):=by omega
   rw [if_neg q] at hc'
   simp (maxSteps:=4000000) -implicitDefEqProofs +contextual [-X.ev,f5,f11,m3,hq,okD_of,chain_2,chain_1]
   apply Vx_callM
   ·(simp -implicitDefEqProofs [-X.ev]; rfl)
   refine (mdrop_ca B2.mh h.hr h.hf h.hs h.hl h.h0 (by omega) (by omega) (by omega) (by omega)).mono ?_
   rintro x H3 ⟨vf',rows',fs',A3,ha,hfl,hrl⟩
   have B3:=B2.trans A3
   have g11:=ld_get A3.mh.get A3.mh.n0 (k:=11) (v:=.int .i64 v.used) rfl
   obtain ⟨H4,s4,A4,nx4,n04⟩:=A3.mh.cell (v':={ v with vf:=vf',used:=(c.used:Int) + 1 }) 11 (.int .i64 ((c.used:Int) + 1)) (by omega) rfl rfl rfl rfl rfl
   have B4:=B3.trans A4
   have w2:IntKind.i64.wrap ((c.used:Int) + 1) = (c.used:Int) + 1:=wrap_in ⟨by omega,by omega⟩
   have w3:IntKind.i64.wrap (c.used:Int) = (c.used:Int):=wrap_in ⟨by omega,by omega⟩
   have e1:=ld_of_ldn (B4.mod.ldn (a:=⟨H.nx,0,none⟩) nb d) (j:=1) rfl
   have h4:=A4.mh
   obtain ⟨a,ha1⟩:∃ a,ps[c.used]? = some a:=⟨_,List.getElem?_eq_getElem (by omega)⟩
   have hva:vAt ps c.used = a:=by simp [vAt,ha1]
   obtain ⟨bp,op_,cp_,hvp,hld⟩:=(Ints.sub h4.sub h.picks).at ha1
   have f5':=ld_get h4.get h4.n0 (k:=5) (v:=v.vp) rfl
   have f11':=ld_get h4.get h4.n0 (k:=11) (v:=.int .i64 ((c.used:Int) + 1)) rfl
   rw [hvp] at f5'
   have hlt:(c.used:Int) < (ps.length:Int):=by omega
   rw [m3] at g11
   simp (maxSteps:=4000000) -implicitDefEqProofs +contextual [-X.ev,g11,w2,s4,e1,f5',f11',w3,hlt,hld]
   apply Vx_callM
   ·(simp -implicitDefEqProofs [-X.ev]; rfl)
   refine (mwrite_ca (n:=n) (i:=0) (a:=a) h4 hV hS h.vars h.cap hn (by omega) (by  omega)).mono ?_
   rintro x H5 ⟨vt'',h5,M5,k5⟩
   have A45:=Adv.trW h5 M5 k5
   have A:=A1.trans (B4.trans A45)
   have x5x:=M5.nx
   have x5n:=M5.n0
   simp (maxSteps:=4000000) -implicitDefEqProofs +contextual [-X.ev,okD_of,chain_2,chain_1,x5x,x5n]
   have hact:c' = setM p.vars { evaldM p c (.mk 4 n [] thn els) (nextM l k (.mk 4 n [] thn els) fs0) with used:=c.used + 1 } n 0 a:=by
    rw [hc',if_neg hc,hva]
   subst hact
   have hst:(setM p.vars { evaldM p c (.mk 4 n [] thn els) (nextM l k (.mk 4 n [] thn els) fs0) with used:=c.used + 1 } n 0 a).store = c.store.set (firstV p.vars n + 0 % cellsAt p.vars n).toNat a:=rfl
   have htr:(setM p.vars { evaldM p c (.mk 4 n [] thn els) (nextM l k (.mk 4 n [] thn els) fs0) with used:=c.used + 1 } n 0 a).trace = c.trace ++ if 1 < cellsAt p.vars n then [⟨2,n,0 % cellsAt p.vars n⟩] else []:=by
    show c.trace ++ evL p.w p.vars [c.store] [] ++ _ = _
    rw [hpw]; simp [evL]
   rw [← hst,← htr] at A
   refine ⟨?_,_,rows',A,fun _=>⟨fs',ha,hfl.symm⟩,by omega,⟨m1,?_,by show (c.used:Int) + 1 = ((c.used + 1:Nat):Int); omega,m4,m5,m6⟩,rfl,rfl,rfl,rfl⟩
   ·exact h.ov
   ·show v.cost = c.cost + nodesL []
    rw [m2]; simp [nodesL]
 ·obtain ⟨hfy,hny⟩:=hall y (by simp)
  have hwy:=val_word hV hSO y hfy
  simp (maxSteps:=4000000) -implicitDefEqProofs +contextual [-X.ev,a57,hH1,d]
  apply Vx_callM
  ·(simp -implicitDefEqProofs [-X.ev]; rfl)
  refine (mindex1 (op:=4) (n:=n) (va:=va) (vt:=vt) (ve:=ve) h1 hV hS h.vars h.cap hn hc g1 g2 (y:=y) rfl hfy (by omega) (by rw [m2]; omega)).mono ?_
  rintro x H2 ⟨rfl,vt1,h2,M2,k2⟩
  have B2:=Adv.tr (v:=v) h2 M2 k2
  have u1:=evE_bound (w:=v.w) (V:=p.vars) (S:=[c.store]) y
  have f5:=ld_get h2.get h2.n0 (k:=5) (v:=v.vp) rfl
  have f11:=ld_get h2.get h2.n0 (k:=11) (v:=.int .i64 v.used) rfl
  rw [hvp0] at f5
  rw [m3] at f11
  by_cases q:ps.length ≤ c.used
  ·have hq:(c.used:Int) = (ps.length:Int):=by omega
   rw [if_pos q] at hc'
   simp (maxSteps:=4000000) -implicitDefEqProofs +contextual [-X.ev,f5,f11,m3,hq,okD_of,chain_2,chain_1]
   apply Vx_callM
   ·(simp -implicitDefEqProofs [-X.ev]; rfl)
   refine (mend_ca (how:=4) (n:=k) B2.mh).mono ?_
   rintro x H3 ⟨rfl,A3⟩
   have A:=(A1.trans B2).trans A3
   simp (maxSteps:=4000000) -implicitDefEqProofs +contextual [-X.ev]
   subst hc'
   have htr:(stopM (evaldM p c (.mk 4 n [y] thn els) (nextM l k (.mk 4 n [y] thn els) fs0)) 4 k).trace = c.trace ++ evE v.w p.vars [c.store] y:=by
    show c.trace ++ evL p.w p.vars [c.store] [y] = _
    rw [hpw]; simp [evL]
   rw [← htr] at A
   refine ⟨?_,_,_,A,fun q=>by simp [stopM] at q,by simp,⟨rfl,?_,m3,rfl,m5,rfl⟩,rfl,rfl,rfl,rfl⟩
   ·rfl
   ·show v.cost + nodesE y = c.cost + nodesL [y]
    rw [m2]; simp [nodesL]
  ·have hq:¬ (c.used:Int) = (ps.length:Int):=by omega
   rw [if_neg q] at hc'
   simp (maxSteps:=4000000) -implicitDefEqProofs +contextual [-X.ev,f5,f11,m3,hq,okD_of,chain_2,chain_1]
   apply Vx_callM
   ·(simp -implicitDefEqProofs [-X.ev]; rfl)
   refine (mdrop_ca B2.mh h.hr h.hf h.hs h.hl h.h0 (by omega) (by omega) (by omega) (by omega)).mono ?_
   rintro x H3 ⟨vf',rows',fs',A3,ha,hfl,hrl⟩
   have B3:=B2.trans A3
   have g11:=ld_get A3.mh.get A3.mh.n0 (k:=11) (v:=.int .i64 v.used) rfl
   obtain ⟨H4,s4,A4,nx4,n04⟩:=A3.mh.cell (v':={ v with vt:=vt1,cost:=v.cost + nodesE y,vf:=vf',used:=(c.used:Int) + 1 }) 11 (.int .i64 ((c.used:Int) + 1)) (by omega) rfl rfl rfl rfl rfl
   have B4:=B3.trans A4
   have w2:IntKind.i64.wrap ((c.used:Int) + 1) = (c.used:Int) + 1:=wrap_in ⟨by omega,by omega⟩
   have w3:IntKind.i64.wrap (c.used:Int) = (c.used:Int):=wrap_in ⟨by omega,by omega⟩
   have e1:=ld_of_ldn (B4.mod.ldn (a:=⟨H.nx,0,none⟩) nb d) (j:=1) rfl
   have h4:=A4.mh
   obtain ⟨a,ha1⟩:∃ a,ps[c.used]? = some a:=⟨_,List.getElem?_eq_getElem (by omega)⟩
   have hva:vAt ps c.used = a:=by simp [vAt,ha1]
   obtain ⟨bp,op_,cp_,hvp,hld⟩:=(Ints.sub h4.sub h.picks).at ha1
   have f5':=ld_get h4.get h4.n0 (k:=5) (v:=v.vp) rfl
   have f11':=ld_get h4.get h4.n0 (k:=11) (v:=.int .i64 ((c.used:Int) + 1)) rfl
   rw [hvp] at f5'
   have hlt:(c.used:Int) < (ps.length:Int):=by omega
   rw [m3] at g11
   simp (maxSteps:=4000000) -implicitDefEqProofs +contextual [-X.ev,g11,w2,s4,e1,f5',f11',w3,hlt,hld]
   apply Vx_callM
   ·(simp -implicitDefEqProofs [-X.ev]; rfl)
   refine (mwrite_ca (n:=n) (i:=(valE v.w p.vars [c.store] y)) (a:=a) h4 hV hS h.vars h.cap hn (by omega) (by simp only [List.length_append]; omega)).mono ?_
   rintro x H5 ⟨vt'',h5,M5,k5⟩
   have A45:=Adv.trW h5 M5 k5
   have A:=A1.trans (B4.trans A45)
   have x5x:=M5.nx
   have x5n:=M5.n0
   simp (maxSteps:=4000000) -implicitDefEqProofs +contextual [-X.ev,okD_of,chain_2,chain_1,x5x,x5n]
   have hact:c' = setM p.vars { evaldM p c (.mk 4 n [y] thn els) (nextM l k (.mk 4 n [y] thn els) fs0) with used:=c.used + 1 } n (valE v.w p.vars [c.store] y) a:=by
    rw [hc',if_pos hc,hva]
    show setM _ _ _ (valE p.w p.vars [c.store] y) _ = _
    rw [hpw]
   subst hact
   have hst:(setM p.vars { evaldM p c (.mk 4 n [y] thn els) (nextM l k (.mk 4 n [y] thn els) fs0) with used:=c.used + 1 } n (valE v.w p.vars [c.store] y) a).store = c.store.set (firstV p.vars n + (valE v.w p.vars [c.store] y) % cellsAt p.vars n).toNat a:=rfl
   have htr:(setM p.vars { evaldM p c (.mk 4 n [y] thn els) (nextM l k (.mk 4 n [y] thn els) fs0) with used:=c.used + 1 } n (valE v.w p.vars [c.store] y) a).trace = c.trace ++ evE v.w p.vars [c.store] y ++ if 1 < cellsAt p.vars n then [⟨2,n,(valE v.w p.vars [c.store] y) % cellsAt p.vars n⟩] else []:=by
    show c.trace ++ evL p.w p.vars [c.store] [y] ++ _ = _
    rw [hpw]; simp [evL]
   rw [← hst,← htr] at A
   refine ⟨?_,_,rows',A,fun _=>⟨fs',ha,hfl.symm⟩,by omega,⟨m1,?_,by show (c.used:Int) + 1 = ((c.used + 1:Nat):Int); omega,m4,m5,m6⟩,rfl,rfl,rfl,rfl⟩
   ·exact h.ov
   ·show v.cost + nodesE y = c.cost + nodesL [y]
    rw [m2]; simp [nodesL]
end
end Go.Proofs.YtoijnpfpjpefgaaGreat.A
/- A text without what this claim does not need: S47. -/
set_option linter.unusedVariables false
set_option linter.unusedSimpArgs false
set_option maxRecDepth 10000
namespace Go.Proofs.YtoijnpfpjpefgaaGreat.A
open Go
structure Inv (p:Prg) (ps:List Int) (c:CfM):Prop where
 head:isHeading p.w p.vars = true
 store:isStore p.w p.vars c.store = true
 words:∀ a ∈ ps,0 ≤ a ∧ a < 2 ^ p.w.toNat
 used:c.used ≤ ps.length ∧ ps.length ≤ 16
 tot:countS p.body ≤ 400
 todo:∀ it ∈ c.todo,0 ≤ it.1 ∧ it.1 + countSt it.2 ≤ countS p.body ∧ rowSt p.w p.vars it.2 = true ∧ nodesSt it.2 ≤ 400
 fuel:0 ≤ c.fuel ∧ c.fuel ≤ 4096
 tr:(c.trace.length:Int) + 500 * c.fuel ≤ 2 ^ 30
 ou:(c.outs.length:Int) + c.fuel ≤ 2 ^ 30
 co:0 ≤ c.cost ∧ c.cost + 500 * c.fuel ≤ 2 ^ 40
theorem items_ok {w:Int} {V:List Vr} {C N:Int}:∀ (l:List Stm) (k:Int),0 ≤ k → k + countS l ≤ C → rowsS w V l = true → nodesS l ≤ N → ∀ it ∈ itemsM l k,0 ≤ it.1 ∧ it.1 + countSt it.2 ≤ C ∧ rowSt w V it.2 = true ∧ nodesSt it.2 ≤ N
 | [],k,_,_,_,_,it,h=>by simp [itemsM] at h
 | s :: l,k,hk,hC,hr,hn,it,h=>by
  rw [items_cons] at h
  rw [countS] at hC
  rw [nodesS] at hn
  rw [rowsS,Bool.and_eq_true] at hr
  have h1:=countS_bound l
  have h2:=countSt_pos s
  have h3:=nodesSt_pos s
  have h4:=nodesS_pos l
  rcases List.mem_cons.1 h with rfl | h
  ·exact ⟨hk,by show k + countSt s ≤ C; omega,hr.1,by show nodesSt s ≤ N; omega⟩
  ·exact items_ok l _ (by omega) (by omega) hr.2 (by omega) it h
theorem isStore_set {w:Int} {V:List Vr} {s:List Int} (hw8:1 ≤ w ∧ w ≤ 8) (h:isStore w V s = true) (k:Nat) {a:Int} (ha:0 ≤ a ∧ a < 2 ^ w.toNat):isStore w V (s.set k a) = true:=by
 simp only [isStore,Bool.and_eq_true,decide_eq_true_eq,List.all_eq_true,List.length_set] at h ⊢
 refine ⟨h.1,fun b hb=>?_⟩
 rcases List.mem_or_eq_of_mem_set hb with q | q
 ·exact h.2 b q
 ·rw [q]; exact isWord_of hw8 ha
theorem inv_set {p:Prg} {ps:List Int} {c:CfM} {n i a:Int} (h:Inv p ps c) (h':(c.trace.length:Int) + 1 + 500 * c.fuel ≤ 2 ^ 30) (ha:0 ≤ a ∧ a < 2 ^ p.w.toNat):Inv p ps (setM p.vars c n i a) where
 head:=h.head
 store:=isStore_set ⟨(isHeading_w h.head).1,(isHeading_w h.head).2.1⟩ h.store _ ha
 words:=h.words
 used:=h.used
 tot:=h.tot
 todo:=h.todo
 fuel:=h.fuel
 tr:=by
  show ((c.trace ++ _).length:Int) + 500 * c.fuel ≤ 2 ^ 30
  rw [List.length_append]
  split
  ·simp; omega
  ·simp; have:=h.tr; omega
 ou:=h.ou
 co:=h.co
theorem inv_stop {p:Prg} {ps:List Int} {c:CfM} (h:Inv p ps c) (e n:Int):Inv p ps (stopM c e n):={ h with todo:=by simp [stopM] }
theorem vals_word {p:Prg} {S:List (List Int)} (hV:isHeading p.w p.vars = true) (hS:SOk p.w p.vars S):∀ (l:List Exp),(∀ e ∈ l,formE p.w p.vars S.length e = true) → ∀ i,i < l.length → 0 ≤ vAt (valL p.w p.vars S l) i ∧ vAt (valL p.w p.vars S l) i < 2 ^ p.w.toNat:=by
 intro l hl i hi
 have:vAt (valL p.w p.vars S l) i = valE p.w p.vars S (l[i]):=by
  unfold vAt
  rw [valL_get,List.getElem?_eq_getElem hi]; rfl
 rw [this]
 exact val_word hV hS _ (hl _ (List.getElem_mem hi))
theorem valL_length {w:Int} {V:List Vr} {S:List (List Int)}:∀ l:List Exp,(valL w V S l).length = l.length
 | []=>rfl
 | e :: l=>by simp [valL,valL_length l]
theorem inv_step {p:Prg} {ps:List Int} {c:CfM} (h:Inv p ps c):Inv p ps (stepM p ps c):=by
 unfold stepM
 by_cases ho:c.over = true
 ·rw [if_pos ho]; exact h
 rw [if_neg ho]
 cases ht:c.todo with
 | nil=>exact h
 | cons it next =>
  obtain ⟨k,s⟩:=it
  show Inv p ps (if c.fuel = 0 then _ else _)
  by_cases hf:c.fuel = 0
  ·rw [if_pos hf]; exact inv_stop h _ _
  rw [if_neg hf]
  obtain ⟨op,n,args,thn,els⟩:=s
  obtain ⟨hk1,hk2,hrow,hnd⟩:=h.todo (k,.mk op n args thn els) (by rw [ht]; simp)
  obtain ⟨hall,hrt,hre,hrc⟩:=row_cases hrow
  have hcnt:countSt (.mk op n args thn els) = 1 + countS thn + countS els:=by rw [countSt]
  simp only at hk1 hk2 hnd
  rw [nodesSt] at hnd
  have pa:=nodesL_pos args
  have pt:=nodesS_pos thn
  have pe:=nodesS_pos els
  have bt:=countS_bound thn
  have be:=countS_bound els
  have hp:=pow_w (w:=p.w) ⟨(isHeading_w h.head).1,(isHeading_w h.head).2.1⟩
  have hSO:SOk p.w p.vars [c.store]:=fun t ht=>by simp at ht; subst ht; exact h.store
  have hvw:=vals_word (S:=[c.store]) h.head hSO args (fun e he=>(hall e he).1)
  have evb:=evL_bound (w:=p.w) (V:=p.vars) (S:=[c.store]) (l:=args) (fun e _=>evE_bound e)
  have hfu:=h.fuel
  have htr:=h.tr
  have hou:=h.ou
  have hco:=h.co
  obtain ⟨b,hb⟩:∃ b,begunM p c (.mk op n args thn els) next = b:=⟨_,rfl⟩
  have e1:b.trace = c.trace ++ evL p.w p.vars [c.store] args:=by rw [← hb]; rfl
  have e2:b.cost = c.cost + 1 + nodesL args:=by rw [← hb]; rfl
  have e3:b.fuel = c.fuel - 1:=by rw [← hb]; rfl
  have e4:b.todo = next:=by rw [← hb]; rfl
  have e5:b.outs = c.outs:=by rw [← hb]; rfl
  have e6:b.used = c.used:=by rw [← hb]; rfl
  have hnext:∀ it ∈ next,0 ≤ it.1 ∧ it.1 + countSt it.2 ≤ countS p.body ∧ rowSt p.w p.vars it.2 = true ∧ nodesSt it.2 ≤ 400:=fun it hit=>h.todo it (by rw [ht]; simp [hit])
  have hbt:(b.trace.length:Int) + 99 + 500 * b.fuel ≤ 2 ^ 30:=by rw [e1,e3,List.length_append]; omega
  have ib:Inv p ps b:={ head:=h.head,store:=by rw [← hb]; exact h.store,words:=h.words,used:=by rw [e6]; exact h.used,tot:=h.tot,todo:=by rw [e4]; exact hnext,fuel:=by rw [e3]; omega,tr:=by omega,ou:=by rw [e5,e3]; omega,co:=by rw [e2,e3]; omega }
  rw [show (Stm.mk op n args thn els).args = args from rfl]
  have ithn:=items_ok (w:=p.w) (V:=p.vars) (C:=countS p.body) (N:=400) thn (k + 1) (by omega) (by omega) hrt (by omega)
  have iels:=items_ok (w:=p.w) (V:=p.vars) (C:=countS p.body) (N:=400) els (k + 1 + countS thn) (by omega) (by omega) hre (by omega)
  have both:∀ (l:List Itm),(∀ it ∈ l,0 ≤ it.1 ∧ it.1 + countSt it.2 ≤ countS p.body ∧ rowSt p.w p.vars it.2 = true ∧ nodesSt it.2 ≤ 400) → ∀ (e:Ev),Inv p ps { b with trace:=b.trace ++ [e],todo:=l }:=fun l hl e =>
   { ib with todo:=hl,tr:=by show ((b.trace ++ [e]).length:Int) + 500 * b.fuel ≤ 2 ^ 30; rw [List.length_append]; simp; omega }
  have app:∀ (l m:List Itm),(∀ it ∈ l,0 ≤ it.1 ∧ it.1 + countSt it.2 ≤ countS p.body ∧ rowSt p.w p.vars it.2 = true ∧ nodesSt it.2 ≤ 400) → (∀ it ∈ m,0 ≤ it.1 ∧ it.1 + countSt it.2 ≤ countS p.body ∧ rowSt p.w p.vars it.2 = true ∧ nodesSt it.2 ≤ 400) → ∀ it ∈ l ++ m,0 ≤ it.1 ∧ it.1 + countSt it.2 ≤ countS p.body ∧ rowSt p.w p.vars it.2 = true ∧ nodesSt it.2 ≤ 400:=fun l m hl hm it hit=>(List.mem_append.1 hit).elim (hl it) (hm it)
  rw [hb]
  unfold actM
  by_cases o0:op = 0
  ·simp only [if_pos o0]
   have hlen:0 < args.length:=by
    rcases hrc with ⟨_,_,⟨_,a,rfl⟩ | ⟨_,a,b,rfl⟩⟩ | ⟨q,_⟩ | ⟨q,_⟩ | ⟨q,_⟩ | ⟨q,_⟩ | ⟨q,_⟩
    ·simp
    ·simp
    all_goals omega
   exact inv_set ib (by omega) (hvw _ (by rw [valL_length]; omega))
  simp only [if_neg o0]
  by_cases o1:op = 1
  ·simp only [if_pos o1]
   by_cases q:vAt (valL p.w p.vars [c.store] args) 0 = 0
   ·simp only [if_pos q]; exact both _ (app _ _ iels hnext) _
   ·simp only [if_neg q]; exact both _ (app _ _ ithn hnext) _
  simp only [if_neg o1]
  by_cases o2:op = 2
  ·simp only [if_pos o2]
   by_cases q:vAt (valL p.w p.vars [c.store] args) 0 = 0
   ·simp only [if_pos q]; exact both _ hnext _
   ·simp only [if_neg q]
    exact both _ (app _ _ ithn (fun it hit=>by
     rcases List.mem_cons.1 hit with rfl | hit
     ·exact ⟨hk1,hk2,hrow,by show nodesSt (.mk op n args thn els) ≤ 400; rw [nodesSt]; omega⟩
     ·exact hnext it hit)) _
  simp only [if_neg o2]
  by_cases o3:op = 3
  ·simp only [if_pos o3]
   exact { ib with ou:=by show ((b.outs ++ [_]).length:Int) + b.fuel ≤ 2 ^ 30; rw [List.length_append,e5,e3]; simp; omega }
  simp only [if_neg o3]
  by_cases o4:op = 4
  ·simp only [if_pos o4]
   by_cases q:ps.length ≤ b.used
   ·simp only [if_pos q]; exact inv_stop ib _ _
   ·simp only [if_neg q]
    have hu:=ib.used
    refine inv_set (c:={ b with used:=b.used + 1 }) { ib with used:=by show b.used + 1 ≤ ps.length ∧ _; omega } (by show (b.trace.length:Int) + 1 + 500 * b.fuel ≤ 2 ^ 30; omega) ?_
    have:vAt ps b.used = ps[b.used]'(by omega):=by simp [vAt,List.getElem?_eq_getElem (show b.used < ps.length by omega)]
    rw [this]
    exact h.words _ (List.getElem_mem _)
  simp only [if_neg o4]
  by_cases o5:op = 5
  ·simp only [if_pos o5]
   by_cases q:vAt (valL p.w p.vars [c.store] args) 0 = 0
   ·simp only [if_pos q]; exact inv_stop ib _ _
   ·simp only [if_neg q]; exact ib
  simp only [if_neg o5]
  by_cases q:vAt (valL p.w p.vars [c.store] args) 0 = 0
  ·simp only [if_pos q]; exact inv_stop ib _ _
  ·simp only [if_neg q]; exact ib
end Go.Proofs.YtoijnpfpjpefgaaGreat.A
