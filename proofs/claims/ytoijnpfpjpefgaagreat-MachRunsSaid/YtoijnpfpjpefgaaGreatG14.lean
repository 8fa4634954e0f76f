/- Texts that stand one behind the other: S48, S49, S50, S51, S52, S53, S54, S55, S56, S57, Pm0, Pm1, Pm2, Pm3, Pm4, Pm5. -/
import Derived.Test.YtoijnpfpjpefgaaGreatG13
/- A text without what this claim does not need: S48. -/
set_option linter.unusedVariables false
set_option linter.unusedSimpArgs false
set_option maxRecDepth 10000
namespace Go.Proofs.YtoijnpfpjpefgaaGreat.A
open Go
structure MacC (G H:AH) (m:Nat) (p:Prg) (ps:List Int) (v:MV) (c:CfM):Prop where
 is:∃ rows,MH G H m v rows c.store c.outs c.trace ∧ (c.over = false → ∃ fs,All2 (Fra G) rows fs ∧ c.todo = flatF fs) ∧ (rows.length:Int) + 2 * c.fuel ≤ 2 ^ 20
 w:v.w = p.w
 vars:Vars G v.vv p.vars
 cap:Cap v.vv
 picks:Ints G v.vp ps
 mt:Mt v c
 inv:Inv p ps c
 ov:c.over = true → c.todo = []
def endedM (c:CfM):Bool:=c.over || c.todo.isEmpty
theorem MacC.mod {G H H':AH} {m:Nat} {p:Prg} {ps:List Int} {v:MV} {c:CfM} {T:Nat → Prop} (h:MacC G H m p ps v c) (M:Mod T H H') (hT:∀ b,T b → ¬ Mf m v b) (hG:∀ b,T b → G.get b = none):MacC G H' m p ps v c:=by
 obtain ⟨rows,h1,h2,h3⟩:=h.is
 exact { h with is:=⟨rows,h1.mod M hT hG,h2,h3⟩ }
theorem MacC.ext {G H H':AH} {m:Nat} {p:Prg} {ps:List Int} {v:MV} {c:CfM} (h:MacC G H m p ps v c) (X:Ext H H'):MacC G H' m p ps v c:=h.mod (Mod.of_ext (S:=fun _=>False) X) (by simp) (by simp)
theorem all2_nil {α β:Type} {C:α → β → Prop} {l:List α} (h:All2 C l []):l = []:=by cases h; rfl
theorem all2_last {α β:Type} {C:α → β → Prop}:∀ {l:List α} {k:List β} {b:β},All2 C l (k ++ [b]) → ∃ l0 a,l = l0 ++ [a] ∧ All2 C l0 k ∧ C a b
 | _,[],b,.cons h .nil=>⟨[],_,rfl,.nil,h⟩
 | _,x :: k,b,.cons h t=>by
  obtain ⟨l0,a,rfl,h1,h2⟩:=all2_last t
  exact ⟨_ :: l0,a,rfl,.cons h h1,h2⟩
theorem evald_begun (p:Prg) (c:CfM) (s:Stm) (next:List Itm):evaldM p { c with fuel:=c.fuel - 1,cost:=c.cost + 1 } s next = begunM p c s next:=rfl
theorem acts {G H:AH} {m:Nat} {p:Prg} {ps:List Int} {v:MV} {c:CfM} {rows0 rs:List (List Value)} {fs0:List (List Stm × Int)} {vl:Value} {cs:List Value} {k:Int} {l:List Stm} {op n:Int} {args:List Exp} {thn els:List Stm} (q:Value) (h:Atm G H m p ps v c rows0 fs0 vl cs rs k (.mk op n args thn els) l) :
  0 ≤ op ∧ op < 7 ∧ ∃ f,([.func (.func 53) #[q] #[],.func (.func 54) #[q] #[],.func (.func 55) #[q] #[],.func (.func 56) #[q] #[],.func (.func 57) #[q] #[],.func (.func 58) #[q] #[],.func (.func 59) #[q] #[]]:List Value)[op.toNat]? = some (.func (.func f) #[q] #[]) ∧
   ActsAs G H f m p ps v c rows0.length fs0 cs k (.mk op n args thn els) l:=by
 obtain ⟨_,_,_,hrc⟩:=row_cases h.row
 rcases hrc with ⟨rfl,_⟩ | ⟨rfl,_⟩ | ⟨rfl,_⟩ | ⟨rfl,_⟩ | ⟨rfl,_⟩ | ⟨rfl | rfl,_⟩
 ·exact ⟨by omega,by omega,_,rfl,mset_ca h⟩
 ·exact ⟨by omega,by omega,_,rfl,choose_ca h⟩
 ·exact ⟨by omega,by omega,_,rfl,loop_ca h⟩
 ·exact ⟨by omega,by omega,_,rfl,mout_ca h⟩
 ·exact ⟨by omega,by omega,_,rfl,mpick_ca h⟩
 ·exact ⟨by omega,by omega,_,rfl,mneed_ca h⟩
 ·exact ⟨by omega,by omega,_,rfl,mmust_ca h⟩
theorem stop_todo {p:Prg} {ps:List Int} {c:CfM} {k:Int} {s:Stm} {vals:List Int} {next:List Itm} (h:c.over = false):(actM p ps c k s vals next).over = true → (actM p ps c k s vals next).todo = []:=by
 obtain ⟨op,n,args,thn,els⟩:=s
 unfold actM
 intro q
 by_cases o0:op = 0
 ·simp only [if_pos o0,setM] at q ⊢; rw [h] at q; cases q
 simp only [if_neg o0] at q ⊢
 by_cases o1:op = 1
 ·simp only [if_pos o1] at q ⊢; rw [h] at q; cases q
 simp only [if_neg o1] at q ⊢
 by_cases o2:op = 2
 ·simp only [if_pos o2] at q ⊢; rw [h] at q; cases q
 simp only [if_neg o2] at q ⊢
 by_cases o3:op = 3
 ·simp only [if_pos o3] at q ⊢; rw [h] at q; cases q
 simp only [if_neg o3] at q ⊢
 by_cases o4:op = 4
 ·simp only [if_pos o4] at q ⊢
  by_cases u:ps.length ≤ c.used
  ·simp only [if_pos u]; rfl
  ·simp only [if_neg u,setM] at q; rw [h] at q; cases q
 simp only [if_neg o4] at q ⊢
 by_cases o5:op = 5
 ·simp only [if_pos o5] at q ⊢
  by_cases u:vAt vals 0 = 0
  ·simp only [if_pos u]; rfl
  ·simp only [if_neg u] at q; rw [h] at q; cases q
 simp only [if_neg o5] at q ⊢
 by_cases u:vAt vals 0 = 0
 ·simp only [if_pos u]; rfl
 ·simp only [if_neg u] at q; rw [h] at q; cases q
theorem act_fuel {p:Prg} {ps:List Int} {c:CfM} {k:Int} {s:Stm} {vals:List Int} {next:List Itm}:(actM p ps c k s vals next).fuel = c.fuel:=by
 obtain ⟨op,n,args,thn,els⟩:=s
 unfold actM
 by_cases o0:op = 0
 ·simp only [if_pos o0]; rfl
 simp only [if_neg o0]
 by_cases o1:op = 1
 ·simp only [if_pos o1]
 simp only [if_neg o1]
 by_cases o2:op = 2
 ·simp only [if_pos o2]
 simp only [if_neg o2]
 by_cases o3:op = 3
 ·simp only [if_pos o3]
 simp only [if_neg o3]
 by_cases o4:op = 4
 ·simp only [if_pos o4]; split <;> rfl
 simp only [if_neg o4]
 by_cases o5:op = 5
 ·simp only [if_pos o5]; split <;> rfl
 simp only [if_neg o5]; split <;> rfl
structure Stp' (G H:AH) (m:Nat) (p:Prg) (ps:List Int) (v:MV) (H':AH) (c':CfM):Prop where
 is:∃ v',MacC G H' m p ps v' c' ∧ Mod (Mf m v) H H' ∧ (∀ b,Mf m v' b → Mf m v b ∨ H.nx ≤ b) ∧ Sm v v'
theorem Step_ca {G H:AH} {m:Nat} {p:Prg} {ps:List Int} {v:MV} {c:CfM} (h:MacC G H m p ps v c) :
  Ca E O 22 [.pointer (some ⟨m,0,none⟩)] H (fun x H'=>x = .bool (!endedM c && !(stepM p ps c).over) ∧ Stp' G H m p ps v H' (stepM p ps c)):=by
 refine Ca.bodyV (F:=a22) rfl rfl rfl ?_
 obtain ⟨rows,hM,hfs,hrl⟩:=h.is
 obtain ⟨m1,m2,m3,m4,m5,m6⟩:=h.mt
 have r13:=ld_get hM.get hM.n0 (k:=13) (v:=.bool v.ended) rfl
 cases ho:c.over with
 | true =>
  have hs:stepM p ps c = c:=by unfold stepM; rw [if_pos ho]
  rw [m6,ho] at r13
  have he:endedM c = true:=by simp [endedM,ho]
  rw [hs,he]
  simp (maxSteps:=4000000) -implicitDefEqProofs +contextual [-X.ev,a22,r13]
  exact ⟨v,h,Mod.refl _ _,fun b hb=>.inl hb,rfl,rfl,rfl,rfl⟩
 | false =>
  rw [m6,ho] at r13
  obtain ⟨fs,hall,htd⟩:=hfs ho
  rcases List.eq_nil_or_concat fs with rfl | ⟨fs0,f,hfs⟩
  ·have hr0:=all2_nil hall
   subst hr0
   have ht:c.todo = []:=htd
   have hs:stepM p ps c = c:=by unfold stepM; rw [if_neg (by rw [ho]; decide),ht]
   have he:endedM c = true:=by simp [endedM,ht]
   rw [hs,he]
   simp (maxSteps:=4000000) -implicitDefEqProofs +contextual [-X.ev,a22,r13]
   apply Vx_callM
   ·(simp -implicitDefEqProofs [-X.ev]; rfl)
   refine (mtop_nil hM.wf hM.get hM.n0 hM.fr).mono ?_
   rintro x H1 ⟨rfl,X1⟩
   obtain ⟨H2,s2,X2,nx2,n02,g2⟩:=var_new (X1.wf hM.wf) (z:=5) (c:=zS) (vs:=zS) rfl
   simp (maxSteps:=4000000) -implicitDefEqProofs +contextual [-X.ev,s2]
   exact ⟨v,h.ext (X1.trans X2),Mod.of_ext (X1.trans X2),fun b hb=>.inl hb,rfl,rfl,rfl,rfl⟩
  ·rw [List.concat_eq_append] at hfs
   subst hfs
   obtain ⟨rows0,r,rfl,h0,vl,rs,rfl,hr,hkl,hfit,hne,hfl⟩:=all2_last hall
   obtain ⟨lst,k⟩:=f
   cases hkl with
   | nil=>exact absurd rfl hne
   | @cons cs s rs l hs hl =>
   rw [flatF_snoc,items_cons] at htd
   simp only [List.cons_append] at htd
   have hcs:=hs.len
   have hinv:=h.inv
   obtain ⟨hk1,hk2,hrow,hnd⟩:=hinv.todo (k,s) (by rw [htd]; simp)
   simp only at hk1 hk2 hnd hfl hr
   have pc:=countSt_pos s
   have htot:=hinv.tot
   have hfu:=hinv.fuel
   have htr:=hinv.tr
   have hou:=hinv.ou
   have hco:=hinv.co
   have hus:=hinv.used
   have he:endedM c = false:=by simp [endedM,ho,htd]
   have r4:=ld_get hM.get hM.n0 (k:=4) (v:=.int .i64 v.fuel) rfl
   rw [m5] at r4
   simp only [List.length_append,List.length_singleton] at hrl
   rw [he]
   simp (maxSteps:=4000000) -implicitDefEqProofs +contextual [-X.ev,a22,r13]
   apply Vx_callM
   ·(simp -implicitDefEqProofs [-X.ev]; rfl)
   refine (mtop_ca hM.wf hM.get hM.n0 hM.fr (by omega) hM.sub hr).mono ?_
   rintro x H1 ⟨rfl,X1⟩
   have hw1:=X1.wf hM.wf
   obtain ⟨H2,s2,X2,nx2,n02,g2⟩:=var_new hw1 (z:=5) (c:=zS) (vs:=cs) hcs
   have X02:=X1.trans X2
   have hw2:=X2.wf hw1
   have M2:=hM.ext X02
   have r42:=X02.ld r4
   by_cases hf:c.fuel = 0
   ·have hs':stepM p ps c = stopM c 3 k:=by unfold stepM; rw [if_neg (by rw [ho]; decide),htd]; show (if c.fuel = 0 then _ else _) = _; rw [if_pos hf]
    rw [hf] at r42
    simp (maxSteps:=4000000) -implicitDefEqProofs +contextual [-X.ev,hcs,s2,r42]
    apply Vx_callM
    ·(simp -implicitDefEqProofs [-X.ev]; rfl)
    refine (mend_ca (how:=3) (n:=k) M2).mono ?_
    rintro x H3 ⟨rfl,A3⟩
    rw [hs']
    have hov3:(stopM c 3 k).over = true:=rfl
    simp (maxSteps:=4000000) -implicitDefEqProofs +contextual [-X.ev,hov3]
    have A:=(Adv.ofExt hM X02).trans A3
    exact ⟨_,{ is:=⟨_,A.mh,fun q=>by rw [hov3] at q; exact absurd q (by decide),by rw [List.length_append,List.length_singleton]; show _ + 2 * c.fuel ≤ 2 ^ 20; omega⟩,w:=h.w,vars:=h.vars,cap:=h.cap,picks:=h.picks,mt:=⟨rfl,m2,m3,rfl,m5,rfl⟩,inv:=inv_stop hinv 3 k,ov:=fun _=>rfl },A.mod,A.new,rfl,rfl,rfl,rfl⟩
   ·have hs':stepM p ps c = actM p ps (begunM p c s (nextM l k s fs0)) k s (valL p.w p.vars [c.store] s.args) (nextM l k s fs0):=by unfold stepM; rw [if_neg (by rw [ho]; decide),htd]; show (if c.fuel = 0 then _ else _) = _; rw [if_neg hf]
    have w1:IntKind.i64.wrap (c.fuel - 1) = c.fuel - 1:=wrap_in ⟨by omega,by omega⟩
    have w2:IntKind.i64.wrap (c.cost + 1) = c.cost + 1:=wrap_in ⟨by omega,by omega⟩
    obtain ⟨H3,s3,A3,nx3,n03⟩:=M2.cell (v':={ v with fuel:=c.fuel - 1 }) 4 (.int .i64 (c.fuel - 1)) (by omega) rfl rfl rfl rfl rfl
    have r10:=ld_get A3.mh.get A3.mh.n0 (k:=10) (v:=.int .i64 v.cost) rfl
    rw [m2] at r10
    obtain ⟨H4,s4,A4,nx4,n04⟩:=A3.mh.cell (v':={ v with fuel:=c.fuel - 1,cost:=c.cost + 1 }) 10 (.int .i64 (c.cost + 1)) (by omega) rfl rfl rfl rfl rfl
    have B4:=A3.trans A4
    have M4:=A4.mh
    obtain ⟨q,hq⟩:∃ q:Value,.pointer (some ⟨m,0,none⟩) = q:=⟨_,rfl⟩
    obtain ⟨H5,s5,X5,nx5,n05,g5⟩:=var_new M4.wf (z:=7) (c:=[.nilFunc,.nilFunc,.nilFunc,.nilFunc,.nilFunc,.nilFunc,.nilFunc]) (vs:=[.func (.func 53) #[q] #[],.func (.func 54) #[q] #[],.func (.func 55) #[q] #[],.func (.func 56) #[q] #[],.func (.func 57) #[q] #[],.func (.func 58) #[q] #[],.func (.func 59) #[q] #[]]) rfl
    subst hq
    have M5:=M4.ext X5
    have hw5:=M5.wf
    have nb:¬ Mf m v H1.nx:=fun q=>by have:=hM.lt q; have:=X1.nx; omega
    have gcs:=X5.get (B4.mod.get nb g2)
    have n5:H5.n0 ≤ H1.nx:=by rw [n05,n04,n03,n02]; exact hw1
    have lcs:H5.ldn ⟨H1.nx,0,none⟩ 5 = some cs:=by rw [ldn_get gcs n5 (by omega)]; simp [List.take_of_length_le (Nat.le_of_eq hcs)]
    obtain ⟨op,n,args,thn,els⟩:=s
    have hcs0:∃ t,cs = .int .i64 op :: t:=by cases hs; exact ⟨_,rfl⟩
    obtain ⟨t,rfl⟩:=hcs0
    have l0:=ld_get gcs n5 (k:=0) (v:=.int .i64 op) rfl
    have hAt:Atm G H5 m p ps { v with fuel:=c.fuel - 1,cost:=c.cost + 1 } { c with fuel:=c.fuel - 1,cost:=c.cost + 1 } rows0 fs0 vl (.int .i64 op :: t) rs k (.mk op n args thn els) l :=
     { mh:=M5,hr:=hr,hf:=hfit,hs:=hs,hl:=hl,h0:=h0,w:=h.w,vars:=h.vars,cap:=h.cap,picks:=h.picks,head:=hinv.head,store:=hinv.store,mt:=⟨m1,rfl,m3,m4,rfl,m6⟩,ov:=ho,row:=hrow,b1:=by omega,b2:=by omega,b3:=by omega,b4:=by simpa using hfl,b5:=by show c.trace.length ≤ 2 ^ 31; omega,b6:=by show c.outs.length ≤ 2 ^ 31; omega,b7:=by show 0 ≤ c.cost + 1 ∧ c.cost + 1 ≤ 2 ^ 50; omega,b8:=by show c.used ≤ ps.length ∧ _; omega }
    obtain ⟨ho1,ho2,f,hget,hact⟩:=acts (.pointer (some ⟨m,0,none⟩)) hAt
    have lf:=ld_get g5 (by rw [n05]; exact M4.wf) hget
    have hbu:buildV [.nilFunc,.nilFunc,.nilFunc,.nilFunc,.nilFunc,.nilFunc,.nilFunc] [(0,1,.func (.func 53) #[.pointer (some ⟨m,0,none⟩)] #[]),(1,1,.func (.func 54) #[.pointer (some ⟨m,0,none⟩)] #[]),(2,1,.func (.func 55) #[.pointer (some ⟨m,0,none⟩)] #[]),(3,1,.func (.func 56) #[.pointer (some ⟨m,0,none⟩)] #[]),(4,1,.func (.func 57) #[.pointer (some ⟨m,0,none⟩)] #[]),(5,1,.func (.func 58) #[.pointer (some ⟨m,0,none⟩)] #[]),(6,1,.func (.func 59) #[.pointer (some ⟨m,0,none⟩)] #[])] = some (.agg #[.func (.func 53) #[.pointer (some ⟨m,0,none⟩)] #[],.func (.func 54) #[.pointer (some ⟨m,0,none⟩)] #[],.func (.func 55) #[.pointer (some ⟨m,0,none⟩)] #[],.func (.func 56) #[.pointer (some ⟨m,0,none⟩)] #[],.func (.func 57) #[.pointer (some ⟨m,0,none⟩)] #[],.func (.func 58) #[.pointer (some ⟨m,0,none⟩)] #[],.func (.func 59) #[.pointer (some ⟨m,0,none⟩)] #[]]):=rfl
    have hact2:=hact _ rfl
    rw [evald_begun] at hact2
    rw [hs']
    obtain ⟨c',hc'⟩:∃ c',actM p ps (begunM p c (.mk op n args thn els) (nextM l k (.mk op n args thn els) fs0)) k (.mk op n args thn els) (valL p.w p.vars [c.store] args) (nextM l k (.mk op n args thn els) fs0) = c':=⟨_,rfl⟩
    have hinv':=inv_step hinv
    have hov':=stop_todo (p:=p) (ps:=ps) (c:=begunM p c (.mk op n args thn els) (nextM l k (.mk op n args thn els) fs0)) (k:=k) (s:=.mk op n args thn els) (vals:=valL p.w p.vars [c.store] args) (next:=nextM l k (.mk op n args thn els) fs0) ho
    have hfu':=act_fuel (p:=p) (ps:=ps) (c:=begunM p c (.mk op n args thn els) (nextM l k (.mk op n args thn els) fs0)) (k:=k) (s:=.mk op n args thn els) (vals:=valL p.w p.vars [c.store] args) (next:=nextM l k (.mk op n args thn els) fs0)
    rw [hs'] at hinv'
    simp only [Stm.args] at hact2 hinv' ⊢
    rw [hc'] at hact2 hinv' hov' hfu' ⊢
    have hfu2:c'.fuel = c.fuel - 1:=hfu'
    have gl:H2.ldn ⟨H1.nx,0,none⟩ 5 = some (.int .i64 op :: t):=by rw [ldn_get g2 (by rw [n02]; exact hw1) (by omega)]; simp [List.take_of_length_le (Nat.le_of_eq hcs)]
    have B5:=(Adv.ofExt hM X02).trans (B4.ext X5)
    simp (maxSteps:=4000000) -implicitDefEqProofs +contextual [-X.ev,hcs,s2,r42,hf,w1,s3,r10,w2,s4,hbu,s5,l0,ho1,ho2,lf,lcs,okD_of,chain_2,chain_1]
    apply Vx_callvM
    ·(simp -implicitDefEqProofs [-X.ev,-Value.func.injEq]; rfl)
    ·(simp -implicitDefEqProofs [-X.ev]; rfl)
    refine hact2.mono ?_
    rintro x H6 ⟨rfl,v',rows',A6,hfs6,hr6,hmt6,hsm6⟩
    have A:=B5.trans A6
    have x6n:=A6.mod.n0
    have x6x:=A6.mod.nx
    simp (maxSteps:=4000000) -implicitDefEqProofs +contextual [-X.ev,okD_of,chain_2,chain_1,x6n,x6x]
    obtain ⟨q1,q2,q3,q4⟩:=hsm6
    exact ⟨v',{ is:=⟨rows',A.mh,hfs6,by rw [hfu2]; omega⟩,w:=q1.trans h.w,vars:=by rw [q2]; exact h.vars,cap:=by rw [q2]; exact h.cap,picks:=by rw [q3]; exact h.picks,mt:=hmt6,inv:=hinv',ov:=hov' },A.mod,A.new,q1,q2,q3,q4⟩
end Go.Proofs.YtoijnpfpjpefgaaGreat.A
/- A text without what this claim does not need: S49. -/
set_option linter.unusedVariables false
set_option linter.unusedSimpArgs false
set_option maxRecDepth 10000
namespace Go.Proofs.YtoijnpfpjpefgaaGreat.A
open Go
theorem Own.relast {H:AH} {sz:Nat} {v:Value} {rows:List (List Value)} {r r':List Value} (h:Own H sz v (rows ++ [r])) (hl:r'.length = sz):∃ b,v = .slice (some ⟨b,0,none⟩) (rows.length + 1) (rows.length + 1) ∧ ∃ H',H.st ⟨b,rows.length * sz,none⟩ r' = some H' ∧ Own H' sz v (rows ++ [r']) ∧ Mod (fun q=>q = b) H H' ∧ H'.nx = H.nx ∧ H'.n0 = H.n0:=by
 rcases h.is with ⟨_,e⟩ | ⟨b,e,h0,g⟩
 ·simp at e
 have hl1:∀ q ∈ rows,q.length = sz:=fun q hq=>h.len q (by simp [hq])
 have hr:=h.len r (by simp)
 have hfl:=flatten_length hl1
 obtain ⟨H',st,M,nx,n0,g'⟩:=st_get g h0 (k:=rows.length * sz) (vs:=r') (by rw [flatten_length h.len]; simp only [List.length_append,List.length_singleton,Nat.succ_mul]; omega)
 have e2:v = .slice (some ⟨b,0,none⟩) (rows.length + 1) (rows.length + 1):=by rw [e]; simp
 refine ⟨b,e2,H',st,⟨.inr ⟨b,by rw [e2]; simp,by rw [n0]; exact h0,?_⟩,?_⟩,M,nx,n0⟩
 ·rw [g']
  have:=splice_at rows.flatten r r' [] (by omega)
  rw [hfl] at this
  simp only [List.append_nil] at this
  simp only [List.flatten_append,List.flatten_cons,List.flatten_nil,List.append_nil]
  rw [this]
 ·intro q hq
  rcases List.mem_append.1 hq with hq | hq
  ·exact hl1 q hq
  ·simp at hq; subst hq; exact hl
def beginM (p:Prg) (fuel:Int) (t:Sta):CfM:=⟨0,t.store,[],[],0,0,0,fuel,itemsM p.body 0,false⟩
theorem inv_begin {p:Prg} {fuel:Int} {t:Sta} (h:chkR p fuel t = 0):Inv p t.picks (beginM p fuel t) ∧ isPrg p = true ∧ 0 ≤ fuel ∧ fuel ≤ 4096 ∧ isSta p t = true:=by
 unfold chkR at h
 cases h1:isPrg p with
 | false=>rw [if_pos h1] at h; omega
 | true =>
  rw [if_neg (by rw [h1]; decide)] at h
  by_cases h2:fuel < 0 ∨ 4096 < fuel
  ·rw [if_pos h2] at h; omega
  rw [if_neg h2] at h
  cases h3:isSta p t with
  | false=>rw [if_pos h3] at h; omega
  | true =>
   have hp:=h1
   have hs:=h3
   simp only [isPrg,Bool.and_eq_true,decide_eq_true_eq] at hp
   simp only [isSta,Bool.and_eq_true,decide_eq_true_eq,List.all_eq_true] at hs
   have hw8:1 ≤ p.w ∧ p.w ≤ 8:=⟨(isHeading_w hp.1).1,(isHeading_w hp.1).2.1⟩
   have cb:=countS_bound p.body
   refine ⟨⟨hp.1,hs.1,fun a ha=>?_,⟨by show 0 ≤ _; omega,hs.2.1⟩,by omega,?_,by show 0 ≤ fuel ∧ fuel ≤ 4096; omega,by show (0:Int) + 500 * fuel ≤ 2 ^ 30; omega,by show (0:Int) + fuel ≤ 2 ^ 30; omega,by show 0 ≤ (0:Int) ∧ 0 + 500 * fuel ≤ 2 ^ 40; omega⟩,rfl,by omega,by omega,rfl⟩
   ·have:=hs.2.2 a ha
    rw [isWord_p hw8] at this
    simp at this
    exact this
   ·exact items_ok p.body 0 (by omega) (by omega) hp.2.2.2 (by omega)
structure Made (H:AH) (p:Prg) (ps:List Int) (H':AH) (m:Nat) (c:CfM):Prop where
 is:∃ G v,MacC G H' m p ps v c ∧ Ext H H' ∧ (∀ b,Mf m v b → H.nx ≤ b) ∧ ∀ b x,G.get b = some x → H.nx ≤ b
abbrev newV (w fuel:Int) (vp vv vb vs vf:Value):MV:=⟨vf,w,vv,vb,fuel,vp,0,vs,.slice none 0 0,.slice none 0 0,0,0,0,false⟩
theorem sameL_refl_S:sameL zS zS = true:=by simp [zS]
theorem New_ca {p:Prg} {t:Sta} {c d:List Value} {fuel:Int} {H:AH} (hw:H.n0 ≤ H.nx) (hp:PrgC H c p) (ht:StaC H d t) :
  Ca E O 21 [.agg c.toArray,.int .i64 fuel,.agg d.toArray] H (fun x H'=>if chkR p fuel t = 0 then ∃ m,x = .tuple #[.pointer (some ⟨m,0,none⟩),.int .i64 0] ∧ Made H p t.picks H' m (beginM p fuel t) else x = .tuple #[.pointer none,.int .i64 (chkR p fuel t)] ∧ Ext H H'):=by
 refine Ca.bodyV (F:=a21) rfl rfl rfl ?_
 have hc:=hp.len
 have hd:d.length = 2:=by obtain ⟨vs,vp,e,_⟩:=ht.is; rw [e]; rfl
 have X1:=Ext.alloc H (.cells c.length c)
 have q:(H.alloc (.cells c.length c)).ldn ⟨H.nx,0,none⟩ 3 = some c:=ld_box hw 3 (by assumption)
 generalize hH1:H.alloc (.cells c.length c) = H1 at X1 q
 have hwH1:=X1.wf hw
 have X2:=Ext.alloc H1 (.cells d.length d)
 have r:(H1.alloc (.cells d.length d)).ldn ⟨H1.nx,0,none⟩ 2 = some d:=ld_box hwH1 2 (by assumption)
 generalize hH2:H1.alloc (.cells d.length d) = H2 at X2 r
 have hwH2:=X2.wf hwH1
 replace q:=X2.ldn q
 have X:=X1.trans X2
 simp (maxSteps:=4000000) -implicitDefEqProofs +contextual [-X.ev,a21,hH1,hH2,q]
 apply Vx_callM
 ·(simp -implicitDefEqProofs [-X.ev]; rfl)
 refine (PCheck_ca hwH2 (hp.ext X)).mono ?_
 rintro x H3 ⟨rfl,X3⟩
 replace q:=X3.ldn q
 replace r:=X3.ldn r
 have X03:=X.trans X3
 cases h1:isPrg p with
 | false =>
  have hk:chkR p fuel t = 30:=by unfold chkR; rw [if_pos h1]
  simp (maxSteps:=4000000) -implicitDefEqProofs +contextual [-X.ev,h1,hk,X03]
 | true =>
  by_cases h2:fuel < 0
  ·have hk:chkR p fuel t = 1:=by unfold chkR; rw [if_neg (by rw [h1]; decide),if_pos (.inl h2)]
   simp (maxSteps:=4000000) -implicitDefEqProofs +contextual [-X.ev,h1,h2,hk,X03]
  by_cases h3:4096 < fuel
  ·have hk:chkR p fuel t = 1:=by unfold chkR; rw [if_neg (by rw [h1]; decide),if_pos (.inr h3)]
   simp (maxSteps:=4000000) -implicitDefEqProofs +contextual [-X.ev,h1,h2,h3,hk,X03]
  simp (maxSteps:=4000000) -implicitDefEqProofs +contextual [-X.ev,h1,h2,h3,q,r]
  apply Vx_callM
  ·(simp -implicitDefEqProofs [-X.ev]; rfl)
  refine (isStart_ca (X3.wf hwH2) (hp.ext X03) (ht.ext X03) h1).mono ?_
  rintro x H4 ⟨rfl,X4⟩
  replace q:=X4.ldn q
  replace r:=X4.ldn r
  have X04:=X03.trans X4
  have hw4:=X04.wf hw
  cases h4:isSta p t with
  | false =>
   have hk:chkR p fuel t = 50:=by unfold chkR; rw [if_neg (by rw [h1]; decide),if_neg (by omega),if_pos h4]
   simp (maxSteps:=4000000) -implicitDefEqProofs +contextual [-X.ev,h4,hk,X04]
  | true =>
   have hk:chkR p fuel t = 0:=by unfold chkR; rw [if_neg (by rw [h1]; decide),if_neg (by omega),if_neg (by rw [h4]; decide)]
   obtain ⟨hinv,_,hf1,hf2,_⟩:=inv_begin hk
   have hp4:=hp.ext X04
   have ht4:=ht.ext X04
   obtain ⟨vv,vb,rb,rfl,hi,hv,hvo,hr,hl,hbl⟩:=hp4.is
   obtain ⟨vs,vp,rfl,ss,sp,l1,l2,_,_⟩:=ht4.is
   have q1:=ld_of_ldn q (j:=1) rfl
   have q2:=ld_of_ldn q (j:=2) rfl
   have r0:=ld_of_ldn r (j:=0) rfl
   have r1:=ld_of_ldn r (j:=1) rfl
   simp only [Nat.zero_add] at q1 q2 r0 r1
   have hpk:=hinv.used.2
   have hsl:t.store.length ≤ 48:=by
    have:=hinv.store
    simp only [isStore,Bool.and_eq_true,decide_eq_true_eq] at this
    have h48:=(head_cells hinv.head).2.2
    have e:=this.1
    simp only [beginM] at e
    omega
   have hVl:=(head_cells hinv.head).2.1
   simp (maxSteps:=4000000) -implicitDefEqProofs +contextual [-X.ev,h4,q,r1]
   apply Vx_callM
   ·(simp -implicitDefEqProofs [-X.ev]; rfl)
   refine (CloneI_ca hw4 sp (by omega)).mono ?_
   rintro vpc H5 ⟨o5,X5,k5⟩
   obtain ⟨pa,pc,hvp⟩:=o5.shape
   have hw5:=X5.wf hw4
   have hbu:buildV [.slice none 0 0,.int .i64 0,.slice none 0 0,.slice none 0 0,.int .i64 0,.slice none 0 0,.int .i64 0,.slice none 0 0,.slice none 0 0,.slice none 0 0,.int .i64 0,.int .i64 0,.int .i64 0,.bool false] [(1,3,.agg #[.int .i64 p.w,vv,vb]),(4,1,.int .i64 fuel),(5,1,vpc)] = some (.agg (newV p.w fuel vpc vv vb (.slice none 0 0) (.slice none 0 0)).cells.toArray):=by
    rw [hvp]; rfl
   have gm:=get_new H5 (.cells 14 (newV p.w fuel vpc vv vb (.slice none 0 0) (.slice none 0 0)).cells)
   have X6:=Ext.alloc H5 (.cells 14 (newV p.w fuel vpc vv vb (.slice none 0 0) (.slice none 0 0)).cells)
   obtain ⟨H6,hH6⟩:∃ H6,H5.alloc (.cells 14 (newV p.w fuel vpc vv vb (.slice none 0 0) (.slice none 0 0)).cells) = H6:=⟨_,rfl⟩
   rw [hH6] at gm X6
   obtain ⟨m,hm⟩:∃ m,H5.nx = m:=⟨_,rfl⟩
   rw [hm] at gm
   have x5x:=X5.nx
   have x5n:=X5.n0
   have x6x:=X6.nx
   have mlt:=AH.get_lt gm
   have X46:=X5.trans X6
   have q1_6:=X46.ld q1
   have hw6:=X6.wf hw5
   have q5:=X5.ldn q
   have cc1:H4.nx ≤ m:=by omega
   have cc2:H6.n0 = H4.n0:=X6.n0.trans x5n
   have cc3:m ≤ H6.nx:=by omega
   obtain ⟨va0,vc0,hvv0⟩:=hv.len
   obtain ⟨ba0,bc0,hvb0⟩:=hr.len
   have svv:same1 vv vv = true:=by rw [hvv0]; simp
   have svb:same1 vb vb = true:=by rw [hvb0]; simp
   simp (maxSteps:=4000000) -implicitDefEqProofs +contextual [-X.ev,hbu,hH6,q,q5,svv,svb,x5n,cc1,cc2,cc3,okD_of,chain_2,chain_1,q1_6,hm]
   apply Vx_callM
   ·(simp -implicitDefEqProofs [-X.ev]; rfl)
   refine (Clone_gen (f:=48) (sz:=3) (bytes:=32) rfl rfl hw6 (hv.ext X46) (by simp; omega) (by simp; omega)).mono ?_
   rintro x H7 ⟨o7,X7,k7⟩
   have x7x:=X7.nx
   have m0:H.n0 ≤ m:=by have:=X04.nx; omega
   obtain ⟨wa,wc,hvw⟩:=o7.shape
   rw [List.length_map] at hvw
   obtain ⟨H8,s8,M8,nx8,n08,g8⟩:=st_get (X7.get gm) (by rw [X7.n0,cc2,X04.n0]; exact m0) (k:=2) (vs:=[x]) (by simp)
   have hsp8:splice (newV p.w fuel vpc vv vb (.slice none 0 0) (.slice none 0 0)).cells 2 [x] = (newV p.w fuel vpc x vb (.slice none 0 0) (.slice none 0 0)).cells:=rfl
   rw [hsp8] at g8
   obtain ⟨H9,s9,M9,nx9,n09,g9⟩:=st_get g8 (by rw [n08,X7.n0,cc2,X04.n0]; exact m0) (k:=3) (vs:=[.slice none 0 0]) (by simp)
   have hsp9:splice (newV p.w fuel vpc x vb (.slice none 0 0) (.slice none 0 0)).cells 3 [.slice none 0 0] = (newV p.w fuel vpc x (.slice none 0 0) (.slice none 0 0) (.slice none 0 0)).cells:=rfl
   rw [hsp9] at g9
   have X49:Ext H4 H9:=((X46.trans X7).mod M8 (fun b hb=>by omega)).mod M9 (fun b hb=>by omega)
   have n9:H9.n0 = H.n0:=X49.n0.trans X04.n0
   have q2_9:=X49.ld q2
   have r0_9:=X49.ld r0
   have hw9:=X49.wf hw4
   have hvb1:=hvb0
   rw [hl.length] at hvb1
   rw [hvb1] at q2_9
   rw [hvw] at s8
   simp (maxSteps:=4000000) -implicitDefEqProofs +contextual [-X.ev,hvw,s8,s9,q2_9]
   rw [← hvw] at s8
   refine Vk_loop (fun k fr H'=>Mod (fun b=>b = m) H9 H' ∧ ∃ (i:Nat) (z:Value) (rs:List (List Value)),H'.get m = some (.cells 14 (newV p.w fuel vpc x z (.slice none 0 0) (.slice none 0 0)).cells) ∧ i + k = p.body.length ∧ fr.get 8 = .pointer (some ⟨m,0,none⟩) ∧ fr.get 5 = .pointer (some ⟨H1.nx,0,none⟩) ∧ fr.get 43 = vb ∧ fr.get 44 = .int .i64 p.body.length ∧ fr.get 45 = .int .i64 i ∧ Own H' 5 z rs ∧ rs.length = i ∧ StKL (part H' H9.nx (blk z)) rs (p.body.take i) ∧ (∀ b,blk z b → H9.nx ≤ b)) ?_ p.body.length ⟨Mod.refl _ _,0,.slice none 0 0,[],by simpa [hvw] using g9,by simp,by simp [hm],by simp,by simp [hvb1],by simp,by simp,Own.nil _ _,rfl,by simpa using StKL.nil,fun b hb=>absurd hb (blk_nil _ _ _)⟩
   rintro k fr H10 ⟨M10,i,z,rs,g10,hi,f8,f5,f43,f44,f45,ow,hrs,hall,hfr⟩
   have hw10:=M10.wf hw9
   have x10x:=M10.nx
   have X410:Ext H4 H10:=X49.mod M10 (fun b hb=>by omega)
   have hnod:nodesS p.body ≤ 400:=by
    simp only [isPrg,Bool.and_eq_true,decide_eq_true_eq] at h1
    exact h1.2.1
   have hblen:=nodesS_len p.body
   by_cases hlt:i < p.body.length
   ·obtain ⟨y,hy⟩:∃ y,p.body[i]? = some y:=⟨_,List.getElem?_eq_getElem hlt⟩
    have t1:=nodesS_take hy
    have t2:=nodesS_take_le p.body (i + 1)
    have t3:=nodesS_take_le p.body i
    obtain ⟨yop,yn,yargs,ythn,yels⟩:=y
    obtain ⟨b,o,c',yva,yvt,yve,yra,yrt,yre,hv',hldn,_,_,_,_,_,j1,j2,j3,j4,j5,e1,e2,e3,e4,e5,e6⟩:=StL.row (hr.ext X410) (StL.ext X410 hl) hy
    have hyc:StC H10 [.int .i64 yop,.int .i64 yn,yva,yvt,yve] (.mk yop yn yargs ythn yels):=.mk j1 j2 j3 j4 j5 e1 e2 e3 e4 e5 e6
    have f43':=f43
    rw [hv'] at f43'
    obtain ⟨Ha,sHa,Xa,nxHa,n0Ha,u,lHa⟩:=st_new (H:=H10) hw10 (z:=5) (c:=[.int .i64 0,.int .i64 0,.slice none 0 0,.slice none 0 0,.slice none 0 0]) (vs:=[.int .i64 yop,.int .i64 yn,yva,yvt,yve]) rfl
    have u0:Ha.ld ⟨H10.nx,0,none⟩ = some (.int .i64 yop):=lHa 0 _ rfl
    have u1:Ha.ld ⟨H10.nx,1,none⟩ = some (.int .i64 yn):=lHa 1 _ rfl
    have u2:Ha.ld ⟨H10.nx,2,none⟩ = some yva:=lHa 2 _ rfl
    have u3:Ha.ld ⟨H10.nx,3,none⟩ = some yvt:=lHa 3 _ rfl
    have u4:Ha.ld ⟨H10.nx,4,none⟩ = some yve:=lHa 4 _ rfl
    clear lHa
    replace u:Ha.ldn ⟨H10.nx,0,none⟩ 5 = some [.int .i64 yop,.int .i64 yn,yva,yvt,yve]:=u
    have hwHa:=Xa.wf hw10
    have ga:=Xa.get g10
    have n10:Ha.n0 = H.n0:=Xa.n0.trans (M10.n0.trans n9)
    have ld3:=ld_get ga (by rw [n10]; exact m0) (k:=3) (v:=z) rfl
    obtain ⟨za,zc,hz⟩:=ow.shape
    rw [hrs] at hz
    have hbz:=bsl1 (sz:=5) (z:=zS) (H:=Ha) (v:=.agg #[.int .i64 0,.int .i64 0,.slice none 0 0,.slice none 0 0,.slice none 0 0]) rfl rfl rfl
    simp only [vcells_agg] at hbz
    have Xb:=Ext.alloc Ha (.cells 5 zS)
    have gz:=get_new Ha (.cells 5 zS)
    obtain ⟨Hb,hHb⟩:∃ Hb,Ha.alloc (.cells 5 zS) = Hb:=⟨_,rfl⟩
    rw [hHb] at hbz Xb gz
    have hwb:=Xb.wf hwHa
    have oz:Own Hb 5 (.slice (some ⟨Ha.nx,0,none⟩) 1 1) [zS]:=⟨.inr ⟨Ha.nx,rfl,by rw [Xb.n0]; exact hwHa,by simpa using gz⟩,by simp⟩
    have xax:=Xa.nx
    have xbx:=Xb.nx
    rw [hz] at ld3
    simp (maxSteps:=4000000) -implicitDefEqProofs +contextual [-X.ev,f43',f44,f45,f8,hlt,hldn,sHa,u,ld3,hbz]
    apply Vx_callM
    ·(simp -implicitDefEqProofs [-X.ev]; rfl)
    refine (Copied_ca _ _ _ Hb (Nat.lt_succ_self _) hwb (StC.ext (Xa.trans Xb) hyc) (by omega)).mono ?_
    rintro xx Hc ⟨cs,rfl,hk5,Xc⟩
    have hwc:=Xc.wf hwb
    have xcx:=Xc.nx
    obtain ⟨s',Hd,had,od,Md,kd,kd'⟩:=app_own' (bytes:=88) hwc ((ow.ext (Xa.trans Xb)).ext Xc) (oz.ext Xc).rows (by simp; omega) (by simp; omega)
    have hcs5:=hk5.len
    obtain ⟨bd,hsd,He,sd,oe,Me,nxe,n0e⟩:=od.relast hcs5
    have zlt:∀ b,blk z b → b < H10.nx:=fun b hb=>ow.lt hb
    have mltb:m < H9.nx:=AH.get_lt g9
    have gd:=Md.get (fun q=>by have:=hfr m q; omega) (Xc.get (Xb.get ga))
    have hbd:blk s' bd:=by rw [hsd]; exact (blk_slice _ _ _ _ _).2 rfl
    have hbdn:=kd' (by simp) bd hbd
    have ge:=Me.get (fun q=>by omega) gd
    obtain ⟨Hf,sf,Mf',nxf,n0f,gf⟩:=st_get ge (by rw [n0e,Md.n0,Xc.n0,Xb.n0,n10]; exact m0) (k:=3) (vs:=[s']) (by simp)
    have hspf:splice (newV p.w fuel vpc x z (.slice none 0 0) (.slice none 0 0)).cells 3 [s'] = (newV p.w fuel vpc x s' (.slice none 0 0) (.slice none 0 0)).cells:=rfl
    rw [hspf] at gf
    have ldn3:=ld_ldn.1 ld3
    have ldn3c:=Xc.ldn (Xb.ldn ldn3)
    have ldn3b:=Xb.ldn ldn3
    have gzc:=Xc.get gz
    have mdx:=Md.nx
    rw [hrs] at sd hsd
    have hbq:Nat.beq bd m = false:=Bool.eq_false_iff.2 fun h=>by have:=Nat.eq_of_beq_eq_true h; omega
    have n0d:=Md.n0
    have n0c:=Xc.n0
    have n0b:=Xb.n0
    rw [hz] at had
    rw [hsd] at had sf
    have hltn:(i:Int) < (i:Int) + 1:=by omega
    simp (maxSteps:=4000000) -implicitDefEqProofs +contextual [-X.ev,f45,had,sd,sf,hcs5,hltn,okD_of,chain_2,chain_1,ckO_2,adrOf,ldn3,ldn3c,ldn3b,gz,gzc,sameB,sameL_refl_S,hbq,n0d,n0c,n0b,n0e,n0f,xbx,xcx,mdx,nxe,nxf]
    rw [wrap_in (n:=(i:Int) + 1) ⟨by omega,by omega⟩]
    have MM:=(((M10.trans (Mod.of_ext ((Xa.trans Xb).trans Xc))).then Md (fun b hb q=>by have:=hfr b q; omega)).then Me (fun b hb q=>by omega)).then Mf' (fun b _ q=>q)
    have nn:Hf.n0 = Hc.n0:=n0f.trans (n0e.trans n0d)
    refine ⟨k - 1,by omega,MM,i + 1,s',gf,by omega,f8,f5,f43,f44,by simp,_,oe.mod Mf' (fun b hb q=>by have:=kd' (by simp) b hb; omega),by simp [hrs],?_,fun b hb=>by have:=kd' (by simp) b hb; omega⟩
    rw [take_snoc hy]
    refine StKL.snoc (hall.sub (part_sub (nn.trans (n0c.trans (n0b.trans Xa.n0))) (by omega) fun b y hb hn hz=>?_)) (hk5.sub (part_sub nn (by omega) fun b y hb hn hz=>?_))
    ·have hb1:=AH.get_lt hb
     exact ⟨Mf'.get (fun q=>by omega) (Me.get (fun q=>by omega) (Md.get hz (Xc.get (Xb.get (Xa.get hb))))),hn,fun q=>by have:=kd' (by simp) b q; omega⟩
    ·have hb1:=AH.get_lt hb
     exact ⟨Mf'.get (fun q=>by omega) (Me.get (fun q=>by omega) (Md.get (fun q=>by have:=zlt b q; omega) hb)),by omega,fun q=>by have:=kd' (by simp) b q; omega⟩
   rw [List.take_of_length_le (by omega)] at hall
   have r0_10:=X410.ld r0
   have f43':=f43
   rw [hvb1] at f43'
   simp (maxSteps:=4000000) -implicitDefEqProofs +contextual [-X.ev,f43',f44,f45,f8,f5,hlt,r0_10]
   apply Vx_callM
   ·(simp -implicitDefEqProofs [-X.ev]; rfl)
   refine (CloneI_ca hw10 (ss.ext X410) (by omega)).mono ?_
   rintro vsc H11 ⟨o11,X11,k11⟩
   have n10:H10.n0 = H.n0:=M10.n0.trans n9
   have x11x:=X11.nx
   obtain ⟨H12,s12,M12,nx12,n12,g12⟩:=st_get (X11.get g10) (by rw [X11.n0,n10]; exact m0) (k:=7) (vs:=[vsc]) (by simp)
   have hsp12:splice (newV p.w fuel vpc x z (.slice none 0 0) (.slice none 0 0)).cells 7 [vsc] = (newV p.w fuel vpc x z vsc (.slice none 0 0)).cells:=rfl
   rw [hsp12] at g12
   have mlt9:m < H9.nx:=AH.get_lt g9
   have MM10:Mod (fun b=>b = m) H10 H12:=(Mod.of_ext X11).trans M12
   have MM7:Mod (fun b=>b = m) H7 H12:=((M8.trans M9).trans M10).trans MM10
   have MM5:Mod (fun b=>b = m) H5 H12:=(Mod.of_ext (X6.trans X7)).trans MM7
   have n012:H12.n0 = H.n0:=n12.trans (X11.n0.trans n10)
   have hw12:H12.n0 ≤ H12.nx:=by rw [n012,nx12]; omega
   obtain ⟨v12,hv12⟩:∃ v12,newV p.w fuel vpc x z vsc (.slice none 0 0) = v12:=⟨_,rfl⟩
   have hMf:∀ b,Mf m v12 b ↔ b = m ∨ blk vsc b:=by
    intro b
    rw [← hv12]
    unfold Mf
    simp only [blk_nil,false_or,or_false]
   obtain ⟨G,hG⟩:∃ G,part H12 H.nx (Mf m v12) = G:=⟨_,rfl⟩
   have x04:=X04.nx
   have o12:=(o11.mod M12 (fun b hb q=>by have:=k11 b hb; omega))
   have vm:¬ blk vsc m:=fun q=>by have:=k11 m q; omega
   have h12:MH G H12 m v12 [] t.store [] []:=by
    subst hG hv12
    exact { get:=g12,n0:=by rw [n012]; exact m0,sub:=part_of _ _ _,wf:=hw12,fr:=(Own.nil _ 2).ownr,st:=o12,ou:=Own.nil _ 2,tr:=Own.nil _ 3,d1:=⟨blk_nil _ _ _,vm,blk_nil _ _ _,blk_nil _ _ _⟩,d2:=fun b hb=>absurd hb (blk_nil _ _ _),d3:=fun b hb=>⟨blk_nil _ _ _,blk_nil _ _ _⟩,d4:=fun b hb=>absurd hb (blk_nil _ _ _),out:=fun b hb=>part_none hb }
   have oz12:Own G 5 z rs:=by
    rw [← hG]
    exact (ow.mod MM10 (fun b hb q=>by have:=hfr b hb; omega)).part fun b hb=>⟨by have:=hfr b hb; omega,fun q=>by
     rw [hMf] at q
     rcases q with q | q
     ·have:=hfr b hb; omega
     ·have:=k11 b q; have:=ow.lt hb; omega⟩
   have hk12:StKL G rs p.body:=by
    rw [← hG]
    refine hall.sub (part_sub (n012.trans n10.symm) (by omega) fun b y hb hn hz=>?_)
    have hb1:=AH.get_lt hb
    refine ⟨MM10.get (fun q=>by omega) hb,by omega,fun q=>?_⟩
    rw [hMf] at q
    rcases q with q | q
    ·omega
    ·have:=k11 b q; omega
   have ov12:Own G 3 x (p.vars.map Vr.row):=by
    rw [← hG]
    refine (o7.mod MM7 (fun b hb q=>by have:=k7 b hb; omega)).part fun b hb=>⟨by have:=k7 b hb; omega,fun q=>?_⟩
    rw [hMf] at q
    rcases q with q | q
    ·have:=k7 b hb; omega
    ·have:=k11 b q; have:=o7.lt hb; have:=nx8; have:=nx9; omega
   have op12:Own G 1 vpc (intRows t.picks):=by
    rw [← hG]
    refine (o5.mod MM5 (fun b hb q=>by have:=o5.lt hb; omega)).part fun b hb=>⟨by have:=k5 b hb; omega,fun q=>?_⟩
    rw [hMf] at q
    rcases q with q | q
    ·have:=o5.lt hb; omega
    ·have:=k11 b q; have:=o5.lt hb; omega
   have l3:=ld_get g12 (by rw [n012]; exact m0) (k:=3) (v:=z) rfl
   obtain ⟨za,zc,hz⟩:=ow.shape
   obtain ⟨sa,sc,hsc⟩:=o11.shape
   have hl12:p.body.length ≤ 2 ^ 30:=by omega
   have key:=mpush_ca (k:=0) h12 oz12.rows hk12 oz12.fit (fs:=[]) .nil (by simp) hl12
   rw [hz] at l3 key
   rw [hsc] at s12
   simp (maxSteps:=4000000) -implicitDefEqProofs +contextual [-X.ev,f8,hsc,s12,l3,okD_of,chain_2,chain_1]
   apply Vx_callM
   ·(simp -implicitDefEqProofs [-X.ev]; rfl)
   refine (key).mono ?_
   rintro xx H13 ⟨vf',rows',fs',A13,ha13,hfl13,hrl13⟩
   have x13n:=A13.mod.n0
   have x13x:=A13.mod.nx
   simp (maxSteps:=4000000) -implicitDefEqProofs +contextual [-X.ev,f8,okD_of,chain_2,chain_1,x13n,x13x,hk]
   have XX:Ext H H12:=(((X04.trans X410)).trans X11).mod M12 (fun b hb=>by omega)
   have hfoot:∀ b,Mf m v12 b → H.nx ≤ b:=fun b hb=>by
    rw [hMf] at hb
    rcases hb with q | q
    ·omega
    ·have:=k11 b q; omega
   have hgx:∀ b x,G.get b = some x → H.nx ≤ b:=fun b x hb=>by rw [← hG] at hb; exact (part_get.1 hb).2.1
   refine ⟨G,_,{ is:=⟨rows',A13.mh,fun _=>⟨fs',ha13,by rw [hfl13]; simp [flatF,beginM]⟩,by simp at hrl13; show _ + 2 * fuel ≤ 2 ^ 20; omega⟩,w:=by rw [← hv12],vars:=by rw [← hv12]; exact ov12.rows,cap:=by rw [← hv12]; exact ov12.cap,picks:=by rw [← hv12]; exact op12.ints,mt:=by rw [← hv12]; exact ⟨rfl,rfl,rfl,rfl,rfl,rfl⟩,inv:=hinv,ov:=fun q=>by cases q },XX.mod A13.mod hfoot,fun b hb=>?_,hgx⟩
   rcases A13.new b hb with q | q
   ·exact hfoot b q
   ·have:=XX.nx; omega
end Go.Proofs.YtoijnpfpjpefgaaGreat.A
/- A text without what this claim does not need: S50. -/
set_option linter.unusedVariables false
set_option linter.unusedSimpArgs false
set_option maxRecDepth 10000
namespace Go.Proofs.YtoijnpfpjpefgaaGreat.A
open Go
structure RunM where
 en:Int
 store:List Int
 outs:List (Int × Int)
 trace:List Ev
 cost:Int
 used:Int
 wh:Int
def CfM.run (c:CfM):RunM:=⟨c.en,c.store,c.outs,c.trace,c.cost,c.used,c.wh⟩
def zeroRun:RunM:=⟨0,[],[],[],0,0,0⟩
def Small (r:RunM):Prop:=r.store.length ≤ 2 ^ 40 ∧ r.outs.length ≤ 2 ^ 40 ∧ r.trace.length ≤ 2 ^ 40
structure RunO (H:AH) (n:Nat) (cs:List Value) (r:RunM):Prop where
 is:∃ vs vo vt,cs = [.int .i64 r.en,vs,vo,vt,.int .i64 r.cost,.int .i64 r.used,.int .i64 r.wh] ∧ Own H 1 vs (intRows r.store) ∧ Own H 2 vo (outRows r.outs) ∧ Own H 3 vt (evRows r.trace) ∧ (∀ b,blk vs b ∨ blk vo b ∨ blk vt b → n ≤ b)
theorem RunO.ext {H H':AH} {n:Nat} {cs:List Value} {r:RunM} (X:Ext H H') (h:RunO H n cs r):RunO H' n cs r:=by
 obtain ⟨vs,vo,vt,e,a,b,c,d⟩:=h.is
 exact ⟨vs,vo,vt,e,a.ext X,b.ext X,c.ext X,d⟩
theorem RunO.zero (H:AH) (n:Nat):RunO H n [.int .i64 0,.slice none 0 0,.slice none 0 0,.slice none 0 0,.int .i64 0,.int .i64 0,.int .i64 0] zeroRun :=
 ⟨_,_,_,rfl,Own.nil _ _,Own.nil _ _,Own.nil _ _,fun b hb=>by rcases hb with q | q | q <;> exact absurd q (blk_nil _ _ _)⟩
theorem copied_ca {H:AH} {r:RunM} {vs vo vt:Value} (hw:H.n0 ≤ H.nx) (hs:Rows H 1 vs (intRows r.store)) (ho:Rows H 2 vo (outRows r.outs)) (ht:Rows H 3 vt (evRows r.trace)) (hb:Small r) :
  Ca E O 60 [.agg #[.int .i64 r.en,vs,vo,vt,.int .i64 r.cost,.int .i64 r.used,.int .i64 r.wh]] H (fun x H'=>∃ cs,x = .agg cs.toArray ∧ RunO H' H.nx cs r ∧ Ext H H'):=by
 refine Ca.bodyV (F:=a60) rfl rfl rfl ?_
 obtain ⟨b1,b2,b3⟩:=hb
 have gB:=get_new H (.cells 7 [.int .i64 r.en,vs,vo,vt,.int .i64 r.cost,.int .i64 r.used,.int .i64 r.wh])
 have X1:=Ext.alloc H (.cells 7 [.int .i64 r.en,vs,vo,vt,.int .i64 r.cost,.int .i64 r.used,.int .i64 r.wh])
 have d0:(H.alloc (.cells 7 [.int .i64 r.en,vs,vo,vt,.int .i64 r.cost,.int .i64 r.used,.int .i64 r.wh])).ld ⟨H.nx,0,none⟩ = some (.int .i64 r.en):=ld_new hw rfl
 have d1:(H.alloc (.cells 7 [.int .i64 r.en,vs,vo,vt,.int .i64 r.cost,.int .i64 r.used,.int .i64 r.wh])).ld ⟨H.nx,1,none⟩ = some vs:=ld_new hw rfl
 have d2:(H.alloc (.cells 7 [.int .i64 r.en,vs,vo,vt,.int .i64 r.cost,.int .i64 r.used,.int .i64 r.wh])).ld ⟨H.nx,2,none⟩ = some vo:=ld_new hw rfl
 have d3:(H.alloc (.cells 7 [.int .i64 r.en,vs,vo,vt,.int .i64 r.cost,.int .i64 r.used,.int .i64 r.wh])).ld ⟨H.nx,3,none⟩ = some vt:=ld_new hw rfl
 have d4:(H.alloc (.cells 7 [.int .i64 r.en,vs,vo,vt,.int .i64 r.cost,.int .i64 r.used,.int .i64 r.wh])).ld ⟨H.nx,4,none⟩ = some (.int .i64 r.cost):=ld_new hw rfl
 have d5:(H.alloc (.cells 7 [.int .i64 r.en,vs,vo,vt,.int .i64 r.cost,.int .i64 r.used,.int .i64 r.wh])).ld ⟨H.nx,5,none⟩ = some (.int .i64 r.used):=ld_new hw rfl
 have d6:(H.alloc (.cells 7 [.int .i64 r.en,vs,vo,vt,.int .i64 r.cost,.int .i64 r.used,.int .i64 r.wh])).ld ⟨H.nx,6,none⟩ = some (.int .i64 r.wh):=ld_new hw rfl
 have d:(H.alloc (.cells 7 [.int .i64 r.en,vs,vo,vt,.int .i64 r.cost,.int .i64 r.used,.int .i64 r.wh])).ldn ⟨H.nx,0,none⟩ 7 = some [.int .i64 r.en,vs,vo,vt,.int .i64 r.cost,.int .i64 r.used,.int .i64 r.wh]:=ld_box hw 7 rfl
 generalize hH1:H.alloc (.cells 7 [.int .i64 r.en,vs,vo,vt,.int .i64 r.cost,.int .i64 r.used,.int .i64 r.wh]) = H1 at X1 d0 d1 d2 d3 d4 d5 d6 d
 have hwH1:=X1.wf hw
 rw [hH1] at gB
 have X2:=Ext.alloc H1 (.cells 7 [.int .i64 0,.slice none 0 0,.slice none 0 0,.slice none 0 0,.int .i64 0,.int .i64 0,.int .i64 0])
 have gR:=get_new H1 (.cells 7 [.int .i64 0,.slice none 0 0,.slice none 0 0,.slice none 0 0,.int .i64 0,.int .i64 0,.int .i64 0])
 obtain ⟨H2,hH2⟩:∃ H2,H1.alloc (.cells 7 [.int .i64 0,.slice none 0 0,.slice none 0 0,.slice none 0 0,.int .i64 0,.int .i64 0,.int .i64 0]) = H2:=⟨_,rfl⟩
 rw [hH2] at X2 gR
 have hw2:=X2.wf hwH1
 have X02:=X1.trans X2
 have ltB:=AH.get_lt gB
 have ltR:=AH.get_lt gR
 have x1:=X1.nx
 have x2:=X2.nx
 replace d1:=X2.ld d1
 replace d2:=X2.ld d2
 replace d3:=X2.ld d3
 have l1n:=ld_ldn.1 d1
 have l2n:=ld_ldn.1 d2
 have l3n:=ld_ldn.1 d3
 obtain ⟨a1,c1,e1⟩:=hs.len
 obtain ⟨a2,c2,e2⟩:=ho.len
 obtain ⟨a3,c3,e3⟩:=ht.len
 have s1:same1 vs vs = true:=by rw [e1]; simp
 have s2:same1 vo vo = true:=by rw [e2]; simp
 have s3:same1 vt vt = true:=by rw [e3]; simp
 simp (maxSteps:=4000000) -implicitDefEqProofs +contextual [-X.ev,a60,hH1,hH2,d1,d2,d3]
 apply Vx_callM
 ·(simp -implicitDefEqProofs [-X.ev]; rfl)
 refine (CloneI_ca (l:=r.store) hw2 (hs.ext X02) b1).mono ?_
 rintro xs H3 ⟨o3,X3,k3⟩
 have hw3:=X3.wf hw2
 simp (maxSteps:=4000000) -implicitDefEqProofs +contextual [-X.ev]
 apply Vx_callM
 ·(simp -implicitDefEqProofs [-X.ev]; rfl)
 refine (Clone_gen (f:=89) (sz:=2) (bytes:=16) rfl rfl hw3 (ho.ext (X02.trans X3)) (by simp [outRows]; omega) (by simp [outRows]; omega)).mono ?_
 rintro xo H4 ⟨o4,X4,k4⟩
 have hw4:=X4.wf hw3
 simp (maxSteps:=4000000) -implicitDefEqProofs +contextual [-X.ev]
 apply Vx_callM
 ·(simp -implicitDefEqProofs [-X.ev]; rfl)
 refine (Clone_gen (f:=90) (sz:=3) (bytes:=24) rfl rfl hw4 (ht.ext ((X02.trans X3).trans X4)) (by simp [evRows]; omega) (by simp [evRows]; omega)).mono ?_
 rintro xt H5 ⟨o5,X5,k5⟩
 have x3:=X3.nx
 have x4:=X4.nx
 have x5:=X5.nx
 obtain ⟨f1,g1,h1⟩:=o3.shape
 obtain ⟨f2,g2,h2⟩:=o4.shape
 obtain ⟨f3,g3,h3⟩:=o5.shape
 have X25:=X3.trans (X4.trans X5)
 have m00:H5.n0 = H.n0:=X25.n0.trans X02.n0
 obtain ⟨H6,t6,M6,nx6,n06,gB6⟩:=st_get (X25.get (X2.get gB)) (by rw [m00]; exact hw) (k:=1) (vs:=[xs]) (by simp)
 rw [show splice [Value.int .i64 r.en,vs,vo,vt,.int .i64 r.cost,.int .i64 r.used,.int .i64 r.wh] 1 [xs] = [.int .i64 r.en,xs,vo,vt,.int .i64 r.cost,.int .i64 r.used,.int .i64 r.wh] from rfl] at gB6
 obtain ⟨H7,t7,M7,nx7,n07,gB7⟩:=st_get gB6 (by rw [n06,m00]; exact hw) (k:=2) (vs:=[xo]) (by simp)
 rw [show splice [Value.int .i64 r.en,xs,vo,vt,.int .i64 r.cost,.int .i64 r.used,.int .i64 r.wh] 2 [xo] = [.int .i64 r.en,xs,xo,vt,.int .i64 r.cost,.int .i64 r.used,.int .i64 r.wh] from rfl] at gB7
 obtain ⟨H8,t8,M8,nx8,n08,gB8⟩:=st_get gB7 (by rw [n07,n06,m00]; exact hw) (k:=3) (vs:=[xt]) (by simp)
 rw [show splice [Value.int .i64 r.en,xs,xo,vt,.int .i64 r.cost,.int .i64 r.used,.int .i64 r.wh] 3 [xt] = [.int .i64 r.en,xs,xo,xt,.int .i64 r.cost,.int .i64 r.used,.int .i64 r.wh] from rfl] at gB8
 have l8:H8.ldn ⟨H.nx,0,none⟩ 7 = some [.int .i64 r.en,xs,xo,xt,.int .i64 r.cost,.int .i64 r.used,.int .i64 r.wh]:=by rw [ldn_get gB8 (by rw [n08,n07,n06,m00]; exact hw) (by simp)]; rfl
 have gR8:=M8.get (fun q=>by omega) (M7.get (fun q=>by omega) (M6.get (fun q=>by omega) (X25.get gR)))
 obtain ⟨H9,t9,M9,nx9,n09,gR9⟩:=st_get gR8 (by rw [n08,n07,n06,m00]; omega) (k:=0) (vs:=[.int .i64 r.en,xs,xo,xt,.int .i64 r.cost,.int .i64 r.used,.int .i64 r.wh]) (by simp)
 rw [show splice [Value.int .i64 0,.slice none 0 0,.slice none 0 0,.slice none 0 0,.int .i64 0,.int .i64 0,.int .i64 0] 0 [.int .i64 r.en,xs,xo,xt,.int .i64 r.cost,.int .i64 r.used,.int .i64 r.wh] = [.int .i64 r.en,xs,xo,xt,.int .i64 r.cost,.int .i64 r.used,.int .i64 r.wh] from rfl] at gR9
 have l9:H9.ldn ⟨H1.nx,0,none⟩ 7 = some [.int .i64 r.en,xs,xo,xt,.int .i64 r.cost,.int .i64 r.used,.int .i64 r.wh]:=by rw [ldn_get gR9 (by rw [n09,n08,n07,n06,m00]; omega) (by simp)]; rfl
 have l1n3:=X3.ldn l1n
 have l2n3:=X3.ldn l2n
 have l3n3:=X3.ldn l3n
 have l2n4:=X4.ldn l2n3
 have l3n4:=X4.ldn l3n3
 have l3n5:=X5.ldn l3n4
 have i1:isTup xs = false:=by rw [h1]; rfl
 have i2:isTup xo = false:=by rw [h2]; rfl
 have i3:isTup xt = false:=by rw [h3]; rfl
 have v1:vcells xs = [xs]:=by rw [h1]; rfl
 have v2:vcells xo = [xo]:=by rw [h2]; rfl
 have v3:vcells xt = [xt]:=by rw [h3]; rfl
 simp (maxSteps:=4000000) -implicitDefEqProofs +contextual [-X.ev,i1,i2,i3,v1,v2,v3,t6,t7,t8,l8,t9,l9,s1,s2,s3,l1n,l2n,l3n,l1n3,l2n3,l3n3,l2n4,l3n4,l3n5,X3.n0,X4.n0,X5.n0,x3,x4,x5,n06,n07,n08,nx6,nx7,nx8,okD_of,chain_2,chain_1]
 have hM:Mod (fun b=>b = H.nx ∨ b = H1.nx) H5 H9:=(((M6.mono fun b _ q=>.inl q).trans (M7.mono fun b _ q=>.inl q)).trans (M8.mono fun b _ q=>.inl q)).trans (M9.mono fun b _ q=>.inr q)
 refine ⟨⟨xs,xo,xt,rfl,(o3.ext (X4.trans X5)).mod hM (fun b hb q=>by have:=k3 b hb; omega),(o4.ext X5).mod hM (fun b hb q=>by have:=k4 b hb; omega),o5.mod hM (fun b hb q=>by have:=k5 b hb; omega),fun b hb=>?_⟩,(X02.trans X25).mod hM (fun b hb=>by omega)⟩
 rcases hb with q | q | q
 ·have:=k3 b q; omega
 ·have:=k4 b q; omega
 ·have:=k5 b q; omega
end Go.Proofs.YtoijnpfpjpefgaaGreat.A
/- A text without what this claim does not need: S51. -/
set_option linter.unusedVariables false
set_option linter.unusedSimpArgs false
set_option maxRecDepth 10000
namespace Go.Proofs.YtoijnpfpjpefgaaGreat.A
open Go
def iterM (p:Prg) (ps:List Int):Nat → CfM → CfM
 | 0,c=>c
 | n + 1,c=>iterM p ps n (stepM p ps c)
def finM (p:Prg) (ps:List Int) (c:CfM):CfM:=iterM p ps (c.fuel.toNat + 1) c
theorem ended_step {p:Prg} {ps:List Int} {c:CfM} (h:endedM c = true):stepM p ps c = c:=by
 unfold endedM at h
 unfold stepM
 by_cases ho:c.over = true
 ·rw [if_pos ho]
 ·rw [if_neg ho]
  simp only [Bool.or_eq_true,List.isEmpty_iff] at h
  rw [h.resolve_left ho]
theorem ended_iter {p:Prg} {ps:List Int} {c:CfM} (h:endedM c = true):∀ n,iterM p ps n c = c
 | 0=>rfl
 | n + 1=>by rw [iterM,ended_step h]; exact ended_iter h n
theorem step_fuel {p:Prg} {ps:List Int} {c:CfM} (h:endedM c = false) (h2:(stepM p ps c).over = false):c.fuel ≠ 0 ∧ (stepM p ps c).fuel = c.fuel - 1:=by
 unfold endedM at h
 simp only [Bool.or_eq_false_iff] at h
 unfold stepM at h2 ⊢
 rw [if_neg (by rw [h.1]; decide)] at h2 ⊢
 cases ht:c.todo with
 | nil=>rw [ht] at h; simp at h
 | cons it next =>
  obtain ⟨k,s⟩:=it
  rw [ht] at h2
  by_cases hf:c.fuel = 0
  ·simp only [if_pos hf] at h2
   cases h2
  ·refine ⟨hf,?_⟩
   simp only [if_neg hf]
   rw [act_fuel]; rfl
theorem fin_stop {p:Prg} {ps:List Int} {c:CfM} (h:(!endedM c && !(stepM p ps c).over) = false):finM p ps c = stepM p ps c:=by
 unfold finM
 cases he:endedM c with
 | true=>rw [ended_iter he,ended_step he]
 | false =>
  rw [he] at h
  simp at h
  rw [iterM]
  exact ended_iter (by simp [endedM,h]) _
theorem fin_go {p:Prg} {ps:List Int} {c:CfM} (hf:0 ≤ c.fuel) (h:(!endedM c && !(stepM p ps c).over) = true):finM p ps (stepM p ps c) = finM p ps c ∧ (stepM p ps c).fuel = c.fuel - 1 ∧ 0 < c.fuel:=by
 simp only [Bool.and_eq_true,Bool.not_eq_true'] at h
 obtain ⟨h1,h2⟩:=step_fuel h.1 h.2
 refine ⟨?_,h2,by omega⟩
 unfold finM
 rw [h2]
 obtain ⟨n,hn⟩:∃ n:Nat,c.fuel = n + 1:=⟨c.fuel.toNat - 1,by omega⟩
 rw [hn]
 simp only [Int.add_sub_cancel,Int.toNat_natCast]
 rw [show ((n:Int) + 1).toNat = n + 1 by omega]
 conv=>rhs; rw [iterM]
theorem small_inv {p:Prg} {ps:List Int} {c:CfM} (h:Inv p ps c):Small c.run:=by
 have h1:=h.tr
 have h2:=h.ou
 have h3:=h.fuel
 have hs:=h.store
 simp only [isStore,Bool.and_eq_true,decide_eq_true_eq] at hs
 have h48:=(head_cells h.head).2.2
 refine ⟨?_,?_,?_⟩
 ·show c.store.length ≤ _; omega
 ·show c.outs.length ≤ _; omega
 ·show c.trace.length ≤ _; omega
theorem mRun_ca {G H:AH} {m:Nat} {p:Prg} {ps:List Int} {v:MV} {c:CfM} (h:MacC G H m p ps v c) :
  Ca E O 23 [.pointer (some ⟨m,0,none⟩)] H (fun x H'=>∃ cs,x = .tuple #[.agg cs.toArray,.bool (endedM c)] ∧ RunO H' H.nx cs c.run ∧ Ext H H'):=by
 refine Ca.bodyV (F:=a23) rfl rfl rfl ?_
 obtain ⟨rows,hM,hfs,hrl⟩:=h.is
 obtain ⟨m1,m2,m3,m4,m5,m6⟩:=h.mt
 have hw:=hM.wf
 have X1:=Ext.alloc H (.cells 7 [.int .i64 0,.slice none 0 0,.slice none 0 0,.slice none 0 0,.int .i64 0,.int .i64 0,.int .i64 0])
 have gR:=get_new H (.cells 7 [.int .i64 0,.slice none 0 0,.slice none 0 0,.slice none 0 0,.int .i64 0,.int .i64 0,.int .i64 0])
 obtain ⟨H1,hH1⟩:∃ H1,H.alloc (.cells 7 [.int .i64 0,.slice none 0 0,.slice none 0 0,.slice none 0 0,.int .i64 0,.int .i64 0,.int .i64 0]) = H1:=⟨_,rfl⟩
 rw [hH1] at X1 gR
 have M1:=hM.ext X1
 have x1:=X1.nx
 have r13:=ld_get M1.get M1.n0 (k:=13) (v:=.bool v.ended) rfl
 have r0:=ld_get M1.get M1.n0 (k:=0) (v:=v.vf) rfl
 have l6:H1.ldn ⟨m,6,none⟩ 7 = some [.int .i64 c.run.en,v.vs,v.vo,v.vt,.int .i64 c.run.cost,.int .i64 c.run.used,.int .i64 c.run.wh]:=by
  rw [ldn_get M1.get M1.n0 (by simp)]
  show some [Value.int .i64 v.en,v.vs,v.vo,v.vt,.int .i64 v.cost,.int .i64 v.used,.int .i64 v.wh] = _
  rw [m1,m2,m3,m4]; rfl
 have ltm:=hM.lt (.inl rfl)
 obtain ⟨fa,fc,hvf⟩:=hM.fr.shape
 have key:=copied_ca (r:=c.run) M1.wf M1.st.rows M1.ou.rows M1.tr.rows (small_inv h.inv)
 obtain ⟨a1,c1,e1⟩:=hM.st.shape
 obtain ⟨a2,c2,e2⟩:=hM.ou.shape
 obtain ⟨a3,c3,e3⟩:=hM.tr.shape
 have s1:same1 v.vs v.vs = true:=by rw [e1]; simp
 have s2:same1 v.vo v.vo = true:=by rw [e2]; simp
 have s3:same1 v.vt v.vt = true:=by rw [e3]; simp
 have hbq:Nat.beq m H.nx = false:=Bool.eq_false_iff.2 fun h=>by have:=Nat.eq_of_beq_eq_true h; omega
 have hend:endedM c = (c.over || decide (rows.length = 0)):=by
  unfold endedM
  cases ho:c.over with
  | true=>rfl
  | false =>
   obtain ⟨fs,hall,htd⟩:=hfs ho
   rw [Bool.false_or,Bool.false_or,Bool.eq_iff_iff,List.isEmpty_iff,decide_eq_true_eq,htd]
   constructor
   ·intro q
    rcases List.eq_nil_or_concat fs with rfl | ⟨fs0,f,hfs'⟩
    ·rw [all2_nil hall]; rfl
    ·rw [List.concat_eq_append] at hfs'
     subst hfs'
     obtain ⟨_,_,rfl,_,_,_,_,_,_,_,hne,_⟩:=all2_last hall
     rw [flatF_snoc] at q
     simp at q
     obtain ⟨l,k⟩:=f
     cases l with
     | nil=>exact absurd rfl hne
     | cons s l=>rw [items_cons] at q; simp at q
   ·intro q
    have:rows = []:=List.eq_nil_of_length_eq_zero q
    subst this
    cases hall
    rfl
 rw [m6] at r13
 rw [hvf] at r0
 have hrr:((rows.length:Int) = 0) ↔ rows = []:=by rw [← List.length_eq_zero_iff]; omega
 cases ho:c.over with
 | true =>
  rw [ho] at r13 hend
  simp (maxSteps:=4000000) -implicitDefEqProofs +contextual [-X.ev,a23,hH1,l6,r13]
  apply Vx_callM
  ·(simp -implicitDefEqProofs [-X.ev]; rfl)
  refine (key).mono ?_
  rintro xx H2 ⟨cs,rfl,hc,X2⟩
  have x2:=X2.nx
  have hcs:cs.length = 7:=by obtain ⟨_,_,_,e,_⟩:=hc.is; rw [e]; rfl
  obtain ⟨H3,t3,M3,nx3,n03,g3⟩:=st_get (X2.get gR) (by rw [X2.n0,X1.n0]; exact hw) (k:=0) (vs:=cs) (by simp [hcs])
  have hsp:=splice_all [Value.int .i64 0,.slice none 0 0,.slice none 0 0,.slice none 0 0,.int .i64 0,.int .i64 0,.int .i64 0] cs (by rw [hcs]; rfl)
  rw [hsp] at g3
  have l3:H3.ldn ⟨H.nx,0,none⟩ 7 = some cs:=by rw [ldn_get g3 (by rw [n03,X2.n0,X1.n0]; exact hw) (by omega)]; simp [List.take_of_length_le (Nat.le_of_eq hcs)]
  have l62:=X2.ldn l6
  have r13n:=ld_ldn.1 r13
  have r13n2:=X2.ldn r13n
  have x2n:=X2.n0
  simp (maxSteps:=4000000) -implicitDefEqProofs +contextual [-X.ev,hcs,t3,l3,hend,l6,l62,r13n,r13n2,s1,s2,s3,x2,x2n,nx3,n03,okD_of,chain_2,chain_1,ckO_2,adrOf,hbq]
  refine ⟨?_,X1.trans X2 |>.mod M3 (fun b hb=>by omega)⟩
  obtain ⟨us,uo,ut,e,a,b,cc,dd⟩:=hc.is
  exact ⟨us,uo,ut,e,a.mod M3 (fun q hq e=>by have:=dd q (.inl hq); have:=AH.get_lt gR; omega),b.mod M3 (fun q hq e=>by have:=dd q (.inr (.inl hq)); have:=AH.get_lt gR; omega),cc.mod M3 (fun q hq e=>by have:=dd q (.inr (.inr hq)); have:=AH.get_lt gR; omega),fun q hq=>by have:=dd q hq; omega⟩
 | false =>
  rw [ho] at r13 hend
  obtain ⟨F,hF⟩:∃ F,endedM c = F:=⟨_,rfl⟩
  rw [hF] at hend ⊢
  have hd:decide (rows = []) = F:=by rw [hend,Bool.false_or,Bool.eq_iff_iff,decide_eq_true_eq,decide_eq_true_eq,List.length_eq_zero_iff]
  have hd2:decide (rows.length = 0) = F:=by rw [hend,Bool.false_or]
  have hd3:decide ((rows.length:Int) = 0) = F:=by rw [← hd2,Bool.eq_iff_iff,decide_eq_true_eq,decide_eq_true_eq]; omega
  have r0n:=r0
  simp (maxSteps:=4000000) -implicitDefEqProofs +contextual [-X.ev,a23,hH1,l6,r13]
  apply Vx_callM
  ·(simp -implicitDefEqProofs [-X.ev]; rfl)
  refine (key).mono ?_
  rintro xx H2 ⟨cs,rfl,hc,X2⟩
  have x2:=X2.nx
  have hcs:cs.length = 7:=by obtain ⟨_,_,_,e,_⟩:=hc.is; rw [e]; rfl
  obtain ⟨H3,t3,M3,nx3,n03,g3⟩:=st_get (X2.get gR) (by rw [X2.n0,X1.n0]; exact hw) (k:=0) (vs:=cs) (by simp [hcs])
  have hsp:=splice_all [Value.int .i64 0,.slice none 0 0,.slice none 0 0,.slice none 0 0,.int .i64 0,.int .i64 0,.int .i64 0] cs (by rw [hcs]; rfl)
  rw [hsp] at g3
  have l3:H3.ldn ⟨H.nx,0,none⟩ 7 = some cs:=by rw [ldn_get g3 (by rw [n03,X2.n0,X1.n0]; exact hw) (by omega)]; simp [List.take_of_length_le (Nat.le_of_eq hcs)]
  have l62:=X2.ldn l6
  have r13n:=ld_ldn.1 r13
  have r13n2:=X2.ldn r13n
  have r02:=X2.ld r0
  have x2n:=X2.n0
  simp (maxSteps:=4000000) -implicitDefEqProofs +contextual [-X.ev,hcs,t3,l3,hd,r02,l6,l62,r13n,r13n2,s1,s2,s3,x2,x2n,nx3,n03,okD_of,chain_2,chain_1,ckO_2,adrOf,hbq]
  refine ⟨?_,X1.trans X2 |>.mod M3 (fun b hb=>by omega)⟩
  obtain ⟨us,uo,ut,e,a,b,cc,dd⟩:=hc.is
  exact ⟨us,uo,ut,e,a.mod M3 (fun q hq e=>by have:=dd q (.inl hq); have:=AH.get_lt gR; omega),b.mod M3 (fun q hq e=>by have:=dd q (.inr (.inl hq)); have:=AH.get_lt gR; omega),cc.mod M3 (fun q hq e=>by have:=dd q (.inr (.inr hq)); have:=AH.get_lt gR; omega),fun q hq=>by have:=dd q hq; omega⟩
end Go.Proofs.YtoijnpfpjpefgaaGreat.A
/- A text without what this claim does not need: S52. -/
set_option linter.unusedVariables false
set_option linter.unusedSimpArgs false
set_option maxRecDepth 10000
namespace Go.Proofs.YtoijnpfpjpefgaaGreat.A
open Go
abbrev zR:List Value:=[.int .i64 0,.slice none 0 0,.slice none 0 0,.slice none 0 0,.int .i64 0,.int .i64 0,.int .i64 0]
def runP (p:Prg) (fuel:Int) (t:Sta):RunM:=if chkR p fuel t = 0 then (finM p t.picks (beginM p fuel t)).run else zeroRun
theorem RunO.len {H:AH} {n:Nat} {cs:List Value} {r:RunM} (h:RunO H n cs r):cs.length = 7:=by obtain ⟨_,_,_,e,_⟩:=h.is; rw [e]; rfl
theorem RunO.mod {H H':AH} {n:Nat} {S:Nat → Prop} {cs:List Value} {r:RunM} (h:RunO H n cs r) (M:Mod S H H') (hS:∀ b,S b → b < n):RunO H' n cs r:=by
 obtain ⟨us,uo,ut,e,a,b,c,d⟩:=h.is
 exact ⟨us,uo,ut,e,a.mod M (fun q hq e=>by have:=d q (.inl hq); have:=hS q e; omega),b.mod M (fun q hq e=>by have:=d q (.inr (.inl hq)); have:=hS q e; omega),c.mod M (fun q hq e=>by have:=d q (.inr (.inr hq)); have:=hS q e; omega),d⟩
theorem RunO.le {H:AH} {n k:Nat} {cs:List Value} {r:RunM} (h:RunO H n cs r) (hk:k ≤ n):RunO H k cs r:=by
 obtain ⟨us,uo,ut,e,a,b,c,d⟩:=h.is
 exact ⟨us,uo,ut,e,a,b,c,fun q hq=>Nat.le_trans hk (d q hq)⟩
theorem MRun_ca {p:Prg} {t:Sta} {c d:List Value} {fuel:Int} {H:AH} (hw:H.n0 ≤ H.nx) (hp:PrgC H c p) (ht:StaC H d t) :
  Ca E O 15 [.agg c.toArray,.int .i64 fuel,.agg d.toArray] H (fun x H'=>∃ cs,x = .tuple #[.agg cs.toArray,.int .i64 (chkR p fuel t)] ∧ RunO H' H.nx cs (runP p fuel t) ∧ Ext H H'):=by
 refine Ca.bodyV (F:=a15) rfl rfl rfl ?_
 have hc:=hp.len
 have hd:d.length = 2:=by obtain ⟨vs,vp,e,_⟩:=ht.is; rw [e]; rfl
 have X1:=Ext.alloc H (.cells c.length c)
 have q:(H.alloc (.cells c.length c)).ldn ⟨H.nx,0,none⟩ 3 = some c:=ld_box hw 3 (by assumption)
 generalize hH1:H.alloc (.cells c.length c) = H1 at X1 q
 have hwH1:=X1.wf hw
 have X2:=Ext.alloc H1 (.cells d.length d)
 have r:(H1.alloc (.cells d.length d)).ldn ⟨H1.nx,0,none⟩ 2 = some d:=ld_box hwH1 2 (by assumption)
 generalize hH2:H1.alloc (.cells d.length d) = H2 at X2 r
 have hwH2:=X2.wf hwH1
 replace q:=X2.ldn q
 have X3:=Ext.alloc H2 (.cells 7 zR)
 have gR:=get_new H2 (.cells 7 zR)
 obtain ⟨H3,hH3⟩:∃ H3,H2.alloc (.cells 7 zR) = H3:=⟨_,rfl⟩
 rw [hH3] at X3 gR
 have hw3:=X3.wf hwH2
 have X:=(X1.trans X2).trans X3
 replace q:=X3.ldn q
 replace r:=X3.ldn r
 have x1:=X1.nx
 have x2:=X2.nx
 have ltR:=AH.get_lt gR
 have n03:H3.n0 = H.n0:=X.n0
 have r0':H3.n0 ≤ H2.nx:=by rw [n03]; omega
 have k1:=New_ca (fuel:=fuel) hw3 (hp.ext X) (ht.ext X)
 simp (maxSteps:=4000000) -implicitDefEqProofs +contextual [-X.ev,a15,hH1,hH2,hH3,q,r]
 apply Vx_callM
 ·(simp -implicitDefEqProofs [-X.ev]; rfl)
 refine (k1).mono ?_
 rintro x H4 hx
 by_cases hk:chkR p fuel t = 0
 case neg =>
  rw [if_neg hk] at hx
  obtain ⟨rfl,X4⟩:=hx
  obtain ⟨H5,t5,M5,nx5,n05,g5⟩:=st_get (X4.get gR) (by rw [X4.n0]; exact r0') (k:=0) (vs:=zR) (by simp)
  rw [splice_all _ _ rfl] at g5
  have l5:H5.ldn ⟨H2.nx,0,none⟩ 7 = some zR:=by rw [ldn_get g5 (by rw [n05,X4.n0]; exact r0') (by simp)]; rfl
  have hbu:buildV zR [] = some (.agg zR.toArray):=rfl
  simp (maxSteps:=4000000) -implicitDefEqProofs +contextual [-X.ev,hk,hbu,t5,l5]
  have XX:=(X.trans X4).mod M5 (fun b hb=>by omega)
  exact ⟨by rw [runP,if_neg hk]; exact RunO.zero _ _,XX⟩
 rw [if_pos hk] at hx
 obtain ⟨m,rfl,G,v,hM,X4,hfoot,hG⟩:=hx
 obtain ⟨fin,hfin⟩:∃ f,finM p t.picks (beginM p fuel t) = f:=⟨_,rfl⟩
 simp (maxSteps:=4000000) -implicitDefEqProofs +contextual [-X.ev]
 refine Vk_loop (fun k fr H'=>fr.get 8 = .pointer (some ⟨m,0,none⟩) ∧ fr.get 6 = .pointer (some ⟨H2.nx,0,none⟩) ∧ Ext H3 H' ∧ ∃ v c',MacC G H' m p t.picks v c' ∧ finM p t.picks c' = fin ∧ (∀ b,Mf m v b → H3.nx ≤ b) ∧ k = c'.fuel.toNat) ?_ _ ⟨by simp,by simp,X4,v,_,hM,hfin,hfoot,rfl⟩
 rintro k fr H5 ⟨f8,f6,X5,v5,c5,hM5,hfin5,hfoot5,rfl⟩
 simp (maxSteps:=4000000) -implicitDefEqProofs +contextual [-X.ev,f8]
 apply Vx_callM
 ·(simp -implicitDefEqProofs [-X.ev]; rfl)
 refine (Step_ca hM5).mono ?_
 rintro x H6 ⟨rfl,v6,hM6,M6,hn6,hsm6⟩
 have X6:Ext H3 H6:=X5.mod M6 hfoot5
 have hfoot6:∀ b,Mf m v6 b → H3.nx ≤ b:=fun b hb=>by
  rcases hn6 b hb with q | q
  ·exact hfoot5 b q
  ·have:=X5.nx; omega
 cases hgo:(!endedM c5 && !(stepM p t.picks c5).over) with
 | true =>
  obtain ⟨g1,g2,g3⟩:=fin_go hM5.inv.fuel.1 hgo
  simp (maxSteps:=4000000) -implicitDefEqProofs +contextual [-X.ev,hgo,f8,f6]
  exact ⟨_,by omega,X6,v6,_,hM6,g1.trans hfin5,hfoot6,rfl⟩
 | false =>
  have hs:stepM p t.picks c5 = fin:=(fin_stop hgo).symm.trans hfin5
  rw [hs] at hM6
  simp (maxSteps:=4000000) -implicitDefEqProofs +contextual [-X.ev,hgo,f8,f6]
  apply Vx_callM
  ·(simp -implicitDefEqProofs [-X.ev]; rfl)
  refine (mRun_ca hM6).mono ?_
  rintro x H7 ⟨cs,rfl,hr,X7⟩
  have hcs:=hr.len
  have hw7:=(X6.trans X7).wf hw3
  obtain ⟨H8,s8,X8,nx8,n08,g8⟩:=var_new hw7 (z:=7) (c:=zR) (vs:=cs) (by rw [hcs]; rfl)
  have X38:=(X6.trans X7).trans X8
  have l8:H8.ldn ⟨H7.nx,0,none⟩ 7 = some cs:=by rw [ldn_get g8 (by rw [n08]; exact hw7) (by omega)]; simp [List.take_of_length_le (Nat.le_of_eq hcs)]
  obtain ⟨H9,t9,M9,nx9,n09,g9⟩:=st_get (X38.get gR) (by rw [X38.n0]; exact r0') (k:=0) (vs:=cs) (by simp [hcs])
  rw [splice_all _ _ (by rw [hcs]; rfl)] at g9
  have l9:H9.ldn ⟨H2.nx,0,none⟩ 7 = some cs:=by rw [ldn_get g9 (by rw [n09,X38.n0]; exact r0') (by omega)]; simp [List.take_of_length_le (Nat.le_of_eq hcs)]
  have x38:=X6.nx
  simp (maxSteps:=4000000) -implicitDefEqProofs +contextual [-X.ev,hcs,s8,l8,f6,t9,l9]
  refine ⟨cs,⟨rfl,hk.symm⟩,?_,(X.trans X38).mod M9 (fun b hb=>by omega)⟩
  rw [runP,if_pos hk,hfin]
  exact ((hr.ext X8).mod M9 (fun b hb=>by omega)).le (by omega)
end Go.Proofs.YtoijnpfpjpefgaaGreat.A
/- A text without what this claim does not need: S53. -/
set_option linter.unusedVariables false
set_option linter.unusedSimpArgs false
set_option maxRecDepth 10000
namespace Go.Proofs.YtoijnpfpjpefgaaGreat.A
open Go
end Go.Proofs.YtoijnpfpjpefgaaGreat.A
/- A text without what this claim does not need: S54. -/
set_option linter.unusedVariables false
set_option linter.unusedSimpArgs false
set_option maxRecDepth 10000
namespace Go.Proofs.YtoijnpfpjpefgaaGreat.A
open Go
theorem outRow_at {H:AH} {v:Value} {l:List (Int × Int)} (h:Rows H 2 v (outRows l)) {i:Nat} {x:Int × Int} (hi:l[i]? = some x):∃ b o c,v = .slice (some ⟨b,o,none⟩) l.length c ∧ H.ldn ⟨b,o + i * 2,none⟩ 2 = some [.int .i64 x.1,.int .i64 x.2]:=by
 obtain ⟨b,o,c,e,hl⟩:=h.at (i:=i) (r:=outRow x) (by simp [outRows,hi])
 exact ⟨b,o,c,by simpa [outRows] using e,hl⟩
theorem evRow_at {H:AH} {v:Value} {l:List Ev} (h:Rows H 3 v (evRows l)) {i:Nat} {x:Ev} (hi:l[i]? = some x):∃ b o c,v = .slice (some ⟨b,o,none⟩) l.length c ∧ H.ldn ⟨b,o + i * 3,none⟩ 3 = some [.int .i64 x.kind,.int .i64 x.at_,.int .i64 x.val]:=by
 obtain ⟨b,o,c,e,hl⟩:=h.at (i:=i) (r:=x.row) (by simp [evRows,hi])
 exact ⟨b,o,c,by simpa [evRows] using e,hl⟩
instance : DecidableEq Ev:=fun a b=>if h:a.kind = b.kind ∧ a.at_ = b.at_ ∧ a.val = b.val then Decidable.isTrue (by cases a; cases b; simp_all) else Decidable.isFalse (fun e=>h (by rw [e]; exact ⟨rfl,rfl,rfl⟩))
theorem ibeq (a b:Int):(a == b) = decide (a = b):=by by_cases h:a = b <;> simp [h]
theorem eqc2 (x1 x2 y1 y2:Int):eqCells [.int .i64 x1,.int .i64 x2] [.int .i64 y1,.int .i64 y2] [(0,0),(1,0)] = some (decide (x1 = y1) && decide (x2 = y2)):=by
 by_cases e1:x1 = y1 <;> by_cases e2:x2 = y2 <;> simp [eqCells,keyOk,veq?,ibeq,e1,e2]
theorem eqc3 (x1 x2 x3 y1 y2 y3:Int):eqCells [.int .i64 x1,.int .i64 x2,.int .i64 x3] [.int .i64 y1,.int .i64 y2,.int .i64 y3] [(0,0),(1,0),(2,0)] = some (decide (x1 = y1) && (decide (x2 = y2) && decide (x3 = y3))):=by
 by_cases e1:x1 = y1 <;> by_cases e2:x2 = y2 <;> by_cases e3:x3 = y3 <;> simp [eqCells,keyOk,veq?,ibeq,e1,e2,e3]
theorem ROuts_ca {v u:Value} {l m:List (Int × Int)} {H:AH} (hl:Rows H 2 v (outRows l)) (hm:Rows H 2 u (outRows m)) (hb:l.length ≤ 2 ^ 60):Ca E O 44 [v,u] H (fun x H'=>x = .bool (decide (l = m)) ∧ H' = H):=by
 refine Ca.bodyV (F:=a44) rfl rfl rfl ?_
 obtain ⟨p1,c1,hv⟩:=hl.len
 obtain ⟨p2,c2,hu⟩:=hm.len
 rw [outRows_length] at hv hu
 obtain ⟨F,hF⟩:∃ F,decide (l = m) = F:=⟨_,rfl⟩
 rw [hF]
 by_cases q:(l.length:Int) = m.length
 case neg =>
  have hF0:F = false:=by rw [← hF,decide_eq_false_iff_not]; rintro rfl; exact q rfl
  have q':¬ l.length = m.length:=by omega
  simp (maxSteps:=4000000) -implicitDefEqProofs +contextual [-X.ev,a44,hv,hu,q,q',hF0]
 have q':l.length = m.length:=by omega
 simp (maxSteps:=4000000) -implicitDefEqProofs +contextual [-X.ev,a44,hv,hu,q,q']
 refine Vk_loop (fun k fr H'=>H' = H ∧ ∃ i:Nat,i + k = l.length ∧ fr.get 0 = v ∧ fr.get 1 = u ∧ fr.get 5 = .int .i64 i ∧ l.take i = m.take i) ?_ l.length ⟨rfl,0,by simp,by simp [hv,q'],by simp [hu],by simp,by simp⟩
 rintro k fr H' ⟨rfl,i,hi,f0,f1,f5,htk⟩
 by_cases h:i < l.length
 ·obtain ⟨x,hx⟩:∃ n,l[i]? = some n:=⟨_,List.getElem?_eq_getElem h⟩
  obtain ⟨y,hy⟩:∃ n,m[i]? = some n:=⟨_,List.getElem?_eq_getElem (by omega)⟩
  obtain ⟨b,o,c',hv',hld⟩:=outRow_at hl hx
  obtain ⟨b2,o2,c2',hu',hld2⟩:=outRow_at hm hy
  rw [hv'] at f0
  rw [hu'] at f1
  have h2:i < m.length:=by omega
  obtain ⟨x1,x2⟩:=x
  obtain ⟨y1,y2⟩:=y
  by_cases e:x1 = y1 ∧ x2 = y2
  ·obtain ⟨rfl,rfl⟩:=e
   simp (maxSteps:=4000000) -implicitDefEqProofs +contextual [-X.ev,f0,f1,f5,h,h2,hld,hld2,eqc2,okD_of,chain_2,chain_1]
   rw [wrap_in (n:=(i:Int) + 1) ⟨by omega,by omega⟩]
   refine ⟨k - 1,by omega,i + 1,by omega,hv'.symm,hu'.symm,by simp,?_⟩
   rw [List.take_add_one,List.take_add_one,hx,hy,htk]
  ·have hF0:F = false:=by
    rw [← hF,decide_eq_false_iff_not]; rintro rfl; rw [hx] at hy; cases hy; exact e ⟨rfl,rfl⟩
   by_cases e1:x1 = y1
   ·have e2:¬ x2 = y2:=fun q=>e ⟨e1,q⟩
    simp (maxSteps:=4000000) -implicitDefEqProofs +contextual [-X.ev,f0,f1,f5,h,h2,hld,hld2,eqc2,okD_of,chain_2,chain_1,e1,e2,hF0]
   ·simp (maxSteps:=4000000) -implicitDefEqProofs +contextual [-X.ev,f0,f1,f5,h,h2,hld,hld2,eqc2,okD_of,chain_2,chain_1,e1,hF0]
 ·have hF1:F = true:=by
   rw [← hF,decide_eq_true_iff]
   rwa [List.take_of_length_le (by omega),List.take_of_length_le (by omega)] at htk
  rw [hv] at f0
  simp (maxSteps:=4000000) -implicitDefEqProofs +contextual [-X.ev,f0,f1,f5,h,hF1]
theorem REvents_ca {v u:Value} {l m:List Ev} {H:AH} (hl:Rows H 3 v (evRows l)) (hm:Rows H 3 u (evRows m)) (hb:l.length ≤ 2 ^ 60):Ca E O 45 [v,u] H (fun x H'=>x = .bool (decide (l = m)) ∧ H' = H):=by
 refine Ca.bodyV (F:=a45) rfl rfl rfl ?_
 obtain ⟨p1,c1,hv⟩:=hl.len
 obtain ⟨p2,c2,hu⟩:=hm.len
 rw [evRows_length] at hv hu
 obtain ⟨F,hF⟩:∃ F,decide (l = m) = F:=⟨_,rfl⟩
 rw [hF]
 by_cases q:(l.length:Int) = m.length
 case neg =>
  have hF0:F = false:=by rw [← hF,decide_eq_false_iff_not]; rintro rfl; exact q rfl
  have q':¬ l.length = m.length:=by omega
  simp (maxSteps:=4000000) -implicitDefEqProofs +contextual [-X.ev,a45,hv,hu,q,q',hF0]
 have q':l.length = m.length:=by omega
 simp (maxSteps:=4000000) -implicitDefEqProofs +contextual [-X.ev,a45,hv,hu,q,q']
 refine Vk_loop (fun k fr H'=>H' = H ∧ ∃ i:Nat,i + k = l.length ∧ fr.get 0 = v ∧ fr.get 1 = u ∧ fr.get 5 = .int .i64 i ∧ l.take i = m.take i) ?_ l.length ⟨rfl,0,by simp,by simp [hv,q'],by simp [hu],by simp,by simp⟩
 rintro k fr H' ⟨rfl,i,hi,f0,f1,f5,htk⟩
 by_cases h:i < l.length
 ·obtain ⟨x,hx⟩:∃ n,l[i]? = some n:=⟨_,List.getElem?_eq_getElem h⟩
  obtain ⟨y,hy⟩:∃ n,m[i]? = some n:=⟨_,List.getElem?_eq_getElem (by omega)⟩
  obtain ⟨b,o,c',hv',hld⟩:=evRow_at hl hx
  obtain ⟨b2,o2,c2',hu',hld2⟩:=evRow_at hm hy
  rw [hv'] at f0
  rw [hu'] at f1
  have h2:i < m.length:=by omega
  obtain ⟨x1,x2,x3⟩:=x
  obtain ⟨y1,y2,y3⟩:=y
  by_cases e:x1 = y1 ∧ x2 = y2 ∧ x3 = y3
  ·obtain ⟨rfl,rfl,rfl⟩:=e
   simp (maxSteps:=4000000) -implicitDefEqProofs +contextual [-X.ev,f0,f1,f5,h,h2,hld,hld2,eqc3,okD_of,chain_2,chain_1]
   rw [wrap_in (n:=(i:Int) + 1) ⟨by omega,by omega⟩]
   refine ⟨k - 1,by omega,i + 1,by omega,hv'.symm,hu'.symm,by simp,?_⟩
   rw [List.take_add_one,List.take_add_one,hx,hy,htk]
  ·have hF0:F = false:=by
    rw [← hF,decide_eq_false_iff_not]; rintro rfl; rw [hx] at hy; cases hy; exact e ⟨rfl,rfl,rfl⟩
   by_cases e1:x1 = y1
   ·by_cases e2:x2 = y2
    ·have e3:¬ x3 = y3:=fun q=>e ⟨e1,e2,q⟩
     simp (maxSteps:=4000000) -implicitDefEqProofs +contextual [-X.ev,f0,f1,f5,h,h2,hld,hld2,eqc3,okD_of,chain_2,chain_1,e1,e2,e3,hF0]
    ·simp (maxSteps:=4000000) -implicitDefEqProofs +contextual [-X.ev,f0,f1,f5,h,h2,hld,hld2,eqc3,okD_of,chain_2,chain_1,e1,e2,hF0]
   ·simp (maxSteps:=4000000) -implicitDefEqProofs +contextual [-X.ev,f0,f1,f5,h,h2,hld,hld2,eqc3,okD_of,chain_2,chain_1,e1,hF0]
 ·have hF1:F = true:=by
   rw [← hF,decide_eq_true_iff]
   rwa [List.take_of_length_le (by omega),List.take_of_length_le (by omega)] at htk
  rw [hv] at f0
  simp (maxSteps:=4000000) -implicitDefEqProofs +contextual [-X.ev,f0,f1,f5,h,hF1]
end Go.Proofs.YtoijnpfpjpefgaaGreat.A
/- A text without what this claim does not need: S55. -/
set_option linter.unusedVariables false
set_option linter.unusedSimpArgs false
set_option maxRecDepth 10000
namespace Go.Proofs.YtoijnpfpjpefgaaGreat.A
open Go
structure RunR (H:AH) (cs:List Value) (r:RunM):Prop where
 is:∃ vs vo vt,cs = [.int .i64 r.en,vs,vo,vt,.int .i64 r.cost,.int .i64 r.used,.int .i64 r.wh] ∧ Ints H vs r.store ∧ Rows H 2 vo (outRows r.outs) ∧ Rows H 3 vt (evRows r.trace) ∧ Small r
theorem RunO.toR {H:AH} {n:Nat} {cs:List Value} {r:RunM} (h:RunO H n cs r) (hs:Small r):RunR H cs r:=by
 obtain ⟨vs,vo,vt,e,a,b,c,_⟩:=h.is
 exact ⟨vs,vo,vt,e,a.ints,b.rows,c.rows,hs⟩
theorem RunR.ext {H H':AH} {cs:List Value} {r:RunM} (X:Ext H H') (h:RunR H cs r):RunR H' cs r:=by
 obtain ⟨vs,vo,vt,e,a,b,c,d⟩:=h.is
 exact ⟨vs,vo,vt,e,Ints.ext X a,b.ext X,c.ext X,d⟩
instance : DecidableEq RunM:=fun a b=>if h:a.en = b.en ∧ a.store = b.store ∧ a.outs = b.outs ∧ a.trace = b.trace ∧ a.cost = b.cost ∧ a.used = b.used ∧ a.wh = b.wh then Decidable.isTrue (by cases a; cases b; simp_all) else Decidable.isFalse (fun e=>h (by rw [e]; exact ⟨rfl,rfl,rfl,rfl,rfl,rfl,rfl⟩))
theorem SameRun_ca {H:AH} {cs ds:List Value} {r u:RunM} (hw:H.n0 ≤ H.nx) (h:RunR H cs r) (k:RunR H ds u):Ca E O 16 [.agg cs.toArray,.agg ds.toArray] H (fun x H'=>x = .bool (decide (r = u)) ∧ Ext H H'):=by
 refine Ca.bodyV (F:=a16) rfl rfl rfl ?_
 obtain ⟨ra,rb,rc,rd,re,rf,rg⟩:=r
 obtain ⟨ua,ub,uc,ud,ue,uf,ug⟩:=u
 obtain ⟨vs,vo,vt,rfl,a1,a2,a3,s1,s2,s3⟩:=h.is
 obtain ⟨us,uo,ut,rfl,b1,b2,b3,t1,t2,t3⟩:=k.is
 have X1:=Ext.alloc H (.cells 7 [.int .i64 ra,vs,vo,vt,.int .i64 re,.int .i64 rf,.int .i64 rg])
 have d0:(H.alloc (.cells 7 [.int .i64 ra,vs,vo,vt,.int .i64 re,.int .i64 rf,.int .i64 rg])).ld ⟨H.nx,0,none⟩ = some (.int .i64 ra):=ld_new hw rfl
 have d1:(H.alloc (.cells 7 [.int .i64 ra,vs,vo,vt,.int .i64 re,.int .i64 rf,.int .i64 rg])).ld ⟨H.nx,1,none⟩ = some vs:=ld_new hw rfl
 have d2:(H.alloc (.cells 7 [.int .i64 ra,vs,vo,vt,.int .i64 re,.int .i64 rf,.int .i64 rg])).ld ⟨H.nx,2,none⟩ = some vo:=ld_new hw rfl
 have d3:(H.alloc (.cells 7 [.int .i64 ra,vs,vo,vt,.int .i64 re,.int .i64 rf,.int .i64 rg])).ld ⟨H.nx,3,none⟩ = some vt:=ld_new hw rfl
 have d4:(H.alloc (.cells 7 [.int .i64 ra,vs,vo,vt,.int .i64 re,.int .i64 rf,.int .i64 rg])).ld ⟨H.nx,4,none⟩ = some (.int .i64 re):=ld_new hw rfl
 have d5:(H.alloc (.cells 7 [.int .i64 ra,vs,vo,vt,.int .i64 re,.int .i64 rf,.int .i64 rg])).ld ⟨H.nx,5,none⟩ = some (.int .i64 rf):=ld_new hw rfl
 have d6:(H.alloc (.cells 7 [.int .i64 ra,vs,vo,vt,.int .i64 re,.int .i64 rf,.int .i64 rg])).ld ⟨H.nx,6,none⟩ = some (.int .i64 rg):=ld_new hw rfl
 have d:(H.alloc (.cells 7 [.int .i64 ra,vs,vo,vt,.int .i64 re,.int .i64 rf,.int .i64 rg])).ldn ⟨H.nx,0,none⟩ 7 = some [.int .i64 ra,vs,vo,vt,.int .i64 re,.int .i64 rf,.int .i64 rg]:=ld_box hw 7 rfl
 generalize hH1:H.alloc (.cells 7 [.int .i64 ra,vs,vo,vt,.int .i64 re,.int .i64 rf,.int .i64 rg]) = H1 at X1 d0 d1 d2 d3 d4 d5 d6 d
 have hwH1:=X1.wf hw
 have X2:=Ext.alloc H1 (.cells 7 [.int .i64 ua,us,uo,ut,.int .i64 ue,.int .i64 uf,.int .i64 ug])
 have e0:(H1.alloc (.cells 7 [.int .i64 ua,us,uo,ut,.int .i64 ue,.int .i64 uf,.int .i64 ug])).ld ⟨H1.nx,0,none⟩ = some (.int .i64 ua):=ld_new hwH1 rfl
 have e1:(H1.alloc (.cells 7 [.int .i64 ua,us,uo,ut,.int .i64 ue,.int .i64 uf,.int .i64 ug])).ld ⟨H1.nx,1,none⟩ = some us:=ld_new hwH1 rfl
 have e2:(H1.alloc (.cells 7 [.int .i64 ua,us,uo,ut,.int .i64 ue,.int .i64 uf,.int .i64 ug])).ld ⟨H1.nx,2,none⟩ = some uo:=ld_new hwH1 rfl
 have e3:(H1.alloc (.cells 7 [.int .i64 ua,us,uo,ut,.int .i64 ue,.int .i64 uf,.int .i64 ug])).ld ⟨H1.nx,3,none⟩ = some ut:=ld_new hwH1 rfl
 have e4:(H1.alloc (.cells 7 [.int .i64 ua,us,uo,ut,.int .i64 ue,.int .i64 uf,.int .i64 ug])).ld ⟨H1.nx,4,none⟩ = some (.int .i64 ue):=ld_new hwH1 rfl
 have e5:(H1.alloc (.cells 7 [.int .i64 ua,us,uo,ut,.int .i64 ue,.int .i64 uf,.int .i64 ug])).ld ⟨H1.nx,5,none⟩ = some (.int .i64 uf):=ld_new hwH1 rfl
 have e6:(H1.alloc (.cells 7 [.int .i64 ua,us,uo,ut,.int .i64 ue,.int .i64 uf,.int .i64 ug])).ld ⟨H1.nx,6,none⟩ = some (.int .i64 ug):=ld_new hwH1 rfl
 have e:(H1.alloc (.cells 7 [.int .i64 ua,us,uo,ut,.int .i64 ue,.int .i64 uf,.int .i64 ug])).ldn ⟨H1.nx,0,none⟩ 7 = some [.int .i64 ua,us,uo,ut,.int .i64 ue,.int .i64 uf,.int .i64 ug]:=ld_box hwH1 7 rfl
 generalize hH2:H1.alloc (.cells 7 [.int .i64 ua,us,uo,ut,.int .i64 ue,.int .i64 uf,.int .i64 ug]) = H2 at X2 e0 e1 e2 e3 e4 e5 e6 e
 have hwH2:=X2.wf hwH1
 replace d0:=X2.ld d0
 replace d1:=X2.ld d1
 replace d2:=X2.ld d2
 replace d3:=X2.ld d3
 replace d4:=X2.ld d4
 replace d5:=X2.ld d5
 replace d6:=X2.ld d6
 have X:=X1.trans X2
 simp only at a1 a2 a3 s1 s2 s3 b1 b2 b3
 have k1:=RSame_ca (H:=H2) (Ints.ext X a1) (Ints.ext X b1) (by omega)
 have k2:=ROuts_ca (H:=H2) (a2.ext X) (b2.ext X) (by omega)
 have k3:=REvents_ca (H:=H2) (a3.ext X) (b3.ext X) (by omega)
 obtain ⟨F,hF⟩:∃ F,decide ((⟨ra,rb,rc,rd,re,rf,rg⟩:RunM) = ⟨ua,ub,uc,ud,ue,uf,ug⟩) = F:=⟨_,rfl⟩
 rw [hF]
 have no:∀ {P:Prop},((⟨ra,rb,rc,rd,re,rf,rg⟩:RunM) = ⟨ua,ub,uc,ud,ue,uf,ug⟩ → P) → ¬ P → F = false:=fun h1 h2=>by rw [← hF,decide_eq_false_iff_not]; exact fun q=>h2 (h1 q)
 by_cases q0:ra = ua
 case neg =>
  have:=no (P:=ra = ua) (fun q=>by cases q; rfl) q0
  simp (maxSteps:=4000000) -implicitDefEqProofs +contextual [-X.ev,a16,hH1,hH2,d0,e0,q0,this,X]
 subst q0
 by_cases q1:rb = ub
 case neg =>
  have:=no (P:=rb = ub) (fun q=>by cases q; rfl) q1
  simp (maxSteps:=4000000) -implicitDefEqProofs +contextual [-X.ev,a16,hH1,hH2,d0,e0,d1,e1]
  apply Vx_callM
  ·(simp -implicitDefEqProofs [-X.ev]; rfl)
  refine (k1).mono ?_
  rintro x H2 ⟨rfl,rfl⟩
  simp (maxSteps:=4000000) -implicitDefEqProofs +contextual [-X.ev,q1,this,X]
 subst q1
 by_cases q2:rc = uc
 case neg =>
  have:=no (P:=rc = uc) (fun q=>by cases q; rfl) q2
  simp (maxSteps:=4000000) -implicitDefEqProofs +contextual [-X.ev,a16,hH1,hH2,d0,e0,d1,e1]
  apply Vx_callM
  ·(simp -implicitDefEqProofs [-X.ev]; rfl)
  refine (k1).mono ?_
  rintro x H2 ⟨rfl,rfl⟩
  simp (maxSteps:=4000000) -implicitDefEqProofs +contextual [-X.ev,d2,e2]
  apply Vx_callM
  ·(simp -implicitDefEqProofs [-X.ev]; rfl)
  refine (k2).mono ?_
  rintro x H2 ⟨rfl,rfl⟩
  simp (maxSteps:=4000000) -implicitDefEqProofs +contextual [-X.ev,q2,this,X]
 subst q2
 by_cases q3:rd = ud
 case neg =>
  have:=no (P:=rd = ud) (fun q=>by cases q; rfl) q3
  simp (maxSteps:=4000000) -implicitDefEqProofs +contextual [-X.ev,a16,hH1,hH2,d0,e0,d1,e1]
  apply Vx_callM
  ·(simp -implicitDefEqProofs [-X.ev]; rfl)
  refine (k1).mono ?_
  rintro x H2 ⟨rfl,rfl⟩
  simp (maxSteps:=4000000) -implicitDefEqProofs +contextual [-X.ev,d2,e2]
  apply Vx_callM
  ·(simp -implicitDefEqProofs [-X.ev]; rfl)
  refine (k2).mono ?_
  rintro x H2 ⟨rfl,rfl⟩
  simp (maxSteps:=4000000) -implicitDefEqProofs +contextual [-X.ev,d3,e3]
  apply Vx_callM
  ·(simp -implicitDefEqProofs [-X.ev]; rfl)
  refine (k3).mono ?_
  rintro x H2 ⟨rfl,rfl⟩
  simp (maxSteps:=4000000) -implicitDefEqProofs +contextual [-X.ev,q3,this,X]
 subst q3
 simp (maxSteps:=4000000) -implicitDefEqProofs +contextual [-X.ev,a16,hH1,hH2,d0,e0,d1,e1]
 apply Vx_callM
 ·(simp -implicitDefEqProofs [-X.ev]; rfl)
 refine (k1).mono ?_
 rintro x H2 ⟨rfl,rfl⟩
 simp (maxSteps:=4000000) -implicitDefEqProofs +contextual [-X.ev,d2,e2]
 apply Vx_callM
 ·(simp -implicitDefEqProofs [-X.ev]; rfl)
 refine (k2).mono ?_
 rintro x H2 ⟨rfl,rfl⟩
 simp (maxSteps:=4000000) -implicitDefEqProofs +contextual [-X.ev,d3,e3]
 apply Vx_callM
 ·(simp -implicitDefEqProofs [-X.ev]; rfl)
 refine (k3).mono ?_
 rintro x H2 ⟨rfl,rfl⟩
 by_cases q4:re = ue
 case neg =>
  have:=no (P:=re = ue) (fun q=>by cases q; rfl) q4
  simp (maxSteps:=4000000) -implicitDefEqProofs +contextual [-X.ev,d4,e4,q4,this,X]
 subst q4
 by_cases q5:rf = uf
 case neg =>
  have:=no (P:=rf = uf) (fun q=>by cases q; rfl) q5
  simp (maxSteps:=4000000) -implicitDefEqProofs +contextual [-X.ev,d4,e4,d5,e5,q5,this,X]
 subst q5
 by_cases q6:rg = ug
 case neg =>
  have:=no (P:=rg = ug) (fun q=>by cases q; rfl) q6
  simp (maxSteps:=4000000) -implicitDefEqProofs +contextual [-X.ev,d4,e4,d5,e5,d6,e6,q6,this,X]
 subst q6
 have hT:F = true:=by rw [← hF]; simp
 simp (maxSteps:=4000000) -implicitDefEqProofs +contextual [-X.ev,d4,e4,d5,e5,d6,e6,hT,X]
end Go.Proofs.YtoijnpfpjpefgaaGreat.A
/- A text without what this claim does not need: S56. -/
set_option linter.unusedVariables false
set_option linter.unusedSimpArgs false
set_option maxRecDepth 10000
namespace Go.Proofs.YtoijnpfpjpefgaaGreat.A
open Go
end Go.Proofs.YtoijnpfpjpefgaaGreat.A
/- A text without what this claim does not need: S57. -/
set_option linter.unusedVariables false
set_option linter.unusedSimpArgs false
set_option maxRecDepth 10000
namespace Go.Proofs.YtoijnpfpjpefgaaGreat.A
open Go
theorem inv_iter {p:Prg} {ps:List Int}:∀ (n:Nat) {c:CfM},Inv p ps c → Inv p ps (iterM p ps n c)
 | 0,_,h=>h
 | n + 1,_,h=>inv_iter n (inv_step h)
theorem runP_small {p:Prg} {fuel:Int} {t:Sta} (h:chkR p fuel t = 0):Small (runP p fuel t):=by
 rw [runP,if_pos h]
 exact small_inv (inv_iter _ (inv_begin h).1)
end Go.Proofs.YtoijnpfpjpefgaaGreat.A
/- A text without what this claim does not need: Pm0. -/
set_option linter.unusedVariables false
set_option linter.unusedSimpArgs false
namespace Go.Proofs.YtoijnpfpjpefgaaGreat.A.P
open Go Go.RowKit
def smV:Value → Bool
 | .bool _ | .int _ _ | .string _ | .pointer _ | .slice _ _ _ | .map _ | .nilFunc | .nilIface=>true
 | _=>false
inductive PV where
 | v (x:Value)
 | ref (b o t:Nat)
 | sl (sz b o n c:Nat)
 | mp (b:Nat)
 | fs (sz:Nat) (rows:List (List PV))
 | fp (cells:List PV)
 | agg (cs:List PV)
 | tup (cs:List PV)
 | fn (f:Nat) (first cap:List PV)
 | ifc (t:Nat) (p:PV)
 | any
inductive PB where
 | cells (z:Nat) (cs:List PV)
 | map (es:List (Value × PV))
 | dead
abbrev PH:=List PB
structure Cx where
 F:Nat → Prop
 H:AH
 φ:Nat → Nat
 h:PH
mutual
inductive RF (F:Nat → Prop) (H:AH):PV → Value → Prop
 | v (x:Value):RF F H (.v x) x
 | fs {sz:Nat} {rows:List (List PV)} {a:Option Addr} {c:Nat} {rs:List (List Value)}:Rows H sz (.slice a rows.length c) rs → rows.length ≤ c → (∀ d,a = some d → (d.spot = none ∨ c = 0) ∧ (rows.length = 0 ∨ (F d.block ∧ H.zok d.block sz = true))) → RFR F H rows rs → RF F H (.fs sz rows) (.slice a rows.length c)
inductive RFC (F:Nat → Prop) (H:AH):List PV → List Value → Prop
 | nil:RFC F H [] []
 | cons {p:PV} {x:Value} {ps:List PV} {xs:List Value}:RF F H p x → RFC F H ps xs → RFC F H (p :: ps) (x :: xs)
inductive RFR (F:Nat → Prop) (H:AH):List (List PV) → List (List Value) → Prop
 | nil:RFR F H [] []
 | cons {p:List PV} {x:List Value} {ps:List (List PV)} {xs:List (List Value)}:RFC F H p x → RFR F H ps xs → RFR F H (p :: ps) (x :: xs)
end
def At (h:PH) (b t:Nat):Prop:=∃ z cs,h[b]? = some (.cells z cs) ∧ cs.length = t
def Le (h:PH) (b t:Nat):Prop:=∀ z cs,h[b]? = some (.cells z cs) → t ≤ cs.length
def isMap (h:PH) (b:Nat):Prop:=∃ es,h[b]? = some (.map es)
def solid (h:PH) (b:Nat):Prop:=isMap h b ∨ ∃ t,At h b (t + 1)
def slV (a sz o n c:Nat) (x:Value):Prop:=(c = 0 ∧ n = 0 ∧ ∃ d:Option Addr,x = .slice d 0 0 ∧ ∀ e,d = some e → e.spot = none) ∨ (0 < c ∧ x = .slice (some ⟨a,o * sz,none⟩) n c)
mutual
inductive RV (C:Cx):PV → Value → Prop
 | v (x:Value):RV C (.v x) x
 | ref {b o t:Nat} {x:Value}:smV x = true → b < C.h.length → Le C.h b t → (At C.h b t → x = .pointer (some ⟨C.φ b,o,none⟩)) → RV C (.ref b o t) x
 | sl {sz b o n c:Nat} {x:Value}:smV x = true → b < C.h.length → Le C.h b ((o + c) * sz) → (At C.h b ((o + c) * sz) → slV (C.φ b) sz o n c x) → RV C (.sl sz b o n c) x
 | mp {b:Nat} {x:Value}:smV x = true → b < C.h.length → (isMap C.h b → x = .map (some (C.φ b))) → RV C (.mp b) x
 | fs {sz:Nat} {rows:List (List PV)} {x:Value}:RF C.F C.H (.fs sz rows) x → RV C (.fs sz rows) x
 | fp {cells:List PV} {b o:Nat} {vs:List Value}:C.F b → C.H.ldn ⟨b,o,none⟩ cells.length = some vs → RFC C.F C.H cells vs → RV C (.fp cells) (.pointer (some ⟨b,o,none⟩))
 | agg {cs:List PV} {xs:List Value}:RVs C cs xs → RV C (.agg cs) (.agg xs.toArray)
 | tup {cs:List PV} {xs:List Value}:RVs C cs xs → RV C (.tup cs) (.tuple xs.toArray)
 | fn {f:Nat} {a b:List PV} {xs ys:List Value}:RVs C a xs → RVs C b ys → RV C (.fn f a b) (.func (.func f) xs.toArray ys.toArray)
 | ifc {t:Nat} {p:PV} {x:Value}:RV C p x → RV C (.ifc t p) (.iface t x)
 | any (x:Value):RV C .any x
inductive RVs (C:Cx):List PV → List Value → Prop
 | nil:RVs C [] []
 | cons {p:PV} {x:Value} {ps:List PV} {xs:List Value}:RV C p x → RVs C ps xs → RVs C (p :: ps) (x :: xs)
end
theorem RVs.length {C:Cx}:∀ {ps:List PV} {xs:List Value},RVs C ps xs → ps.length = xs.length
 | _,_,.nil=>rfl
 | _,_,.cons _ h=>by simp [RVs.length h]
theorem RFC.length {F:Nat → Prop} {H:AH}:∀ {ps:List PV} {xs:List Value},RFC F H ps xs → ps.length = xs.length
 | _,_,.nil=>rfl
 | _,_,.cons _ h=>by simp [RFC.length h]
theorem RFR.length {F:Nat → Prop} {H:AH}:∀ {ps:List (List PV)} {xs:List (List Value)},RFR F H ps xs → ps.length = xs.length
 | _,_,.nil=>rfl
 | _,_,.cons _ h=>by simp [RFR.length h]
structure StH (C:Cx):Prop where
 wf:C.H.n0 ≤ C.H.nx
 fz:∀ x,C.F x → x < C.H.nx
 inj:∀ b b',solid C.h b → solid C.h b' → C.φ b = C.φ b' → b = b'
 blk:∀ b z cs,C.h[b]? = some (.cells z cs) → cs ≠ [] → ∃ vs,C.H.get (C.φ b) = some (.cells z vs) ∧ RVs C cs vs ∧ C.H.n0 ≤ C.φ b ∧ ¬ C.F (C.φ b)
 mpb:∀ b es,C.h[b]? = some (.map es) → ∃ ys,C.H.get (C.φ b) = some (.map ys) ∧ es.map (·.1) = ys.map (·.1) ∧ RVs C (es.map (·.2)) (ys.map (·.2)) ∧ C.H.n0 ≤ C.φ b ∧ ¬ C.F (C.φ b)
def im (C:Cx) (W:Nat → Prop) (x:Nat):Prop:=∃ b,W b ∧ solid C.h b ∧ C.φ b = x
structure Stp (n:Nat) (W:Nat → Prop) (C D:Cx):Prop where
 n0:D.H.n0 = C.H.n0
 nx:C.H.nx ≤ D.H.nx
 fz:∀ x,C.F x → D.F x ∧ D.H.get x = C.H.get x
 fo:∀ x,x < C.H.nx → ¬ im C (fun _=>True) x → D.F x → C.F x
 out:∀ x,x < C.H.nx → ¬ im C W x → D.H.get x = C.H.get x
 loc:∀ b,solid D.h b → C.H.nx ≤ D.φ b ∨ (solid C.h b ∧ D.φ b = C.φ b)
 len:n ≤ C.h.length → n ≤ D.h.length
 le:∀ b,b < n → b < C.h.length → ∀ t,Le C.h b t → Le D.h b t
 kat:∀ b,b < n → b < C.h.length → ∀ t,Le C.h b t → At D.h b t → At C.h b t ∧ D.φ b = C.φ b
 kmp:∀ b,b < n → b < C.h.length → isMap D.h b → isMap C.h b ∧ D.φ b = C.φ b
theorem Stp.mono {n m:Nat} {W V:Nat → Prop} {C D:Cx} (h:Stp n W C D) (hm:m ≤ n) (hV:∀ b,W b → V b) (hl:m ≤ C.h.length → m ≤ D.h.length):Stp m V C D where
 n0:=h.n0
 nx:=h.nx
 fz:=h.fz
 fo:=h.fo
 out:=fun x hx k=>h.out x hx fun ⟨b,hb,q⟩=>k ⟨b,hV b hb,q⟩
 loc:=h.loc
 len:=hl
 le:=fun b hb=>h.le b (Nat.lt_of_lt_of_le hb hm)
 kat:=fun b hb=>h.kat b (Nat.lt_of_lt_of_le hb hm)
 kmp:=fun b hb=>h.kmp b (Nat.lt_of_lt_of_le hb hm)
theorem im.lt {C:Cx} (S:StH C) {W:Nat → Prop} {x:Nat} (h:im C W x):x < C.H.nx:=by
 obtain ⟨b,_,hs,rfl⟩:=h
 rcases hs with ⟨es,he⟩ | ⟨t,z,cs,he,ht⟩
 ·obtain ⟨_,hg,_⟩:=S.mpb b es he
  exact AH.get_lt hg
 ·obtain ⟨_,hg,_⟩:=S.blk b z cs he (by intro e; subst e; simp at ht)
  exact AH.get_lt hg
theorem Stp.refl (n:Nat) (W:Nat → Prop) (C:Cx):Stp n W C C where
 n0:=rfl
 nx:=Nat.le_refl _
 fz:=fun x hx=>⟨hx,rfl⟩
 fo:=fun _ _ _ h=>h
 out:=fun _ _ _=>rfl
 loc:=fun b hb=>.inr ⟨hb,rfl⟩
 len:=id
 le:=fun _ _ _ _ h=>h
 kat:=fun _ _ _ _ _ h=>⟨h,rfl⟩
 kmp:=fun _ _ _ h=>⟨h,rfl⟩
theorem Stp.trans {n:Nat} {V W U:Nat → Prop} {C D X:Cx} (h:Stp n V C D) (k:Stp n W D X) (hn:n ≤ C.h.length) (hV:∀ b,V b → U b) (hW:∀ b,W b → U b):Stp n U C X where
 n0:=k.n0.trans h.n0
 nx:=Nat.le_trans h.nx k.nx
 fz:=fun x hx=>by
  obtain ⟨a,b⟩:=h.fz x hx
  obtain ⟨c,d⟩:=k.fz x a
  exact ⟨c,d.trans b⟩
 fo:=fun x hx hi hd=>by
  refine h.fo x hx hi (k.fo x (Nat.lt_of_lt_of_le hx h.nx) ?_ hd)
  rintro ⟨b,_,hs,rfl⟩
  rcases h.loc b hs with q | ⟨q,e⟩
  ·omega
  ·exact hi ⟨b,trivial,q,e.symm⟩
 out:=fun x hx hi=>by
  have e:=h.out x hx fun ⟨b,hb,q⟩=>hi ⟨b,hV b hb,q⟩
  rw [← e]
  refine k.out x (Nat.lt_of_lt_of_le hx h.nx) ?_
  rintro ⟨b,hb,hs,rfl⟩
  rcases h.loc b hs with q | ⟨q,e⟩
  ·omega
  ·exact hi ⟨b,hW b hb,q,e.symm⟩
 loc:=fun b hb=>by
  rcases k.loc b hb with q | ⟨hs,e⟩
  ·exact .inl (Nat.le_trans h.nx q)
  ·rcases h.loc b hs with q | ⟨hs',e'⟩
   ·exact .inl (by omega)
   ·exact .inr ⟨hs',e.trans e'⟩
 len:=fun hl=>k.len (h.len hl)
 le:=fun b hb hl t ht=>k.le b hb (Nat.lt_of_lt_of_le hb (h.len hn)) t (h.le b hb hl t ht)
 kat:=fun b hb hl t ht ha=>by
  obtain ⟨a1,a2⟩:=k.kat b hb (Nat.lt_of_lt_of_le hb (h.len hn)) t (h.le b hb hl t ht) ha
  obtain ⟨c1,c2⟩:=h.kat b hb hl t ht a1
  exact ⟨c1,a2.trans c2⟩
 kmp:=fun b hb hl ha=>by
  obtain ⟨a1,a2⟩:=k.kmp b hb (Nat.lt_of_lt_of_le hb (h.len hn)) ha
  obtain ⟨c1,c2⟩:=h.kmp b hb hl a1
  exact ⟨c1,a2.trans c2⟩
theorem zok_same {H H':AH} {b sz:Nat} (h:H'.get b = H.get b):H'.zok b sz = H.zok b sz:=by unfold AH.zok; rw [h]
section
variable {F F':Nat → Prop} {H H':AH} (n0:H'.n0 = H.n0) (hF:∀ x,F x → F' x ∧ H'.get x = H.get x)
theorem Rows.fz {sz:Nat} {a:Option Addr} {n c:Nat} {rs:List (List Value)} (n0:H'.n0 = H.n0) (hF:∀ x,F x → F' x ∧ H'.get x = H.get x) (h:Rows H sz (.slice a n c) rs) (k:∀ d,a = some d → (d.spot = none ∨ c = 0) ∧ (n = 0 ∨ (F d.block ∧ H.zok d.block sz = true))):Rows H' sz (.slice a n c) rs ∧ (∀ d,a = some d → (d.spot = none ∨ c = 0) ∧ (n = 0 ∨ (F' d.block ∧ H'.zok d.block sz = true))):=by
 obtain ⟨a',c',e,q⟩:=h.is
 cases e
 refine ⟨⟨_,_,rfl,fun i r hi=>?_⟩,fun d hd=>?_⟩
 ·obtain ⟨b,o,rfl,hl⟩:=q i r hi
  refine ⟨b,o,rfl,?_⟩
  rcases (k _ rfl).2 with h0 | ⟨hf,_⟩
  ·have:=(List.getElem?_eq_some_iff.1 hi).1; omega
  ·rw [← hl]
   exact ldn_same (hF b hf).2 n0
 ·refine ⟨(k d hd).1,?_⟩
  rcases (k d hd).2 with h0 | ⟨hf,hz⟩
  ·exact .inl h0
  ·exact .inr ⟨(hF _ hf).1,by rw [zok_same (hF _ hf).2]; exact hz⟩
mutual
theorem RF.mono (n0:H'.n0 = H.n0) (hF:∀ x,F x → F' x ∧ H'.get x = H.get x):∀ {p:PV} {x:Value},RF F H p x → RF F' H' p x
 | _,_,.v x=>.v x
 | _,_,.fs hr hl hk hrr=>let q:=Rows.fz n0 hF hr hk; .fs q.1 hl q.2 (RFR.mono n0 hF hrr)
theorem RFC.mono (n0:H'.n0 = H.n0) (hF:∀ x,F x → F' x ∧ H'.get x = H.get x):∀ {p:List PV} {x:List Value},RFC F H p x → RFC F' H' p x
 | _,_,.nil=>.nil
 | _,_,.cons a b=>.cons (RF.mono n0 hF a) (RFC.mono n0 hF b)
theorem RFR.mono (n0:H'.n0 = H.n0) (hF:∀ x,F x → F' x ∧ H'.get x = H.get x):∀ {p:List (List PV)} {x:List (List Value)},RFR F H p x → RFR F' H' p x
 | _,_,.nil=>.nil
 | _,_,.cons a b=>.cons (RFC.mono n0 hF a) (RFR.mono n0 hF b)
end
end
mutual
theorem RV.step {W:Nat → Prop} {C D:Cx} (h:Stp C.h.length W C D):∀ {p:PV} {x:Value},RV C p x → RV D p x
 | _,_,.v x=>.v x
 | _,_,.ref h1 hb hl k=>.ref h1 (Nat.lt_of_lt_of_le hb (h.len (Nat.le_refl _))) (h.le _ hb hb _ hl) fun ha=>by
  obtain ⟨a1,a2⟩:=h.kat _ hb hb _ hl ha
  rw [a2]; exact k a1
 | _,_,.sl h1 hb hl k=>.sl h1 (Nat.lt_of_lt_of_le hb (h.len (Nat.le_refl _))) (h.le _ hb hb _ hl) fun ha=>by
  obtain ⟨a1,a2⟩:=h.kat _ hb hb _ hl ha
  rw [a2]; exact k a1
 | _,_,.mp h1 hb k=>.mp h1 (Nat.lt_of_lt_of_le hb (h.len (Nat.le_refl _))) fun ha=>by
  obtain ⟨a1,a2⟩:=h.kmp _ hb hb ha
  rw [a2]; exact k a1
 | _,_,.fs k=>.fs (k.mono h.n0 h.fz)
 | _,_,.fp hf hl k=>.fp (h.fz _ hf).1 (by rw [← hl]; exact ldn_same (h.fz _ hf).2 h.n0) (k.mono h.n0 h.fz)
 | _,_,.agg k=>.agg (RVs.step h k)
 | _,_,.tup k=>.tup (RVs.step h k)
 | _,_,.fn a b=>.fn (RVs.step h a) (RVs.step h b)
 | _,_,.ifc a=>.ifc (RV.step h a)
 | _,_,.any x=>.any x
theorem RVs.step {W:Nat → Prop} {C D:Cx} (h:Stp C.h.length W C D):∀ {p:List PV} {x:List Value},RVs C p x → RVs D p x
 | _,_,.nil=>.nil
 | _,_,.cons a b=>.cons (RV.step h a) (RVs.step h b)
end
theorem RVs.get {C:Cx}:∀ {ps:List PV} {xs:List Value},RVs C ps xs → ∀ {i:Nat} {p:PV},ps[i]? = some p → ∃ x,xs[i]? = some x ∧ RV C p x
 | _,_,.nil,i,p,h=>by simp at h
 | _,_,.cons a b,0,p,h=>by simp at h; subst h; exact ⟨_,rfl,a⟩
 | _,_,.cons a b,i + 1,p,h=>by simpa using RVs.get b (by simpa using h)
theorem RVs.drop {C:Cx}:∀ {ps:List PV} {xs:List Value},RVs C ps xs → ∀ n,RVs C (ps.drop n) (xs.drop n)
 | _,_,.nil,n=>by simp; exact .nil
 | _,_,.cons a b,0=>.cons a b
 | _,_,.cons a b,n + 1=>by simpa using RVs.drop b n
theorem RVs.take {C:Cx}:∀ {ps:List PV} {xs:List Value},RVs C ps xs → ∀ n,RVs C (ps.take n) (xs.take n)
 | _,_,.nil,n=>by simp; exact .nil
 | _,_,.cons a b,0=>.nil
 | _,_,.cons a b,n + 1=>by simpa using RVs.cons a (RVs.take b n)
theorem RVs.append {C:Cx}:∀ {ps:List PV} {xs:List Value} {qs:List PV} {ys:List Value},RVs C ps xs → RVs C qs ys → RVs C (ps ++ qs) (xs ++ ys)
 | _,_,_,_,.nil,k=>k
 | _,_,_,_,.cons a b,k=>.cons a (RVs.append b k)
theorem RVs.lits {C:Cx}:∀ (l:List Value),RVs C (l.map .v) l
 | []=>.nil
 | x :: l=>.cons (.v x) (RVs.lits l)
theorem RVs.repl {C:Cx} {ps:List PV} {xs:List Value} (h:RVs C ps xs):∀ n,RVs C (List.replicate n ps).flatten (List.replicate n xs).flatten
 | 0=>.nil
 | n + 1=>by simpa [List.replicate_succ] using h.append (h.repl n)
theorem RFC.toV {C:Cx}:∀ {ps:List PV} {xs:List Value},RFC C.F C.H ps xs → RVs C ps xs
 | _,_,.nil=>.nil
 | _,_,.cons (.v x) b=>.cons (.v x) (RFC.toV b)
 | _,_,.cons (.fs a b c d) e=>.cons (.fs (.fs a b c d)) (RFC.toV e)
theorem RF.toV {C:Cx}:∀ {p:PV} {x:Value},RF C.F C.H p x → RV C p x
 | _,_,.v x=>.v x
 | _,_,.fs a b c d=>.fs (.fs a b c d)
theorem RFC.drop {F:Nat → Prop} {H:AH}:∀ {ps:List PV} {xs:List Value},RFC F H ps xs → ∀ n,RFC F H (ps.drop n) (xs.drop n)
 | _,_,.nil,n=>by simp; exact .nil
 | _,_,.cons a b,0=>.cons a b
 | _,_,.cons a b,n + 1=>by simpa using RFC.drop b n
theorem RFC.take {F:Nat → Prop} {H:AH}:∀ {ps:List PV} {xs:List Value},RFC F H ps xs → ∀ n,RFC F H (ps.take n) (xs.take n)
 | _,_,.nil,n=>by simp; exact .nil
 | _,_,.cons a b,0=>.nil
 | _,_,.cons a b,n + 1=>by simpa using RFC.cons a (RFC.take b n)
theorem RFR.get {F:Nat → Prop} {H:AH}:∀ {ps:List (List PV)} {xs:List (List Value)},RFR F H ps xs → ∀ {i:Nat} {p:List PV},ps[i]? = some p → ∃ x,xs[i]? = some x ∧ RFC F H p x
 | _,_,.nil,i,p,h=>by simp at h
 | _,_,.cons a b,0,p,h=>by simp at h; subst h; exact ⟨_,rfl,a⟩
 | _,_,.cons a b,i + 1,p,h=>by simpa using RFR.get b (by simpa using h)
theorem RFR.drop {F:Nat → Prop} {H:AH}:∀ {ps:List (List PV)} {xs:List (List Value)},RFR F H ps xs → ∀ n,RFR F H (ps.drop n) (xs.drop n)
 | _,_,.nil,n=>by simp; exact .nil
 | _,_,.cons a b,0=>.cons a b
 | _,_,.cons a b,n + 1=>by simpa using RFR.drop b n
theorem RFR.take {F:Nat → Prop} {H:AH}:∀ {ps:List (List PV)} {xs:List (List Value)},RFR F H ps xs → ∀ n,RFR F H (ps.take n) (xs.take n)
 | _,_,.nil,n=>by simp; exact .nil
 | _,_,.cons a b,0=>.nil
 | _,_,.cons a b,n + 1=>by simpa using RFR.cons a (RFR.take b n)
theorem RFR.flat {F:Nat → Prop} {H:AH}:∀ {ps:List (List PV)} {xs:List (List Value)},RFR F H ps xs → RFC F H ps.flatten xs.flatten
 | _,_,.nil=>.nil
 | _,_,.cons a b=>by
  have ap:∀ {ps:List PV} {xs:List Value} {qs:List PV} {ys:List Value},RFC F H ps xs → RFC F H qs ys → RFC F H (ps ++ qs) (xs ++ ys):=by
   intro ps xs qs ys h k
   induction ps generalizing xs with
   | nil=>cases h; exact k
   | cons p ps ih=>cases h with | cons a b=>exact .cons a (ih b)
  simpa using ap a (RFR.flat b)
end Go.Proofs.YtoijnpfpjpefgaaGreat.A.P
/- A text without what this claim does not need: Pm1. -/
set_option linter.unusedVariables false
set_option linter.unusedSimpArgs false
namespace Go.Proofs.YtoijnpfpjpefgaaGreat.A.P
open Go Go.RowKit
theorem solid_of {h h':PH} {b:Nat} (e:h'[b]? = h[b]?):solid h' b ↔ solid h b:=by unfold solid isMap At; rw [e]
theorem At_of {h h':PH} {b t:Nat} (e:h'[b]? = h[b]?):At h' b t ↔ At h b t:=by unfold At; rw [e]
theorem Le_of {h h':PH} {b t:Nat} (e:h'[b]? = h[b]?):Le h' b t ↔ Le h b t:=by unfold Le; rw [e]
theorem isMap_of {h h':PH} {b:Nat} (e:h'[b]? = h[b]?):isMap h' b ↔ isMap h b:=by unfold isMap; rw [e]
theorem solid_cells {h:PH} {b z:Nat} {cs:List PV} (e:h[b]? = some (.cells z cs)) (hc:cs ≠ []):solid h b:=by
 refine .inr ⟨cs.length - 1,z,cs,e,?_⟩
 have:=List.length_pos_iff.2 hc
 omega
theorem solid_map {h:PH} {b:Nat} {es:List (Value × PV)} (e:h[b]? = some (.map es)):solid h b:=.inl ⟨es,e⟩
theorem solid_is {h:PH} {b:Nat} (s:solid h b):(∃ es,h[b]? = some (.map es)) ∨ ∃ z cs,h[b]? = some (.cells z cs) ∧ cs ≠ []:=by
 rcases s with ⟨es,e⟩ | ⟨t,z,cs,e,ht⟩
 ·exact .inl ⟨es,e⟩
 ·exact .inr ⟨z,cs,e,by rintro rfl; simp at ht⟩
theorem solid_lt {h:PH} {b:Nat} (s:solid h b):b < h.length:=by
 rcases solid_is s with ⟨es,e⟩ | ⟨z,cs,e,_⟩ <;> exact (List.getElem?_eq_some_iff.1 e).1
theorem StH.lt {C:Cx} (S:StH C) {b:Nat} (s:solid C.h b):C.φ b < C.H.nx:=im.lt S (W:=fun _=>True) ⟨b,trivial,s,rfl⟩
theorem StH.old {C:Cx} (S:StH C) {b:Nat} (s:solid C.h b):C.H.n0 ≤ C.φ b ∧ ¬ C.F (C.φ b):=by
 rcases solid_is s with ⟨es,e⟩ | ⟨z,cs,e,hc⟩
 ·obtain ⟨_,_,_,_,a,b⟩:=S.mpb _ _ e; exact ⟨a,b⟩
 ·obtain ⟨_,_,_,a,b⟩:=S.blk _ _ _ e hc; exact ⟨a,b⟩
theorem StH.of {C D:Cx} {W:Nat → Prop} (S:StH C) (T:Stp C.h.length W C D) (hF:D.F = C.F) (b0:Nat) (ho:∀ b,b ≠ b0 → D.h[b]? = C.h[b]? ∧ D.φ b = C.φ b)
  (hH:∀ b,b ≠ b0 → solid C.h b → D.H.get (C.φ b) = C.H.get (C.φ b)) (hne:∀ b,b ≠ b0 → solid C.h b → solid D.h b0 → D.φ b0 ≠ C.φ b)
  (hb:∀ z cs,D.h[b0]? = some (.cells z cs) → cs ≠ [] → ∃ vs,D.H.get (D.φ b0) = some (.cells z vs) ∧ RVs C cs vs ∧ D.H.n0 ≤ D.φ b0 ∧ ¬ D.F (D.φ b0))
  (hm:∀ es,D.h[b0]? = some (.map es) → ∃ ys,D.H.get (D.φ b0) = some (.map ys) ∧ es.map (·.1) = ys.map (·.1) ∧ RVs C (es.map (·.2)) (ys.map (·.2)) ∧ D.H.n0 ≤ D.φ b0 ∧ ¬ D.F (D.φ b0)):StH D where
 wf:=by rw [T.n0]; exact Nat.le_trans S.wf T.nx
 fz:=fun x hx=>Nat.lt_of_lt_of_le (S.fz x (hF ▸ hx)) T.nx
 inj:=fun b b' s s' e=>by
  by_cases h:b = b0
  ·by_cases h':b' = b0
   ·omega
   ·subst h
    have s2:=(solid_of (ho _ h').1).1 s'
    rw [(ho _ h').2] at e
    exact absurd e (hne _ h' s2 s)
  ·by_cases h':b' = b0
   ·subst h'
    have s2:=(solid_of (ho _ h).1).1 s
    rw [(ho _ h).2] at e
    exact absurd e.symm (hne _ h s2 s')
   ·rw [(ho _ h).2,(ho _ h').2] at e
    exact S.inj _ _ ((solid_of (ho _ h).1).1 s) ((solid_of (ho _ h').1).1 s') e
 blk:=fun b z cs e hc=>by
  by_cases h:b = b0
  ·subst h
   obtain ⟨vs,a,b,c⟩:=hb z cs e hc
   exact ⟨vs,a,b.step T,c⟩
  ·have e':=e
   rw [(ho _ h).1] at e'
   obtain ⟨vs,a,b',c,d⟩:=S.blk _ _ _ e' hc
   rw [(ho _ h).2,hF,T.n0]
   exact ⟨vs,(hH _ h (solid_cells e' hc)).trans a,b'.step T,c,d⟩
 mpb:=fun b es e=>by
  by_cases h:b = b0
  ·subst h
   obtain ⟨ys,a,b,c,d⟩:=hm es e
   exact ⟨ys,a,b,c.step T,d⟩
  ·have e':=e
   rw [(ho _ h).1] at e'
   obtain ⟨ys,a,b',c,d⟩:=S.mpb _ _ e'
   rw [(ho _ h).2,hF,T.n0]
   exact ⟨ys,(hH _ h (solid_map e')).trans a,b',c.step T,d⟩
def fup (φ:Nat → Nat) (b x:Nat):Nat → Nat:=fun c=>if c = b then x else φ c
theorem fup_eq (φ:Nat → Nat) (b x:Nat):fup φ b x b = x:=by simp [fup]
theorem fup_ne {φ:Nat → Nat} {b x c:Nat} (h:c ≠ b):fup φ b x c = φ c:=by simp [fup,h]
theorem app_ne {h:PH} {P:PB} {b:Nat} (hb:b ≠ h.length):(h ++ [P])[b]? = h[b]?:=by
 rcases Nat.lt_or_ge b h.length with k | k
 ·rw [List.getElem?_append_left k]
 ·rw [List.getElem?_append_right k,List.getElem?_eq_none (by simp; omega),List.getElem?_eq_none k]
theorem app_eq (h:PH) (P:PB):(h ++ [P])[h.length]? = some P:=by simp
theorem StH.new {C:Cx} (S:StH C) {P:PB} {B:Blk} (W:Nat → Prop)
  (hP:(∃ z cs vs,P = .cells z cs ∧ B = .cells z vs ∧ RVs C cs vs) ∨ (∃ es ys,P = .map es ∧ B = .map ys ∧ es.map (·.1) = ys.map (·.1) ∧ RVs C (es.map (·.2)) (ys.map (·.2)))) :
  StH ⟨C.F,C.H.alloc B,fup C.φ C.h.length C.H.nx,C.h ++ [P]⟩ ∧ Stp C.h.length W C ⟨C.F,C.H.alloc B,fup C.φ C.h.length C.H.nx,C.h ++ [P]⟩:=by
 have T:Stp C.h.length W C ⟨C.F,C.H.alloc B,fup C.φ C.h.length C.H.nx,C.h ++ [P]⟩:={
  n0:=rfl
  nx:=Nat.le_succ _
  fz:=fun x hx=>⟨hx,by have:=S.fz x hx; rw [AH.get_alloc,if_neg (by omega)]⟩
  fo:=fun _ _ _ h=>h
  out:=fun x hx _=>by rw [AH.get_alloc,if_neg (by omega)]
  loc:=fun b hb=>by
   by_cases h:b = C.h.length
   ·subst h; left; show _ ≤ fup _ _ _ _; rw [fup_eq]; exact Nat.le_refl _
   ·right; exact ⟨(solid_of (app_ne h)).1 hb,fup_ne h⟩
  len:=fun _=>by simp
  le:=fun b hb _ t ht=>(Le_of (app_ne (by omega))).2 ht
  kat:=fun b hb _ t _ ha=>⟨(At_of (app_ne (by omega))).1 ha,fup_ne (by omega)⟩
  kmp:=fun b hb _ ha=>⟨(isMap_of (app_ne (by omega))).1 ha,fup_ne (by omega)⟩ }
 refine ⟨S.of T rfl C.h.length (fun b hb=>⟨app_ne hb,fup_ne hb⟩) (fun b hb s=>?_) (fun b hb s _=>?_) (fun z cs e hc=>?_) (fun es e=>?_),T⟩
 ·have:=S.lt s; show (C.H.alloc B).get _ = _; rw [AH.get_alloc,if_neg (by omega)]
 ·have:=S.lt s; show fup _ _ _ _ ≠ _; rw [fup_eq]; omega
 ·have e:some P = some (.cells z cs):=(app_eq _ _).symm.trans e
  cases e
  rcases hP with ⟨z',cs',vs,e9,rfl,hv⟩ | ⟨es,ys,e9,_⟩
  ·cases e9
   refine ⟨vs,?_,hv,?_,?_⟩ <;> dsimp only <;> rw [fup_eq]
   ·exact get_new _ _
   ·exact S.wf
   ·intro q; exact absurd (S.fz _ q) (Nat.lt_irrefl _)
  ·cases e9
 ·have e:some P = some (.map es):=(app_eq _ _).symm.trans e
  cases e
  rcases hP with ⟨z',cs',vs,e9,_⟩ | ⟨es',ys,e9,rfl,hk,hv⟩
  ·cases e9
  ·cases e9
   refine ⟨ys,?_,hk,hv,?_,?_⟩ <;> dsimp only <;> rw [fup_eq]
   ·exact get_new _ _
   ·exact S.wf
   ·intro q; exact absurd (S.fz _ q) (Nat.lt_irrefl _)
theorem set_ne {h:PH} {P:PB} {b c:Nat} (hb:c ≠ b):(h.set b P)[c]? = h[c]?:=List.getElem?_set_ne (Ne.symm hb)
theorem set_eq {h:PH} {P:PB} {b:Nat} (hb:b < h.length):(h.set b P)[b]? = some P:=by simp [List.getElem?_set,hb]
theorem StH.put {C:Cx} (S:StH C) {b z:Nat} {cs ds:List PV} {vs:List Value} {W:Nat → Prop} (hW:W b) (hb:C.h[b]? = some (.cells z cs)) (hc:cs ≠ []) (hl:ds.length = cs.length) (hv:RVs C ds vs) :
  StH ⟨C.F,C.H.put (C.φ b) (some (.cells z vs)),C.φ,C.h.set b (.cells z ds)⟩ ∧ Stp C.h.length W C ⟨C.F,C.H.put (C.φ b) (some (.cells z vs)),C.φ,C.h.set b (.cells z ds)⟩:=by
 have hs:=solid_cells hb hc
 have hlt:=S.lt hs
 have hbl:=solid_lt hs
 have hd:ds ≠ []:=by intro e; subst e; simp at hl; exact hc (List.length_eq_zero_iff.1 hl.symm)
 have hat:∀ t,At (C.h.set b (.cells z ds)) b t → At C.h b t:=by
  rintro t ⟨z',cs',e,rfl⟩
  rw [set_eq hbl] at e; cases e
  exact ⟨z,cs,hb,hl.symm⟩
 have T:Stp C.h.length W C ⟨C.F,C.H.put (C.φ b) (some (.cells z vs)),C.φ,C.h.set b (.cells z ds)⟩:={
  n0:=rfl
  nx:=Nat.le_refl _
  fz:=fun x hx=>⟨hx,by rw [AH.get_put _ _ _ _ hlt,if_neg]; rintro rfl; exact (S.old hs).2 hx⟩
  fo:=fun _ _ _ h=>h
  out:=fun x hx hi=>by rw [AH.get_put _ _ _ _ hlt,if_neg]; rintro rfl; exact hi ⟨b,hW,hs,rfl⟩
  loc:=fun c hc'=>by
   right
   by_cases h:c = b
   ·subst h; exact ⟨hs,rfl⟩
   ·exact ⟨(solid_of (set_ne h)).1 hc',rfl⟩
  len:=fun _=>by simp
  le:=fun c hb' _ t ht=>by
   by_cases h:c = b
   ·subst h
    intro z' cs' e
    rw [set_eq hbl] at e; cases e
    rw [hl]; exact ht _ _ hb
   ·exact (Le_of (set_ne h)).2 ht
  kat:=fun c hb' _ t _ ha=>by
   by_cases h:c = b
   ·subst h; exact ⟨hat t ha,rfl⟩
   ·exact ⟨(At_of (set_ne h)).1 ha,rfl⟩
  kmp:=fun c hb' _ ha=>by
   by_cases h:c = b
   ·subst h; obtain ⟨es,e⟩:=ha; rw [set_eq hbl] at e; cases e
   ·exact ⟨(isMap_of (set_ne h)).1 ha,rfl⟩ }
 refine ⟨S.of T rfl b (fun c hc=>⟨set_ne hc,rfl⟩) (fun c hc s=>?_) (fun c hc s _ e=>hc (S.inj _ _ s hs e.symm)) (fun z' cs' e hc'=>?_) (fun es e=>?_),T⟩
 ·show (C.H.put _ _).get _ = _
  rw [AH.get_put _ _ _ _ hlt,if_neg]
  exact fun e=>hc (S.inj _ _ s hs e)
 ·have e:=(set_eq hbl).symm.trans e
  cases e
  refine ⟨vs,?_,hv,(S.old hs)⟩
  show (C.H.put _ _).get _ = _
  rw [AH.get_put _ _ _ _ hlt,if_pos rfl]
 ·have e:=(set_eq hbl).symm.trans e
  cases e
theorem StH.putm {C:Cx} (S:StH C) {b:Nat} {es fs:List (Value × PV)} {ys:List (Value × Value)} {W:Nat → Prop} (hW:W b) (hb:C.h[b]? = some (.map es)) (hk:fs.map (·.1) = ys.map (·.1)) (hv:RVs C (fs.map (·.2)) (ys.map (·.2))) :
  StH ⟨C.F,C.H.put (C.φ b) (some (.map ys)),C.φ,C.h.set b (.map fs)⟩ ∧ Stp C.h.length W C ⟨C.F,C.H.put (C.φ b) (some (.map ys)),C.φ,C.h.set b (.map fs)⟩:=by
 have hs:=solid_map hb
 have hlt:=S.lt hs
 have hbl:=solid_lt hs
 have T:Stp C.h.length W C ⟨C.F,C.H.put (C.φ b) (some (.map ys)),C.φ,C.h.set b (.map fs)⟩:={
  n0:=rfl
  nx:=Nat.le_refl _
  fz:=fun x hx=>⟨hx,by rw [AH.get_put _ _ _ _ hlt,if_neg]; rintro rfl; exact (S.old hs).2 hx⟩
  fo:=fun _ _ _ h=>h
  out:=fun x hx hi=>by rw [AH.get_put _ _ _ _ hlt,if_neg]; rintro rfl; exact hi ⟨b,hW,hs,rfl⟩
  loc:=fun c hc'=>by
   right
   by_cases h:c = b
   ·subst h; exact ⟨hs,rfl⟩
   ·exact ⟨(solid_of (set_ne h)).1 hc',rfl⟩
  len:=fun _=>by simp
  le:=fun c hb' _ t ht=>by
   by_cases h:c = b
   ·subst h
    intro z' cs' e
    rw [set_eq hbl] at e; cases e
   ·exact (Le_of (set_ne h)).2 ht
  kat:=fun c hb' _ t _ ha=>by
   by_cases h:c = b
   ·subst h; obtain ⟨z',cs',e,_⟩:=ha; rw [set_eq hbl] at e; cases e
   ·exact ⟨(At_of (set_ne h)).1 ha,rfl⟩
  kmp:=fun c hb' _ ha=>by
   by_cases h:c = b
   ·subst h; exact ⟨⟨es,hb⟩,rfl⟩
   ·exact ⟨(isMap_of (set_ne h)).1 ha,rfl⟩ }
 refine ⟨S.of T rfl b (fun c hc=>⟨set_ne hc,rfl⟩) (fun c hc s=>?_) (fun c hc s _ e=>hc (S.inj _ _ s hs e.symm)) (fun z' cs' e hc'=>?_) (fun es e=>?_),T⟩
 ·show (C.H.put _ _).get _ = _
  rw [AH.get_put _ _ _ _ hlt,if_neg]
  exact fun e=>hc (S.inj _ _ s hs e)
 ·have e:=(set_eq hbl).symm.trans e
  cases e
 ·have e:=(set_eq hbl).symm.trans e
  cases e
  refine ⟨ys,?_,hk,hv,(S.old hs)⟩
  show (C.H.put _ _).get _ = _
  rw [AH.get_put _ _ _ _ hlt,if_pos rfl]
theorem StH.grow {C:Cx} (S:StH C) {b z:Nat} {cs ds:List PV} {vs:List Value} {H1:AH} {W:Nat → Prop} (hW:W b) (hb:C.h[b]? = some (.cells z cs)) (hl:cs.length < ds.length) (hv:RVs C ds vs)
  (h1:(cs = [] ∧ H1 = C.H) ∨ (cs ≠ [] ∧ H1 = C.H.put (C.φ b) none)) :
  StH ⟨C.F,H1.alloc (.cells z vs),fup C.φ b C.H.nx,C.h.set b (.cells z ds)⟩ ∧ Stp C.h.length W C ⟨C.F,H1.alloc (.cells z vs),fup C.φ b C.H.nx,C.h.set b (.cells z ds)⟩:=by
 have hbl:=(List.getElem?_eq_some_iff.1 hb).1
 have nx1:H1.nx = C.H.nx:=by rcases h1 with ⟨_,rfl⟩ | ⟨_,rfl⟩ <;> rfl
 have n01:H1.n0 = C.H.n0:=by rcases h1 with ⟨_,rfl⟩ | ⟨_,rfl⟩ <;> rfl
 have get1:∀ x,x < C.H.nx → (∀ (_:solid C.h b),x ≠ C.φ b) → (H1.alloc (.cells z vs)).get x = C.H.get x:=by
  intro x hx hn
  rw [AH.get_alloc,if_neg (by omega)]
  rcases h1 with ⟨_,rfl⟩ | ⟨hc,rfl⟩
  ·rfl
  ·rw [AH.get_kill,if_neg (hn (solid_cells hb hc))]
 have T:Stp C.h.length W C ⟨C.F,H1.alloc (.cells z vs),fup C.φ b C.H.nx,C.h.set b (.cells z ds)⟩:={
  n0:=n01
  nx:=by show _ ≤ H1.nx + 1; omega
  fz:=fun x hx=>⟨hx,get1 x (S.fz x hx) fun s e=>(S.old s).2 (e ▸ hx)⟩
  fo:=fun _ _ _ h=>h
  out:=fun x hx hi=>get1 x hx fun s e=>hi ⟨b,hW,s,e.symm⟩
  loc:=fun c hc'=>by
   by_cases h:c = b
   ·subst h; left; show _ ≤ fup _ _ _ _; rw [fup_eq]; exact Nat.le_refl _
   ·right; exact ⟨(solid_of (set_ne h)).1 hc',fup_ne h⟩
  len:=fun _=>by simp
  le:=fun c hb' _ t ht=>by
   by_cases h:c = b
   ·subst h
    intro z' cs' e
    rw [set_eq hbl] at e; cases e
    have:=ht _ _ hb
    omega
   ·exact (Le_of (set_ne h)).2 ht
  kat:=fun c hb' _ t ht ha=>by
   by_cases h:c = b
   ·subst h
    obtain ⟨z',cs',e,rfl⟩:=ha
    rw [set_eq hbl] at e; cases e
    have:=ht _ _ hb
    omega
   ·exact ⟨(At_of (set_ne h)).1 ha,fup_ne h⟩
  kmp:=fun c hb' _ ha=>by
   by_cases h:c = b
   ·subst h; obtain ⟨es,e⟩:=ha; rw [set_eq hbl] at e; cases e
   ·exact ⟨(isMap_of (set_ne h)).1 ha,fup_ne h⟩ }
 refine ⟨S.of T rfl b (fun c hc=>⟨set_ne hc,fup_ne hc⟩) (fun c hc s=>?_) (fun c hc s _=>?_) (fun z' cs' e hc'=>?_) (fun es e=>?_),T⟩
 ·exact get1 _ (S.lt s) fun s2 e=>hc (S.inj _ _ s s2 e)
 ·have:=S.lt s; show fup _ _ _ _ ≠ _; rw [fup_eq]; omega
 ·have e:=(set_eq hbl).symm.trans e
  cases e
  refine ⟨vs,?_,hv,?_,?_⟩ <;> dsimp only <;> rw [fup_eq]
  ·rw [← nx1]; exact get_new _ _
  ·show H1.n0 ≤ _; rw [n01]; exact S.wf
  ·intro q; exact absurd (S.fz _ q) (Nat.lt_irrefl _)
 ·have e:=(set_eq hbl).symm.trans e
  cases e
theorem StH.void {C:Cx} (S:StH C) (z:Nat) (W:Nat → Prop):StH ⟨C.F,C.H,C.φ,C.h ++ [.cells z []]⟩ ∧ Stp C.h.length W C ⟨C.F,C.H,C.φ,C.h ++ [.cells z []]⟩:=by
 have ns:¬ solid (C.h ++ [.cells z []]) C.h.length:=fun s=>by
  rcases solid_is s with ⟨es,e⟩ | ⟨z',cs,e,hc⟩
  ·rw [app_eq] at e; cases e
  ·rw [app_eq] at e; cases e; exact hc rfl
 have T:Stp C.h.length W C ⟨C.F,C.H,C.φ,C.h ++ [.cells z []]⟩:={
  n0:=rfl
  nx:=Nat.le_refl _
  fz:=fun x hx=>⟨hx,rfl⟩
  fo:=fun _ _ _ h=>h
  out:=fun x hx _=>rfl
  loc:=fun b hb=>by
   by_cases h:b = C.h.length
   ·subst h; exact absurd hb ns
   ·right; exact ⟨(solid_of (app_ne h)).1 hb,rfl⟩
  len:=fun _=>by simp
  le:=fun b hb _ t ht=>(Le_of (app_ne (by omega))).2 ht
  kat:=fun b hb _ t _ ha=>⟨(At_of (app_ne (by omega))).1 ha,rfl⟩
  kmp:=fun b hb _ ha=>⟨(isMap_of (app_ne (by omega))).1 ha,rfl⟩ }
 refine ⟨S.of T rfl C.h.length (fun b hb=>⟨app_ne hb,rfl⟩) (fun b hb s=>rfl) (fun b hb s s2=>absurd s2 ns) (fun z cs e hc=>?_) (fun es e=>?_),T⟩
 ·have e:=(app_eq _ _).symm.trans e; cases e; exact absurd rfl hc
 ·have e:=(app_eq _ _).symm.trans e; cases e
end Go.Proofs.YtoijnpfpjpefgaaGreat.A.P
/- A text without what this claim does not need: Pm2. -/
set_option linter.unusedVariables false
set_option linter.unusedSimpArgs false
namespace Go.Proofs.YtoijnpfpjpefgaaGreat.A.P
open Go Go.RowKit
def psp {α:Type}:List α → Nat → List α → List α
 | c,0,vs=>vs ++ c.drop vs.length
 | x :: c,k + 1,vs=>x :: psp c k vs
 | [],_ + 1,_=>[]
def ofV:Value → PV
 | .agg cs=>.agg (cs.toList.map .v)
 | x=>.v x
def pcells:PV → Option (List PV)
 | .agg cs=>some cs
 | .tup _=>none
 | .any=>none
 | .v (.agg cs)=>some (cs.toList.map .v)
 | .v (.tuple _)=>none
 | p=>some [p]
def fillP:List PV → List (Nat × Nat × PV) → Option (List PV)
 | c,[]=>some c
 | c,(off,n,p) :: l=>match pcells p with
  | some ds=>if ds.length = n ∧ off + n ≤ c.length then fillP (psp c off ds) l else none
  | none=>none
def ppick:PV → PV → PV → Option PV
 | .v (.bool t),a,b=>some (bif t then a else b)
 | _,_,_=>none
def pld (h:PH):PV → Option PV
 | .ref b o t=>match h[b]? with
  | some (.cells _ cs)=>if cs.length = t then cs[o]? else none
  | _=>none
 | .fp cells=>cells.head?
 | _=>none
def pldn (n:Nat) (h:PH):PV → Option PV
 | .ref b o t=>match h[b]? with
  | some (.cells _ cs)=>if cs.length = t ∧ o + n ≤ t ∧ 0 < t then some (.agg ((cs.drop o).take n)) else none
  | _=>none
 | .fp cells=>if n ≤ cells.length then some (.agg (cells.take n)) else none
 | _=>none
def pst (n:Nat) (h:PH):PV → PV → Option PH
 | .ref b o t,p=>match h[b]?,pcells p with
  | some (.cells z cs),some ds=>if cs.length = t ∧ o + n ≤ t ∧ 0 < t ∧ ds.length = n then some (h.set b (.cells z (psp cs o ds))) else none
  | _,_=>none
 | _,_=>none
def ptot (h:PH) (b:Nat):Option Nat:=match h[b]? with
 | some (.cells _ cs)=>some cs.length
 | _=>none
def pnilc (h:PH):PV → Option PV
 | .ref b o t=>if ptot h b = some t then some (.ref b o t) else none
 | .fp c=>some (.fp c)
 | _=>none
def pbin (op:BinOp):PV → PV → Option PV
 | .v x,.v y=>(abin op x y).map .v
 | _,_=>none
def nilK:Nat → Value → Bool
 | 1,.pointer none=>true
 | 2,.slice none _ _=>true
 | 3,.nilFunc=>true
 | 4,.map none=>true
 | _,_=>false
def peq1 (h:PH) (k:Nat) (p:PV) (y:Value):Option Bool :=
 match p with
 | .v x=>aeq k x y
 | .ref b _ t=>match h[b]? with
  | some (.cells _ cs)=>if cs.length = t ∧ k = 1 ∧ nilK 1 y = true then some false else none
  | _=>none
 | .fp _=>if k = 1 ∧ nilK 1 y = true then some false else none
 | .sl sz b o n c=>match h[b]? with
  | some (.cells _ cs)=>if (o + c) * sz = cs.length ∧ 0 < c ∧ k = 2 ∧ nilK 2 y = true then some false else none
  | _=>none
 | .fs _ rows=>if rows ≠ [] ∧ k = 2 ∧ nilK 2 y = true then some false else none
 | .fn _ _ _=>if k = 3 ∧ nilK 3 y = true then some false else none
 | .mp b=>match h[b]? with
  | some (.map _)=>if k = 4 ∧ nilK 4 y = true then some false else none
  | _=>none
 | _=>none
def peqb (h:PH) (k:Nat):PV → PV → Option Bool
 | p,.v y=>peq1 h k p y
 | _,_=>none
def pun (op:UnOp):PV → Option PV
 | .v x=>(aun op x).map .v
 | _=>none
def pcvi (k:IntKind):PV → Option PV
 | .v (.int _ n)=>some (.v (.int k (k.wrap n)))
 | _=>none
def pcvs:PV → Option PV
 | .v (.int _ n)=>some (.v (.string (Utf8.encode n)))
 | _=>none
def pfa (h:PH) (off:Nat):PV → Option PV
 | .ref b o t=>if ptot h b = some t then some (.ref b (o + off) t) else none
 | .fp cells=>if off ≤ cells.length then some (.fp (cells.drop off)) else none
 | _=>none
def pia (h:PH) (sz:Nat):PV → PV → Option PV
 | .sl sz' b o n c,.v (.int _ k)=>match h[b]? with
  | some (.cells _ cs)=>if sz' = sz ∧ (o + c) * sz = cs.length ∧ 0 < c ∧ 0 ≤ k ∧ k < n then some (.ref b ((o + k.toNat) * sz) cs.length) else none
  | _=>none
 | .fs sz' rows,.v (.int _ k)=>if sz' = sz ∧ 0 ≤ k ∧ k < rows.length then (match rows[k.toNat]? with | some r=>some (.fp r) | none=>none) else none
 | _,_=>none
def piaa (h:PH) (len sz:Nat):PV → PV → Option PV
 | .ref b o t,.v (.int _ k)=>if ptot h b = some t ∧ 0 ≤ k ∧ k < len then some (.ref b (o + k.toNat * sz) t) else none
 | .fp cells,.v (.int _ k)=>if 0 ≤ k ∧ k < len ∧ k.toNat * sz ≤ cells.length then some (.fp (cells.drop (k.toNat * sz))) else none
 | _,_=>none
def pix:PV → PV → Option PV
 | .v x,.v y=>(ixV x y).map .v
 | _,_=>none
def pext:PV → Nat → Option PV
 | .tup ps,i=>ps[i]?
 | _,_=>none
def plens:PV → Option PV
 | .v x=>(lensV x).map .v
 | _=>none
def pvalid (h:PH):PV → Bool
 | .sl sz b o _ c=>match h[b]? with
  | some (.cells _ cs)=>decide ((o + c) * sz = cs.length)
  | _=>false
 | _=>true
def plen:PV → Option Nat
 | .v (.slice none 0 0)=>some 0
 | .v (.string s)=>some s.size
 | .sl _ _ _ n _=>some n
 | .fs _ rows=>some rows.length
 | _=>none
def plenl (h:PH):PV → Option PV
 | .v x=>(lenlV x).map .v
 | .sl sz b o n c=>match h[b]? with
  | some (.cells _ cs)=>if (o + c) * sz = cs.length then some (.v (.int .i64 n)) else none
  | _=>none
 | .fs _ rows=>some (.v (.int .i64 rows.length))
 | _=>none
def pfind (k:Value):List (Value × PV) → Option (Option PV)
 | []=>some none
 | (k',p) :: es=>match veq? k k' with
  | some true=>some (some p)
  | some false=>pfind k es
  | none=>none
def pupd (k:Value) (p:PV):List (Value × PV) → Option (List (Value × PV))
 | []=>some [(k,p)]
 | (k',p') :: es=>match veq? k k' with
  | some true=>some ((k,p) :: es)
  | some false=>(pupd k p es).map fun l=>(k',p') :: l
  | none=>none
def plook (kk:Nat) (z:Value) (h:PH) (x k:PV) (ok:Bool):Option PV :=
 match x,k with
 | .v (.map none),.v kx=>if keyOk kk kx = true then some (bif ok then .tup [ofV z,.v (.bool false)] else ofV z) else none
 | .mp b,.v kx=>match h[b]? with
  | some (.map es)=>if keyOk kk kx = true then (match pfind kx es with
   | some (some p)=>some (bif ok then .tup [p,.v (.bool true)] else p)
   | some none=>some (bif ok then .tup [ofV z,.v (.bool false)] else ofV z)
   | none=>none) else none
  | _=>none
 | _,_=>none
def pmup (kk:Nat) (h:PH) (x k p:PV):Option PH :=
 match x,k with
 | .mp b,.v kx=>match h[b]? with
  | some (.map es)=>if keyOk kk kx = true ∧ (pcells p).isSome = true then (pupd kx p es).map fun es'=>h.set b (.map es') else none
  | _=>none
 | _,_=>none
def pvO:Option PV → Option (Option Value)
 | none=>some none
 | some (.v x)=>some (some x)
 | _=>none
def psl (sz:Nat) (h:PH) (x:PV) (lo hi mx:Option PV):Option (PV × PH) :=
 match pvO lo,pvO hi,pvO mx with
 | some lo,some hi,some mx=>match x with
  | .sl sz' b o n c=>match h[b]?,abounds n c lo hi mx with
   | some (.cells z cs),some (l,e,m)=>if sz' = sz ∧ 0 < sz ∧ z = sz ∧ (o + c) * sz = cs.length ∧ e ≤ m then
     (if c = 0 then some (x,h)
     else if m = l then (if mx = none then some (.fs sz [],h) else some (.sl sz h.length 0 0 0,h ++ [.cells sz []]))
     else if m = c then some (.sl sz b (o + l) (e - l) (c - l),h) else none) else none
   | _,_=>none
  | .fs sz' rows=>if sz' = sz ∧ 0 < sz then
    (match mx with
    | none=>match abounds rows.length rows.length lo hi none with
     | some (l,e,_)=>if e ≤ rows.length then some (.fs sz ((rows.take e).drop l),h) else none
     | none=>none
    | some m=>if abounds rows.length rows.length lo hi (some m) = some (0,0,0) then (match rows with
     | []=>some (.fs sz [],h)
     | _ :: _=>some (.sl sz h.length 0 0 0,h ++ [.cells sz []])) else none) else none
  | .v (.slice none 0 0)=>if 0 < sz ∧ (abounds 0 0 lo hi mx).isSome = true then some (x,h) else none
  | .v (.string s)=>match mx with
   | some _=>none
   | none=>match abounds s.size s.size lo hi none with
    | some (l,e,_)=>if sz = 0 then some (.v (.string (s.extract l e)),h) else none
    | none=>none
  | _=>none
 | _,_,_=>none
def pfirst (h:PH) (sz k:Nat):PV → Option (List PV)
 | .sl sz' b o n c=>match h[b]? with
  | some (.cells _ cs)=>if sz' = sz ∧ (o + c) * sz = cs.length ∧ k ≤ n ∧ n ≤ c then some ((cs.drop (o * sz)).take (k * sz)) else none
  | _=>none
 | .fs sz' rows=>if sz' = sz ∧ k ≤ rows.length then some (rows.take k).flatten else none
 | .v (.string s)=>if sz = 1 then some ((s.extract 0 k).data.toList.map fun b=>.v (.int .u8 b.toNat)) else none
 | .v (.slice none 0 0)=>if k = 0 then some [] else none
 | _=>none
def papp (sz bytes:Nat) (h:PH) (s x:PV):Option (PV × PH) :=
 match plen x with
 | none=>none
 | some k =>
  if k = 0 then (if pvalid h x = true then match s with
   | .v (.slice none 0 0)=>some (s,h)
   | .sl sz' b o n c=>match h[b]? with
    | some (.cells _ cs)=>if (o + c) * sz' = cs.length ∧ n ≤ c then some (s,h) else none
    | _=>none
   | .fs _ _=>some (s,h)
   | _=>none
   else none)
  else match pfirst h sz k x with
  | none=>none
  | some new=>match s with
   | .v (.slice none 0 0)=>if 0 < sz ∧ k * bytes ≤ 2 ^ 47 ∧ k < 2 ^ 62 then some (.sl sz h.length 0 k k,h ++ [.cells sz new]) else none
   | .sl sz' b o n c=>match h[b]? with
    | some (.cells z cs)=>if sz' = sz ∧ z = sz ∧ 0 < sz ∧ (o + c) * sz = cs.length ∧ n ≤ c ∧ (n + k) * bytes ≤ 2 ^ 47 ∧ n + k < 2 ^ 62 then
      (if c = 0 then (if o = 0 then some (.sl sz b 0 k k,h.set b (.cells sz new)) else none)
      else if n + k ≤ c then some (.sl sz b o (n + k) c,h.set b (.cells sz (psp cs ((o + n) * sz) new)))
      else if o = 0 then some (.sl sz b 0 (n + k) (n + k),h.set b (.cells sz (cs.take (n * sz) ++ new))) else none)
      else none
    | _=>none
   | _=>none
def pcopy (sz:Nat) (h:PH) (d s:PV):Option (PV × PH) :=
 match (bif pvalid h s then plen s else none) with
 | none=>none
 | some m=>match d with
  | .v (.slice none 0 0)=>some (.v (.int .i64 0),h)
  | .sl sz' b o n c=>match h[b]? with
   | some (.cells z cs)=>if sz' = sz ∧ 0 < sz ∧ (o + c) * sz = cs.length ∧ n ≤ c then
     (if Nat.min m n = 0 then some (.v (.int .i64 0),h)
     else match pfirst h sz (Nat.min m n) s with
      | some new=>some (.v (.int .i64 (Nat.min m n)),h.set b (.cells z (psp cs (o * sz) new)))
      | none=>none) else none
   | _=>none
  | _=>none
def pmksl (sz bytes:Nat) (z:List Value) (h:PH):PV → Option (PV × PH)
 | .v (.int _ n)=>if 0 ≤ n ∧ IntKind.i64.wrap n = n ∧ bytes * n ≤ 2 ^ 47 ∧ z.length = sz ∧ 0 < sz then some (.sl sz h.length 0 n.toNat n.toNat,h ++ [.cells sz (List.replicate n.toNat (z.map .v)).flatten]) else none
 | _=>none
def pbsl (len sz:Nat) (z:List Value) (h:PH) (ps:List (Nat × Nat × PV)):Option (PV × PH) :=
 match fillP (z.map .v) ps with
 | some c=>if c.length = len * sz ∧ 0 < sz then some (.sl sz h.length 0 len len,h ++ [.cells sz c]) else none
 | none=>none
def pvs:List PV → Option (List Value)
 | []=>some []
 | .v x :: l=>(pvs l).map fun m=>x :: m
 | _=>none
def pmx (f:Value → List Value → Option Value) (x:PV) (l:List PV):Option PV :=
 match x,pvs l with
 | .v x,some l=>(f x l).map .v
 | _,_=>none
def peqC (cs ds:List PV):List (Nat × Nat) → Option Bool
 | []=>some true
 | (o,kk) :: l=>match cs[o]?,ds[o]? with
  | some (.v a),some (.v b)=>if keyOk kk a = true then (match veq? a b with
   | some true=>peqC cs ds l
   | some false=>some false
   | none=>none) else none
  | _,_=>none
def peqs (neg:Bool) (offs:List (Nat × Nat)):PV → PV → Option PV
 | .agg cs,.agg ds=>(peqC cs ds offs).map fun b=>.v (.bool (bif neg then !b else b))
 | _,_=>none
def pbox (h:PH) (p:PV):Option (PV × PH) :=
 match pcells p with
 | some cs=>some (.ref h.length 0 cs.length,h ++ [.cells cs.length cs])
 | none=>none
def pop (p:AOp) (ρ:X → PV) (h:PH):Option (PV × PH) :=
 match p with
 | .mv x=>some (ρ x,h)
 | .pick c a b=>(ppick (ρ c) (ρ a) (ρ b)).map fun v=>(v,h)
 | .alloc z=>some (.ref h.length 0 z.length,h ++ [.cells z.length (z.map .v)])
 | .box x=>pbox h (ρ x)
 | .build z ps=>(fillP (z.map .v) (ps.map fun p=>(p.1,p.2.1,ρ p.2.2))).map fun c=>(.agg c,h)
 | .bsl len sz z ps=>pbsl len sz z h (ps.map fun p=>(p.1,p.2.1,ρ p.2.2))
 | .ld x=>(pld h (ρ x)).map fun v=>(v,h)
 | .ldn n x=>(pldn n h (ρ x)).map fun v=>(v,h)
 | .st n x v=>(pst n h (ρ x) (ρ v)).map fun h'=>(.v undef,h')
 | .nilc x=>(pnilc h (ρ x)).map fun v=>(v,h)
 | .bin op x y=>(pbin op (ρ x) (ρ y)).map fun v=>(v,h)
 | .eqk k neg x y=>(peqb h k (ρ x) (ρ y)).map fun b=>(.v (.bool (bif neg then !b else b)),h)
 | .un op x=>(pun op (ρ x)).map fun v=>(v,h)
 | .cvi k x=>(pcvi k (ρ x)).map fun v=>(v,h)
 | .cvs x=>(pcvs (ρ x)).map fun v=>(v,h)
 | .mkf f first cap=>some (.fn f (first.map ρ) (cap.map ρ),h)
 | .mkmap=>some (.mp h.length,h ++ [.map []])
 | .mksl sz bytes z x=>pmksl sz bytes z h (ρ x)
 | .sl sz x lo hi mx=>psl sz h (ρ x) (lo.map ρ) (hi.map ρ) (mx.map ρ)
 | .fa off x=>(pfa h off (ρ x)).map fun v=>(v,h)
 | .ia sz x i=>(pia h sz (ρ x) (ρ i)).map fun v=>(v,h)
 | .iaa len sz x i=>(piaa h len sz (ρ x) (ρ i)).map fun v=>(v,h)
 | .ix x i=>(pix (ρ x) (ρ i)).map fun v=>(v,h)
 | .look kk z x k ok=>(plook kk z h (ρ x) (ρ k) ok).map fun v=>(v,h)
 | .mup kk x k v=>(pmup kk h (ρ x) (ρ k) (ρ v)).map fun h'=>(.v undef,h')
 | .ext x i=>(pext (ρ x) i).map fun v=>(v,h)
 | .call _ _=>none
 | .callv _ _=>none
 | .app sz bytes s x=>papp sz bytes h (ρ s) (ρ x)
 | .copy sz d s=>pcopy sz h (ρ d) (ρ s)
 | .lens x=>(plens (ρ x)).map fun v=>(v,h)
 | .lenl x=>(plenl h (ρ x)).map fun v=>(v,h)
 | .mki t x=>some (.ifc t (ρ x),h)
 | .mxl x l=>(pmx mxA (ρ x) (l.map ρ)).map fun v=>(v,h)
 | .mnl x l=>(pmx mnA (ρ x) (l.map ρ)).map fun v=>(v,h)
 | .eqs neg offs x y=>(peqs neg offs (ρ x) (ρ y)).map fun v=>(v,h)
def pwr (p:AOp) (ρ:X → PV):List Nat :=
 match p with
 | .st _ x _=>match ρ x with | .ref b _ _=>[b] | _=>[]
 | .app _ _ s _=>match ρ s with | .sl _ b _ _ _=>[b] | _=>[]
 | .copy _ d _=>match ρ d with | .sl _ b _ _ _=>[b] | _=>[]
 | .mup _ x _ _=>match ρ x with | .mp b=>[b] | _=>[]
 | _=>[]
end Go.Proofs.YtoijnpfpjpefgaaGreat.A.P
/- A text without what this claim does not need: Pm3. -/
set_option linter.unusedVariables false
set_option linter.unusedSimpArgs false
namespace Go.Proofs.YtoijnpfpjpefgaaGreat.A.P
open Go Go.RowKit
def Sim (C:Cx) (W:Nat → Prop) (r:Option (Value × AH)) (p:PV) (h':PH):Prop:=∃ x H' φ',r = some (x,H') ∧ RV ⟨C.F,H',φ',h'⟩ p x ∧ StH ⟨C.F,H',φ',h'⟩ ∧ Stp C.h.length W C ⟨C.F,H',φ',h'⟩
theorem Sim.val {C:Cx} {W:Nat → Prop} (S:StH C) {r:Option (Value × AH)} {p:PV} {x:Value} (k:RV C p x) (e:r = some (x,C.H)):Sim C W r p C.h:=⟨x,C.H,C.φ,e,k,S,Stp.refl _ _ _⟩
variable {C:Cx} {W:Nat → Prop}
theorem RV.toV {x y:Value} (h:RV C (.v x) y):y = x:=by cases h; rfl
theorem rv_ofV (x:Value):RV C (ofV x) x:=by
 cases x with
 | agg cs=>exact .agg (xs:=cs.toList) (RVs.lits _)
 | _=>exact .v _
theorem one_is {x:Value} (h:one x = true):vcells x = [x] ∧ isTup x = false:=by
 cases x <;> first
  | exact ⟨rfl,rfl⟩
  | (simp [one] at h)
theorem rvs_cells {p:PV} {x:Value} {cs:List PV} (h:RV C p x) (k:pcells p = some cs):RVs C cs (vcells x) ∧ isTup x = false:=by
 have go:∀ {p:PV} {x:Value},RV C p x → (smV x = true ∨ one x = true) → RVs C [p] (vcells x) ∧ isTup x = false:=by
  intro p x h ho
  obtain ⟨a,b⟩:vcells x = [x] ∧ isTup x = false:=by
   rcases ho with ho | ho
   ·cases x <;> first | exact ⟨rfl,rfl⟩ | (simp [smV] at ho)
   ·exact one_is ho
  rw [a]
  exact ⟨.cons h .nil,b⟩
 cases p with
 | v x =>
  cases h
  cases x with
  | agg cs'=>simp only [pcells,Option.some.injEq] at k; subst k; exact ⟨RVs.lits _,rfl⟩
  | tuple=>simp [pcells] at k
  | _=>simp only [pcells,Option.some.injEq] at k; subst k; exact ⟨.cons (.v _) .nil,rfl⟩
 | agg=>cases h with | agg q=>simp only [pcells,Option.some.injEq] at k; subst k; exact ⟨by simpa [vcells] using q,rfl⟩
 | tup=>simp [pcells] at k
 | any=>simp [pcells] at k
 | ref=>simp only [pcells,Option.some.injEq] at k; subst k; exact go h (by cases h; left; assumption)
 | sl=>simp only [pcells,Option.some.injEq] at k; subst k; exact go h (by cases h; left; assumption)
 | mp=>simp only [pcells,Option.some.injEq] at k; subst k; exact go h (by cases h; left; assumption)
 | fs=>simp only [pcells,Option.some.injEq] at k; subst k; exact go h (by cases h with | fs q=>cases q; exact .inr rfl)
 | fp=>simp only [pcells,Option.some.injEq] at k; subst k; exact go h (by cases h; exact .inr rfl)
 | fn=>simp only [pcells,Option.some.injEq] at k; subst k; exact go h (by cases h; exact .inr rfl)
 | ifc=>simp only [pcells,Option.some.injEq] at k; subst k; exact go h (by cases h; exact .inr rfl)
theorem RVs.psp {cs:List PV} {xs:List Value} (h:RVs C cs xs):∀ {k:Nat} {ds:List PV} {ys:List Value},RVs C ds ys → RVs C (psp cs k ds) (splice xs k ys):=by
 have z:∀ (xs ys:List Value),splice xs 0 ys = ys ++ xs.drop ys.length:=fun xs ys=>by cases xs <;> rfl
 have z':∀ (xs ys:List PV),P.psp xs 0 ys = ys ++ xs.drop ys.length:=fun xs ys=>by cases xs <;> rfl
 intro k
 induction k generalizing cs xs with
 | zero =>
  intro ds ys q
  rw [z,z',q.length]
  exact q.append (h.drop _)
 | succ k ih =>
  intro ds ys q
  cases h with
  | nil=>exact .nil
  | cons a b=>exact .cons a (ih b q)
theorem psp_length {α:Type}:∀ {c:List α} {k:Nat} {vs:List α},k + vs.length ≤ c.length → (psp c k vs).length = c.length
 | c,0,vs,h=>by
  have:psp c 0 vs = vs ++ c.drop vs.length:=by cases c <;> rfl
  rw [this]; simp; omega
 | [],k + 1,vs,h=>by simp at h
 | x :: c,k + 1,vs,h=>by
  have:=psp_length (c:=c) (k:=k) (vs:=vs) (by simp at h; omega)
  simp [psp,this]
inductive RPs (C:Cx):List (Nat × Nat × PV) → List (Nat × Nat × Value) → Prop
 | nil:RPs C [] []
 | cons {o n:Nat} {p:PV} {x:Value} {l:List (Nat × Nat × PV)} {m:List (Nat × Nat × Value)}:RV C p x → RPs C l m → RPs C ((o,n,p) :: l) ((o,n,x) :: m)
theorem RPs.of {ρp:X → PV} {ρ:X → Value} (h:∀ x,RV C (ρp x) (ρ x)):∀ (ps:List (Nat × Nat × X)),RPs C (ps.map fun p=>(p.1,p.2.1,ρp p.2.2)) (ps.map fun p=>(p.1,p.2.1,ρ p.2.2))
 | []=>.nil
 | p :: ps=>.cons (h _) (RPs.of h ps)
theorem RVs.of {ρp:X → PV} {ρ:X → Value} (h:∀ x,RV C (ρp x) (ρ x)):∀ (l:List X),RVs C (l.map ρp) (l.map ρ)
 | []=>.nil
 | p :: ps=>.cons (h _) (RVs.of h ps)
theorem fill_ok {ps:List (Nat × Nat × PV)} {qs:List (Nat × Nat × Value)} (hp:RPs C ps qs):∀ {c d:List PV} {xs:List Value},RVs C c xs → fillP c ps = some d → ∃ ys,fillA xs qs = some ys ∧ RVs C d ys:=by
 induction hp with
 | nil=>intro c d xs h k; simp only [fillP,Option.some.injEq] at k; subst k; exact ⟨xs,rfl,h⟩
 | @cons o n p x l m hx _ ih =>
  intro c d xs h k
  simp only [fillP] at k
  cases hc:pcells p with
  | none=>simp [hc] at k
  | some ds =>
   simp only [hc] at k
   split at k
   case isFalse=>cases k
   rename_i hl
   obtain ⟨a,b⟩:=rvs_cells hx hc
   obtain ⟨ys,e,q⟩:=ih (h.psp a) k
   refine ⟨ys,?_,q⟩
   simp only [fillA,nb]
   rw [← a.length,← h.length,b]
   simp [hl.1,hl.2,e]
theorem StH.cells (S:StH C) {b z t:Nat} {cs:List PV} (e:C.h[b]? = some (.cells z cs)) (ht:0 < cs.length):∃ vs,C.H.get (C.φ b) = some (.cells z vs) ∧ RVs C cs vs ∧ C.H.n0 ≤ C.φ b:=by
 obtain ⟨vs,a,b,c,_⟩:=S.blk _ _ _ e (List.length_pos_iff.1 ht)
 exact ⟨vs,a,b,c⟩
theorem ld_ok (S:StH C) {p q:PV} {x:Value} (h:RV C p x) (k:pld C.h p = some q):∃ y,ldV C.H x = some y ∧ RV C q y:=by
 cases h with
 | @ref b o t x _ hb hl ha =>
  simp only [pld] at k
  cases e:C.h[b]? with
  | none=>simp [e] at k
  | some B =>
   cases B with
   | cells z cs =>
    simp only [e] at k
    split at k
    case isFalse=>cases k
    rename_i ht
    obtain ⟨vs,hg,hv,h0⟩:=S.cells (t:=t) e (by have:=(List.getElem?_eq_some_iff.1 k).1; omega)
    obtain ⟨y,hy,hr⟩:=hv.get k
    rw [ha ⟨z,cs,e,ht⟩]
    exact ⟨y,ld_get hg h0 hy,hr⟩
   | map=>simp [e] at k
   | dead=>simp [e] at k
 | @fp cells b o vs hf hl hc =>
  simp only [pld] at k
  cases hc with
  | nil=>simp at k
  | @cons p' x' ps xs a b' =>
   simp only [List.head?_cons,Option.some.injEq] at k
   subst k
   refine ⟨x',?_,a.toV⟩
   have:=ld_of_ldn hl (j:=0) (v:=x') rfl
   simpa using this
 | _=>simp [pld] at k
theorem cleanL_take {n0:Nat}:∀ {l vs:List Value},cleanL n0 l = some vs → ∀ n,cleanL n0 (l.take n) = some (vs.take n)
 | [],vs,h,n=>by simp [cleanL] at h; subst h; simp [cleanL]
 | y :: l,vs,h,n=>by
  simp only [cleanL] at h
  split at h
  case h_2=>cases h
  rename_i y' m' hy hm
  cases h
  cases n with
  | zero=>simp [cleanL]
  | succ n=>simp [cleanL,hy,cleanL_take hm n]
theorem cleanL_drop {n0:Nat}:∀ {l vs:List Value},cleanL n0 l = some vs → ∀ n,cleanL n0 (l.drop n) = some (vs.drop n)
 | [],vs,h,n=>by simp [cleanL] at h; subst h; simp [cleanL]
 | y :: l,vs,h,n=>by
  have h':=h
  simp only [cleanL] at h
  split at h
  case h_2=>cases h
  rename_i y' m' hy hm
  cases h
  cases n with
  | zero=>simpa using h'
  | succ n=>simpa using cleanL_drop hm n
theorem ldn_ok (S:StH C) {n:Nat} {p q:PV} {x:Value} (h:RV C p x) (k:pldn n C.h p = some q):∃ y,ldnV n C.H x = some y ∧ RV C q y:=by
 cases h with
 | @ref b o t x _ hb hl ha =>
  simp only [pldn] at k
  cases e:C.h[b]? with
  | none=>simp [e] at k
  | some B =>
   cases B with
   | cells z cs =>
    simp only [e] at k
    split at k
    case isFalse=>cases k
    rename_i ht
    cases k
    obtain ⟨vs,hg,hv,h0⟩:=S.cells (t:=t) e (by omega)
    rw [ha ⟨z,cs,e,ht.1⟩]
    refine ⟨.agg ((vs.drop o).take n).toArray,?_,.agg ((hv.drop o).take n)⟩
    simp only [ldnV]
    rw [ldn_get hg h0 (by have:=hv.length; omega)]
    rfl
   | map=>simp [e] at k
   | dead=>simp [e] at k
 | @fp cells b o vs hf hl hc =>
  simp only [pldn] at k
  split at k
  case isFalse=>cases k
  rename_i hn
  cases k
  refine ⟨.agg (vs.take n).toArray,?_,.agg ((hc.take n).toV)⟩
  simp only [ldnV]
  have:C.H.ldn ⟨b,o,none⟩ n = some (vs.take n):=by
   unfold AH.ldn at hl ⊢
   dsimp only at hl ⊢
   cases hg:C.H.get b with
   | none=>simp [hg] at hl
   | some B =>
    cases B with
    | map=>simp [hg] at hl
    | cells z c =>
     simp only [hg] at hl ⊢
     obtain ⟨h1,hl⟩:=bif_some hl
     simp only [decide_eq_true_eq] at h1
     rw [show decide (o + n ≤ c.length) = true by simp; omega,cond_true]
     have e:(c.drop o).take n = ((c.drop o).take cells.length).take n:=by rw [List.take_take,Nat.min_eq_left hn]
     cases hd:decide (b < C.H.n0) with
     | false =>
      rw [hd] at hl
      simp only [cond_false,Option.some.injEq] at hl ⊢
      rw [e,hl]
     | true =>
      rw [hd] at hl
      simp only [cond_true] at hl ⊢
      rw [e]
      exact cleanL_take hl n
  rw [this]
  rfl
 | _=>simp [pldn] at k
theorem ldn_drop {H:AH} {b o n k:Nat} {vs:List Value} (h:H.ldn ⟨b,o,none⟩ n = some vs) (hk:k ≤ n):H.ldn ⟨b,o + k,none⟩ (n - k) = some (vs.drop k):=by
 unfold AH.ldn at h ⊢
 dsimp only at h ⊢
 cases hg:H.get b with
 | none=>simp [hg] at h
 | some B =>
  cases B with
  | map=>simp [hg] at h
  | cells z c =>
   simp only [hg] at h ⊢
   obtain ⟨h1,h⟩:=bif_some h
   simp only [decide_eq_true_eq] at h1
   rw [show decide (o + k + (n - k) ≤ c.length) = true by simp; omega,cond_true]
   have e:(c.drop (o + k)).take (n - k) = ((c.drop o).take n).drop k:=by rw [List.drop_take,List.drop_drop]
   rw [e]
   cases hd:decide (b < H.n0) with
   | false=>rw [hd] at h; simp only [cond_false,Option.some.injEq] at h ⊢; rw [h]
   | true=>rw [hd] at h; simp only [cond_true] at h ⊢; exact cleanL_drop h k
theorem cellsOf {p:PV} {cs:List PV} {x:Value} (h:RV C p x) (hc:pcells p = some cs):∃ ys,vcells x = ys ∧ isTup x = false ∧ RVs C cs ys:=⟨_,rfl,(rvs_cells h hc).2,(rvs_cells h hc).1⟩
theorem st_ok (S:StH C) {n:Nat} {p q:PV} {x y:Value} {h':PH} (h:RV C p x) (g:RV C q y) (k:pst n C.h p q = some h') (hW:∀ b o t,p = .ref b o t → W b):∃ H',stV n C.H x y = some H' ∧ StH ⟨C.F,H',C.φ,h'⟩ ∧ Stp C.h.length W C ⟨C.F,H',C.φ,h'⟩:=by
 cases h with
 | @ref b o t x _ hb hl ha =>
  simp only [pst] at k
  cases e:C.h[b]? with
  | none=>simp [e] at k
  | some B =>
   cases B with
   | cells z cs =>
    cases hc:pcells q with
    | none=>simp [e,hc] at k
    | some ds =>
     simp only [e,hc] at k
     split at k
     case isFalse=>cases k
     rename_i ht
     cases k
     obtain ⟨vs,hg,hv,h0⟩:=S.cells (t:=t) e (by omega)
     obtain ⟨a1,a2⟩:=rvs_cells g hc
     have hlen:=a1.length
     have hvl:=hv.length
     obtain ⟨A,B⟩:=S.put (W:=W) (hW _ _ _ rfl) e (by intro q; subst q; simp at ht; omega) (psp_length (by omega)) (hv.psp (k:=o) a1)
     rw [ha ⟨z,cs,e,ht.1⟩]
     refine ⟨_,?_,A,B⟩
     rw [stV_p,if_pos ⟨by omega,a2⟩]
     unfold AH.st
     simp only [hg]
     rw [show decide (C.H.n0 ≤ C.φ b) = true by simp [h0],show decide (o + (vcells y).length ≤ vs.length) = true by simp; omega]
     rfl
   | map=>simp [e] at k
   | dead=>simp [e] at k
 | _=>simp [pst] at k
theorem nilK_is {k:Nat} {y:Value} (h:nilK k y = true):(k = 1 ∧ y = .pointer none) ∨ (k = 2 ∧ ∃ n c,y = .slice none n c) ∨ (k = 3 ∧ y = .nilFunc) ∨ (k = 4 ∧ y = .map none):=by
 unfold nilK at h
 split at h <;> simp_all
theorem peqb_ok {k:Nat} {p q:PV} {x y:Value} {r:Bool} (h:RV C p x) (g:RV C q y) (e:peqb C.h k p q = some r):aeq k x y = some r:=by
 cases q with
 | v z =>
  cases g
  replace e:peq1 C.h k p y = some r:=e
  unfold peq1 at e
  cases p with
  | v w=>cases h; exact e
  | ref b o t =>
   cases h with | ref _ hb hl ha =>
   dsimp only at e
   split at e
   case h_2=>cases e
   rename_i z' cs hh
   split at e
   case isFalse=>cases e
   rename_i hc
   cases e
   rw [ha ⟨z',cs,hh,hc.1⟩,hc.2.1]
   rcases nilK_is hc.2.2 with ⟨a,rfl⟩ | ⟨a,_⟩ | ⟨a,_⟩ | ⟨a,_⟩ <;> first | rfl | cases a
  | fp cells =>
   cases h
   dsimp only at e
   split at e
   case isFalse=>cases e
   rename_i hc
   cases e
   rw [hc.1]
   rcases nilK_is hc.2 with ⟨a,rfl⟩ | ⟨a,_⟩ | ⟨a,_⟩ | ⟨a,_⟩ <;> first | rfl | cases a
  | sl sz b o n c =>
   cases h with | sl _ hb hl ha =>
   dsimp only at e
   split at e
   case h_2=>cases e
   rename_i z' cs hh
   split at e
   case isFalse=>cases e
   rename_i hc
   cases e
   rw [hc.2.2.1]
   rcases ha ⟨z',cs,hh,hc.1.symm⟩ with ⟨a,_⟩ | ⟨_,rfl⟩
   ·omega
   ·rcases nilK_is hc.2.2.2 with ⟨a,_⟩ | ⟨a,n',c',rfl⟩ | ⟨a,_⟩ | ⟨a,_⟩ <;> first | rfl | cases a
  | fs sz rows =>
   cases h with | fs q =>
   dsimp only at e
   split at e
   case isFalse=>cases e
   rename_i hc
   cases e
   rw [hc.2.1]
   cases q with | @fs _ _ a c rs hr hl hk hrr =>
   obtain ⟨a',c',e1,e2⟩:=hr.is
   simp only [Value.slice.injEq] at e1
   obtain ⟨rfl,_,rfl⟩:=e1
   have:0 < rs.length:=by rw [← hrr.length]; exact List.length_pos_iff.2 hc.1
   obtain ⟨b,o,rfl,_⟩:=e2 0 _ (List.getElem?_eq_getElem this)
   rcases nilK_is hc.2.2 with ⟨a,_⟩ | ⟨a,n',c',rfl⟩ | ⟨a,_⟩ | ⟨a,_⟩ <;> first | rfl | cases a
  | fn f a b =>
   cases h
   dsimp only at e
   split at e
   case isFalse=>cases e
   rename_i hc
   cases e
   rw [hc.1]
   rcases nilK_is hc.2 with ⟨a,_⟩ | ⟨a,_⟩ | ⟨a,rfl⟩ | ⟨a,_⟩ <;> first | rfl | cases a
  | mp b =>
   cases h with | mp _ hb ha =>
   dsimp only at e
   split at e
   case h_2=>cases e
   rename_i es hh
   split at e
   case isFalse=>cases e
   rename_i hc
   cases e
   rw [hc.1,ha ⟨es,hh⟩]
   rcases nilK_is hc.2 with ⟨a,_⟩ | ⟨a,_⟩ | ⟨a,_⟩ | ⟨a,rfl⟩ <;> first | rfl | cases a
  | _=>cases e
 | _=>cases e
theorem ref_at {b o t:Nat} {x:Value} (h:RV C (.ref b o t) x) (k:ptot C.h b = some t):x = .pointer (some ⟨C.φ b,o,none⟩):=by
 cases h with | ref _ hb hl ha =>
 unfold ptot at k
 split at k
 case h_2=>cases k
 rename_i z cs hh
 cases k
 exact ha ⟨z,cs,hh,rfl⟩
theorem RV.refT {b o o' t:Nat} {x:Value} (h:RV C (.ref b o t) x):RV C (.ref b o' t) (.pointer (some ⟨C.φ b,o',none⟩)):=by
 cases h with | ref _ hb hl ha=>exact .ref rfl hb hl fun _=>rfl
theorem fp_drop {cells:List PV} {b o k:Nat} (hk:k ≤ cells.length) (h:RV C (.fp cells) (.pointer (some ⟨b,o,none⟩))):RV C (.fp (cells.drop k)) (.pointer (some ⟨b,o + k,none⟩)):=by
 cases h with | fp hf hl hc =>
 refine .fp hf ?_ (hc.drop k)
 rw [List.length_drop]
 exact ldn_drop hl hk
theorem fa_ok {off:Nat} {p q:PV} {x:Value} (h:RV C p x) (k:pfa C.h off p = some q):∃ y,faV off x = some y ∧ RV C q y:=by
 cases p with
 | ref b o t =>
  simp only [pfa] at k
  split at k
  case isFalse=>cases k
  rename_i ht
  cases k
  rw [ref_at h ht]
  exact ⟨_,rfl,h.refT⟩
 | fp cells =>
  simp only [pfa] at k
  split at k
  case isFalse=>cases k
  rename_i ht
  cases k
  have h':=h
  cases h with | fp hf hl hc =>
  exact ⟨_,rfl,fp_drop ht h'⟩
 | _=>cases k
theorem nilc_ok {p q:PV} {x:Value} (h:RV C p x) (k:pnilc C.h p = some q):nilcV x = some x ∧ RV C q x:=by
 cases p with
 | ref b o t =>
  simp only [pnilc] at k
  split at k
  case isFalse=>cases k
  rename_i ht
  cases k
  refine ⟨?_,h⟩
  rw [ref_at h ht]
  rfl
 | fp cells =>
  cases k
  exact ⟨by cases h; rfl,h⟩
 | _=>cases k
theorem iaa_ok {len sz:Nat} {p q r:PV} {x y:Value} (h:RV C p x) (g:RV C q y) (k:piaa C.h len sz p q = some r):∃ z,iaaV len sz x y = some z ∧ RV C r z:=by
 unfold piaa at k
 split at k
 ·rename_i b o t kk n
  cases g
  split at k
  case isFalse=>cases k
  rename_i ht
  cases k
  rw [ref_at h ht.1]
  refine ⟨_,?_,h.refT⟩
  rw [iaaV_p,if_pos ⟨ht.2.1,ht.2.2⟩]
 ·rename_i cells kk n
  cases g
  split at k
  case isFalse=>cases k
  rename_i ht
  cases k
  have h':=h
  cases h with | fp hf hl hc =>
  refine ⟨_,?_,fp_drop ht.2.2 h'⟩
  rw [iaaV_p,if_pos ⟨ht.1,ht.2.1⟩]
 ·cases k
theorem ia_ok {sz:Nat} {p q r:PV} {x y:Value} (h:RV C p x) (g:RV C q y) (k:pia C.h sz p q = some r):∃ z,iaV sz x y = some z ∧ RV C r z:=by
 unfold pia at k
 split at k
 ·rename_i sz' b o n c kk m
  cases g
  split at k
  case h_2=>cases k
  rename_i z' cs hh
  split at k
  case isFalse=>cases k
  rename_i hc
  cases k
  obtain ⟨rfl,h1,h2,h3,h4⟩:=hc
  cases h with | sl h1' hb hl ha =>
  rcases ha ⟨z',cs,hh,h1.symm⟩ with ⟨a,_⟩ | ⟨_,rfl⟩
  ·omega
  ·refine ⟨_,by rw [iaV_p,if_pos ⟨h3,h4⟩],?_⟩
   rw [← Nat.add_mul]
   exact .ref rfl hb (by rw [← h1]; exact hl) fun _=>rfl
 ·rename_i sz' rows kk m
  cases g
  split at k
  case isFalse=>cases k
  rename_i hc
  obtain ⟨rfl,h1,h2⟩:=hc
  split at k
  case h_2=>cases k
  rename_i r' hr
  cases k
  cases h with | fs q =>
  cases q with | @fs _ _ a c rs hr' hl hk hrr =>
  obtain ⟨xr,hx,hxr⟩:=hrr.get hr
  obtain ⟨a',c',e,hrow⟩:=hr'.is
  simp only [Value.slice.injEq] at e
  obtain ⟨rfl,_,rfl⟩:=e
  obtain ⟨b,o,rfl,hld⟩:=hrow _ _ hx
  have hlt:=(List.getElem?_eq_some_iff.1 hr).1
  refine ⟨_,by rw [iaV_p,if_pos ⟨h1,h2⟩],?_⟩
  refine .fp ?_ ?_ hxr
  ·rcases (hk _ rfl).2 with h0 | h0
   ·omega
   ·exact h0.1
  ·rw [hxr.length,(ldn_some hld).2]
   exact hld
 ·cases k
theorem at_valid {h:PH} {sz b o n c:Nat} (k:pvalid h (.sl sz b o n c) = true):At h b ((o + c) * sz):=by
 unfold pvalid at k
 dsimp only at k
 split at k
 ·rename_i z cs e; exact ⟨z,cs,e,by simpa using (of_decide_eq_true k).symm⟩
 ·cases k
theorem len_ok {p:PV} {x:Value} {n:Nat} (h:RV C p x) (k:plen p = some n) (hv:pvalid C.h p = true):lenA x = some n:=by
 unfold plen at k
 split at k
 ·cases h; cases k; rfl
 ·cases h; cases k; rfl
 ·cases k
  cases h with | sl _ hb hl ha =>
  rcases ha (at_valid hv) with ⟨_,rfl,d,rfl,_⟩ | ⟨_,rfl⟩ <;> rfl
 ·cases k
  cases h with | fs q=>cases q; rfl
 ·cases k
end Go.Proofs.YtoijnpfpjpefgaaGreat.A.P
/- A text without what this claim does not need: Pm4. -/
set_option linter.unusedVariables false
set_option linter.unusedSimpArgs false
namespace Go.Proofs.YtoijnpfpjpefgaaGreat.A.P
open Go Go.RowKit
variable {C:Cx} {W:Nat → Prop}
theorem sl_at {sz b o n c:Nat} {x:Value} (h:RV C (.sl sz b o n c) x) {z:Nat} {cs:List PV} (e:C.h[b]? = some (.cells z cs)) (ht:(o + c) * sz = cs.length):slV (C.φ b) sz o n c x:=by
 cases h with | sl _ hb hl ha=>exact ha ⟨z,cs,e,ht.symm⟩
theorem RV.slT {sz b o n c o' n' c':Nat} {x y:Value} (h:RV C (.sl sz b o n c) x) (e:o' + c' = o + c) (ho:smV y = true) (k:slV (C.φ b) sz o' n' c' y):RV C (.sl sz b o' n' c') y:=by
 cases h with | sl _ hb hl ha=>exact .sl ho hb (by rw [e]; exact hl) fun _=>k
theorem strs_ok:∀ (l:List UInt8),RVs C (l.map fun b=>.v (.int .u8 b.toNat)) (l.map fun b=>.int .u8 b.toNat)
 | []=>.nil
 | b :: l=>.cons (.v _) (strs_ok l)
theorem first_ok (S:StH C) {sz m:Nat} {p:PV} {x:Value} {new:List PV} (h:RV C p x) (k:pfirst C.h sz m p = some new) (hm:0 < m) (hz:0 < sz) :
  ∃ ys,firstA C.H sz m x = some ys ∧ RVs C new ys ∧ (plen p = some m → srcA C.H sz x = some ys ∧ lenA x = some m ∧ ys.length = m * sz) ∧ (∀ q,lenA x = some q → m ≤ q → ys.length = m * sz):=by
 have hmz:¬ m * sz = 0:=by have:=Nat.mul_pos hm hz; omega
 unfold pfirst at k
 split at k
 ·rename_i sz' b o n c
  split at k
  case h_2=>cases k
  rename_i z cs hh
  split at k
  case isFalse=>cases k
  rename_i hc
  cases k
  obtain ⟨rfl,h1,h2,h3⟩:=hc
  have hmul:(o + m) * sz' ≤ (o + c) * sz':=Nat.mul_le_mul_right _ (by omega)
  rw [Nat.add_mul] at hmul
  obtain ⟨vs,hg,hv,h0⟩:=S.cells (t:=0) hh (by have:=Nat.mul_pos (show 0 < o + c by omega) hz; omega)
  have hvl:=hv.length
  rcases sl_at h hh h1 with ⟨a,_⟩ | ⟨_,rfl⟩
  ·omega
  have hl:C.H.ldn ⟨C.φ b,o * sz',none⟩ (m * sz') = some ((vs.drop (o * sz')).take (m * sz')):=ldn_get hg h0 (by omega)
  have hlen:((vs.drop (o * sz')).take (m * sz')).length = m * sz':=by simp; omega
  refine ⟨(vs.drop (o * sz')).take (m * sz'),?_,(hv.drop _).take _,fun e=>?_,fun q e hq=>hlen⟩
  ·simp only [firstA,nb,hmz,decide_false,cond_false,hl]
  ·simp only [plen,Option.some.injEq] at e
   subst e
   refine ⟨?_,rfl,hlen⟩
   simp only [srcA,nb,show ¬ n = 0 by omega,decide_false,cond_false,hl]
 ·rename_i sz' rows
  split at k
  case isFalse=>cases k
  rename_i hc
  cases k
  obtain ⟨rfl,h1⟩:=hc
  cases h with | fs q =>
  cases q with | @fs _ _ a c rs hr hl hk hrr =>
  have hlen:=hrr.length
  obtain ⟨a',c',e1,e2⟩:=hr.is
  simp only [Value.slice.injEq] at e1
  obtain ⟨rfl,_,rfl⟩:=e1
  obtain ⟨b,o,rfl,_⟩:=e2 0 _ (List.getElem?_eq_getElem (by omega))
  rw [hlen] at hr
  have hw:=hr.whole m (by omega) hm
  have hfl:(rs.take m).flatten.length = m * sz':=by
   rw [flatten_length (sz:=sz') fun r hr'=>hr.rowlen r (List.mem_of_mem_take hr'),List.length_take,Nat.min_eq_left (by omega)]
  refine ⟨(rs.take m).flatten,?_,(hrr.take m).flat.toV,fun e=>?_,fun _ _ _=>hfl⟩
  ·simp only [firstA,nb,hmz,decide_false,cond_false,hw]
  ·simp only [plen,Option.some.injEq] at e
   refine ⟨?_,by simp [lenA,e],hfl⟩
   simp only [srcA,nb,show ¬ rows.length = 0 by omega,decide_false,cond_false]
   rw [e,hw]
 ·rename_i s
  split at k
  case isFalse=>cases k
  rename_i hc
  cases k
  subst hc
  cases h
  refine ⟨(s.extract 0 m).data.toList.map fun b=>.int .u8 b.toNat,rfl,strs_ok _,fun e=>?_,fun q e hq=>?_⟩
  ·simp only [plen,Option.some.injEq] at e
   subst e
   refine ⟨?_,rfl,by simp⟩
   simp [srcA]
  ·simp only [lenA,Option.some.injEq] at e
   subst e
   simp [hq]
 ·split at k
  case isFalse=>cases k
  omega
 ·cases k
theorem app_ok (S:StH C) {sz bytes:Nat} {p q r:PV} {x y:Value} {h':PH} (hp:RV C p x) (hq:RV C q y) (k:papp sz bytes C.h p q = some (r,h')) (hW:∀ sz b o n c,p = .sl sz b o n c → W b) :
  Sim C W (aappend sz bytes C.H x y) r h':=by
 unfold papp at k
 split at k
 ·cases k
 rename_i m hm
 split at k
 ·rename_i h0
  subst h0
  split at k
  case isFalse=>cases k
  rename_i hv
  have hlen:=len_ok hq hm hv
  split at k
  ·cases k
   cases hp
   exact Sim.val S (.v _) (by simp [aappend,hlen])
  ·rename_i sz' b o n c
   split at k
   case h_2=>cases k
   rename_i z cs hh
   split at k
   case isFalse=>cases k
   rename_i hc
   cases k
   have hsl:=sl_at hp hh hc.1
   refine Sim.val S hp ?_
   rcases hsl with ⟨_,rfl,d,rfl,_⟩ | ⟨_,rfl⟩
   ·simp [aappend,hlen]
   ·simp [aappend,hlen,hc.2]
  ·cases k
   refine Sim.val S hp ?_
   cases hp with | fs g =>
   cases g with | fs hr hl hk hrr=>simp [aappend,hlen,hl]
  ·cases k
 rename_i h0
 have hm0:0 < m:=by omega
 split at k
 ·cases k
 rename_i new hnew
 split at k
 ·split at k
  case isFalse=>cases k
  rename_i hc
  cases k
  obtain ⟨hz,hb,h62⟩:=hc
  obtain ⟨ys,_,hys,hsrc,_⟩:=first_ok S hq hnew hm0 hz
  obtain ⟨hsrc,hlen,hyl⟩:=hsrc hm
  cases hp
  obtain ⟨A,B⟩:=S.new (P:=.cells sz new) (B:=.cells sz ys) W (.inl ⟨_,_,_,rfl,rfl,hys⟩)
  refine ⟨.slice (some ⟨C.H.nx,0,none⟩) m m,_,_,?_,.sl rfl (by simp) ?_ (fun _=>.inr ⟨hm0,?_⟩),A,B⟩
  ·have:¬ m = 0:=h0
   simp [aappend,hlen,this,hsrc,nb,hb,h62]
  ·intro z cs e
   rw [show (C.h ++ [PB.cells sz new])[C.h.length]? = _ from app_eq _ _] at e
   cases e
   have:=hys.length
   simp; omega
  ·simp [fup_eq]
 ·rename_i sz' b o n c
  split at k
  case h_2=>cases k
  rename_i z cs hh
  split at k
  case isFalse=>cases k
  rename_i hc
  obtain ⟨rfl,rfl,hz,h1,h2,hb,h62⟩:=hc
  obtain ⟨ys,_,hys,hsrc,_⟩:=first_ok S hq hnew hm0 hz
  obtain ⟨hsrc,hlen,hyl⟩:=hsrc hm
  have hsl:=sl_at hp hh h1
  have hbl:=(List.getElem?_eq_some_iff.1 hh).1
  have hnl:=hys.length
  have hWb:=hW _ _ _ _ _ rfl
  have hm0':¬ m = 0:=h0
  split at k
  ·rename_i hc0
   split at k
   case isFalse=>cases k
   rename_i ho
   cases k
   subst hc0; subst ho
   obtain rfl:n = 0:=by omega
   have hcs:cs = []:=List.length_eq_zero_iff.1 (by simpa using h1.symm)
   rcases hsl with ⟨_,_,d,rfl,hd⟩ | ⟨a,_⟩
   case inr=>omega
   obtain ⟨A,B⟩:=S.grow (H1:=C.H) hWb hh (by rw [hcs,hnl,hyl]; simpa using Nat.mul_pos hm0 hz) hys (.inl ⟨hcs,rfl⟩)
   refine ⟨.slice (some ⟨C.H.nx,0,none⟩) m m,_,_,?_,.sl rfl (by simpa using hbl) ?_ (fun _=>.inr ⟨hm0,?_⟩),A,B⟩
   ·simp only [aappend,hlen,if_neg hm0',hsrc]
    rw [show decide ((0 + m) * bytes ≤ 2 ^ 47) = true by simpa using hb,show decide (0 + m < 2 ^ 62) = true by simpa using h62]
    simp only [Bool.and_self,cond_true]
    rw [if_neg (by omega)]
    cases d with
    | none=>simp
    | some d=>simp [hd d rfl]
   ·intro z cs' e
    rw [set_eq hbl] at e
    cases e
    simp; omega
   ·simp [fup_eq]
  rename_i hc0
  rcases hsl with ⟨a,_⟩ | ⟨_,rfl⟩
  ·omega
  have hcl:0 < cs.length:=by rw [← h1]; exact Nat.mul_pos (by omega) hz
  have hcs:cs ≠ []:=List.length_pos_iff.1 hcl
  obtain ⟨vs,hg,hv',hn0⟩:=S.cells (t:=0) hh hcl
  have hvl:=hv'.length
  have hzok:C.H.zok (C.φ b) z = true:=by unfold AH.zok; rw [hg]; simp
  have d1:decide ((n + m) * bytes ≤ 2 ^ 47) = true:=by simpa using hb
  have d2:decide (n + m < 2 ^ 62) = true:=by simpa using h62
  have mul1:n * z ≤ c * z:=Nat.mul_le_mul_right _ h2
  have adm:(o + c) * z = o * z + c * z:=Nat.add_mul ..
  have adn:(o + n) * z = o * z + n * z:=Nat.add_mul ..
  have anm:(n + m) * z = n * z + m * z:=Nat.add_mul ..
  split at k
  ·rename_i hnm
   cases k
   have mul2:(n + m) * z ≤ c * z:=Nat.mul_le_mul_right _ hnm
   obtain ⟨A,B⟩:=S.put hWb hh hcs (psp_length (by omega)) (hv'.psp (k:=(o + n) * z) hys)
   refine ⟨.slice (some ⟨C.φ b,o * z,none⟩) (n + m) c,_,_,?_,.sl rfl (by simpa using hbl) ?_ (fun _=>.inr ⟨by omega,rfl⟩),A,B⟩
   ·simp only [aappend,hlen,if_neg hm0',hsrc,d1,d2,Bool.and_self,cond_true,if_pos hnm,hzok,Option.isNone_none]
    unfold AH.st
    simp only [hg]
    rw [show decide (C.H.n0 ≤ C.φ b) = true by simp [hn0],show decide (o * z + n * z + ys.length ≤ vs.length) = true by simp; omega,adn]
    rfl
   ·intro z9 cs' e
    rw [set_eq hbl] at e
    cases e
    rw [psp_length (by omega)]; omega
  ·rename_i hnm
   split at k
   case isFalse=>cases k
   rename_i ho
   cases k
   subst ho
   simp only [Nat.zero_mul,Nat.zero_add] at adm adn hg h1
   have mul2:c * z < (n + m) * z:=Nat.mul_lt_mul_of_pos_right (by omega) hz
   have hdl:(cs.take (n * z) ++ new).length = (n + m) * z:=by rw [List.length_append,List.length_take,Nat.min_eq_left (by omega)]; omega
   obtain ⟨A,B⟩:=S.grow (H1:=C.H.put (C.φ b) none) hWb hh (ds:=cs.take (n * z) ++ new) (by omega) ((hv'.take _).append hys) (.inr ⟨hcs,rfl⟩)
   refine ⟨.slice (some ⟨C.H.nx,0,none⟩) (n + m) (n + m),_,_,?_,.sl rfl (by simpa using hbl) ?_ (fun _=>.inr ⟨by omega,?_⟩),A,B⟩
   ·have hld:C.H.ldn ⟨C.φ b,0,none⟩ (n * z) = some (vs.take (n * z)):=by
     rw [ldn_get hg hn0 (by omega)]; simp
    simp only [aappend,hlen,if_neg hm0',hsrc,d1,d2,Bool.and_self,cond_true,if_neg hnm,if_neg hc0,hzok,Option.isNone_none,Nat.zero_mul,hld]
    rw [show decide (C.H.n0 ≤ C.φ b) = true by simp [hn0]]
    rfl
   ·intro z9 cs' e
    rw [set_eq hbl] at e
    cases e
    rw [hdl]; simp
   ·simp [fup_eq]
 ·cases k
end Go.Proofs.YtoijnpfpjpefgaaGreat.A.P
/- A text without what this claim does not need: Pm5. -/
set_option linter.unusedVariables false
set_option linter.unusedSimpArgs false
namespace Go.Proofs.YtoijnpfpjpefgaaGreat.A.P
open Go Go.RowKit
variable {C:Cx} {W:Nat → Prop}
theorem copy_ok (S:StH C) {sz:Nat} {p q r:PV} {x y:Value} {h':PH} (hp:RV C p x) (hq:RV C q y) (k:pcopy sz C.h p q = some (r,h')) (hW:∀ sz b o n c,p = .sl sz b o n c → W b) :
  Sim C W (acopy sz C.H x y) r h':=by
 unfold pcopy at k
 split at k
 ·cases k
 rename_i m hm
 obtain ⟨hv,hm⟩:=bif_some hm
 have hlen:=len_ok hq hm hv
 have hy:∃ l,firstA C.H sz 0 y = some l ∧ l.length = 0:=by
  cases y with
  | slice a n c=>cases a <;> simp [firstA,nb]
  | string s=>exact ⟨[],by simp [firstA]⟩
  | _=>simp [lenA] at hlen
 split at k
 ·cases k
  cases hp
  obtain ⟨l,hl,hl0⟩:=hy
  refine Sim.val S (.v _) ?_
  simp only [acopy,hlen,Nat.min_zero]
  rw [hl]
  rfl
 ·rename_i sz' b o n c
  split at k
  case h_2=>cases k
  rename_i z cs hh
  split at k
  case isFalse=>cases k
  rename_i hc
  obtain ⟨rfl,hz,h1,h2⟩:=hc
  have hsl:=sl_at hp hh h1
  split at k
  ·rename_i hmin
   cases k
   obtain ⟨l,hl,hl0⟩:=hy
   refine Sim.val S (.v _) ?_
   have:l = []:=List.length_eq_zero_iff.1 hl0
   subst this
   rcases hsl with ⟨_,rfl,d,rfl,_⟩ | ⟨_,rfl⟩
   ·simp only [acopy,hlen,hmin,hl]
    cases d <;> rfl
   ·simp only [acopy,hlen,hmin,hl]
    rfl
  ·rename_i hmin
   split at k
   case h_2=>cases k
   rename_i new hnew
   cases k
   have hmn:0 < Nat.min m n:=by omega
   have hle:Nat.min m n ≤ n:=Nat.min_le_right _ _
   obtain ⟨ys,hf,hys,_,hyl⟩:=first_ok S hq hnew hmn hz
   have hyl:=hyl m hlen (Nat.min_le_left _ _)
   rcases hsl with ⟨_,rfl,_⟩ | ⟨_,rfl⟩
   ·simp at hmin
   have hcl:0 < cs.length:=by rw [← h1]; exact Nat.mul_pos (by omega) hz
   obtain ⟨vs,hg,hv',hn0⟩:=S.cells (t:=0) hh hcl
   have hvl:=hv'.length
   have hnl:=hys.length
   have mul1:(o + Nat.min m n) * sz' ≤ (o + c) * sz':=Nat.mul_le_mul_right _ (by omega)
   rw [Nat.add_mul] at mul1
   obtain ⟨A,B⟩:=S.put (hW _ _ _ _ _ rfl) hh (List.length_pos_iff.1 hcl) (psp_length (by omega)) (hv'.psp (k:=o * sz') hys)
   refine ⟨.int .i64 (Nat.min m n),_,_,?_,.v _,A,B⟩
   simp only [acopy,hlen,hf]
   have hne:ys.isEmpty = false:=by
    cases ys with
    | nil=>simp at hyl; have:=Nat.mul_pos hmn hz; omega
    | cons=>rfl
   simp only [Option.bind_some,hne,cond_false]
   unfold AH.st
   simp only [hg]
   rw [show decide (C.H.n0 ≤ C.φ b) = true by simp [hn0],show decide (o * sz' + ys.length ≤ vs.length) = true by simp; omega]
   rfl
 ·cases k
theorem pvO_ok {ρp:X → PV} {ρ:X → Value} (h:∀ x,RV C (ρp x) (ρ x)) {o:Option X} {r:Option Value} (k:pvO (o.map ρp) = some r):o.map ρ = r:=by
 cases o with
 | none=>simpa [pvO] using k
 | some x =>
  have hx:=h x
  simp only [Option.map_some] at k ⊢
  revert k
  generalize ρp x = p at hx
  intro k
  cases p <;> first
   | (simp [pvO] at k; done)
   | skip
  cases hx
  simpa [pvO] using k
theorem abnd_le {v:Value} {y z n:Nat} (h:abnd v y = some n) (hz:n ≤ z):abnd v z = some n:=by
 unfold abnd at h ⊢
 cases v <;> simp_all
 omega
theorem abnd_is {v:Value} {y n:Nat} (h:abnd v y = some n):n ≤ y:=by
 unfold abnd at h
 cases v <;> simp_all
 omega
theorem bounds_le {n c:Nat} {lo hi:Option Value} {l e m:Nat} (h:abounds n n lo hi none = some (l,e,m)) (hc:n ≤ c):abounds n c lo hi none = some (l,e,c) ∧ m = n ∧ l ≤ e ∧ e ≤ n:=by
 have h':=h
 unfold abounds at h
 obtain ⟨m',h1,h⟩:=Option.bind_eq_some_iff.1 h
 obtain ⟨e',h2,h⟩:=Option.bind_eq_some_iff.1 h
 obtain ⟨l',h3,h⟩:=Option.bind_eq_some_iff.1 h
 simp only [Option.some.injEq,Prod.mk.injEq] at h
 obtain ⟨rfl,rfl,rfl⟩:=h
 have hl:l' ≤ e':=by
  cases lo with
  | none=>simp only [Option.some.injEq] at h3; omega
  | some v=>exact abnd_is h3
 have he:e' ≤ n:=by
  cases hi with
  | none=>simp only [Option.some.injEq] at h2; omega
  | some v=>exact abnd_is h2
 refine ⟨?_,by simpa using h1.symm,hl,he⟩
 unfold abounds
 refine Option.bind_eq_some_iff.2 ⟨c,rfl,Option.bind_eq_some_iff.2 ⟨e',?_,Option.bind_eq_some_iff.2 ⟨l',h3,rfl⟩⟩⟩
 cases hi with
 | none=>exact h2
 | some v=>exact abnd_le h2 (by omega)
theorem bounds_0 {n c:Nat} {lo hi:Option Value} {v:Value} (h:abounds n n lo hi (some v) = some (0,0,0)) (hc:n ≤ c):abounds n c lo hi (some v) = some (0,0,0):=by
 unfold abounds at h
 obtain ⟨m',h1,h⟩:=Option.bind_eq_some_iff.1 h
 obtain ⟨e',h2,h⟩:=Option.bind_eq_some_iff.1 h
 obtain ⟨l',h3,h⟩:=Option.bind_eq_some_iff.1 h
 simp only [Option.some.injEq,Prod.mk.injEq] at h
 obtain ⟨rfl,rfl,rfl⟩:=h
 unfold abounds
 refine Option.bind_eq_some_iff.2 ⟨0,abnd_le h1 (by omega),Option.bind_eq_some_iff.2 ⟨0,?_,Option.bind_eq_some_iff.2 ⟨0,h3,rfl⟩⟩⟩
 cases hi with
 | none=>exact h2
 | some v=>exact h2
theorem bounds_in {n c:Nat} {lo hi mx:Option Value} {l e m:Nat} (h:abounds n c lo hi mx = some (l,e,m)) (hnc:n ≤ c):m ≤ c ∧ (mx = none → m = c) ∧ l ≤ e ∧ e ≤ m:=by
 unfold abounds at h
 obtain ⟨m',h1,h⟩:=Option.bind_eq_some_iff.1 h
 obtain ⟨e',h2,h⟩:=Option.bind_eq_some_iff.1 h
 obtain ⟨l',h3,h⟩:=Option.bind_eq_some_iff.1 h
 simp only [Option.some.injEq,Prod.mk.injEq] at h
 obtain ⟨rfl,rfl,rfl⟩:=h
 have hm:m' ≤ c ∧ (mx = none → m' = c):=by
  cases mx with
  | none=>simp only [Option.some.injEq] at h1; omega
  | some v=>exact ⟨abnd_is h1,fun h=>by cases h⟩
 refine ⟨hm.1,hm.2,?_,?_⟩
 ·cases lo with
  | none=>simp only [Option.some.injEq] at h3; omega
  | some v=>exact abnd_is h3
 ·cases hi with
  | none=>cases mx with
   | none=>simp only [Option.some.injEq] at h2; have:=hm.2 rfl; omega
   | some v=>cases h2
  | some v=>cases mx with
   | none=>have:=abnd_is h2; have:=hm.2 rfl; omega
   | some w=>exact abnd_is h2
theorem rows_get {sz:Nat} {a:Option Addr} {n c:Nat} {rs:List (List Value)} {F:Nat → Prop} {H:AH} (hr:Rows H sz (.slice a n c) rs) (hk:∀ d,a = some d → (d.spot = none ∨ c = 0) ∧ (n = 0 ∨ (F d.block ∧ H.zok d.block sz = true))) (hn:0 < n):∃ b o,a = some ⟨b,o,none⟩ ∧ rs.length = n ∧ F b ∧ H.zok b sz = true ∧ ∀ i r,rs[i]? = some r → H.ldn ⟨b,o + i * sz,none⟩ sz = some r:=by
 obtain ⟨a',c',e,q⟩:=hr.is
 simp only [Value.slice.injEq] at e
 obtain ⟨rfl,h,rfl⟩:=e
 obtain ⟨b,o,rfl,_⟩:=q 0 _ (List.getElem?_eq_getElem (by omega))
 rcases (hk _ rfl).2 with h0 | ⟨h1,h2⟩
 ·omega
 ·exact ⟨b,o,rfl,h.symm,h1,h2,fun i r hi=>by obtain ⟨b',o',e,k⟩:=q i r hi; cases e; exact k⟩
theorem rf_nil {sz:Nat} {a:Option Addr} {c:Nat} (h:∀ d,a = some d → d.spot = none ∨ c = 0):RF C.F C.H (.fs sz []) (.slice a 0 c) :=
 .fs (rows:=[]) (rs:=[]) ⟨_,_,rfl,by simp⟩ (Nat.zero_le _) (fun d hd=>⟨h d hd,.inl rfl⟩) .nil
theorem sl_ok (S:StH C) {sz:Nat} {p r:PV} {x:Value} {h':PH} {lo hi mx:Option X} {ρp:X → PV} {ρ:X → Value} (hρ:∀ x,RV C (ρp x) (ρ x)) (hp:RV C p x) (k:psl sz C.h p (lo.map ρp) (hi.map ρp) (mx.map ρp) = some (r,h')) :
  Sim C W ((aslice sz C.H x (lo.map ρ) (hi.map ρ) (mx.map ρ)).map fun v=>(v,C.H)) r h':=by
 unfold psl at k
 split at k
 case h_2=>cases k
 rename_i lo' hi' mx' e1 e2 e3
 rw [pvO_ok hρ e1,pvO_ok hρ e2,pvO_ok hρ e3]
 clear e1 e2 e3 hρ
 split at k
 ·rename_i sz' b o n c
  split at k
  case h_2=>cases k
  rename_i z cs l e m hh hb
  split at k
  case isFalse=>cases k
  rename_i hc
  obtain ⟨rfl,hz,rfl,h1,h2⟩:=hc
  have hsl:=sl_at hp hh h1
  split at k
  ·rename_i hc0
   cases k
   refine Sim.val S hp ?_
   rcases hsl with ⟨_,rfl,d,rfl,hd⟩ | ⟨a,_⟩
   case inr=>omega
   subst hc0
   obtain ⟨b1,b2,b3,b4⟩:=bounds_in hb (Nat.le_refl _)
   obtain ⟨rfl,rfl,rfl⟩:l = 0 ∧ e = 0 ∧ m = 0:=by omega
   simp only [aslice,hb,nb,show ¬ z = 0 by omega,decide_false,Bool.not_false,Nat.le_refl,decide_true,Bool.and_self,cond_true]
   cases d with
   | none=>rfl
   | some d=>simp
  rename_i hc0
  rcases hsl with ⟨a,_⟩ | ⟨_,rfl⟩
  ·omega
  have hcl:0 < cs.length:=by rw [← h1]; exact Nat.mul_pos (by omega) hz
  obtain ⟨vs,hg,hv',hn0⟩:=S.cells (t:=0) hh hcl
  have hzok:C.H.zok (C.φ b) z = true:=by unfold AH.zok; rw [hg]; simp
  split at k
  ·rename_i hml
   split at k
   ·rename_i hmx
    cases k
    subst hmx
    refine Sim.val S (x:=.slice (some ⟨C.φ b,o * z,some 1⟩) 0 0) (.fs (rf_nil fun _ _=>.inr rfl)) ?_
    have hm:m = c:=by
     unfold abounds at hb
     obtain ⟨m',h1',hb⟩:=Option.bind_eq_some_iff.1 hb
     obtain ⟨e',h2',hb⟩:=Option.bind_eq_some_iff.1 hb
     obtain ⟨l',h3',hb⟩:=Option.bind_eq_some_iff.1 hb
     simp only [Option.some.injEq,Prod.mk.injEq] at hb h1'
     omega
    simp only [aslice,hb,nb,show ¬ z = 0 by omega,decide_false,Bool.not_false,h2,decide_true,Bool.and_self,cond_true,if_pos hml,Option.isNone_none,true_and]
    rw [if_pos (by omega)]
    rfl
   ·rename_i hmx
    cases k
    obtain ⟨A,B⟩:=S.void z W
    have hle:l ≤ e:=by
     unfold abounds at hb
     obtain ⟨m',h1',hb⟩:=Option.bind_eq_some_iff.1 hb
     obtain ⟨e',h2',hb⟩:=Option.bind_eq_some_iff.1 hb
     obtain ⟨l',h3',hb⟩:=Option.bind_eq_some_iff.1 hb
     simp only [Option.some.injEq,Prod.mk.injEq] at hb
     obtain ⟨rfl,rfl,rfl⟩:=hb
     cases lo' with
     | none=>simp only [Option.some.injEq] at h3'; omega
     | some v=>exact abnd_is h3'
    refine ⟨.slice (some ⟨C.φ b,o * z,none⟩) 0 0,_,_,?_,.sl rfl (by simp) ?_ (fun _=>.inl ⟨rfl,rfl,_,rfl,by rintro e ⟨⟩; rfl⟩),A,B⟩
    ·have:mx'.isNone = false:=by cases mx' with
      | none=>exact absurd rfl hmx
      | some _=>rfl
     simp only [aslice,hb,nb,show ¬ z = 0 by omega,decide_false,Bool.not_false,h2,decide_true,Bool.and_self,cond_true,if_pos hml,this]
     simp
     omega
    ·intro z9 cs9 e9
     simp
  ·rename_i hml
   split at k
   case isFalse=>cases k
   rename_i hmc
   cases k
   subst hmc
   have hle:l ≤ m:=by
    unfold abounds at hb
    obtain ⟨m',h1',hb⟩:=Option.bind_eq_some_iff.1 hb
    obtain ⟨e',h2',hb⟩:=Option.bind_eq_some_iff.1 hb
    obtain ⟨l',h3',hb⟩:=Option.bind_eq_some_iff.1 hb
    simp only [Option.some.injEq,Prod.mk.injEq] at hb
    obtain ⟨rfl,rfl,rfl⟩:=hb
    cases lo' with
    | none=>simp only [Option.some.injEq] at h3'; omega
    | some v=>have:=abnd_is h3'; omega
   refine Sim.val S (x:=.slice (some ⟨C.φ b,(o + l) * z,none⟩) (e - l) (m - l)) (hp.slT (by omega) rfl (.inr ⟨by omega,rfl⟩)) ?_
   simp only [aslice,hb,nb,show ¬ z = 0 by omega,decide_false,Bool.not_false,h2,decide_true,Bool.and_self,cond_true,if_neg hml,Option.isNone_none,hzok,Bool.or_true,Nat.add_mul]
   rfl
 ·rename_i sz' rows
  split at k
  case isFalse=>cases k
  rename_i hc
  obtain ⟨rfl,hz⟩:=hc
  cases hp with | fs q =>
  cases q with | @fs _ _ a c rs hr hl hk hrr =>
  have hlen:=hrr.length
  split at k
  ·split at k
   case h_2=>cases k
   rename_i l e m hb
   split at k
   case isFalse=>cases k
   cases k
   obtain ⟨b1,rfl,b3,b4⟩:=bounds_le hb hl
   have hec:e ≤ c:=by omega
   by_cases hcl:c = l
   ·have hrows:(rows.take e).drop l = []:=List.eq_nil_of_length_eq_zero (by simp; omega)
    rw [hrows]
    have hd:∃ d,aslice sz' C.H (.slice a rows.length c) lo' hi' none = some (.slice d 0 0):=by
     simp only [aslice,b1,nb,show ¬ sz' = 0 by omega,decide_false,Bool.not_false,hec,decide_true,Bool.and_self,cond_true]
     cases a with
     | none=>exact ⟨none,by simp; omega⟩
     | some a =>
      simp only [if_pos hcl]
      split
      ·exact ⟨_,rfl⟩
      ·exact ⟨some a,by rw [show e - l = 0 by omega]⟩
    obtain ⟨d,hd⟩:=hd
    refine Sim.val S (x:=.slice d 0 0) (.fs (rf_nil fun _ _=>.inr rfl)) (by rw [hd]; rfl)
   ·by_cases hn:rows.length = 0
    ·obtain ⟨rfl,rfl⟩:l = 0 ∧ e = 0:=by omega
     have:(rows.take 0).drop 0 = []:=by simp
     rw [this]
     refine Sim.val S (x:=.slice a 0 c) (.fs (rf_nil fun d hd=>(hk d hd).1)) ?_
     simp only [aslice,b1,nb,show ¬ sz' = 0 by omega,decide_false,Bool.not_false,hec,decide_true,Bool.and_self,cond_true]
     cases a with
     | none=>simp
     | some a =>
      rcases (hk _ rfl).1 with h0 | h0
      ·obtain ⟨bb,oo,ss⟩:=a
       simp only at h0
       subst h0
       simp [if_neg hcl]
      ·omega
    ·obtain ⟨b,o,rfl,h1,h2,h3,h4⟩:=rows_get hr hk (by omega)
     refine Sim.val S (x:=.slice (some ⟨b,o + l * sz',none⟩) (e - l) (c - l)) ?_ ?_
     ·have e1:((rows.take e).drop l).length = e - l:=by simp; omega
      have e2:((rs.take e).drop l).length = ((rows.take e).drop l).length:=by simp; omega
      rw [← e1]
      refine .fs (.fs (rs:=(rs.take e).drop l) ⟨_,_,by rw [e2],fun i r hi=>⟨b,o + l * sz',rfl,?_⟩⟩ (by omega) ?_ ((hrr.take e).drop l))
      ·rw [List.getElem?_drop,List.getElem?_take] at hi
       split at hi
       case isFalse=>cases hi
       have:=h4 _ _ hi
       rw [Nat.add_mul] at this
       rw [← this]
       congr 2
       omega
      ·rintro d ⟨⟩
       exact ⟨.inl rfl,.inr ⟨h2,h3⟩⟩
     ·simp only [aslice,b1,nb,show ¬ sz' = 0 by omega,decide_false,Bool.not_false,hec,decide_true,Bool.and_self,cond_true,if_neg hcl,Option.isNone_none,h3,Bool.or_true]
      rfl
  ·split at k
   case isFalse=>cases k
   rename_i hb
   have b1:=bounds_0 hb hl
   split at k
   ·cases k
    have hd:∃ d,aslice sz' C.H (.slice a 0 c) lo' hi' (some ‹Value›) = some (.slice d 0 0):=by
     simp only [List.length_nil] at b1
     simp only [aslice,b1,nb,show ¬ sz' = 0 by omega,decide_false,Bool.not_false,Nat.le_refl,decide_true,Bool.and_self,cond_true]
     cases a with
     | none=>exact ⟨none,rfl⟩
     | some a=>exact ⟨some a,by simp⟩
    obtain ⟨d,hd⟩:=hd
    refine Sim.val S (x:=.slice d 0 0) (.fs (rf_nil fun _ _=>.inr rfl)) (by simp only [List.length_nil]; rw [hd]; rfl)
   ·rename_i r0 rows
    cases k
    obtain ⟨b,o,rfl,h1,h2,h3,h4⟩:=rows_get hr hk (by simp)
    obtain ⟨A,B⟩:=S.void sz' W
    refine ⟨.slice (some ⟨b,o,none⟩) 0 0,_,_,?_,.sl rfl (by simp) ?_ (fun _=>.inl ⟨rfl,rfl,_,rfl,by rintro e ⟨⟩; rfl⟩),A,B⟩
    ·simp only [aslice,b1,nb,show ¬ sz' = 0 by omega,decide_false,Bool.not_false,Nat.le_refl,decide_true,Bool.and_self,cond_true]
     simp
    ·intro z9 cs9 e9
     simp
 ·split at k
  case isFalse=>cases k
  rename_i hc
  cases k
  cases hp
  refine Sim.val S (.v _) ?_
  obtain ⟨⟨l,e,m⟩,hb⟩:=Option.isSome_iff_exists.1 hc.2
  obtain ⟨b1,b2,b3,b4⟩:=bounds_in hb (Nat.le_refl _)
  obtain ⟨rfl,rfl,rfl⟩:l = 0 ∧ e = 0 ∧ m = 0:=by omega
  simp only [aslice,hb,nb,show ¬ sz = 0 by omega,decide_false,Bool.not_false,Nat.le_refl,decide_true,Bool.and_self,cond_true]
  rfl
 ·rename_i s
  split at k
  ·cases k
  ·split at k
   case h_2=>cases k
   rename_i l e m hb
   split at k
   case isFalse=>cases k
   rename_i hz
   cases k
   subst hz
   cases hp
   refine Sim.val S (.v _) ?_
   simp only [aslice,hb]
   rfl
 ·cases k
end Go.Proofs.YtoijnpfpjpefgaaGreat.A.P
