/- Texts that stand one behind the other: V9. -/
import Derived.Test.YtppcmpmnglaleaaGreatDoorG20
set_option linter.unusedVariables false
set_option linter.unusedSimpArgs false
set_option maxRecDepth 10000
namespace Go.Proofs.YtppcmpmnglaleaaGreatDoor.A.P
open Go Go.RowKit
theorem rQ {p:bf} {fuel:Int} {s:List Int} (hp:bq p=true):∀(d:Nat) {ps:List Int} {l:List (List Int)},leaves p fuel s d ps=some l→(∀n∈ps,isWord p.w n=true)→∀q∈l,q.length≤ps.length+d∧∀n∈q,isWord p.w n=true
 |0,ps,l,e,h,q,hq=>by
  rw [leaves]at e
  split at e
  ·cases e
  ·cases e;simp at hq;subst hq;exact ⟨by simp,h⟩
 |d+1,ps,l,e,h,q,hq=>by
  rw [leaves]at e
  split at e
  ·obtain ⟨m,h1,h2⟩:=uC e hq
   simp only [List.mem_map]at h1
   obtain ⟨u,hu,e2⟩:=h1
   have hl:=mS hu
   have ZV:∀n∈u,isWord p.w n=true:=by
    simp only [kids,List.mem_map,List.mem_range]at hu
    obtain ⟨a,ha,rfl⟩:=hu
    intro n hn
    rcases List.mem_append.1 hn with h3|h3
    ·exact h n h3
    ·simp only [List.mem_singleton]at h3
     subst h3
     have hw:=oA hp
     have h1:bC p.w=true:=by simp [bC];omega
     have h2:(a:Int)<2^p.w.toNat:=by
      have h3:(bL p:Int)=2^p.w.toNat:=by simp [bL]
      omega
     simp [isWord,h1,h2]
   have:=rQ hp d e2 ZV q h2
   exact ⟨by omega,this.2⟩
  ·cases e;simp at hq;subst hq;exact ⟨by simp,h⟩
theorem ON {p:bf} {fuel:Int} {s:List Int} {most:Nat} {m:List (List Int)} (hp:bq p=true) (hs:aO p.w p.vars s=true) (h:ofM p fuel s most=some m):∀t∈lv s m,iX p t=true:=by
 unfold ofM at h
 cases hl:kD p fuel s with
 |none=>simp [hl]at h
 |some l=>
  simp [hl]at h
  obtain ⟨_,rfl⟩:=h
  intro t ht
  simp only [lv,List.mem_map]at ht
  obtain ⟨q,hq,rfl⟩:=ht
  have:=rQ hp _ hl (by intro n hn;simp at hn) q hq
  simp only [iX,hs,Bool.true_and,aso,asx,asB]
  exact ⟨by have:=this.1;simp at this;exact this,this.2⟩
theorem DO {p:bf} {fuel:Int} (h:bq p=true):∀{n:Nat} {l:List eG},eI p fuel n=some l→∀t∈l,iX p t=true
 |0,l,e=>by simp [eI]at e;subst e;simp
 |n+1,l,e=>by
  simp only [eI]at e
  cases h1:eI p fuel n with
  |none=>simp [h1]at e
  |some l1=>
   have hl:=DO h h1
   simp only [h1,Option.bind_some]at e
   cases h2:ofM p fuel (dj p n) (16384- l1.length)with
   |none=>simp [h2]at e
   |some m=>
    simp [h2]at e
    subst e
    intro t ht
    rcases List.mem_append.1 ht with ht|ht
    ·exact hl t ht
    ·exact ON h (zu h n) h2 t ht
theorem FB {p:bf} {fuel:Int} (hf:cd p fuel=0) {l:List eG} (e:eS p fuel=some l):∀t∈l,fM p fuel t=0:=by
 have hp:=mX hf
 have h1:¬ (fuel<0∨4096<fuel):=by
  intro h
  simp [cd,hp,h]at hf
 unfold eS at e
 split at e
 ·intro t ht
  have:=DO hp e t ht
  simp [fM,hp,h1,this]
 ·cases e
def BL (p:bf) (fuel:Int) (l:List eG):List (List PV):=l.map fun t=>fR (iD p fuel t)
@[simp]theorem BM (p:bf) (fuel:Int) (l:List eG):(BL p fuel l).length=l.length:=by simp [BL]
theorem OO (p:bf) (fuel:Int) (l:List eG) (i:Nat):(BL p fuel l)[i]?=(l[i]?).map fun t=>fR (iD p fuel t):=by simp [BL]
def FC (p:bf) (fuel:Int) (l:List eG):List PV:=(BL p fuel l).flatten
theorem zE (p:bf) (fuel:Int) (l:List eG) (t:eG):FC p fuel (l++[t])=FC p fuel l++fR (iD p fuel t):=by simp [FC,BL]
@[simp]theorem BN (p:bf) (fuel:Int):∀l,(FC p fuel l).length=l.length*7
 |[]=>rfl
 |a::l=>by
  have:=BN p fuel l
  simp only [FC,BL,List.map_cons,List.flatten_cons,asu,List.length_cons]at*
  rw [this]
  simp [fR]
  omega
@[simp]theorem OP (p:bf) (fuel:Int):∀l,dL (FC p fuel l)=true
 |[]=>rfl
 |a::l=>by
  have:=OP p fuel l
  simp only [FC,BL,List.map_cons,List.flatten_cons]at*
  rw [aj]
  exact ⟨by simp [fR],this⟩
theorem DP (p:bf) (fuel:Int):∀l,(FC p fuel l).all uf=true
 |[]=>rfl
 |a::l=>by
  have:=DP p fuel l
  simp only [FC,BL,List.map_cons,List.flatten_cons]at*
  rw [List.all_append,this]
  simp [fR,uf]
theorem Uk {A:Nat→Prop} {σ:Nat→Nat} {h bs:PH} {b n:Nat} {p:bf} {fuel:Int} {l:List eG} (hn:l.length=n) (hA:A b) (hb:h[b]?=some (.cells 7 (FC p fuel l))):Vg A σ h bs (.sl 7 b 0 n n) (.fs 7 (BL p fuel l))↔True:=⟨fun _=>trivial,fun _=>hn▸qV (nE hA hb (by omega) (BM p fuel l) (by
 intro r hr
 simp only [BL,List.mem_map]at hr
 obtain ⟨t,_,rfl⟩:=hr
 rfl) (kC (DP p fuel l)))⟩
def UL (fuel:Int) (l:List eG) (j:Nat):List (Nat×PV):=[(1,pi fuel),(2,.fs 2 (str l)),(3,.ref 0 0 3),(7,.sl 7 1 0 j j),(8,pi j)]
def UH (p:bf) (fuel:Int) (l:List eG) (j:Nat):PH:=[.cells 3 (au p),.cells 7 (FC p fuel (l.take j))]
def UI (p:bf) (fuel:Int) (l:List eG) (j:Nat) (fr:PF) (h:PH):Prop:=h=UH p fuel l j∧∀t∈UL fuel l j,fr.get t.1=t.2
theorem Ky {p:bf} {fuel:Int} {l:List eG} {j:Nat}:UI p fuel l j (PF.uK (UL fuel l j)) (UH p fuel l j):=⟨rfl,fun t ht=>by
 simp only [UL,List.mem_cons,List.not_mem_nil,or_false]at ht
 rcases ht with rfl|rfl|rfl|rfl|rfl<;>simp [UL]⟩
theorem Ul {p:bf} {fuel:Int} {l:List eG} (eC:fV p) (hn:av p.body≤2^20) (hl:l.length≤16384) (hk:∀t∈l,fM p fuel t=0):Fz E O 20 [.agg (au p),pi fuel,.fs 2 (str l)] (.fs 7 (BL p fuel l)):=by
 refine fP.body (F:=a20) rfl rfl rfl ?_
 simp (maxSteps:=4000000)-implicitDefEqProofs+contextual [-getElem?_pos,asj,a20,au]
 refine fu (UI p fuel l) l.length (cz (h2:=UH p fuel l 0) [0,9] (UL fuel l 0) ?_ ?_ ?_ ?_ ?_ ?_) Ky ?_
 ·simp [UH,UL,au,FC,BL]
 iterate 2· simp
 ·intro b hb;omega
 iterate 2· simp (maxDischargeDepth:=8)-implicitDefEqProofs [aj,asj,UH,UL,au,FC,BL]
 rintro j fr h hj ⟨rfl,gj⟩
 simp only [UL,List.mem_cons,List.not_mem_nil,or_false,forall_eq_or_imp,forall_eq]at gj
 obtain ⟨f1,f2,f3,f7,f8⟩:=gj
 by_cases py:j<l.length
 ·obtain ⟨t,ht⟩:∃t,l[j]?=some t:=⟨_,asl py⟩
  have w4:IntKind.i64.wrap ((j:Int)+1)=((j+1:Nat):Int):=ai ⟨by omega,by omega⟩
  have U9:l.take (j+1)=l.take j++[t]:=by rw [List.take_add_one,ht];rfl
  have UM:(l.take j).length=j:=by simp;omega
  obtain ⟨T,hT⟩:∃T,l.take j=T:=⟨_,rfl⟩
  rw [hT]at UM U9
  simp (maxSteps:=4000000)-implicitDefEqProofs+contextual [-getElem?_pos,asj,f1,f2,f3,f7,f8,py,xp,ht,UH,au,cF,hT]
  refine aN (JU (fuel:=fuel) eC hn (hk t (asq ht))) ?_ ?_ ?_
  iterate 2· simp (maxDischargeDepth:=8)-implicitDefEqProofs [-getElem?_pos,asj,au,cF]
  simp (maxSteps:=4000000)-implicitDefEqProofs+contextual [-getElem?_pos,asj,fR,f7]
  apply cR
  iterate 9· first|rfl|omega|(simp-implicitDefEqProofs [-getElem?_pos,asj,UM];first|done|rfl|omega)
  simp (maxSteps:=4000000)-implicitDefEqProofs+contextual [-getElem?_pos,asj,f1,f2,f3,f7,f8,w4]
  refine .qb py (cz (h2:=UH p fuel l (j+1)) [0,1] (UL fuel l (j+1)) ?_ ?_ ?_ ?_ ?_ ?_) Ky
  ·simp [UH,UL,au,U9,zE,fR,UM,f1,f2,f3]
  iterate 2· simp
  ·intro b hb;omega
  iterate 2· simp (maxDischargeDepth:=8)-implicitDefEqProofs [aj,asj,UH,UL,au,U9,zE,fR,UM,f1,f2,f3]
 ·obtain rfl:j=l.length:=by omega
  simp (maxSteps:=4000000)-implicitDefEqProofs+contextual [-getElem?_pos,asj,f1,f2,f3,f7,f8,UH]
  refine cT ?_
  simp (maxDischargeDepth:=8)-implicitDefEqProofs [Uk]
theorem OQ {p:bf} {fuel:Int} (eC:fV p):∃e l,Fz E O 17 [.agg (au p),pi fuel] (.gA [.fs 2 (str l),pi e])∧Fz E O 18 [.agg (au p),pi fuel] (.gA [.agg ((cG p fuel l l.length).map pi),pi e])∧
 ((cd p fuel≠0∧e=cd p fuel∧l=[])∨(cd p fuel=0∧eS p fuel=none∧e=5∧l=[])∨(cd p fuel=0∧eS p fuel=some l∧e=0)):=by
 have hE:=xv (fuel:=fuel) eC
 have hN:=Ks (fuel:=fuel) eC
 by_cases hf:cd p fuel=0
 case neg=>
  have e1:uy p fuel=[hZ,pi (cd p fuel)]:=by simp [uy,hf]
  have e2:DM p fuel=[.agg ((cG p fuel [] 0).map pi),pi (cd p fuel)]:=by simp [DM,hf,cG]
  rw [e1]at hE
  rw [e2]at hN
  exact ⟨_,[],hE.nil,hN,.inl ⟨hf,rfl,rfl⟩⟩
 cases he:eS p fuel with
 |none=>
  have e1:uy p fuel=[hZ,pi 5]:=by simp [uy,hf,he]
  have e2:DM p fuel=[.agg ((cG p fuel [] 0).map pi),pi 5]:=by simp [DM,hf,he,cG]
  rw [e1]at hE
  rw [e2]at hN
  exact ⟨_,[],hE.nil,hN,.inr (.inl ⟨hf,rfl,rfl,rfl⟩)⟩
 |some l=>
  have e1:uy p fuel=[.fs 2 (str l),pi 0]:=by simp [uy,hf,he]
  have e2:DM p fuel=[.agg ((cG p fuel l l.length).map pi),pi 0]:=by simp [DM,hf,he]
  rw [e1]at hE
  rw [e2]at hN
  exact ⟨_,_,hE,hN,.inr (.inr ⟨hf,rfl,rfl⟩)⟩
def WH (p:bf) (C c:List Int):PH:=[.cells 3 (au p),.cells 5 (C.map pi),.cells 5 (c.map pi)]
def WL (p:bf) (fuel:Int) (l:List eG) (j:Nat):List (Nat×PV):=[(5,.fs 2 (str l)),(6,pi 0),(7,.ref 1 0 5),(8,pi 0),(10,.fs 2 (str l)),(12,.ref 2 0 5),(13,.fs 7 (BL p fuel l)),(14,pi j)]
def WI9 (p:bf) (fuel:Int) (C:List Int) (l:List eG) (j:Nat) (fr:PF) (h:PH):Prop:=h=WH p C (cG p fuel l j)∧∀t∈WL p fuel l j,fr.get t.1=t.2
theorem DQ {p:bf} {fuel:Int} {C:List Int} {l:List eG} {j:Nat}:WI9 p fuel C l j (PF.uK (WL p fuel l j)) (WH p C (cG p fuel l j)):=⟨rfl,fun t ht=>by
 simp only [WL,List.mem_cons,List.not_mem_nil,or_false]at ht
 rcases ht with rfl|rfl|rfl|rfl|rfl|rfl|rfl|rfl<;>simp [WL]⟩
theorem ajb {α:Type} {l:List α} (h:l.length=5):∃a b c d e,l=[a,b,c,d,e]:=by
 match l,h with
 |[a,b,c,d,e],_=>exact ⟨a,b,c,d,e,rfl⟩
theorem zF {p:bf} {fuel:Int} (eC:fV p):
 Fz E O 4 [.agg (au p),pi fuel] (pb true):=by
 refine Fz.body (F:=a4) rfl rfl rfl rfl ?_
 obtain ⟨e,l,hE,hN,hc⟩:=OQ (fuel:=fuel) eC
 have hF:=JX (fuel:=fuel) eC
 have hA:=DN
 obtain ⟨c0,c1,c2,c3,c4,hC⟩:=ajb (ql p fuel l l.length)
 rw [hC]at hN
 simp (maxSteps:=4000000)-implicitDefEqProofs+contextual [-getElem?_pos,asj,a4,au]
 refine aN (Dt (l:=p.body) (m:=600) eC.2.2.1 eC.2.2.2 (by omega)) ?_ ?_ ?_
 iterate 2· simp (maxDischargeDepth:=8)-implicitDefEqProofs [-getElem?_pos,asj]
 by_cases hn:av p.body≤600
 case neg=>
  simp (maxSteps:=4000000)-implicitDefEqProofs [-getElem?_pos,asj,hn]
  refine aN (hA) ?_ ?_ ?_
  iterate 2· simp (maxDischargeDepth:=8)-implicitDefEqProofs [-getElem?_pos,asj]
  simp (maxSteps:=4000000)-implicitDefEqProofs [-getElem?_pos,asj]
 simp (maxSteps:=4000000)-implicitDefEqProofs [-getElem?_pos,asj,hn,au]
 refine aN (hE) ?_ ?_ ?_
 iterate 2· simp (maxDischargeDepth:=8)-implicitDefEqProofs [-getElem?_pos,asj,au]
 simp (maxSteps:=4000000)-implicitDefEqProofs [-getElem?_pos,asj,au]
 refine aN (hN) ?_ ?_ ?_
 iterate 2· simp (maxDischargeDepth:=8)-implicitDefEqProofs [-getElem?_pos,asj,au]
 simp (maxSteps:=4000000)-implicitDefEqProofs [-getElem?_pos,asj,au]
 refine aN (hF) ?_ ?_ ?_
 iterate 2· simp (maxDischargeDepth:=8)-implicitDefEqProofs [-getElem?_pos,asj,au]
 rcases hc with⟨hf,rfl,rfl⟩|⟨hf,hm,rfl,rfl⟩|⟨hf,hm,rfl⟩
 ·simp only [cG,List.length_nil,List.cons.injEq,and_true]at hC
  obtain ⟨rfl,rfl,rfl,rfl,rfl⟩:=hC
  simp (maxSteps:=4000000)-implicitDefEqProofs [-getElem?_pos,asj,hf,cH,iq]
  refine aN (hA) ?_ ?_ ?_
  iterate 2· simp (maxDischargeDepth:=8)-implicitDefEqProofs [-getElem?_pos,asj]
  simp (maxSteps:=4000000)-implicitDefEqProofs [-getElem?_pos,asj]
 ·simp only [cG,List.length_nil,List.cons.injEq,and_true]at hC
  obtain ⟨rfl,rfl,rfl,rfl,rfl⟩:=hC
  rw [hf]
  have hp:=mX hf
  have hR:=zx (fuel:=fuel) eC hp hf (by omega)
  rw [hm]at hR
  simp (maxSteps:=4000000)-implicitDefEqProofs [-getElem?_pos,asj,au]
  refine aN (hR) ?_ ?_ ?_
  iterate 2· simp (maxDischargeDepth:=8)-implicitDefEqProofs [-getElem?_pos,asj,au]
  simp (maxSteps:=4000000)-implicitDefEqProofs [-getElem?_pos,asj,xw,cH,iq]
  refine aN (hA) ?_ ?_ ?_
  iterate 2· simp (maxDischargeDepth:=8)-implicitDefEqProofs [-getElem?_pos,asj]
  simp (maxSteps:=4000000)-implicitDefEqProofs [-getElem?_pos,asj]
 ·rw [hf]
  have hp:=mX hf
  have hR:=zx (fuel:=fuel) eC hp hf (by omega)
  rw [hm]at hR
  have F5:=uD hp hm
  have hU:=Ul (fuel:=fuel) (l:=l) eC (by omega) F5.2 (FB hf hm)
  have hsm:=BC (l:=l) F5.1 (by have:=F5.2;omega)
  simp (maxSteps:=4000000)-implicitDefEqProofs [-getElem?_pos,asj,au]
  refine aN (hR) ?_ ?_ ?_
  iterate 2· simp (maxDischargeDepth:=8)-implicitDefEqProofs [-getElem?_pos,asj,au]
  simp (maxSteps:=4000000)-implicitDefEqProofs [-getElem?_pos,asj,xw,au]
  refine aN (hU) ?_ ?_ ?_
  iterate 2· simp (maxDischargeDepth:=8)-implicitDefEqProofs [-getElem?_pos,asj,au]
  simp (maxSteps:=4000000)-implicitDefEqProofs [-getElem?_pos,asj]
  refine fu (WI9 p fuel [c0,c1,c2,c3,c4] l) l.length (cz (h2:=WH p [c0,c1,c2,c3,c4] (cG p fuel l 0)) [0,1,2] (WL p fuel l 0) ?_ ?_ ?_ ?_ ?_ ?_) DQ ?_
  ·simp [WH,WL,au,cG]
  iterate 2· simp
  ·intro b hb;omega
  iterate 2· simp (maxDischargeDepth:=8)-implicitDefEqProofs [aj,asj,WH,WL,au,cG]
  rintro j fr h hj ⟨rfl,gj⟩
  simp only [WL,List.mem_cons,List.not_mem_nil,or_false,forall_eq_or_imp,forall_eq]at gj
  obtain ⟨f5,f6,f7,f8,f10,f12,f13,f14⟩:=gj
  have oG:=ql p fuel l j
  have hl:=F5.2
  by_cases py:j<l.length
  ·obtain ⟨t,ht⟩:∃t,l[j]?=some t:=⟨_,asl py⟩
   have hr:=Km p fuel t
   have nV:cG p fuel l (j+1)=bump (cG p fuel l j) (iD p fuel t).en.toNat:=by rw [cG,List.getD_eq_getElem?_getD,ht];rfl
   have hb:=xA p fuel l j
   have w4:IntKind.i64.wrap ((j:Int)+1)=((j+1:Nat):Int):=ai ⟨by omega,by omega⟩
   obtain ⟨k,hk⟩:∃k:Nat,(iD p fuel t).en=k:=⟨(iD p fuel t).en.toNat,by omega⟩
   rw [hk,Int.toNat_natCast]at nV
   obtain ⟨c,hc⟩:∃c,cG p fuel l j=c:=⟨_,rfl⟩
   rw [hc]at oG hb nV
   have Ui:k<c.length:=by omega
   have hg:(c.map pi)[k]?=some (pi (c.getD k 0)):=by simp [asl Ui]
   have K7:c.getD k 0∈c:=by rw [List.getD_eq_getElem?_getD,asl Ui];exact List.getElem_mem _
   have hbx:=hb _ K7
   have w5:IntKind.i64.wrap (c.getD k 0+1)=c.getD k 0+1:=ai ⟨by omega,by omega⟩
   have Z5:=zC Ui
   have Vm:k<5:=by omega
   have hk6:(k:Int)<5:=by omega
   have hk7:k≤4:=by omega
   obtain ⟨g,hgg⟩:∃g,c.getD k 0=g:=⟨_,rfl⟩
   rw [hgg]at hg w5 Z5
   simp (maxSteps:=4000000)-implicitDefEqProofs+contextual [-getElem?_pos,asj,f12,f13,f14,py,OO,ht,WH,fR,hk,hc,Vm,hk6,hk7,hg,Z5,w5,w4,oG]
   refine .qb py (cz (h2:=WH p [c0,c1,c2,c3,c4] (cG p fuel l (j+1))) [0,1,2] (WL p fuel l (j+1)) ?_ ?_ ?_ ?_ ?_ ?_) DQ
   ·simp [WH,WL,au,nV,f5,f6,f7,f8,f10,f12,f13,qm]
   iterate 2· simp
   ·intro b hb;omega
   iterate 2· simp (maxDischargeDepth:=8)-implicitDefEqProofs [aj,asj,WH,WL,au,nV,f5,f6,f7,f8,f10,f12,f13,qm]
  ·obtain rfl:j=l.length:=by omega
   simp (maxSteps:=4000000)-implicitDefEqProofs [-getElem?_pos,asj,f13,f14,f5,f6,f7,f8,f10,f12,WH,hC]
   refine aN (hsm) ?_ ?_ ?_
   iterate 2· simp (maxDischargeDepth:=8)-implicitDefEqProofs [-getElem?_pos,asj]
   simp (maxSteps:=4000000)-implicitDefEqProofs [-getElem?_pos,asj,f5,f6,f7,f8,f10,f12,cH,iq]
   refine aN (hA) ?_ ?_ ?_
   iterate 2· simp (maxDischargeDepth:=8)-implicitDefEqProofs [-getElem?_pos,asj]
   simp (maxSteps:=4000000)-implicitDefEqProofs [-getElem?_pos,asj]
end Go.Proofs.YtppcmpmnglaleaaGreatDoor.A.P
