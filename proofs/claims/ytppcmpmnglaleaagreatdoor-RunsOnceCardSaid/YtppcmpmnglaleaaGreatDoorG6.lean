/- Texts that stand one behind the other: Abs7, Abs8, Abs9, AbsA. -/
import Derived.Test.YtppcmpmnglaleaaGreatDoorG5
import Derived.Deep.Upon
set_option linter.unusedVariables false
set_option linter.unusedSimpArgs false
namespace Go.Proofs.YtppcmpmnglaleaaGreatDoor.A
open Go Go.RowKit
section
variable{P:Program} {w0 w:World} {φ:bZ} {H:AH}
theorem sN {φ:bZ}:∀(l:List UInt8),VL φ (l.map fun b=>.int .u8 b.toNat) (l.map fun b=>.int .u8 b.toNat)
 |[]=>.nil
 |b::l=>.cons (.same rfl) (sN l)
theorem QB {sz n:Nat} {x x':Value} {new:List Value} {tx:TypeId} (R:Rel w0 φ H w) (hx:V φ x x') (hn:nI x=some n) (h:qz H sz x=some new)
 (hk:(∃e',P.underlying tx=some (.slice e'))∨P.underlying tx=some .string):
 ∃news,Src P sz tx x' n news w∧VL φ new news∧new.all one=true:=by
 unfold qz at h
 split at h
 ·rename_i a n' c
  simp [nI]at hn
  subst hn
  simp only [nb,Bool.cond_decide]at h
  rcases V.Gf hx with⟨l,c',ji,hl,_,_,_,rfl⟩|⟨ji,rfl,_,a',c',rfl⟩
  ·split at h
   ·rename_i h0
    cases h
    subst h0
    refine ⟨[],⟨hk,fun _=>rfl,?_,?_,by simp,fun _ h=>by cases h⟩,.nil,rfl⟩
    ·simp [Builtin.firstCells,loadCells,loadCellsFrom]
    ·simp [Builtin.firstCells,loadCells,loadCellsFrom]
   ·obtain ⟨_,h1,h2,kS,h3,h4,h5⟩:=R.ldn h hl
    refine ⟨kS,⟨hk,fun _=>rfl,?_,?_,h3,h4.one h1⟩,h4,h1⟩
    ·exact run_firstCells_some w sz n' _ n' c' kS h3 h5
    ·exact run_firstCells_some w.drew sz n' _ n' c' kS h3 (by simpa using h5)
  ·simp at h
   subst h
   refine ⟨[],⟨hk,fun _=>rfl,?_,?_,by simp,fun _ h=>by cases h⟩,.nil,rfl⟩
   ·simp [Builtin.firstCells,loadCells,loadCellsFrom]
   ·simp [Builtin.firstCells,loadCells,loadCellsFrom]
 ·rename_i n' c
  simp [nI]at hn
  subst hn
  simp only [nb,Bool.cond_decide]at h
  split at h
  ·rename_i h0
   cases h
   subst h0
   rw [hx.Uq]
   refine ⟨[],⟨hk,fun _=>rfl,?_,?_,by simp,fun _ h=>by cases h⟩,.nil,rfl⟩
   ·simp [Builtin.firstCells]
   ·simp [Builtin.firstCells]
  ·cases h
 ·rename_i s
  simp [nI]at hn
  subst hn
  simp only [nb,Bool.cond_decide]at h
  split at h
  ·rename_i h1
   cases h
   subst h1
   rw [hx.string]
   refine ⟨byteCells s,⟨hk,fun _=>rfl,firstCells_string s w,firstCells_string s w.drew,by rw [byteCells_length,Nat.mul_one],fun u hu=>?_⟩,sN _,?_⟩
   ·obtain ⟨_,_,rfl⟩:=List.mem_map.1 hu
    rfl
   ·rw [asB]
    intro u hu
    obtain ⟨_,_,rfl⟩:=List.mem_map.1 hu
    rfl
  ·cases h
 ·cases h
theorem nS (t tx ty e:TypeId) (i:TypeInfo) (ht:P.underlying t=some (.slice e)) (hi:P.info? e=some i) (b off K0 QC:Nat) (x:Value) (n:Nat) (news:List Value) (hs:Src P i.size tx x n news w) {w':World}
 (Gq:K0+n≤QC) (eT:(storeCells ⟨b,off+K0*i.size,none⟩ news).run P w= .ok () w'):
 (Builtin.append_ #[t,tx] ty #[.slice (some ⟨b,off,none⟩) K0 QC,x]).run P w= .ok (.slice (some ⟨b,off,none⟩) (K0+n) QC) w':=by
 rcases hs.kind with⟨e',hk⟩|hk<;>simp [Builtin.append_,run_underlying ht,run_underlying hk,sizeOf,typeInfo,hi,hs.len,Gq,hs.cells,add_lit,eT]
theorem grownCap_ge (w:World) (Ah old:Nat) (e:TypeId) (h:Ah<2^63):Ah≤grownCap w Ah old e:=by
 unfold grownCap
 simp [Question.cut]
theorem sO (cs:List Value) (z:Array Value) (Ah cap sz:Nat) (hz:z.size=sz) (hc:cs.length=Ah*sz) (hn:Ah≤cap):(cs.toArray++Builtin.zeroCells z (cap- Ah)).size=cap*sz:=by
 simp [size_zeroCells,hz,hc]
 rw [←Nat.add_mul]
 congr 1
 omega
theorem xQ {φ:bZ} {cs dF:List Value} (z:Array Value) (n:Nat) (h:VL φ cs dF) (o:cs.all one=true):CR φ 0 cs (dF.toArray++Builtin.zeroCells z n):=by
 intro j v hj
 obtain ⟨v',e,hv⟩:=h.get j v hj
 refine ⟨asB.1 o v (asq hj),v',?_,hv⟩
 have:j<dF.length:=(asr.1 e).1
 rw [Nat.zero_add,Array.getElem?_append_left (by simpa using this)]
 simpa using e
theorem QD {sz bytes:Nat} {s x s' x' v:Value} {H':AH} {t tx ty e:TypeId} {i:TypeInfo} {z:Value} (R:Rel w0 φ H w) (uG:φ.m H.nx=none) (ht:P.underlying t=some (.slice e)) (hi:P.info? e=some i) (hz:i.zero=some z) (Z9:z.cells.size=i.size)
 (heB:e≠BY) (iu:i.size=sz) (DZ:sz≠0) (Gr:i.bytes=bytes) (hk:(∃e',P.underlying tx=some (.slice e'))∨P.underlying tx=some .string)
 (hs:V φ s s') (hx:V φ x x') (h:bI sz bytes H s x=some (v,H')) {r:Result Next} (er:r=((Builtin.append_ #[t,tx] ty #[s',x']).run P w).andThen fun v w=>.ok (.value v) w):
 iv w0 φ H w (.v v) H' r:=by
 subst iu Gr
 unfold bI at h
 split at h
 case h_2=>cases h
 rename_i base sl sc n hn
 split at h
 ·rename_i h0
  subst h0
  simp only [Bool.cond_decide]at h
  split at h
  case isFalse=>cases h
  rename_i hle
  cases h
  obtain ⟨lX,sc',rfl,hb⟩:=V.Ur hs
  have ade:sl≤sc':=by
   cases base with
   |none=>have he:=hs.Uq;simp at he;omega
   |some a=>
    rcases V.Gf hs with⟨l,c',_,_,uO,_,_,he⟩|⟨_,rfl,_,_⟩
    ·simp at he;omega
    ·omega
  have my:Src P i.size tx x' 0 [] w:=by
   unfold nI at hn
   split at hn
   ·simp at hn
    subst hn
    obtain ⟨a',c',rfl,_⟩:=V.Ur hx
    refine ⟨hk,fun _=>rfl,?_,?_,by simp,fun _ h=>by cases h⟩<;>cases a'<;>simp [Builtin.firstCells,loadCells,loadCellsFrom]
   ·rename_i s
    simp at hn
    rw [hx.string]
    refine ⟨hk,fun _=>?_,?_,?_,by simp,fun _ h=>by cases h⟩
    ·simp [Builtin.lenOf,hn]
    ·simp [Builtin.firstCells]
    ·simp [Builtin.firstCells]
   ·cases hn
  rw [run_append_nothing w t tx ty e i ht hi lX sl sc' ade x' my]at er
  exact .pure R hs er
 ·rename_i h0
  cases hq:qz H i.size x with
  |none=>simp [hq]at h
  |some new=>
   simp only [hq]at h
   obtain ⟨news,hS,hv,ho⟩:=QB (P:=P) R hx hn hq hk
   cases gK:(decide ((sl+n)*i.bytes≤2^47)&&decide (sl+n<2^62))with
   |false=>simp [gK]at h
   |true=>
    simp only [gK,cond_true]at h
    simp at gK
    obtain ⟨VQ,amd⟩:=gK
    have K1:new.length=n*i.size:=by rw [hv.length];exact hS.newsLen
    split at h
    ·rename_i Gq
     cases base with
     |none=>cases h
     |some a=>
      simp only at h
      cases xC:(H.lE a.block i.size&&a.spot.isNone)with
      |false=>simp [xC]at h
      |true=>
       simp only [xC,cond_true]at h
       cases eT:H.st ⟨a.block,a.off+sl*i.size,none⟩ new with
       |none=>simp [eT]at h
       |some H1=>
        simp [eT]at h
        obtain ⟨rfl,rfl⟩:=h
        simp at xC
        rcases V.Gf hs with⟨l,c',ji,hl,uO,rT,OW,rfl⟩|⟨ji,_⟩
        ·have hp:V φ (.pointer (some ⟨a.block,a.off+sl*i.size,none⟩)) (.pointer (some ⟨l.c,a.off+sl*i.size+l.s,none⟩)):=.ptr hl
         obtain ⟨a',w',e1,e2,R',G⟩:=Gl (P:=P) R hp eT hv ho
         simp at e1
         subst e1
         rw [show a.off+sl*i.size+l.s=a.off+l.s+sl*i.size by omega]at e2
         rw [nS t tx ty e i ht hi l.c (a.off+l.s) sl c' x' n news hS (by omega) e2]at er
         refine ⟨φ,w',_,er,R',G,.inl ⟨_,rfl,?_⟩⟩
         obtain ⟨b,o,sp⟩:=a
         dsimp only at ji⊢
         subst ji
         exact .sl hl uO rT OW
        ·rw [ji]at xC;simp at xC
    ·rename_i Gq
     split at h
     ·rename_i VR
      subst VR
      obtain ⟨Ai,h⟩:=aD h
      simp only [asm,ast]at h
      obtain ⟨rfl,rfl⟩:=h
      simp only [nb,aso,asx]at Ai
      obtain ⟨rfl,ji⟩:=Ai
      have fF:∃lX,s'= .slice lX 0 0:=by
       cases base with
       |none=>exact ⟨none,hs.Uq⟩
       |some a=>
        rcases V.Gf hs with⟨l,c',_,hl,uO,rT,OW,rfl⟩|⟨Gs,_⟩
        ·exact ⟨_,by rw [rT rfl]⟩
        ·dsimp only at ji;rw [Gs]at ji;simp at ji
      obtain ⟨lX,rfl⟩:=fF
      have hold:(Builtin.firstCells i.size 0 (.slice lX 0 0)).run P w.drew= .ok ([]:List Value).toArray w.drew:=by
       cases lX<;>simp [Builtin.firstCells,loadCells,loadCellsFrom]
      have oF:=run_append_grow_src w t tx ty e i z ht hi hz lX 0 0 [] hold x' n news hS (by omega) (by omega) (by
       rw [Nat.zero_add]at*
       exact growslice_fits (by omega) (by simpa using VQ))
      rw [oF]at er
      simp only [Nat.zero_add,List.nil_append]at er
      have iV:n≤grownCap w n 0 e:=grownCap_ge w n 0 e (by omega)
      have Gt:=sO news z.cells n (grownCap w n 0 e) i.size Z9 hS.newsLen iV
      obtain ⟨R',G⟩:=R.new uG (w':=w.drew.alloc (.cells (news.toArray++Builtin.zeroCells z.cells (grownCap w n 0 e- n)) e)) (z:=i.size) (cs:=new) rfl rfl rfl rfl (by rw [Gt,K1];exact Nat.mul_le_mul_right _ iV) (xQ _ _ hv ho) heB
      refine ⟨_,_,_,er,R',G,.inl ⟨_,rfl,?_⟩⟩
      refine .sl (bZ.mq _ _ _) iV (by omega) (.inr ?_)
      show 0+0+grownCap w n 0 e*i.size≤_
      rw [Gt]
      simp
     ·rename_i VR
      cases base with
      |none=>cases h
      |some a=>
       simp only at h
       cases Ai:(decide (H.n0≤a.block)&&a.spot.isNone&&H.lE a.block i.size)with
       |false=>simp [Ai]at h
       |true=>
        simp only [Ai,cond_true]at h
        cases eh:H.ldn a (sl*i.size)with
        |none=>simp [eh]at h
        |some old=>
         simp [eh]at h
         obtain ⟨rfl,rfl⟩:=h
         simp at Ai
         obtain ⟨⟨nJ,ji⟩,xC⟩:=Ai
         rw [R.n0]at nJ
         rcases V.Gf hs with⟨l,c',Gs,hl,uO,rT,OW,rfl⟩|⟨Gs,_⟩
         case inr=>rw [Gs]at ji;simp at ji
         obtain ⟨b,o,sp⟩:=a
         dsimp only at*
         subst Gs
         unfold AH.lE at xC
         cases hg:H.get b with
         |none=>simp [hg]at xC
         |some aX=>
          cases aX with
          |map es=>simp [hg]at xC
          |cells zb cb=>
           simp [hg]at xC
           obtain ⟨g1,g2,g3,arr,e0,g4,g5,g6,g7⟩:=R.cells b l zb cb nJ hl (AH.jj hg)
           obtain ⟨_,hoo,hol,olds,h3,h4,h5⟩:=R.ldn eh hl
           have adf:old=(cb.drop o).take (sl*i.size)∧o+sl*i.size≤cb.length:=by
            unfold AH.ldn at eh
            simp only [hg,Bool.cond_decide,R.n0]at eh
            split at eh
            ·rename_i hn
             rw [if_neg (by omega)]at eh
             cases eh
             exact ⟨rfl,hn⟩
            ·cases eh
           have aG:(old++new).all one=true:=by simp only [List.all_append,hoo,ho];rfl
           by_cases hc:sl+n≤c'
           ·
            have hbound:o+l.s+c'*l.z≤l.n:=by
             rcases OW with e1|e1
             ·omega
             ·exact e1
            rw [g2]at hbound
            have K2:o+l.s+sl*i.size+news.length≤arr.size:=by
             rw [g5,hS.newsLen,show o+l.s+sl*i.size+n*i.size=o+l.s+(sl+n)*i.size by rw [Nat.add_mul];omega]
             have:(sl+n)*i.size≤c'*zb:=Nat.mul_le_mul hc xC
             omega
            have eT:=run_storeCells_at P l.c (o+l.s+sl*i.size) e0 news 0 arr w g4 (by omega) hS.one
            simp only [Nat.add_zero]at eT
            rw [nS t tx ty e i ht hi l.c (o+l.s) sl c' x' n news hS hc eT]at er
            have hCR:CR φ (l.s+o) (old++new) (arr.toList.take (o+l.s+sl*i.size)++news++arr.toList.drop (o+l.s+sl*i.size+news.length)).toArray:=by
             intro j v hj
             by_cases hjo:j<old.length
             ·rw [asy hjo]at hj
              have OX:cb[o+j]?=some v:=by
               rw [adf.1]at hj
               have:j<sl*i.size:=by omega
               simpa [List.getElem?_take,this,List.getElem?_drop]using hj
              obtain ⟨q1,v',q2,q3⟩:=g6 (o+j) v OX
              refine ⟨q1,v',?_,q3⟩
              rw [List.getElem?_toArray,List.append_assoc,asy (by simp;omega),List.getElem?_take,if_pos (by omega)]
              have:arr.toList[l.s+(o+j)]?=some v':=by simpa using q2
              rw [←this]
              congr 1
              omega
             ·rw [List.getElem?_append_right (by omega)]at hj
              obtain ⟨v',q2,q3⟩:=hv.get _ v hj
              refine ⟨asB.1 ho v (asq hj),v',?_,q3⟩
              have py:j- old.length<news.length:=(asr.1 q2).1
              rw [List.getElem?_toArray,List.append_assoc,List.getElem?_append_right (by simp;omega),asy (by simp;omega),←q2]
              congr 1
              simp
              omega
            obtain ⟨R',G⟩:=R.move uG (s2:=l.s+o) (z2:=i.size) (c2:=old++new) (w':=w.setRow l.c (arr.toList.take (o+l.s+sl*i.size)++news++arr.toList.drop (o+l.s+sl*i.size+news.length)).toArray) nJ hl hg (setRow_heap w l.c arr _ e0 (0,0) g4) (fun k hk=>setRow_other w l.c k _ hk) (setRow_size _ _ _) rfl rfl rfl (by simp;omega)
             (by rw [asu,hol,K1];rw [hS.newsLen,g5]at K2;omega) hCR g7
            refine ⟨_,_,_,er,R',G,.inl ⟨_,rfl,?_⟩⟩
            have hcv:V (φ.add H.nx ⟨l.c,l.s+o,l.n,i.size⟩) (.slice (some ⟨H.nx,0,none⟩) (sl+n) (sl+n)) (.slice (some ⟨l.c,0+(l.s+o),none⟩) (sl+n) c'):=by
             refine .sl (l:=⟨l.c,l.s+o,l.n,i.size⟩) (by simp [bZ.add]) hc (by omega) (.inr ?_)
             show 0+(l.s+o)+c'*i.size≤l.n
             have:c'*i.size≤c'*zb:=Nat.mul_le_mul_left _ xC
             omega
            rw [show 0+(l.s+o)=o+l.s by omega]at hcv
            exact hcv
           ·
            have hold:(Builtin.firstCells i.size sl (.slice (some ⟨l.c,o+l.s,none⟩) sl c')).run P w.drew= .ok olds.toArray w.drew:=run_firstCells_some w.drew i.size sl _ sl c' olds h3 (by simpa using h5)
            have oF:=run_append_grow_src w t tx ty e i z ht hi hz (some ⟨l.c,o+l.s,none⟩) sl c' olds hold x' n news hS (by omega) (by omega) (growslice_fits (by omega) (by simpa using VQ))
            rw [oF]at er
            have iV:sl+n≤grownCap w (sl+n) c' e:=grownCap_ge w (sl+n) c' e (by omega)
            have Gt:=sO (olds++news) z.cells (sl+n) (grownCap w (sl+n) c' e) i.size Z9 (by rw [asu,h3,hS.newsLen,Nat.add_mul]) iV
            have Rk:=R.kill (b:=b) nJ
            obtain ⟨R',G⟩:=Rk.new (show φ.m (H.put b none).nx=none from uG) (w':=w.drew.alloc (.cells ((olds++news).toArray++Builtin.zeroCells z.cells (grownCap w (sl+n) c' e- (sl+n))) e)) (z:=i.size) (cs:=old++new) rfl rfl rfl rfl
             (by rw [Gt,asu,hol,K1,←Nat.add_mul];exact Nat.mul_le_mul_right _ iV) (xQ _ _ (h4.append hv) aG) heB
            refine ⟨_,_,_,er,R',G.same (by rfl) (by rfl),.inl ⟨_,rfl,?_⟩⟩
            refine .sl (bZ.mq _ _ _) iV (by omega) (.inr ?_)
            show 0+0+grownCap w (sl+n) c' e*i.size≤_
            rw [Gt]
            simp
end
end Go.Proofs.YtppcmpmnglaleaaGreatDoor.A
namespace Go.Proofs.YtppcmpmnglaleaaGreatDoor.A
open Go Go.RowKit
section
variable{P:Program} {w0 w:World} {φ:bZ} {H:AH}
theorem Gu {sz n:Nat} {x x':Value} {c:List Value} (R:Rel w0 φ H w) (hx:V φ x x') (h:kE H sz n x=some c):
 ∃c',(Builtin.firstCells sz n x').run P w= .ok c'.toArray w∧VL φ c c'∧c.all one=true:=by
 unfold kE at h
 split at h
 ·rename_i a n' cp
  simp only [nb,Bool.cond_decide]at h
  obtain ⟨a',c',rfl,ha⟩:=V.Ur hx
  split at h
  ·rename_i h0
   cases h
   refine ⟨[],?_,.nil,rfl⟩
   cases a'<;>simp [Builtin.firstCells,loadCells,loadCellsFrom,h0]
  ·rcases V.Gf hx with⟨l,FG,ji,hl,_,_,_,he⟩|⟨ji,_⟩
   ·simp at he
    obtain ⟨rfl,rfl⟩:=he
    obtain ⟨_,h1,h2,kS,h3,h4,h5⟩:=R.ldn h hl
    exact ⟨kS,run_firstCells_some w sz n _ n' c' kS h3 h5,h4,h1⟩
   ·exfalso
    obtain ⟨b,o,sp⟩:=a
    dsimp only at ji
    subst ji
    simp [AH.ldn]at h
 ·cases h
  rw [hx.Uq]
  exact ⟨[],by simp [Builtin.firstCells],.nil,rfl⟩
 ·rename_i s
  cases h
  rw [hx.string]
  refine ⟨_,?_,sN _,?_⟩
  ·simp [Builtin.firstCells]
   apply Array.ext'
   simp
  ·rw [asB]
   intro u hu
   obtain ⟨_,_,rfl⟩:=List.mem_map.1 hu
   rfl
 ·cases h
theorem K3 {sz:Nat} {d s d' s' v:Value} {H':AH} {t tx ty e:TypeId} (R:Rel w0 φ H w) (ht:P.underlying t=some (.slice e)) (iu:ew P e=some sz) (hd:V φ d d') (hs:V φ s s') (h:kP sz H d s=some (v,H')) {r:Result Next}
 (er:r=((Builtin.copy_ #[t,tx] ty #[d',s']).run P w).andThen fun v w=>.ok (.value v) w):iv w0 φ H w (.v v) H' r:=by
 unfold kP at h
 split at h
 case h_2=>cases h
 rename_i base dl dc m hm
 dsimp only at h
 cases hf:kE H sz (Nat.min m dl) s with
 |none=>simp [hf]at h
 |some c=>
  simp only [hf,Option.bind_some]at h
  obtain ⟨c',QE,hc2,hc3⟩:=Gu (P:=P) R hs hf
  obtain ⟨lX,dc',rfl,hb⟩:=V.Ur hd
  have hlen:(Builtin.lenOf s').run P w= .ok m w:=by
   unfold nI at hm
   split at hm
   ·simp at hm;subst hm
    obtain ⟨a',c',rfl,_⟩:=V.Ur hs
    rfl
   ·simp at hm;subst hm
    rw [hs.string];rfl
   ·cases hm
  have run:∀{w':World},(match lX with|some a=>(storeCells a c').run P w|none=>.ok () w)= .ok () w'→(Builtin.copy_ #[t,tx] ty #[.slice lX dl dc',s']).run P w= .ok (goInt (Nat.min m dl:Nat)) w':=by
   intro w' hw
   cases lX with
   |none=>simp at hw;subst hw;simp [Builtin.copy_,run_underlying ht,hlen,cW iu,QE]
   |some a=>simp only at hw;simp [Builtin.copy_,run_underlying ht,hlen,cW iu,QE,hw]
  cases base with
  |none=>
   obtain rfl:=hb.2 rfl
   simp at h
   obtain ⟨rfl,rfl⟩:=h
   rw [run (w':=w) rfl]at er
   exact .pure R (.same rfl) er
  |some a=>
   simp only at h
   cases c with
   |nil=>
    simp at h
    obtain ⟨rfl,rfl⟩:=h
    cases hc2
    rw [run (w':=w) (by cases lX<;>simp [storeCells])]at er
    exact .pure R (.same rfl) er
   |cons c0 cr=>
    simp only [List.isEmpty_cons,cond_false]at h
    cases eT:H.st a (c0::cr)with
    |none=>simp [eT]at h
    |some H1=>
     simp [eT]at h
     obtain ⟨rfl,rfl⟩:=h
     rcases V.Gf hd with⟨l,FG,ji,hl,_,_,_,he⟩|⟨ji,_⟩
     ·simp at he
      obtain ⟨rfl,rfl⟩:=he
      obtain ⟨b,o,sp⟩:=a
      dsimp only at*
      subst ji
      obtain ⟨a',w',e1,e2,R',G⟩:=Gl (P:=P) R (.ptr hl) eT hc2 hc3
      simp at e1
      subst e1
      rw [run (w':=w') e2]at er
      exact ⟨φ,w',_,er,R',G,.inl ⟨_,rfl,.same rfl⟩⟩
     ·exfalso
      obtain ⟨b,o,sp⟩:=a
      dsimp only at ji
      subst ji
      simp [AH.st]at eT
theorem vW (z:Array Value) (m:Nat) (hm:z.size=m):∀n,(madeCells z (n*m)).toList=(List.replicate n z.toList).flatten
 |0=>by simp [madeCells]
 |n+1=>by
  have ih:=vW z m hm n
  simp only [madeCells,Array.toList_map,Array.toList_range]at ih⊢
  rw [show(n+1)*m=n*m+m by rw [Nat.succ_mul],List.range_add,List.map_append,ih,List.replicate_succ',List.flatten_append]
  congr 1
  simp only [List.map_map,List.flatten_cons,List.flatten_nil,List.append_nil]
  apply List.ext_getElem?
  intro j
  by_cases hj:j<m
  ·have:j<z.size:=by omega
   simp [hj,hm,Nat.mod_eq_of_lt hj,Nat.add_comm,this,getElem!_pos]
  ·rw [List.getElem?_eq_none (by simp;omega),List.getElem?_eq_none (by simp;omega)]
theorem all_replicate {z:List Value} (h:z.all flat=true):∀n,((List.replicate n z).flatten).all flat=true
 |0=>rfl
 |n+1=>by simp only [List.replicate_succ,List.flatten_cons,List.all_append,h,all_replicate h n];rfl
theorem K4 {sz bytes:Nat} {z:List Value} {k:IntKind} {n:Int} {t e:TypeId} {i:TypeInfo} (R:Rel w0 φ H w) (uG:φ.m H.nx=none) (ht:P.underlying t=some (.slice e)) (hi:P.info? e=some i) (hz:iT P e=some z) (heB:e≠BY) (iu:i.size=sz) (Gr:i.bytes=bytes)
 (h0:0≤n) (hw:IntKind.i64.wrap n=n) (hb:(bytes:Int)*n≤2^47) {r:Result Next} (er:r=((Instr.makeSlice t (.int k n) (.int k n)).run P w).andThen fun v w=>.ok (.value v) w):
 iv w0 φ H w (.v (.slice (some ⟨H.nx,0,none⟩) n.toNat n.toNat)) (H.alloc (.cells sz (List.replicate n.toNat z).flatten)) r:=by
 obtain ⟨i',zv,rS,Aj,K5,Ut,Uu⟩:=jE hz
 rw [hi]at rS
 cases rS
 subst iu Gr
 have h63:n≤9223372036854775807:=by rw [IntKind.wrap_i64]at hw;omega
 have Z9:zv.cells.size=i.size:=by rw [←Uu,←K5];simp
 rw [run_make w t e i zv ht hi Aj k k n n h0 (Int.le_refl _) (by omega) h63]at er
 have hm:=vW zv.cells i.size Z9 n.toNat
 rw [K5]at hm
 have fX:=all_replicate Ut n.toNat
 obtain ⟨R',G⟩:=R.new uG (w':=w.alloc (.cells (madeCells zv.cells (n.toNat*i.size)) e)) (z:=i.size) (cs:=(List.replicate n.toNat z).flatten) rfl rfl rfl rfl (by rw [←hm];simp) (pA (by rw [hm];exact VL.same fX) (fE fX)) heB
 refine ⟨_,_,_,er,R',G,.inl ⟨_,rfl,?_⟩⟩
 have:=V.sl (φ:=φ.add H.nx ⟨w.heap.size,0,(madeCells zv.cells (n.toNat*i.size)).size,i.size⟩) (o:=0) (n:=n.toNat) (bZ.mq φ H.nx ⟨w.heap.size,0,(madeCells zv.cells (n.toNat*i.size)).size,i.size⟩) (asp n.toNat) id (.inl rfl)
 simpa using this
theorem pB:∀(l:List Value) (k off:Nat) (arr:Array Value),off+k+l.length≤arr.size→
 ((l.zipIdx k).foldl (fun(cs:Array Value) (x:Value×Nat)=>cs.setIfInBounds (off+x.2) x.1) arr).toList=aP arr.toList (off+k) l
 |[],k,off,arr,h=>by
  rw [iw _ _ _ (by simpa using h)]
  simp
 |v::l,k,off,arr,h=>by
  simp only [List.zipIdx_cons,List.foldl_cons]
  rw [pB l (k+1) off _ (by simp at h⊢;omega)]
  rw [iw _ _ _ (by simp at h⊢;omega),iw _ _ _ (by simp at h⊢;omega)]
  apply List.ext_getElem?
  intro j
  simp only [Array.toList_setIfInBounds,List.length_cons]at*
  by_cases h1:j<off+k
  ·rw [List.append_assoc,List.append_assoc,asy (by simp;omega),asy (by simp;omega),List.getElem?_take,List.getElem?_take,if_pos (by omega),if_pos h1,List.getElem?_set_ne (by omega)]
  ·by_cases h2:j=off+k
   ·subst h2
    rw [List.append_assoc,asy (by simp;omega),List.getElem?_take,if_pos (by omega),List.getElem?_set_self (by simp;omega)]
    rw [List.append_assoc,List.getElem?_append_right (by simp;omega),List.cons_append]
    simp
    rw [show off+k- min (off+k) arr.size=0 by omega]
    rfl
   ·by_cases h3:j<off+k+1+l.length
    ·rw [List.append_assoc,List.getElem?_append_right (by simp;omega),asy (by simp;omega)]
     rw [List.append_assoc,List.getElem?_append_right (by simp;omega),asy (by simp;omega)]
     simp
     rw [show j- min (off+k) arr.size=(j- min (off+(k+1)) arr.size)+1 by omega]
     simp
    ·rw [List.getElem?_append_right (by simp;omega),List.getElem?_append_right (by simp;omega),List.getElem?_drop,List.getElem?_drop]
     rw [List.getElem?_set_ne (by simp;omega)]
     congr 1
     simp
     omega
theorem vX:∀{ps:List (Nat×Nat×Value)} {ps':List (Nat×Value)} {c c2:List Value} {arr:Array Value} {place:Nat→Option (Nat×Nat)},
 ps.length=ps'.length→(∀(j:Nat) (p:Nat×Nat×Value),ps[j]?=some p→∃p':Nat×Value,ps'[j]?=some p'∧place p'.1=some (p.1,p.2.1)∧V φ p.2.2 p'.2)→
 jM c ps=some c2→VL φ c arr.toList→c.all one=true→∃pC,Instr.fill place arr ps'=some pC∧VL φ c2 pC.toList∧c2.all one=true
 |[],[],c,c2,arr,place,_,_,h,hv,ho=>by simp [jM]at h;subst h;exact ⟨arr,rfl,hv,ho⟩
 |[],_::_,_,_,_,_,h,_,_,_,_=>by simp at h
 |_::_,[],_,_,_,_,h,_,_,_,_=>by simp at h
 |(off,n,v)::ps,(i',v')::ps',c,c2,arr,place,hl,hp,h,hv,ho=>by
  obtain ⟨p',e1,e2,e3⟩:=hp 0 (off,n,v) (by simp)
  simp at e1
  subst e1
  dsimp only at e2 e3
  unfold jM at h
  obtain ⟨hc,h⟩:=aD h
  simp only [nb,aso,asx,Bool.not_eq_true']at hc
  obtain ⟨⟨hn,K2⟩,adg⟩:=hc
  have oG:=e3.cells
  have ajp:v'.cells.size=n:=by rw [←hn,oG.length];simp
  have hal:arr.size=c.length:=by rw [hv.length];simp
  have adh:VL φ (aP c off (aZ v)) (aP arr.toList off v'.cells.toList):=VL.aP off hv oG
  have VS:=pB v'.cells.toList 0 off arr (by simp;omega)
  have adi:(v'.cells.zipIdx.foldl (fun cs (x:Value×Nat)=>cs.setIfInBounds (off+x.2) x.1) arr).toList=aP arr.toList off v'.cells.toList:=by
   rw [←Array.foldl_toList,Array.toList_zipIdx]
   simpa using VS
  obtain ⟨pC,q1,q2,q3⟩:=vX (ps:=ps) (ps':=ps') (arr:=v'.cells.zipIdx.foldl (fun cs (x:Value×Nat)=>cs.setIfInBounds (off+x.2) x.1) arr) (place:=place) (by simpa using hl) (fun j p hj=>by simpa using hp (j+1) p (by simpa using hj)) h (by rw [adi];exact adh) (by
   rw [iw _ _ _ (by omega)]
   simp only [List.all_append,oD e3 adg,Bool.and_true,aso]
   rw [asB]at ho
   exact ⟨asB.2 fun x hx=>ho x (List.mem_of_mem_take hx),asB.2 fun x hx=>ho x (List.mem_of_mem_drop hx)⟩)
  refine ⟨pC,?_,q2,q3⟩
  unfold Instr.fill
  rw [e2]
  simp only
  rw [if_neg (by simp;omega)]
  exact q1
theorem Rel.QF {w0 w w':World} {φ:bZ} {H:AH} (R:Rel w0 φ H w) (h0:φ.m H.nx=none) (hh:w'.heap=w.heap.push (.map #[] 0)) (ho:w'.os=w.os) (ht:w'.tape=w.tape) (hp:w'.output=w.output):
 Rel w0 (φ.add H.nx ⟨w.heap.size,0,0,0⟩) (H.alloc (.map [])) w'∧Grow φ H w (φ.add H.nx ⟨w.heap.size,0,0,0⟩) (H.alloc (.map [])) w':=by
 have hle:φ.le (φ.add H.nx ⟨w.heap.size,0,0,0⟩):=bZ.vV h0
 have iu:w0.heap.size≤w.heap.size:=R.below.size
 have jv:∀k,k<w.heap.size→w'.heap[k]?=w.heap[k]?:=fun k hk=>by rw [hh,Array.getElem?_push,if_neg (by omega)]
 have old:∀b l,φ.n0≤b→φ.m b=some l→(H.raw b).isSome=true→l.c<w.heap.size:=by
  intro b l hb hl hs
  cases hg:H.raw b with
  |none=>simp [hg]at hs
  |some aX=>
   cases aX with
   |cells z' c=>
    obtain ⟨_,_,_,a,e',h4,_⟩:=R.cells b l z' c hb hl hg
    exact (asz.1 h4).1
   |map es=>
    obtain ⟨_,a,e',h4,_⟩:=R.maps b l es hb hl hg
    exact (asz.1 h4).1
 refine ⟨?_,?_⟩
 ·refine ⟨R.n0,R.rR,by rw [AH.eu];have:=R.r5;exact Nat.le_succ_of_le this,R.c0,?_,?_,?_,?_,?_,?_,?_⟩
  ·refine ⟨ho.trans R.below.os,ht.trans R.below.tape,hp.trans R.below.output,?_,fun k hk=>?_⟩
   ·rw [hh,Array.size_push];omega
   ·rw [jv k (by omega)];exact R.below.block k hk
  ·intro b hb
   exact hle _ _ (R.kh b hb)
  ·intro b z' c hb hg
   have mi:b<φ.n0:=hb
   rw [AH.cU,if_neg (by have:=R.r5;omega)]at hg
   obtain ⟨e',fz,hw⟩:=R.ma b z' c hb hg
   exact ⟨e',fz,by rw [jv b (by have:=R.rR;have:=R.c0;omega)];exact hw⟩
  ·intro b l z' c hb hl hg
   rw [AH.cU]at hg
   simp only [bZ.add]at hl
   by_cases Af:b=H.nx
   ·rw [if_pos Af]at hg
    cases hg
   ·rw [if_neg Af]at hg hl
    obtain ⟨h1,h2,h3,a,e',h4,h5,h6,h7⟩:=R.cells b l z' c hb hl hg
    exact ⟨h1,h2,h3,a,e',by rw [jv _ (asz.1 h4).1];exact h4,h5,h6.mono hle,h7⟩
  ·intro b l es hb hl hg
   rw [AH.cU]at hg
   simp only [bZ.add]at hl
   by_cases Af:b=H.nx
   ·rw [if_pos Af]at hg hl
    cases hg
    cases hl
    exact ⟨by show φ.c0≤w.heap.size;rw [R.c0];exact iu,#[],0,by rw [hh];simp,.nil⟩
   ·rw [if_neg Af]at hg hl
    obtain ⟨h1,a,e',h4,h5⟩:=R.maps b l es hb hl hg
    exact ⟨h1,a,e',by rw [jv _ (asz.1 h4).1];exact h4,h5.mono hle⟩
  ·intro b1 b2 l1 l2 mj iL h1 h2 g1 g2 mr
   rw [AH.cU]at g1 g2
   simp only [bZ.add]at h1 h2
   by_cases e1:b1=H.nx<;>by_cases e2:b2=H.nx
   ·rw [e1,e2]
   ·rw [if_pos e1]at h1
    rw [if_neg e2]at h2 g2
    cases h1
    have:=old b2 l2 iL h2 g2
    simp at mr
    omega
   ·rw [if_neg e1]at h1 g1
    rw [if_pos e2]at h2
    cases h2
    have:=old b1 l1 mj h1 g1
    simp at mr
    omega
   ·rw [if_neg e1]at h1 g1
    rw [if_neg e2]at h2 g2
    exact R.inj b1 b2 l1 l2 mj iL h1 h2 g1 g2 mr
  ·intro b s eb
   obtain ⟨h1,h2,l,h3,h4,h5⟩:=R.qn b s eb
   have gF:b≠H.nx:=by rintro rfl;rw [h0]at h3;cases h3
   refine ⟨h1,by rw [AH.cU,if_neg gF];exact h2,l,hle _ _ h3,h4,h5.uM rfl (fun k hk _=>jv k hk) fun b' l' a1 a2 a3=>?_⟩
   rw [AH.cU]at a3
   simp only [bZ.add]at a2
   by_cases mi:b'=H.nx
   ·rw [if_pos mi]at a2
    cases a2
    exact .inr (.inl (asp _))
   ·rw [if_neg mi]at a2 a3
    exact .inl ⟨a1,a2,a3⟩
 ·refine ⟨hle,rfl,rfl,by rw [AH.eu];exact Nat.le_succ _,?_,by rw [hh,Array.size_push];exact Nat.le_succ _⟩
  ·intro b l h k
   simp only [bZ.add]at k
   split at k
   ·rename_i hb;subst hb;exact ⟨asp _,by rw [AH.eu];exact asA _⟩
   ·rw [h]at k;cases k
theorem Rel.Gv {w0 w w':World} {φ:bZ} {H:AH} (R:Rel w0 φ H w) {b ck:Nat} {c c':List (Value×Value)} {l:Loc} {es':Array MapEntry} (hb:φ.n0≤b) (hl:φ.m b=some l) (hg:H.get b=some (.map c))
 (hw:w'.heap[l.c]?=some (.map es' ck)) (hk:∀k,k≠l.c→w'.heap[k]?=w.heap[k]?) (hs:w'.heap.size=w.heap.size) (ho:w'.os=w.os) (ht:w'.tape=w.tape) (hp:w'.output=w.output)
 (hc:ML φ c' es'.toList):
 Rel w0 φ (H.put b (some (.map c'))) w'∧Grow φ H w φ (H.put b (some (.map c'))) w':=by
 have hg:=AH.jj hg
 obtain ⟨g1,a0,e0,g4,g5⟩:=R.maps b l c hb hl hg
 refine ⟨⟨R.n0,R.rR,R.r5,R.c0,?_,R.kh,?_,?_,?_,?_,?_⟩,?_⟩
 ·refine ⟨ho.trans R.below.os,ht.trans R.below.tape,hp.trans R.below.output,by rw [hs];exact R.below.size,fun k h=>?_⟩
  rw [hk k (by have:=R.c0;omega)]
  exact R.below.block k h
 ·intro x z' d hx hY
  rw [AH.db,if_neg (by omega)]at hY
  obtain ⟨e',fz,hh⟩:=R.ma x z' d hx hY
  refine ⟨e',fz,?_⟩
  rw [hk x (by have:=R.rR;omega)]
  exact hh
 ·intro x lx z' d hx jw hY
  rw [AH.db]at hY
  by_cases kJ:x=b
  ·rw [if_pos kJ]at hY;cases hY
  ·rw [if_neg kJ]at hY
   obtain ⟨h1,h2,h3,a,e',h4,h5,h6,h7⟩:=R.cells x lx z' d hx jw hY
   refine ⟨h1,h2,h3,a,e',?_,h5,h6,h7⟩
   rw [hk]
   ·exact h4
   ·intro hc
    exact kJ (R.inj x b lx l hx hb jw hl (by simp [hY]) (by simp [hg]) hc)
 ·intro x lx es hx jw hY
  rw [AH.db]at hY
  by_cases kJ:x=b
  ·subst kJ
   rw [if_pos rfl]at hY
   cases hY
   rw [hl]at jw
   cases jw
   exact ⟨g1,es',ck,hw,hc⟩
  ·rw [if_neg kJ]at hY
   obtain ⟨h1,a,e',h4,h5⟩:=R.maps x lx es hx jw hY
   refine ⟨h1,a,e',?_,h5⟩
   rw [hk]
   ·exact h4
   ·intro hc
    exact kJ (R.inj x b lx l hx hb jw hl (by simp [hY]) (by simp [hg]) hc)
 ·intro b1 b2 l1 l2 mj iL h1 h2 s1 s2 mr
  have live:∀x,((H.put b (some (.map c'))).raw x).isSome=true→(H.raw x).isSome=true:=by
   intro x hx
   rw [AH.db]at hx
   by_cases kJ:x=b
   ·subst kJ;simp [hg]
   ·rw [if_neg kJ]at hx;exact hx
  exact R.inj b1 b2 l1 l2 mj iL h1 h2 (live _ s1) (live _ s2) mr
 ·intro x s eb
  obtain ⟨h1,h2,lx,h3,h4,h5⟩:=R.qn x s eb
  have gF:x≠b:=by rintro rfl;rw [hg]at h2;cases h2
  obtain ⟨k1,k2⟩:=h5.apart b l hb hl (by simp [hg])
  refine ⟨h1,by rw [AH.db,if_neg gF];exact h2,lx,h3,h4,h5.uM rfl (fun k _ Qw=>hk k ?_) fun b' l' a1 a2 a3=>.inl ⟨a1,a2,?_⟩⟩
  ·rcases Qw with rfl|⟨v,hv,zK⟩
   ·exact fun e=>k1 e.symm
   ·exact fun e=>k2 v hv (e▸zK)
  ·rw [AH.db]at a3
   by_cases kJ:b'=b
   ·subst kJ;simp [hg]
   ·rw [if_neg kJ]at a3;exact a3
 ·exact ⟨bZ.le_refl _,rfl,rfl,asp _,fun _ _ h k=>(by rw [h]at k;cases k),by rw [hs];exact asp _⟩
theorem sP {kk:Nat} {k:Value} (h:cH kk k=true):flat k=true:=by
 rcases kk with _|_|_|kk<;>cases k<;>first|rfl|(simp [cH]at h)
theorem sQ {kk:Nat} {kt:TypeId} {d:TypeDesc} {k k':Value} {b:Bool} (hd:P.underlying kt=some d) (hk:cv P kt=some kk) (ho:cH kk k=true) (h:iq k k'=some b):Instr.sameNow d k k'=some b∧cH kk k'=true∧(b=true→k=k'):=by
 unfold cv at hk
 rw [hd]at hk
 cases d<;>simp at hk<;>subst hk
 case int=>
  cases k<;>simp [cH]at ho
  cases k'<;>simp [iq]at h
  rename_i k1 a k2 c
  obtain ⟨rfl,rfl⟩:=h
  exact ⟨by simp [Instr.sameNow],rfl,by simp⟩
 case string=>
  cases k<;>simp [cH]at ho
  cases k'<;>simp [iq]at h
  rename_i a c
  subst h
  refine ⟨?_,rfl,?_⟩
  ·simp [Instr.sameNow,beq_toListBytes,ByteArray.toList_eq]
  ·intro hb
   simp at hb
   have:a=c:=by
    obtain ⟨⟨a⟩⟩:=a
    obtain ⟨⟨c⟩⟩:=c
    simp at hb
    rw [hb]
   rw [this]
 case bool=>
  cases k<;>simp [cH]at ho
  cases k'<;>simp [iq]at h
  subst h
  exact ⟨by simp [Instr.sameNow],rfl,by simp⟩
theorem BU {kk:Nat} {kt:TypeId} {d:TypeDesc} {k:Value} (hd:P.underlying kt=some d) (hk:cv P kt=some kk) (ho:cH kk k=true):
 ∀{es:List (Value×Value)} {l:List MapEntry} {r:Option Value} (i:Nat),ML φ es l→gI k es=some r→
  (r=none∧Instr.findNow d k l i=some none)∨∃v v' j e,r=some v∧Instr.findNow d k l i=some (some (i+j,v'))∧V φ v v'∧l[j]?=some e∧e.key=k
 |_,_,r,i,.nil,h=>by simp [gI]at h;subst h;exact .inl ⟨rfl,rfl⟩
 |_,_,r,i,.cons (k:=k') (v:=v) (v':=v') (n:=n) hv hl,h=>by
  simp only [gI]at h
  cases he:iq k k' with
  |none=>simp [he]at h
  |some b=>
   obtain ⟨hs,Qw,hb⟩:=sQ hd hk ho he
   cases b with
   |true=>
    simp [he]at h
    subst h
    refine .inr ⟨v,v',0,_,rfl,?_,hv,rfl,(hb rfl).symm⟩
    simp [Instr.findNow,hs]
   |false=>
    simp only [he]at h
    rcases BU hd hk ho (i+1) hl h with⟨hr,hf⟩|⟨v2,VN,j,e,hr,hf,xB,hj,VT⟩
    ·exact .inl ⟨hr,by simp [Instr.findNow,hs,hf]⟩
    ·refine .inr ⟨v2,VN,j+1,e,hr,?_,xB,by simpa using hj,VT⟩
     simp [Instr.findNow,hs,hf]
     omega
theorem Gw {kk:Nat} {kt:TypeId} {d:TypeDesc} {k u u':Value} (hd:P.underlying kt=some d) (hk:cv P kt=some kk) (ho:cH kk k=true) (hu:V φ u u'):
 ∀{es Uv:List (Value×Value)} {l:List MapEntry} (i:Nat),ML φ es l→mn k u es=some Uv→
  (Instr.findNow d k l i=some none∧∀n,ML φ Uv (l++[⟨k,u',n⟩]))∨∃v' j e,Instr.findNow d k l i=some (some (i+j,v'))∧l[j]?=some e∧e.key=k∧ML φ Uv (l.modify j fun e=>{e with key:=k,val:=u'})
 |_,_,_,i,.nil,h=>by
  simp [mn]at h
  subst h
  exact .inl ⟨rfl,fun n=>.cons hu .nil⟩
 |_,_,_,i,.cons (k:=k') (v:=v) (v':=v') (n:=n) (l:=es) (l':=l) hv hl,h=>by
  simp only [mn]at h
  cases he:iq k k' with
  |none=>simp [he]at h
  |some b=>
   obtain ⟨hs,Qw,hb⟩:=sQ hd hk ho he
   cases b with
   |true=>
    simp [he]at h
    subst h
    refine .inr ⟨v',0,_,?_,rfl,(hb rfl).symm,?_⟩
    ·simp [Instr.findNow,hs]
    ·simpa using ML.cons hu hl
   |false=>
    simp only [he]at h
    cases hq:mn k u es with
    |none=>simp [hq]at h
    |some es3=>
     simp [hq]at h
     subst h
     rcases Gw hd hk ho hu (i+1) hl hq with⟨hf,hm⟩|⟨VN,j,e,hf,hj,VT,hm⟩
     ·exact .inl ⟨by simp [Instr.findNow,hs,hf],fun n=>.cons hv (hm n)⟩
     ·refine .inr ⟨VN,j+1,e,?_,by simpa using hj,VT,?_⟩
      ·simp [Instr.findNow,hs,hf]
       omega
      ·simpa using ML.cons hv hm
theorem run_checkKey {kk:Nat} {kt:TypeId} {d:TypeDesc} (hd:P.underlying kt=some d) (hk:cv P kt=some kk) (b:Bool) (n:Nat) (k:Value) (w:World):(Instr.checkKey b (n+1) kt k).run P w= .ok () w:=by
 unfold cv at hk
 rw [hd]at hk
 cases d<;>simp at hk<;>simp [Instr.checkKey,run_underlying hd]
theorem uP {kk:Nat} {k:Value} (h:cH kk k=true) (n:Nat):Instr.sameBits n k k=true:=by
 rcases kk with _|_|_|kk<;>cases k<;>simp [cH]at h<;>simp [Instr.sameBits,beq_toListBytes]
end
end Go.Proofs.YtppcmpmnglaleaaGreatDoor.A
namespace Go.Proofs.YtppcmpmnglaleaaGreatDoor.A
open Go Go.RowKit
section
variable{P:Program} {w0 w:World} {φ:bZ} {H:AH}
def D5 (P:Program) (f:Nat):Prop:=∃fn,P.funcs[f]?=some fn∧fn.body.isNone=false∧(fn.name== "runtime.NumGoroutine")=false
theorem pD {f:Nat} (h:D5 P f) (as:Array Value) (w:World):(callFunc f as).run P w= .ok (.enter f as) w:=by
 obtain ⟨fn,h1,h2,h3⟩:=h
 have OY:¬ fn.name= "runtime.NumGoroutine":=by simpa using h3
 have xR:fn.body≠none:=by intro e;rw [e]at h2;cases h2
 simp [callFunc,h1,xR,OY]
theorem iv.enter {f:Nat} {as:List Value} {as':Array Value} {r:Result Next} (R:Rel w0 φ H w) (h:VL φ as as'.toList) (hr:r= .ok (.enter f as') w):iv w0 φ H w (.enter f as) H r:=
 ⟨φ,w,_,hr,R,Grow.refl _ _ _,as',rfl,h⟩
theorem Ak {φ:bZ} {fr:Fr} {a:Act} (F:mu φ fr a) {x:Option Operand} {y:Option X} (h:Up x=some y):VO φ (y.map (X.ev fr)) (x.map a.eval):=by
 cases x with
 |none=>simp [Up]at h;subst h;exact .none
 |some x=>
  simp only [Up]at h
  cases hx:cX x with
  |none=>simp [hx]at h
  |some z=>simp [hx]at h;subst h;exact .some (dK F hx)
theorem OZ:∀{l l':List Value} {v v' r:Value},VL φ l l'→V φ v v'→KB v l=some r→∃r',(l'.foldlM Builtin.max2 v').run P w= .ok r' w∧V φ r r'
 |_,_,v,v',r,.nil,hv,h=>by
  simp [KB]at h
  subst h
  exact ⟨v',by simp,hv⟩
 |_,_,v,v',r,.cons (v:=u) a b,hv,h=>by
  cases v<;>cases u<;>simp [KB]at h
  rw [hv.int,a.int]
  obtain ⟨r',h1,h2⟩:=OZ b (.same rfl) h
  refine ⟨r',?_,h2⟩
  simpa [Builtin.max2]using h1
theorem O0:∀{l l':List Value} {v v' r:Value},VL φ l l'→V φ v v'→OR v l=some r→∃r',(l'.foldlM Builtin.min2 v').run P w= .ok r' w∧V φ r r'
 |_,_,v,v',r,.nil,hv,h=>by
  simp [OR]at h
  subst h
  exact ⟨v',by simp,hv⟩
 |_,_,v,v',r,.cons (v:=u) a b,hv,h=>by
  cases v<;>cases u<;>simp [OR]at h
  rw [hv.int,a.int]
  obtain ⟨r',h1,h2⟩:=O0 b (.same rfl) h
  refine ⟨r',?_,h2⟩
  simpa [Builtin.min2]using h1
theorem Gx {a b a' b':Value} {r:Bool} (h:iq a b=some r) (ha:V φ a a') (hb:V φ b b'):a'=a∧b'=b:=by
 unfold iq at h
 split at h
 ·exact ⟨ha.int,hb.int⟩
 ·exact ⟨ha.string,hb.string⟩
 ·exact ⟨ha.bool,hb.bool⟩
 ·cases h
theorem BV {ft:TypeId} {kk:Nat} (hk:cv P ft=some kk) {x y:Value} {r:Bool} (ho:cH kk x=true) (h:iq x y=some r) (d:Nat) (w:World) {cs ds:Array Value} {o:Nat} (hx:cs[o]?=some x) (hy:ds[o]?=some y):
 (part ft cs o).run P w= .ok x w∧(part ft ds o).run P w= .ok y w∧(Op.equalIn (d+1) ft x y).run P w= .ok r w:=by
 unfold cv at hk
 cases hu:P.underlying ft with
 |none=>simp [hu]at hk
 |some ty=>
  cases ty<;>simp [hu]at hk<;>subst hk
  case int q=>
   cases x<;>simp [cH]at ho
   cases y<;>simp [iq]at h
   rename_i k a k' b
   obtain ⟨rfl,rfl⟩:=h
   refine ⟨?_,?_,run_equalIn_int w d ft k q a b hu⟩<;>simp [part,isAgg,run_underlying hu,hx,hy]
  case string=>
   cases x<;>simp [cH]at ho
   cases y<;>simp [iq]at h
   rename_i a b
   subst h
   refine ⟨?_,?_,?_⟩
   ·simp [part,isAgg,run_underlying hu,hx]
   ·simp [part,isAgg,run_underlying hu,hy]
   ·rw [run_equalIn_string w d ft a b hu];simp [ByteArray.toList_eq]
  case bool=>
   cases x<;>simp [cH]at ho
   cases y<;>simp [iq]at h
   rename_i a b
   subst h
   refine ⟨?_,?_,run_equalIn_bool' w d ft a b hu⟩<;>simp [part,isAgg,run_underlying hu,hx,hy]
theorem rp {cs ds dF vY:Array Value} (hc:VL φ cs.toList dF.toList) (hd:VL φ ds.toList vY.toList) (d:Nat) (w:World):∀(fs:List Field) (b:Bool),(fs.all fun f=>f.name != "_" &&(cv P f.type).isSome)=true→
 ep cs.toList ds.toList (fs.map fun f=>(f.offset,(cv P f.type).getD 9))=some b→(Op.eqFields (d+1) dF vY fs).run P w= .ok b w
 |[],b,_,h=>by simp [ep]at h;subst h;simp [Op.eqFields]
 |f::fs,b,hf,h=>by
  simp only [List.all_cons,aso]at hf
  obtain ⟨⟨rq,VU⟩,dm⟩:=hf
  cases hk:cv P f.type with
  |none=>simp [hk]at VU
  |some kk=>
   simp only [List.map_cons,hk,Option.getD_some,ep]at h
   cases hx:cs.toList[f.offset]?with
   |none=>simp [hx]at h
   |some x=>
    cases hy:ds.toList[f.offset]?with
    |none=>simp [hx,hy]at h
    |some y=>
     simp only [hx,hy]at h
     obtain ⟨ho,h⟩:=aD h
     cases he:iq x y with
     |none=>simp [he]at h
     |some r=>
      obtain ⟨x',Gi,zL⟩:=hc.get _ _ hx
      obtain ⟨y',hy1,Al⟩:=hd.get _ _ hy
      obtain ⟨rfl,rfl⟩:=Gx he zL Al
      obtain ⟨p1,p2,p3⟩:=BV (P:=P) hk ho he d w (cs:=dF) (ds:=vY) (o:=f.offset) (by simpa using Gi) (by simpa using hy1)
      have QG:f.name≠ "_":=by simpa using rq
      simp only [Op.eqFields,if_pos QG,Sem.run_bind,p1,p2,p3,Result.andThen_ok]
      cases r with
      |true=>
       simp only [he]at h
       simpa using rp hc hd d w fs b dm h
      |false=>
       simp only [he]at h
       cases h
       simp
theorem QH {neg:Bool} {cs ds:Array Value} {x' y':Value} {b:Bool} {t:TypeId} {fs:Array Field} (R:Rel w0 φ H w) (hu:P.underlying t=some (.struct fs)) (hf:(fs.toList.all fun f=>f.name != "_" &&(cv P f.type).isSome)=true) (hs:P.stoodInHeld t=false) (hg:P.eqGuardType P.depth t=false)
 (h:ep cs.toList ds.toList (fs.toList.map fun f=>(f.offset,(cv P f.type).getD 9))=some b) (hx:V φ (.agg cs) x') (hy:V φ (.agg ds) y') (xo yo:Operand) {r:Result Next} {op:BinOp} (r6:op=bif neg then .neq else .eql)
 (e:r=((do eqGuard op t xo yo x' y';binOp op t x' y':Sem Value).run P w).andThen fun v w=>.ok (.value v) w):iv w0 φ H w (.v (.bool (bif neg then !b else b))) H r:=by
 obtain ⟨dF,rfl,hc,_⟩:=hx.DT
 obtain ⟨vY,rfl,hd,_⟩:=hy.DT
 have hfo:P.fieldsOf t=fs:=by simp [Program.fieldsOf,hu]
 have DW:P.underlying t=some (.struct (P.fieldsOf t)):=by rw [hfo];exact hu
 have heq:(Op.equalIn 10000 t (.agg dF) (.agg vY)).run P w= .ok b w:=by
  rw [run_equalIn_struct w 9999 t dF vY DW hs,hfo]
  exact rp hc hd 9998 w fs.toList b hf h
 refine .pure R (.same rfl) ?_
 rw [e,Sem.run_bind,run_eqGuard_agg w op t xo yo dF vY hg]
 simp only [Result.andThen_ok]
 subst r6
 cases neg
 ·show((binOp .eql t (.agg dF) (.agg vY)).run P w).andThen _=_
  rw [run_eql_struct,heq]
  rfl
 ·show((binOp .neq t (.agg dF) (.agg vY)).run P w).andThen _=_
  rw [run_neq_struct,heq]
  rfl
theorem qA {fr:Fr} {a:Act} (F:mu φ fr a) {place:Nat→Option (Nat×Nat)}:∀{ps:List (Nat×Operand)} {l:List (Nat×Nat×X)},jk place ps=some l→
 (l.map fun p=>(p.1,p.2.1,p.2.2.ev fr)).length=(ps.map fun p=>(p.1,a.eval p.2)).length∧
 ∀(j:Nat) (p:Nat×Nat×Value),(l.map fun p=>(p.1,p.2.1,p.2.2.ev fr))[j]?=some p→∃p':Nat×Value,(ps.map fun p=>(p.1,a.eval p.2))[j]?=some p'∧place p'.1=some (p.1,p.2.1)∧V φ p.2.2 p'.2
 |[],l,h=>by simp [jk]at h;subst h;exact ⟨rfl,fun j p h=>by simp at h⟩
 |(i,x)::ps,l,h=>by
  simp only [jk]at h
  cases hp:place i with
  |none=>simp [hp]at h
  |some on=>
   cases hx:cX x with
   |none=>simp [hp,hx]at h
   |some y=>
    cases hl:jk place ps with
    |none=>simp [hp,hx,hl]at h
    |some m=>
     simp [hp,hx,hl]at h
     subst h
     obtain ⟨h1,h2⟩:=qA F hl
     refine ⟨by simpa using h1,fun j p hj=>?_⟩
     cases j with
     |zero=>simp at hj;subst hj;exact ⟨(i,a.eval x),by simp,hp,dK F hx⟩
     |succ j=>simpa using h2 j p (by simpa using hj)
end
end Go.Proofs.YtppcmpmnglaleaaGreatDoor.A
namespace Go.Proofs.YtppcmpmnglaleaaGreatDoor.A
open Go Go.RowKit
section
variable{P:Program} {w0 w:World} {φ:bZ} {H:AH}
theorem sR {t:TypeId} {n:Nat} (h:ew P t=some n):∃i,P.info? t=some i∧i.size=n:=by
 unfold ew at h
 cases hi:P.info? t with
 |none=>simp [hi]at h
 |some i=>simp [hi]at h;exact ⟨i,rfl,h⟩
theorem K6 {fr:Fr} {a:Act} (F:mu φ fr a) (R:Rel w0 φ H w) (uG:φ.m H.nx=none) {c:Call} {ao:cN} (hc:Gb P c=some ao) {res:jN} {H':AH} (h:aA ao (X.ev fr) H=some (res,H')) (hf:∀f as,res= .enter f as→D5 P f) (ty:TypeId):
 iv w0 φ H w res H' ((do let d←resolve a.eval c ty;invoke d.target d.args:Sem Next).run P w):=by
 obtain ⟨callee,args,argTypes⟩:=c
 unfold Gb at hc
 dsimp only at hc
 cases callee with
 |invoke x m=>cases hc
 |value x=>
  cases x with
  |func f=>
   simp only at hc
   cases has:DS args.toList with
   |none=>simp [has]at hc
   |some as=>
    simp [has]at hc
    subst hc
    simp only [aA,asm,ast]at h
    obtain ⟨rfl,rfl⟩:=h
    refine .enter R (as':=args.map a.eval) (by simpa using oE F has) ?_
    have:=pD (hf f _ rfl) (args.map a.eval) w
    simp [resolve,Act.eval,Deferred.ofValue,invoke,this]
  |tmp t=>
   simp only [cX]at hc
   cases has:DS args.toList with
   |none=>simp [has]at hc
   |some as=>
    simp [has]at hc
    subst hc
    simp only [aA]at h
    have hv:=F t
    simp only [X.ev]at h
    cases hq:fr.get t<;>simp [hq]at h
    rename_i fn first cap
    cases fn<;>simp at h
    obtain ⟨rfl,rfl⟩:=h
    rename_i f
    rw [hq]at hv
    obtain ⟨a',b',e,h1,h2⟩:=V.fn1 hv
    have e':a.eval (.tmp t)= .func (.func f) a' b':=e
    refine .enter R (as':=a'++args.map a.eval++b') (by simpa using h1.append ((oE F has).append h2)) ?_
    have:=pD (hf f _ rfl) (a'++args.map a.eval++b') w
    simp [resolve,e',Deferred.ofValue,invoke]
    simpa using this
  |const v=>
   simp only [cX]at hc
   split at hc
   ·rename_i y as hy has
    cases hc
    split at hy
    ·rename_i fX
     cases hy
     simp only [aA,X.ev]at h
     cases v<;>simp at h
     simp [xJ,flat]at fX
    ·cases hy
   ·cases hc
  |global g=>simp [cX]at hc
 |builtin b=>
  simp only at hc
  split at hc
  ·
   rename_i x t rest fS Gy
   have vZ:args= #[x]:=Array.ext' (by simpa using fS)
   have ht0:argTypes[0]?=some t:=by rw [←Array.getElem?_toList,Gy];rfl
   subst vZ
   split at hc
   ·rename_i y hu hy
    cases hc
    have hv:=dK F hy
    simp only [aA]at h
    cases hq:y.ev fr<;>simp [hq]at h
    obtain ⟨rfl,rfl⟩:=h
    rw [hq]at hv
    refine .pure R (.same rfl) ?_
    simp [resolve,invoke,builtin,Builtin.len_,ht0,run_underlying hu,hv.string]
    rfl
   ·rename_i e y hu hy
    cases hc
    have hv:=dK F hy
    simp only [aA]at h
    cases hq:y.ev fr<;>simp [hq]at h
    obtain ⟨rfl,rfl⟩:=h
    rw [hq]at hv
    obtain ⟨a',c',e',_⟩:=V.Ur hv
    refine .pure R (.same rfl) ?_
    simp [resolve,invoke,builtin,Builtin.len_,ht0,run_underlying hu,e']
    rfl
   ·rename_i n e y hu hy
    cases hc
    simp only [aA,asm,ast]at h
    obtain ⟨rfl,rfl⟩:=h
    refine .pure R (.same rfl) ?_
    simp [resolve,invoke,builtin,Builtin.len_,ht0,run_underlying hu]
    rfl
   ·cases hc
  ·
   rename_i s x t u fS Gy
   have vZ:args= #[s,x]:=Array.ext' (by simpa using fS)
   have htt:argTypes= #[t,u]:=Array.ext' (by simpa using Gy)
   subst vZ htt
   have key:∀{e:TypeId} {y z:X},P.underlying t=some (.slice e)→((∃e',P.underlying u=some (.slice e'))∨P.underlying u=some .string)→cX s=some y→cX x=some z→
    (match P.info? e with|some i=>if i.size=0∨i.bytes=0∨(iT P e).isNone∨e=BY then none else some (cN.app i.size i.bytes y z)|none=>none)=some ao→iv w0 φ H w res H' ((do let d←resolve a.eval {callee:=.builtin .append,args:=#[s,x],argTypes:=#[t,u]} ty;invoke d.target d.args:Sem Next).run P w):=by
    intro e y z hu hk hy hz hc
    cases hi:P.info? e with
    |none=>simp [hi]at hc
    |some i=>
     simp only [hi]at hc
     split at hc
     ·cases hc
     ·rename_i gF
      cases hc
      have hzz:(iT P e).isSome=true:=by
       cases ht:iT P e with
       |none=>exact absurd (.inr (.inr (.inl (by simp [ht])))) gF
       |some l=>rfl
      obtain ⟨l,hl⟩:=Option.isSome_iff_exists.1 hzz
      obtain ⟨i',zv,rS,Aj,K5,_,Uu⟩:=jE hl
      rw [hi]at rS
      cases rS
      simp only [aA]at h
      cases hq:bI i.size i.bytes H (y.ev fr) (z.ev fr)with
      |none=>simp [hq]at h
      |some r=>
       obtain ⟨v,H1⟩:=r
       simp [hq]at h
       obtain ⟨rfl,rfl⟩:=h
       refine QD (P:=P) (t:=t) (tx:=u) (ty:=ty) (e:=e) (i:=i) (z:=zv) R uG hu hi Aj (by rw [←Uu,←K5];simp) (fun e=>gF (.inr (.inr (.inr e)))) rfl (fun e=>gF (.inl e)) rfl hk (dK F hy) (dK F hz) hq ?_
       simp [resolve,invoke,builtin]
   split at hc
   ·rename_i e e' y z hu hk hy hz;exact key hu (.inl ⟨e',hk⟩) hy hz hc
   ·rename_i e y z hu hk hy hz;exact key hu (.inr hk) hy hz hc
   ·cases hc
  ·
   rename_i s x t u fS Gy
   have vZ:args= #[s,x]:=Array.ext' (by simpa using fS)
   have htt:argTypes= #[t,u]:=Array.ext' (by simpa using Gy)
   subst vZ htt
   split at hc
   ·rename_i e y z hu hy hz
    cases hn:ew P e with
    |none=>simp [hn]at hc
    |some n=>
     simp [hn]at hc
     subst hc
     simp only [aA]at h
     cases hq:kP n H (y.ev fr) (z.ev fr)with
     |none=>simp [hq]at h
     |some r=>
      obtain ⟨v,H1⟩:=r
      simp [hq]at h
      obtain ⟨rfl,rfl⟩:=h
      refine K3 (P:=P) (t:=t) (tx:=u) (ty:=ty) (e:=e) R hu hn (dK F hy) (dK F hz) hq ?_
      simp [resolve,invoke,builtin]
   ·cases hc
  ·
   rename_i x l fS
   have vZ:args.toList=x::l:=fS
   split at hc
   ·rename_i y ys hy zM
    cases hc
    simp only [aA]at h
    cases hq:KB (y.ev fr) (ys.map (X.ev fr))with
    |none=>simp [hq]at h
    |some v=>
     simp [hq]at h
     obtain ⟨rfl,rfl⟩:=h
     obtain ⟨r',h1,h2⟩:=OZ (P:=P) (w:=w) (oE F zM) (dK F hy) hq
     refine .pure R h2 ?_
     simp [resolve,invoke,builtin,Builtin.max_,vZ,h1]
   ·cases hc
  ·
   rename_i x l fS
   have vZ:args.toList=x::l:=fS
   split at hc
   ·rename_i y ys hy zM
    cases hc
    simp only [aA]at h
    cases hq:OR (y.ev fr) (ys.map (X.ev fr))with
    |none=>simp [hq]at h
    |some v=>
     simp [hq]at h
     obtain ⟨rfl,rfl⟩:=h
     obtain ⟨r',h1,h2⟩:=O0 (P:=P) (w:=w) (oE F zM) (dK F hy) hq
     refine .pure R h2 ?_
     simp [resolve,invoke,builtin,Builtin.min_,vZ,h1]
   ·cases hc
  ·cases hc
theorem Gz {fr:Fr} {a:Act} (F:mu φ fr a) (R:Rel w0 φ H w) {t:TypeId} {m k x:Operand} {ao:cN} {res:jN} {H':AH}
 (hc:(match P.underlying t,cX m,cX k,cX x with|some (.map kt _),some a,some b,some c=>(cv P kt).map fun kk=>cN.qp kk a b c|_,_,_,_=>none)=some ao) (h:aA ao (X.ev fr) H=some (res,H')):
 iv w0 φ H w res H' ((do Instr.mapUpdate t (a.eval m) (a.eval k) (a.eval x);pure .skip:Sem Next).run P w):=by
 split at hc
 case h_2=>cases hc
 rename_i kt e m' k' x' hu hm hk hx
 cases FH:cv P kt with
 |none=>simp [FH]at hc
 |some kk=>
  simp [FH]at hc
  subst hc
  have h1:=dK F hm
  have h2:=dK F hk
  have h3:=dK F hx
  have hkd:∃d,P.underlying kt=some d:=by
   unfold cv at FH
   cases hd:P.underlying kt with
   |none=>simp [hd]at FH
   |some d=>exact ⟨d,rfl⟩
  obtain ⟨d,hd⟩:=hkd
  simp only [aA]at h
  split at h
  case h_2=>cases h
  rename_i r hq
  split at h
  case h_2=>cases h
  rename_i es hg
  obtain ⟨gK,h⟩:=aD h
  simp only [aso,asx]at gK
  rw [hq]at h1
  obtain ⟨l,hl,e1⟩:=V.mp1 h1
  have nJ:φ.n0≤r:=by rw [←R.n0];exact gK.1.2
  obtain ⟨_,es',ck,hw,xP⟩:=R.maps r l es nJ hl (AH.jj hg)
  have GA:a.eval k=k'.ev fr:=by
   have hf:=sP gK.1.1
   have VV:=gK.1.1
   cases xR:k'.ev fr<;>rw [xR]at hf h2 VV<;>simp [flat]at hf<;>first
    |exact h2.int
    |exact h2.string
    |exact h2.bool
    |(rcases kk with _|_|_|kk<;>simp [cH]at VV)
  have FI:(Instr.checkKey false 10000 kt (k'.ev fr)).run P w= .ok () w:=run_checkKey (P:=P) hd FH false 9999 _ w
  have GB:(getObj l.c).run P w= .ok (.map es' ck) w:=by simp [getObj,Sem.run,hw]
  have c8:l.c<w.heap.size:=(asz.1 hw).1
  have set:∀ob:Obj,(setObj l.c ob).run P w= .ok () {w with heap:=w.heap.setIfInBounds l.c ob}:=by intro ob;simp [setObj,Sem.run,hw]
  cases hup:mn (k'.ev fr) (x'.ev fr) es with
  |none=>simp [hup]at h
  |some Uv=>
   simp only [hup,Option.map_some,asm,ast]at h
   obtain ⟨rfl,rfl⟩:=h
   have done:∀(GC:Array MapEntry) (ck':Nat),ML φ Uv GC.toList→(Instr.mapUpdate t (a.eval m) (a.eval k) (a.eval x)).run P w= .ok () {w with heap:=w.heap.setIfInBounds l.c (.map GC ck')}→
    iv w0 φ H w (.v undef) (H.put r (some (.map Uv))) ((do Instr.mapUpdate t (a.eval m) (a.eval k) (a.eval x);pure .skip:Sem Next).run P w):=by
    intro GC ck' adq oF
    obtain ⟨R',G⟩:=R.Gv (w':={w with heap:=w.heap.setIfInBounds l.c (.map GC ck')}) (es':=GC) (ck:=ck') nJ hl hg (by simp [c8]) (fun q hq=>by simp [Array.getElem?_setIfInBounds_ne (Ne.symm hq)]) (by simp) rfl rfl rfl adq
    exact ⟨φ,_,_,by rw [Sem.run_bind,oF];rfl,R',G,.inr ⟨rfl,rfl⟩⟩
   rcases Gw (P:=P) hd FH gK.1.1 h3 0 xP hup with⟨GD,K7⟩|⟨v',j,en,GD,hj,VT,K7⟩
   ·refine done (es'.push ⟨k'.ev fr,a.eval x,ck⟩) (ck+1) (by simpa using K7 ck) ?_
    rw [e1,GA]
    simp [Instr.mapUpdate,run_underlying hu,GB,FI,Instr.findKey,run_underlying hd,GD,set]
   ·refine done (es'.modify j fun e=>{e with key:=k'.ev fr,val:=a.eval x}) ck (by simpa using K7) ?_
    rw [e1,GA]
    have FJ:es'[j]?=some en:=by simpa using hj
    simp [Instr.mapUpdate,run_underlying hu,GB,FI,Instr.findKey,run_underlying hd,GD,set,FJ,VT,Instr.keyThatStays,uP gK.1.1]
theorem VW {fr:Fr} {a:Act} (F:mu φ fr a) (R:Rel w0 φ H w) (uG:φ.m H.nx=none) {o:Oper} {ao:cN} (hc:Z8 P o=some ao) {res:jN} {H':AH} (h:aA ao (X.ev fr) H=some (res,H')) (hf:∀f as,res= .enter f as→D5 P f):
 iv w0 φ H w res H' ((execOp a.eval o).run P w):=by
 obtain ⟨dst,op,ty,pos,after,guard⟩:=o
 unfold Z8 at hc
 unfold execOp
 dsimp only at hc⊢
 cases op<;>simp only at hc⊢
 case move x=>
  cases hx:cX x with
  |none=>simp [hx]at hc
  |some y=>simp [hx]at hc;subst hc;exact BS F R hx h (by simp)
 case assign x=>
  cases hx:cX x with
  |none=>simp [hx]at hc
  |some y=>simp [hx]at hc;subst hc;exact BS F R hx h (by simp)
 case pick c x y=>
  split at hc
  ·rename_i c' x' y' QE hx hy
   cases hc
   simp only [aA]at h
   have hv:=dK F QE
   cases hq:c'.ev fr<;>simp [hq]at h
   rename_i b
   obtain ⟨rfl,rfl⟩:=h
   rw [hq]at hv
   cases b
   ·exact .pure R (dK F hy) (by simp [hv.bool,asBool])
   ·exact .pure R (dK F hx) (by simp [hv.bool,asBool])
  ·cases hc
 case alloc e=>
  split at hc
  ·cases hc
  rename_i gF
  cases hz:iT P e with
  |none=>simp [hz]at hc
  |some z=>
   simp [hz]at hc
   subst hc
   simp only [aA,asm,ast]at h
   obtain ⟨rfl,rfl⟩:=h
   obtain ⟨i,v,hi,hv,rU⟩:=Gj hz R uG (fun e=>gF (.inl e))
   have:((do pure (Next.value (←Instr.alloc e true (.tuple #[]))):Sem Next)).run P w= .ok (.value (.pointer (some ⟨w.heap.size,0,none⟩))) {w with heap:=w.heap.push (.cells v.cells e)}:=by
    simp [Instr.alloc,zeroValue,typeInfo,hi,hv,newVar,newRow]
   rw [this]
   exact rU
 case box e x=>
  split at hc
  ·cases hc
  rename_i gF
  cases hx:cX x with
  |none=>simp [hx]at hc
  |some y=>
   simp [hx]at hc
   subst hc
   simp only [aA]at h
   cases ht:cY (y.ev fr)with
   |true=>simp [ht]at h
   |false=>
    simp [ht]at h
    obtain ⟨rfl,rfl⟩:=h
    have:=Qx R uG (dK F hx) ht e gF
    have hr:((do pure (Next.value (←Instr.box e (a.eval x))):Sem Next)).run P w= .ok (.value (.pointer (some ⟨w.heap.size,0,none⟩))) {w with heap:=w.heap.push (.cells (a.eval x).cells e)}:=by
     simp [Instr.box,newVar,newRow]
    rw [hr]
    exact this
 case build t ps=>
  have key:∀{place:Nat→Option (Nat×Nat)} {z:List Value} {l:List (Nat×Nat×X)},iT P t=some z→jk place ps.toList=some l→cN.build z l=ao→
   (∀zv,(P.info? t).bind (·.zero)=some zv→∀cells,Instr.fill place zv.cells (ps.map fun p=>(p.1,a.eval p.2)).toList=some cells→(Instr.build t (ps.map fun p=>(p.1,a.eval p.2))).run P w= .ok (.agg cells) w)→
   iv w0 φ H w res H' ((do pure (Next.value (←Instr.build t (ps.map fun p=>(p.1,a.eval p.2)))):Sem Next).run P w):=by
   intro place z l hz hl hao oF
   subst hao
   obtain ⟨i,zv,hi,Aj,K5,Ut,Uu⟩:=jE hz
   obtain ⟨e1,e2⟩:=qA F hl
   simp only [aA,List.map_map]at h
   cases hq:jM z (l.map fun p=>(p.1,p.2.1,p.2.2.ev fr))with
   |none=>simp [hq]at h
   |some c=>
    simp [hq]at h
    obtain ⟨rfl,rfl⟩:=h
    obtain ⟨pC,q1,q2,q3⟩:=vX (φ:=φ) (ps:=l.map fun p=>(p.1,p.2.1,p.2.2.ev fr)) (ps':=ps.toList.map fun p=>(p.1,a.eval p.2)) (place:=place) (arr:=zv.cells) e1 e2 hq (by rw [K5];exact VL.same Ut) (fE Ut)
    have:=oF zv (by simp [hi,Aj]) pC (by simpa using q1)
    refine .pure R (.agg (a':=pC) (by simpa using q3) (by simpa using q2)) ?_
    simp [this]
  split at hc
  ·rename_i fs z hu hz
   split at hc
   ·rename_i pl hpl
    cases hl:jk (fun i=>pl[i]?) ps.toList with
    |none=>simp [hl]at hc
    |some l=>
     simp [hl]at hc
     refine key hz hl hc ?_
     intro zv Aj cells BW
     cases hi:P.info? t with
     |none=>simp [hi]at Aj
     |some i=>
      simp [hi]at Aj
      refine run_build w t _ cells ?_
      unfold Program.built
      simp [hi,hu,Aj,hpl]
      simpa using BW
   ·cases hc
  ·rename_i n e z hu hz
   split at hc
   ·rename_i n hn
    cases hl:jk (fun i=>some (i*n,n)) ps.toList with
    |none=>simp [hl]at hc
    |some l=>
     simp [hl]at hc
     refine key hz hl hc ?_
     intro zv Aj cells BW
     cases hi:P.info? t with
     |none=>simp [hi]at Aj
     |some i=>
      simp [hi]at Aj
      simp [Instr.build,zeroValue,typeInfo,hi,Aj,run_underlying hu,cW hn]
      simp at BW
      simp [BW]
   ·cases hc
  ·cases hc
 case buildSlice t len ps=>
  split at hc
  ·rename_i e hu
   split at hc
   ·rename_i n z hn hz
    split at hc
    ·cases hc
    ·rename_i hlen
     cases hl:jk (fun i=>some (i*n,n)) ps.toList with
     |none=>simp [hl]at hc
     |some l=>
      simp [hl]at hc
      subst hc
      obtain ⟨i,zv,hi,Aj,K5,Ut,Uu⟩:=jE hz
      obtain ⟨i',rS,hsn⟩:=sR hn
      rw [hi]at rS
      cases rS
      obtain ⟨e1,e2⟩:=qA F hl
      simp only [aA,List.map_map]at h
      have fX:=all_replicate Ut len
      have O1:=vW zv.cells n (by rw [←hsn,←Uu,←K5];simp) len
      rw [K5]at O1
      cases hq:jM (List.replicate len z).flatten (l.map fun p=>(p.1,p.2.1,p.2.2.ev fr))with
      |none=>simp [hq]at h
      |some c=>
       simp [hq]at h
       obtain ⟨rfl,rfl⟩:=h
       obtain ⟨pC,q1,q2,q3⟩:=vX (φ:=φ) (ps:=l.map fun p=>(p.1,p.2.1,p.2.2.ev fr)) (ps':=ps.toList.map fun p=>(p.1,a.eval p.2)) (place:=fun i=>some (i*n,n)) (arr:=madeCells zv.cells (len*n)) e1 e2 hq (by rw [O1];exact VL.same fX) (fE fX)
       have hr:((do pure (Next.value (←Instr.buildSlice t len (ps.map fun p=>(p.1,a.eval p.2)))):Sem Next)).run P w= .ok (.value (.slice (some ⟨w.heap.size,0,none⟩) len len)) {w with heap:=w.heap.push (.cells pC e)}:=by
        have h24:¬ (2^24<len*n):=by omega
        have lF:(Instr.fill (fun i=>some (i*n,n)) (madeCells (if len*n=0 then #[]else zv.cells) (len*n)) (ps.toList.map fun p=>(p.1,a.eval p.2)))=some pC:=by
         by_cases h0:len*n=0
         ·rw [if_pos h0,h0]
          rw [h0]at q1
          have:madeCells (#[]:Array Value) 0=madeCells zv.cells 0:=by simp [madeCells]
          rw [this]
          exact q1
         ·rw [if_neg h0];exact q1
        by_cases h0:len*n=0
        ·rw [if_pos h0]at lF
         simp only [madeCells]at lF
         simp [Instr.buildSlice,run_underlying hu,cW hn,h0]
         rw [h0]at lF
         simp at lF
         simp [lF,newRow]
        ·rw [if_neg h0]at lF
         simp only [madeCells]at lF
         simp [Instr.buildSlice,run_underlying hu,cW hn,h0,h24,zeroValue,typeInfo,hi,Aj]
         simp [lF,newRow]
       rw [hr]
       obtain ⟨R',G⟩:=R.new uG (w':={w with heap:=w.heap.push (.cells pC e)}) (z:=n) (cs:=c) (arr:=pC) (e:=e) rfl rfl rfl rfl (by rw [q2.length];simp) (pA q2 q3) (fun e=>hlen (.inr (.inr e)))
       refine ⟨_,_,_,rfl,R',G,.inl ⟨_,rfl,?_⟩⟩
       have:=V.sl (φ:=φ.add H.nx ⟨w.heap.size,0,pC.size,n⟩) (o:=0) (n:=len) (bZ.mq φ H.nx ⟨w.heap.size,0,pC.size,n⟩) (asp len) id (.inl rfl)
       simpa using this
   ·cases hc
  ·cases hc
 case load t x=>
  split at hc
  ·rename_i y QI hx
   cases hn:ew P t with
   |none=>simp [hn]at hc
   |some n=>
    simp [hn]at hc
    subst hc
    have hv:=dK F hx
    simp only [aA]at h
    cases hq:y.ev fr<;>simp [hq]at h
    rename_i p
    cases p<;>simp at h
    rename_i ad
    cases eh:H.ldn ad n with
    |none=>simp [eh]at h
    |some vs=>
     simp [eh]at h
     obtain ⟨rfl,rfl⟩:=h
     rw [hq]at hv
     obtain ⟨a',kS,e1,e2,e3,e4,e5⟩:=Gk R hv eh
     refine .pure R (.agg (a':=kS.toArray) (by simpa using e3) (by simpa using e4)) ?_
     have:=run_loadCells_list (P:=P) w a' kS e5
     rw [e2]at this
     simp [Instr.loadAt,e1,Instr.sureAddr,loadVar,kT QI,cW hn,this]
  ·rename_i y QI hx
   cases hc
   have hv:=dK F hx
   simp only [aA]at h
   cases hq:y.ev fr<;>simp [hq]at h
   rename_i p
   cases p<;>simp at h
   rename_i ad
   cases eh:H.ld ad with
   |none=>simp [eh]at h
   |some v=>
    simp [eh]at h
    obtain ⟨rfl,rfl⟩:=h
    rw [hq]at hv
    obtain ⟨a',v',e1,e2,e3⟩:=OV R hv eh
    refine .pure R e3 ?_
    simp [Instr.loadAt,e1,Instr.sureAddr,loadVar,kT QI,e2]
  ·cases hc
 case store t x v=>
  split at hc
  ·rename_i y z hx hv
   cases hn:ew P t with
   |none=>simp [hn]at hc
   |some n=>
    simp [hn]at hc
    subst hc
    have h1:=dK F hx
    have h2:=dK F hv
    simp only [aA]at h
    cases hq:y.ev fr<;>simp [hq]at h
    rename_i p
    cases p<;>simp at h
    rename_i ad
    rw [hq]at h1
    cases gK:(Nat.beq (aZ (z.ev fr)).length n&& !cY (z.ev fr))with
    |false=>simp [gK]at h
    |true=>
     simp only [gK,cond_true]at h
     simp [nb]at gK
     cases eT:H.st ad (aZ (z.ev fr))with
     |none=>simp [eT]at h
     |some H1=>
      simp [eT]at h
      obtain ⟨rfl,rfl⟩:=h
      obtain ⟨a',w',e1,e2,R',G⟩:=Gl (P:=P) R h1 eT h2.cells (oD h2 gK.2)
      refine ⟨φ,w',_,?_,R',G,.inr ⟨rfl,rfl⟩⟩
      have hlen:(a.eval v).cells.size=n:=by rw [←gK.1,h2.cells.length];simp
      simp [Instr.storeAt,e1,Instr.sureAddr,storeVar,cW hn,hlen,e2]
  ·cases hc
 case nilCheck x=>
  cases hx:cX x with
  |none=>simp [hx]at hc
  |some y=>
   simp [hx]at hc
   subst hc
   have hv:=dK F hx
   simp only [aA]at h
   cases hq:y.ev fr<;>simp [hq]at h
   rename_i p
   cases p<;>simp at h
   obtain ⟨rfl,rfl⟩:=h
   rw [hq]at hv
   obtain ⟨l,h1,h2,h3⟩:=V.xO hv
   refine .pure R hv ?_
   simp [h3]
 case binOp op t x y ty2=>
  split at hc
  ·rename_i x' y' hx hy
   have h1:=dK F hx
   have h2:=dK F hy
   have adr:∀v,cx op (x'.ev fr) (y'.ev fr)=some v→res= .v v∧H'=H→iv w0 φ H w res H' ((do pure (Next.value (←(do eqGuard op t x y (a.eval x) (a.eval y);binOp op t (a.eval x) (a.eval y)))):Sem Next).run P w):=by
    rintro v hv ⟨rfl,rfl⟩
    refine Qz (P:=P) R hv h1 h2 t x y ?_
    rw [Sem.run_bind]
    rfl
   have iL:ao= .bin op x' y'→iv w0 φ H w res H' ((do pure (Next.value (←(do eqGuard op t x y (a.eval x) (a.eval y);binOp op t (a.eval x) (a.eval y)))):Sem Next).run P w):=by
    rintro rfl
    simp only [aA]at h
    cases hq:cx op (x'.ev fr) (y'.ev fr)with
    |none=>simp [hq]at h
    |some v=>simp [hq]at h;exact adr v hq ⟨h.1.symm,h.2.symm⟩
   have heq:∀k neg,sK P t=some k→(op=bif neg then .neq else .eql)→ao= .eqk k neg x' y'→iv w0 φ H w res H' ((do pure (Next.value (←(do eqGuard op t x y (a.eval x) (a.eval y);binOp op t (a.eval x) (a.eval y)))):Sem Next).run P w):=by
    rintro k neg hk r6 rfl
    simp only [aA]at h
    cases hq:iK k (x'.ev fr) (y'.ev fr)with
    |none=>simp [hq]at h
    |some b=>
     simp [hq]at h
     obtain ⟨rfl,rfl⟩:=h
     refine QA (P:=P) R hk hq h1 h2 x y r6 ?_
     rw [Sem.run_bind]
     rfl
   have VX:∀fs neg,P.underlying t=some (.struct fs)→((fs.toList.all fun f=>f.name != "_" &&(cv P f.type).isSome)&& !P.stoodInHeld t&& !P.eqGuardType P.depth t)=true→(op=bif neg then .neq else .eql)→ao= .eqs neg (fs.toList.map fun f=>(f.offset,(cv P f.type).getD 9)) x' y'→
    iv w0 φ H w res H' ((do pure (Next.value (←(do eqGuard op t x y (a.eval x) (a.eval y);binOp op t (a.eval x) (a.eval y)))):Sem Next).run P w):=by
    rintro fs neg hu gK r6 rfl
    simp only [aso,Bool.not_eq_true']at gK
    simp only [aA]at h
    cases hq:x'.ev fr<;>simp only [hq]at h<;>first
     |(cases h;done)
     |skip
    rename_i cs
    cases xS:y'.ev fr<;>simp only [xS]at h<;>first
     |(cases h;done)
     |skip
    rename_i ds
    cases QJ:ep cs.toList ds.toList (fs.toList.map fun f=>(f.offset,(cv P f.type).getD 9))with
    |none=>simp [QJ]at h
    |some b=>
     simp only [QJ,Option.map_some,asm,ast]at h
     obtain ⟨rfl,rfl⟩:=h
     rw [hq]at h1
     rw [xS]at h2
     refine QH (P:=P) R hu gK.1.1 gK.1.2 gK.2 QJ h1 h2 x y r6 ?_
     rw [Sem.run_bind]
     rfl
   split at hc
   ·cases hc;exact iL rfl
   ·cases hc;exact iL rfl
   ·rename_i fs hu
    split at hc
    ·rename_i gK
     split at hc
     ·cases hc;exact VX fs false hu gK rfl rfl
     ·cases hc;exact VX fs true hu gK rfl rfl
     ·cases hc
    ·cases hc
   ·split at hc
    ·rename_i k hk;cases hc;exact heq k false hk rfl rfl
    ·rename_i k hk;cases hc;exact heq k true hk rfl rfl
    ·cases hc
  ·cases hc
 case unOp op t x=>
  cases hx:cX x with
  |none=>simp [hx]at hc
  |some y=>
   simp [hx]at hc
   subst hc
   have hv:=dK F hx
   simp only [aA]at h
   cases hq:F8 op (y.ev fr)with
   |none=>simp [hq]at h
   |some v=>
    simp [hq]at h
    obtain ⟨rfl,rfl⟩:=h
    unfold F8 at hq
    split at hq
    ·rename_i b hb
     cases hq
     rw [hb]at hv
     refine .pure R (.same rfl) ?_
     simp [hv.bool,Op.unary]
    ·rename_i k n hb
     cases hq
     rw [hb]at hv
     refine .pure R (.same rfl) ?_
     simp [hv.int,Op.unary,Op.intArith]
    ·cases hq
 case convert src dst x=>
  split at hc
  ·rename_i k1 k y hu1 hu2 hx
   cases hc
   have hv:=dK F hx
   simp only [aA]at h
   cases hq:y.ev fr<;>simp [hq]at h
   obtain ⟨rfl,rfl⟩:=h
   rw [hq]at hv
   refine .pure R (.same rfl) ?_
   simp [convert,run_underlying hu1,run_underlying hu2,hv.int,Conv.intToInt]
  ·rename_i k1 y hu1 hu2 hx
   cases hc
   have hv:=dK F hx
   simp only [aA]at h
   cases hq:y.ev fr<;>simp [hq]at h
   obtain ⟨rfl,rfl⟩:=h
   rw [hq]at hv
   refine .pure R (.same rfl) ?_
   simp [convert,run_underlying hu1,run_underlying hu2,hv.int,Conv.intToString]
  ·cases hc
 case makeFunc fn first cap=>
  cases fn<;>simp only at hc
  case func f=>
   split at hc
   ·rename_i xs ys hx hy
    cases hc
    simp only [aA,asm,ast]at h
    obtain ⟨rfl,rfl⟩:=h
    refine .pure R (.fn (a':=first.map a.eval) (b':=cap.map a.eval) (by simpa using oE F hx) (by simpa using oE F hy)) ?_
    simp [Instr.makeFunc]
   ·cases hc
  all_goals cases hc
 case makeMap t r=>
  cases r with
  |some r=>cases hc
  |none=>
   cases hc
   simp only [aA,asm,ast]at h
   obtain ⟨rfl,rfl⟩:=h
   obtain ⟨R',G⟩:=R.QF uG (w':={w with heap:=w.heap.push (.map #[] 0)}) rfl rfl rfl rfl
   refine ⟨_,_,.value (.map (some w.heap.size)),?_,R',G,.inl ⟨_,rfl,.mp (l:=⟨w.heap.size,0,0,0⟩) (bZ.mq _ _ _)⟩⟩
   simp [Instr.makeMap]
 case makeSlice t l c=>
  split at hc
  ·rename_i e hu
   split at hc
   ·rename_i i z x hi hz hx
    split at hc
    ·rename_i gK
     cases hc
     have hv:=dK F hx
     simp only [aA]at h
     cases hq:x.ev fr<;>simp [hq]at h
     rename_i k n
     rw [hq]at hv
     have hlc:a.eval c=a.eval l:=by
      have hs:=gK.1
      unfold rl at hs
      split at hs
      ·simp at hs;rw [hs]
      ·simp at hs;obtain ⟨rfl,rfl⟩:=hs;rfl
      ·cases hs
     cases uO:(decide (0≤n)&&decide (IntKind.i64.wrap n=n)&&decide ((i.bytes:Int)*n≤140737488355328))with
     |false=>rw [uO]at h;simp at h
     |true=>
      rw [uO]at h
      simp only [cond_true,asm,ast]at h
      obtain ⟨rfl,rfl⟩:=h
      simp only [aso,asx]at uO
      refine K4 (P:=P) (k:=k) R uG hu hi hz gK.2.2.2 rfl rfl uO.1.1 uO.1.2 (by have:=uO.2;omega) ?_
      rw [hlc,hv.int,Sem.run_bind]
      rfl
    ·cases hc
   ·cases hc
  ·cases hc
 case slice t x lo hi mx=>
  split at hc
  ·rename_i x' Ag rS DX hx hlo hhi VY
   have key:∀sz,ao= .sl sz x' Ag rS DX→(∀v,cl sz H (x'.ev fr) (Ag.map (X.ev fr)) (rS.map (X.ev fr)) (DX.map (X.ev fr))=some v→(P.underlying t=some .string∧∃s,x'.ev fr= .string s)∨(∃e,P.underlying t=some (.slice e)∧ew P e=some sz∧∃a n c,x'.ev fr= .slice a n c))→
    iv w0 φ H w res H' ((do pure (Next.value (←Instr.sliceAt t (a.eval x) (lo.map a.eval) (hi.map a.eval) (mx.map a.eval))):Sem Next).run P w):=by
    rintro sz rfl hty
    simp only [aA]at h
    cases hq:cl sz H (x'.ev fr) (Ag.map (X.ev fr)) (rS.map (X.ev fr)) (DX.map (X.ev fr))with
    |none=>simp [hq]at h
    |some v=>
     simp [hq]at h
     obtain ⟨rfl,rfl⟩:=h
     obtain ⟨v',e1,e2⟩:=DY (P:=P) (t:=t) R (hty v hq) hq (dK F hx) (Ak F hlo) (Ak F hhi) (Ak F VY)
     refine .pure R e2 ?_
     simp [e1]
   split at hc
   ·rename_i hu
    cases hc
    refine key 0 rfl (fun v hv=>.inl ⟨hu,?_⟩)
    unfold cl at hv
    split at hv
    ·split at hv
     ·cases hv
     ·obtain ⟨hb,_⟩:=aD hv
      simp [nb]at hb
    ·exact ⟨_,by assumption⟩
    ·cases hv
   ·rename_i e hu
    cases hn:ew P e with
    |none=>simp [hn]at hc
    |some n=>
     simp only [hn]at hc
     split at hc
     ·cases hc
     ·rename_i nJ
      cases hc
      refine key n rfl (fun v hv=>.inr ⟨e,hu,hn,?_⟩)
      unfold cl at hv
      split at hv
      ·exact ⟨_,_,_,by assumption⟩
      ·split at hv
       ·cases hv
       ·split at hv
        ·cases hv
        ·obtain ⟨hb,_⟩:=aD hv
         simp [nb]at hb
         exact absurd hb nJ
      ·cases hv
   ·cases hc
  ·cases hc
 case fieldAddr s x f=>
  split at hc
  ·rename_i fs y hu hx
   split at hc
   ·rename_i g hg
    split at hc
    ·rename_i n hn
     split at hc
     ·cases hc
     ·rename_i nJ
      cases hc
      have hv:=dK F hx
      simp only [aA]at h
      cases hq:y.ev fr<;>simp [hq]at h
      rename_i p
      cases p<;>simp at h
      rename_i ad
      obtain ⟨ji,h⟩:=aD h
      simp only [asm,ast]at h
      obtain ⟨rfl,rfl⟩:=h
      rw [hq]at hv
      obtain ⟨l,h1,h2,h3⟩:=V.xO hv
      refine .pure R (.ptr h2) ?_
      simp [Instr.fieldAt,run_underlying hu,hg,h3,Instr.sureAddr,fieldPlace,cW hn,nJ,add_lit,Nat.add_assoc,Nat.add_comm,Nat.add_left_comm]
    ·cases hc
   ·cases hc
  ·cases hc
 case indexAddr t x i=>
  split at hc
  ·rename_i e y z hu hx hi
   cases hn:ew P e with
   |none=>simp [hn]at hc
   |some n=>
    simp [hn]at hc
    subst hc
    have h1:=dK F hx
    have h2:=dK F hi
    simp only [aA]at h
    split at h
    case h_2=>cases h
    rename_i ad len cap k j hq xS
    split at h
    case isFalse=>cases h
    rename_i hj
    obtain ⟨ji,h⟩:=aD h
    simp only [asm,ast]at h
    obtain ⟨rfl,rfl⟩:=h
    rw [hq]at h1
    rw [xS]at h2
    rcases V.Gf h1 with⟨l,c',_,hl,_,_,_,e1⟩|⟨hs,_⟩
    ·refine .pure R (.ptr hl) ?_
     simp [Instr.indexAt,h2.int,asIntOf,run_underlying hu,e1,hj,cW hn,add_lit,Nat.add_assoc,Nat.add_comm,Nat.add_left_comm]
    ·rw [hs]at ji;simp at ji
  ·rename_i len e y z hu hx hi
   cases hn:ew P e with
   |none=>simp [hn]at hc
   |some n=>
    simp [hn]at hc
    subst hc
    have h1:=dK F hx
    have h2:=dK F hi
    simp only [aA]at h
    split at h
    case h_2=>cases h
    rename_i ad k j hq xS
    split at h
    case isFalse=>cases h
    rename_i hj
    obtain ⟨ji,h⟩:=aD h
    simp only [asm,ast]at h
    obtain ⟨rfl,rfl⟩:=h
    rw [hq]at h1
    rw [xS]at h2
    obtain ⟨l,_,hl,e1⟩:=V.xO h1
    refine .pure R (.ptr hl) ?_
    simp [Instr.indexAt,h2.int,asIntOf,run_underlying hu,e1,Instr.sureAddr,hj,cW hn,add_lit,Nat.add_assoc,Nat.add_comm,Nat.add_left_comm]
  ·cases hc
 case index t x i=>
  split at hc
  ·rename_i y z hu hx hi
   cases hc
   have h1:=dK F hx
   have h2:=dK F hi
   simp only [aA]at h
   cases hq:y.ev fr<;>simp [hq]at h
   rename_i s
   cases xS:z.ev fr<;>simp [xS]at h
   rename_i k j
   obtain ⟨hj,h⟩:=h
   cases hb:s[j.toNat]?with
   |none=>simp [hb]at h
   |some b=>
    simp [hb]at h
    obtain ⟨rfl,rfl⟩:=h
    rw [hq]at h1
    rw [xS]at h2
    refine .pure R (.same rfl) ?_
    simp [Instr.index,h1.string,h2.int,asIntOf,run_underlying hu,hj,hb]
  ·cases hc
 case makeInterface t x=>
  split at hc
  ·cases hc
  ·rename_i d y hni hu hx
   cases hc
   simp only [aA,asm,ast]at h
   obtain ⟨rfl,rfl⟩:=h
   refine .pure R (.iface (dK F hx)) ?_
   cases d<;>first
    |(simp [Instr.makeInterface,run_underlying hu];done)
    |exact absurd rfl (hni _)
  ·cases hc
 case extract x i=>
  cases hx:cX x with
  |none=>simp [hx]at hc
  |some y=>
   simp [hx]at hc
   subst hc
   have hv:=dK F hx
   simp only [aA]at h
   cases hq:y.ev fr<;>simp [hq]at h
   rename_i vs
   cases hj:vs[i]?with
   |none=>simp [hj]at h
   |some v=>
    simp [hj]at h
    obtain ⟨rfl,rfl⟩:=h
    rw [hq]at hv
    obtain ⟨kS,e1,e2⟩:=V.ac6 hv
    obtain ⟨v',e3,e4⟩:=e2.get i v (by simpa using hj)
    refine .pure R e4 ?_
    have Uw:kS[i]?=some v':=by simpa using e3
    simp [Instr.extract,e1,Uw]
 case call c=>exact K6 F R uG hc h hf ty
 case lookup t x k ok=>
  split at hc
  ·rename_i kt e x' k' hu hx hk
   split at hc
   ·rename_i z hz
    split at hc
    ·rename_i kk FH
     split at hc
     ·rename_i fX
      cases hc
      have h1:=dK F hx
      have h2:=dK F hk
      have hkd:∃d,P.underlying kt=some d:=by
       unfold cv at FH
       cases hd:P.underlying kt with
       |none=>simp [hd]at FH
       |some d=>exact ⟨d,rfl⟩
      obtain ⟨d,hd⟩:=hkd
      have hzero:(zeroValue e).run P w= .ok z w:=by
       cases hi:P.info? e with
       |none=>simp [hi]at hz
       |some i=>simp [hi]at hz;simp [zeroValue,typeInfo,hi,hz]
      simp only [aA]at h
      split at h
      ·rename_i hq
       obtain ⟨hko,h⟩:=aD h
       simp only [asm,ast]at h
       obtain ⟨rfl,rfl⟩:=h
       rw [hq]at h1
       have FI:=run_checkKey (P:=P) hd FH true 9999 (a.eval k) w
       have oF:(Instr.lookup t (a.eval x) (a.eval k) ok).run P w= .ok (if ok then .tuple #[z,.bool false]else z) w:=by
        rw [h1.mp0]
        simp [Instr.lookup,run_underlying hu,FI,Instr.findKey,run_underlying hd,Instr.findNow,hzero]
       refine .pure (x':=if ok then .tuple #[z,.bool false]else z) R ?_ (by simp [oF])
       cases ok
       ·exact V.xN fX
       ·exact .tuple (.cons (V.xN fX) (.cons (.same rfl) .nil))
      ·rename_i r hq
       split at h
       case h_2=>cases h
       rename_i es hg
       obtain ⟨gK,h⟩:=aD h
       simp only [aso,asx]at gK
       rw [hq]at h1
       obtain ⟨l,hl,e1⟩:=V.mp1 h1
       obtain ⟨_,es',ck,hw,xP⟩:=R.maps r l es (by rw [←R.n0];exact gK.2) hl (AH.jj hg)
       have GA:a.eval k=k'.ev fr:=by
        have hf:=sP gK.1
        cases xR:k'.ev fr<;>rw [xR]at hf h2 gK<;>simp [flat]at hf<;>first
         |exact h2.int
         |exact h2.string
         |exact h2.bool
         |(rcases kk with _|_|_|kk<;>simp [cH]at gK)
       have FI:=run_checkKey (P:=P) hd FH es'.isEmpty 9999 (a.eval k) w
       cases hfa:gI (k'.ev fr) es with
       |none=>simp [hfa]at h
       |some ro=>
        have GB:(getObj l.c).run P w= .ok (.map es' ck) w:=by simp [getObj,Sem.run,hw]
        have K8:(Instr.checkKey es'.isEmpty 10000 kt (a.eval k)).run P w= .ok () w:=FI
        rcases BU (P:=P) hd FH gK.1 0 xP hfa with⟨rfl,GD⟩|⟨v,v',j,en,rfl,GD,lC,_,_⟩
        ·simp only [hfa,asm,ast]at h
         obtain ⟨rfl,rfl⟩:=h
         have oF:(Instr.lookup t (a.eval x) (a.eval k) ok).run P w= .ok (if ok then .tuple #[z,.bool false]else z) w:=by
          rw [e1]
          rw [GA]at K8⊢
          simp [Instr.lookup,run_underlying hu,GB,K8,Instr.findKey,run_underlying hd,GD,hzero]
         refine .pure (x':=if ok then .tuple #[z,.bool false]else z) R ?_ (by simp [oF])
         cases ok
         ·exact V.xN fX
         ·exact .tuple (.cons (V.xN fX) (.cons (.same rfl) .nil))
        ·simp only [hfa,asm,ast]at h
         obtain ⟨rfl,rfl⟩:=h
         have oF:(Instr.lookup t (a.eval x) (a.eval k) ok).run P w= .ok (if ok then .tuple #[v',.bool true]else v') w:=by
          rw [e1]
          rw [GA]at K8⊢
          simp [Instr.lookup,run_underlying hu,GB,K8,Instr.findKey,run_underlying hd,GD]
         refine .pure (x':=if ok then .tuple #[v',.bool true]else v') R ?_ (by simp [oF])
         cases ok
         ·exact lC
         ·exact .tuple (.cons lC (.cons (.same rfl) .nil))
      ·cases h
     ·cases hc
    ·cases hc
   ·cases hc
  ·cases hc
 case mapUpdate t m k x=>exact Gz F R hc h
 case insert t m k x=>exact Gz F R hc h
 all_goals cases hc
end
end Go.Proofs.YtppcmpmnglaleaaGreatDoor.A
