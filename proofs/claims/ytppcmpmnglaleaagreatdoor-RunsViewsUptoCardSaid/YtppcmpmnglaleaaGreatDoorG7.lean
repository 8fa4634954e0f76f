/- Texts that stand one behind the other: Abs7, Abs8, Abs9, AbsA. -/
import Derived.Test.YtppcmpmnglaleaaGreatDoorG6
import Derived.Deep.Upon
set_option linter.unusedVariables false
set_option linter.unusedSimpArgs false
namespace Go.Proofs.YtppcmpmnglaleaaGreatDoor.A
open Go Go.RowKit
section
variable{P:Program} {w0 w:World} {φ:bl} {H:AH}
theorem p6 {φ:bl}:∀(l:List UInt8),VL φ (l.map fun b=>.int .u8 b.toNat) (l.map fun b=>.int .u8 b.toNat)
 |[]=>.nil
 |b::l=>.cons (.same rfl) (p6 l)
theorem LG {sz n:Nat} {x x':Value} {new:List Value} {tx:TypeId} (R:Rel w0 φ H w) (hx:V φ x x') (hn:lj x=some n) (h:nD H sz x=some new)
 (hk:(∃e',P.underlying tx=some (.slice e'))∨P.underlying tx=some .string):
 ∃news,Src P sz tx x' n news w∧VL φ new news∧new.all one=true:=by
 unfold nD at h
 split at h
 ·rename_i a n' c
  simp [lj]at hn
  subst hn
  simp only [nb,Bool.cond_decide]at h
  rcases V.Cu hx with⟨l,c',fM,hl,_,_,_,rfl⟩|⟨fM,rfl,_,a',c',rfl⟩
  ·split at h
   ·rename_i h0
    cases h
    subst h0
    refine ⟨[],⟨hk,fun _=>rfl,?_,?_,by simp,fun _ h=>by cases h⟩,.nil,rfl⟩
    ·simp [Builtin.firstCells,loadCells,loadCellsFrom]
    ·simp [Builtin.firstCells,loadCells,loadCellsFrom]
   ·obtain ⟨_,h1,h2,iV,h3,h4,h5⟩:=R.ldn h hl
    refine ⟨iV,⟨hk,fun _=>rfl,?_,?_,h3,h4.one h1⟩,h4,h1⟩
    ·exact run_firstCells_some w sz n' _ n' c' iV h3 h5
    ·exact run_firstCells_some w.drew sz n' _ n' c' iV h3 (by simpa using h5)
  ·simp at h
   subst h
   refine ⟨[],⟨hk,fun _=>rfl,?_,?_,by simp,fun _ h=>by cases h⟩,.nil,rfl⟩
   ·simp [Builtin.firstCells,loadCells,loadCellsFrom]
   ·simp [Builtin.firstCells,loadCells,loadCellsFrom]
 ·rename_i n' c
  simp [lj]at hn
  subst hn
  simp only [nb,Bool.cond_decide]at h
  split at h
  ·rename_i h0
   cases h
   subst h0
   rw [hx.OX]
   refine ⟨[],⟨hk,fun _=>rfl,?_,?_,by simp,fun _ h=>by cases h⟩,.nil,rfl⟩
   ·simp [Builtin.firstCells]
   ·simp [Builtin.firstCells]
  ·cases h
 ·rename_i s
  simp [lj]at hn
  subst hn
  simp only [nb,Bool.cond_decide]at h
  split at h
  ·rename_i h1
   cases h
   subst h1
   rw [hx.string]
   refine ⟨byteCells s,⟨hk,fun _=>rfl,firstCells_string s w,firstCells_string s w.drew,by rw [byteCells_length,Nat.mul_one],fun u hu=>?_⟩,p6 _,?_⟩
   ·obtain ⟨_,_,rfl⟩:=List.mem_map.1 hu
    rfl
   ·rw [al3]
    intro u hu
    obtain ⟨_,_,rfl⟩:=List.mem_map.1 hu
    rfl
  ·cases h
 ·cases h
theorem lz (t tx ty e:TypeId) (i:TypeInfo) (ht:P.underlying t=some (.slice e)) (hi:P.info? e=some i) (b off GY LH:Nat) (x:Value) (n:Nat) (news:List Value) (hs:Src P i.size tx x n news w) {w':World}
 (CD:GY+n≤LH) (gE:(storeCells ⟨b,off+GY*i.size,none⟩ news).run P w= .ok () w'):
 (Builtin.append_ #[t,tx] ty #[.slice (some ⟨b,off,none⟩) GY LH,x]).run P w= .ok (.slice (some ⟨b,off,none⟩) (GY+n) LH) w':=by
 rcases hs.kind with⟨e',hk⟩|hk<;>simp [Builtin.append_,run_underlying ht,run_underlying hk,sizeOf,typeInfo,hi,hs.len,CD,hs.cells,add_lit,gE]
theorem grownCap_ge (w:World) (xm old:Nat) (e:TypeId) (h:xm<2^63):xm≤grownCap w xm old e:=by
 unfold grownCap
 simp [Question.cut]
theorem p7 (cs:List Value) (z:Array Value) (xm cap sz:Nat) (hz:z.size=sz) (hc:cs.length=xm*sz) (hn:xm≤cap):(cs.toArray++Builtin.zeroCells z (cap- xm)).size=cap*sz:=by
 simp [size_zeroCells,hz,hc]
 rw [←Nat.add_mul]
 congr 1
 omega
theorem uN {φ:bl} {cs cW:List Value} (z:Array Value) (n:Nat) (h:VL φ cs cW) (o:cs.all one=true):CR φ 0 cs (cW.toArray++Builtin.zeroCells z n):=by
 intro j v hj
 obtain ⟨v',e,hv⟩:=h.get j v hj
 refine ⟨al3.1 o v (alS hj),v',?_,hv⟩
 have:j<cW.length:=(alT.1 e).1
 rw [Nat.zero_add,Array.getElem?_append_left (by simpa using this)]
 simpa using e
theorem LI {sz bytes:Nat} {s x s' x' v:Value} {H':AH} {t tx ty e:TypeId} {i:TypeInfo} {z:Value} (R:Rel w0 φ H w) (rE:φ.m H.nx=none) (ht:P.underlying t=some (.slice e)) (hi:P.info? e=some i) (hz:i.zero=some z) (Uo:z.cells.size=i.size)
 (Up:e≠BY) (gA:i.size=sz) (LJ:sz≠0) (CE:i.bytes=bytes) (hk:(∃e',P.underlying tx=some (.slice e'))∨P.underlying tx=some .string)
 (hs:V φ s s') (hx:V φ x x') (h:aX sz bytes H s x=some (v,H')) {r:Result Next} (er:r=((Builtin.append_ #[t,tx] ty #[s',x']).run P w).andThen fun v w=>.ok (.value v) w):
 ff w0 φ H w (.v v) H' r:=by
 subst gA CE
 unfold aX at h
 split at h
 case h_2=>cases h
 rename_i base sl sc n hn
 split at h
 ·rename_i h0
  subst h0
  simp only [Bool.cond_decide]at h
  split at h
  case isFalse=>cases h
  rename_i hle
  cases h
  obtain ⟨jJ,sc',rfl,hb⟩:=V.OY hs
  have Xs:sl≤sc':=by
   cases base with
   |none=>have he:=hs.OX;simp at he;omega
   |some a=>
    rcases V.Cu hs with⟨l,c',_,_,uw,_,_,he⟩|⟨_,rfl,_,_⟩
    ·simp at he;omega
    ·omega
  have j9:Src P i.size tx x' 0 [] w:=by
   unfold lj at hn
   split at hn
   ·simp at hn
    subst hn
    obtain ⟨a',c',rfl,_⟩:=V.OY hx
    refine ⟨hk,fun _=>rfl,?_,?_,by simp,fun _ h=>by cases h⟩<;>cases a'<;>simp [Builtin.firstCells,loadCells,loadCellsFrom]
   ·rename_i s
    simp at hn
    rw [hx.string]
    refine ⟨hk,fun _=>?_,?_,?_,by simp,fun _ h=>by cases h⟩
    ·simp [Builtin.lenOf,hn]
    ·simp [Builtin.firstCells]
    ·simp [Builtin.firstCells]
   ·cases hn
  rw [run_append_nothing w t tx ty e i ht hi jJ sl sc' Xs x' j9]at er
  exact .pure R hs er
 ·rename_i h0
  cases hq:nD H i.size x with
  |none=>simp [hq]at h
  |some new=>
   simp only [hq]at h
   obtain ⟨news,hS,hv,ho⟩:=LG (P:=P) R hx hn hq hk
   cases eN:(decide ((sl+n)*i.bytes≤2^47)&&decide (sl+n<2^62))with
   |false=>simp [eN]at h
   |true=>
    simp only [eN,cond_true]at h
    simp at eN
    obtain ⟨Qh,agh⟩:=eN
    have OZ:new.length=n*i.size:=by rw [hv.length];exact hS.newsLen
    split at h
    ·rename_i CD
     cases base with
     |none=>cases h
     |some a=>
      simp only at h
      cases ux:(H.jm a.block i.size&&a.spot.isNone)with
      |false=>simp [ux]at h
      |true=>
       simp only [ux,cond_true]at h
       cases gE:H.st ⟨a.block,a.off+sl*i.size,none⟩ new with
       |none=>simp [gE]at h
       |some H1=>
        simp [gE]at h
        obtain ⟨rfl,rfl⟩:=h
        simp at ux
        rcases V.Cu hs with⟨l,c',fM,hl,uw,xl,LF,rfl⟩|⟨fM,_⟩
        ·have hp:V φ (.pointer (some ⟨a.block,a.off+sl*i.size,none⟩)) (.pointer (some ⟨l.c,a.off+sl*i.size+l.s,none⟩)):=.ptr hl
         obtain ⟨a',w',e1,e2,R',G⟩:=Cz (P:=P) R hp gE hv ho
         simp at e1
         subst e1
         rw [show a.off+sl*i.size+l.s=a.off+l.s+sl*i.size by omega]at e2
         rw [lz t tx ty e i ht hi l.c (a.off+l.s) sl c' x' n news hS (by omega) e2]at er
         refine ⟨φ,w',_,er,R',G,.inl ⟨_,rfl,?_⟩⟩
         obtain ⟨b,o,sp⟩:=a
         dsimp only at fM⊢
         subst fM
         exact .sl hl uw xl LF
        ·rw [fM]at ux;simp at ux
    ·rename_i CD
     split at h
     ·rename_i Qi
      subst Qi
      obtain ⟨xn,h⟩:=au h
      simp only [alO,alV]at h
      obtain ⟨rfl,rfl⟩:=h
      simp only [nb,alQ,alZ]at xn
      obtain ⟨rfl,fM⟩:=xn
      have uy:∃jJ,s'= .slice jJ 0 0:=by
       cases base with
       |none=>exact ⟨none,hs.OX⟩
       |some a=>
        rcases V.Cu hs with⟨l,c',_,hl,uw,xl,LF,rfl⟩|⟨CF,_⟩
        ·exact ⟨_,by rw [xl rfl]⟩
        ·dsimp only at fM;rw [CF]at fM;simp at fM
      obtain ⟨jJ,rfl⟩:=uy
      have hold:(Builtin.firstCells i.size 0 (.slice jJ 0 0)).run P w.drew= .ok ([]:List Value).toArray w.drew:=by
       cases jJ<;>simp [Builtin.firstCells,loadCells,loadCellsFrom]
      have lQ:=run_append_grow_src w t tx ty e i z ht hi hz jJ 0 0 [] hold x' n news hS (by omega) (by omega) (by
       rw [Nat.zero_add]at*
       exact growslice_fits (by omega) (by simpa using Qh))
      rw [lQ]at er
      simp only [Nat.zero_add,List.nil_append]at er
      have fD:n≤grownCap w n 0 e:=grownCap_ge w n 0 e (by omega)
      have CG:=p7 news z.cells n (grownCap w n 0 e) i.size Uo hS.newsLen fD
      obtain ⟨R',G⟩:=R.new rE (w':=w.drew.alloc (.cells (news.toArray++Builtin.zeroCells z.cells (grownCap w n 0 e- n)) e)) (z:=i.size) (cs:=new) rfl rfl rfl rfl (by rw [CG,OZ];exact Nat.mul_le_mul_right _ fD) (uN _ _ hv ho) Up
      refine ⟨_,_,_,er,R',G,.inl ⟨_,rfl,?_⟩⟩
      refine .sl (bl.jZ _ _ _) fD (by omega) (.inr ?_)
      show 0+0+grownCap w n 0 e*i.size≤_
      rw [CG]
      simp
     ·rename_i Qi
      cases base with
      |none=>cases h
      |some a=>
       simp only at h
       cases xn:(decide (H.n0≤a.block)&&a.spot.isNone&&H.jm a.block i.size)with
       |false=>simp [xn]at h
       |true=>
        simp only [xn,cond_true]at h
        cases eW:H.ldn a (sl*i.size)with
        |none=>simp [eW]at h
        |some old=>
         simp [eW]at h
         obtain ⟨rfl,rfl⟩:=h
         simp at xn
         obtain ⟨⟨mu,fM⟩,ux⟩:=xn
         rw [R.n0]at mu
         rcases V.Cu hs with⟨l,c',CF,hl,uw,xl,LF,rfl⟩|⟨CF,_⟩
         case inr=>rw [CF]at fM;simp at fM
         obtain ⟨b,o,sp⟩:=a
         dsimp only at*
         subst CF
         unfold AH.jm at ux
         cases hg:H.get b with
         |none=>simp [hg]at ux
         |some aN=>
          cases aN with
          |map es=>simp [hg]at ux
          |cells zb cb=>
           simp [hg]at ux
           obtain ⟨g1,g2,g3,arr,e0,g4,g5,g6,g7⟩:=R.cells b l zb cb mu hl (AH.fO hg)
           obtain ⟨_,Kf,hol,olds,h3,h4,h5⟩:=R.ldn eW hl
           have Xt:old=(cb.drop o).take (sl*i.size)∧o+sl*i.size≤cb.length:=by
            unfold AH.ldn at eW
            simp only [hg,Bool.cond_decide,R.n0]at eW
            split at eW
            ·rename_i hn
             rw [if_neg (by omega)]at eW
             cases eW
             exact ⟨rfl,hn⟩
            ·cases eW
           have aT:(old++new).all one=true:=by simp only [List.all_append,Kf,ho];rfl
           by_cases hc:sl+n≤c'
           ·
            have hbound:o+l.s+c'*l.z≤l.n:=by
             rcases LF with e1|e1
             ·omega
             ·exact e1
            rw [g2]at hbound
            have GZ:o+l.s+sl*i.size+news.length≤arr.size:=by
             rw [g5,hS.newsLen,show o+l.s+sl*i.size+n*i.size=o+l.s+(sl+n)*i.size by rw [Nat.add_mul];omega]
             have:(sl+n)*i.size≤c'*zb:=Nat.mul_le_mul hc ux
             omega
            have gE:=run_storeCells_at P l.c (o+l.s+sl*i.size) e0 news 0 arr w g4 (by omega) hS.one
            simp only [Nat.add_zero]at gE
            rw [lz t tx ty e i ht hi l.c (o+l.s) sl c' x' n news hS hc gE]at er
            have hCR:CR φ (l.s+o) (old++new) (arr.toList.take (o+l.s+sl*i.size)++news++arr.toList.drop (o+l.s+sl*i.size+news.length)).toArray:=by
             intro j v hj
             by_cases hjo:j<old.length
             ·rw [al0 hjo]at hj
              have Uq:cb[o+j]?=some v:=by
               rw [Xt.1]at hj
               have:j<sl*i.size:=by omega
               simpa [List.getElem?_take,this,List.getElem?_drop]using hj
              obtain ⟨q1,v',q2,q3⟩:=g6 (o+j) v Uq
              refine ⟨q1,v',?_,q3⟩
              rw [List.getElem?_toArray,List.append_assoc,al0 (by simp;omega),List.getElem?_take,if_pos (by omega)]
              have:arr.toList[l.s+(o+j)]?=some v':=by simpa using q2
              rw [←this]
              congr 1
              omega
             ·rw [List.getElem?_append_right (by omega)]at hj
              obtain ⟨v',q2,q3⟩:=hv.get _ v hj
              refine ⟨al3.1 ho v (alS hj),v',?_,q3⟩
              have uv:j- old.length<news.length:=(alT.1 q2).1
              rw [List.getElem?_toArray,List.append_assoc,List.getElem?_append_right (by simp;omega),al0 (by simp;omega),←q2]
              congr 1
              simp
              omega
            obtain ⟨R',G⟩:=R.move rE (s2:=l.s+o) (z2:=i.size) (c2:=old++new) (w':=w.setRow l.c (arr.toList.take (o+l.s+sl*i.size)++news++arr.toList.drop (o+l.s+sl*i.size+news.length)).toArray) mu hl hg (setRow_heap w l.c arr _ e0 (0,0) g4) (fun k hk=>setRow_other w l.c k _ hk) (setRow_size _ _ _) rfl rfl rfl (by simp;omega)
             (by rw [alW,hol,OZ];rw [hS.newsLen,g5]at GZ;omega) hCR g7
            refine ⟨_,_,_,er,R',G,.inl ⟨_,rfl,?_⟩⟩
            have hcv:V (φ.add H.nx ⟨l.c,l.s+o,l.n,i.size⟩) (.slice (some ⟨H.nx,0,none⟩) (sl+n) (sl+n)) (.slice (some ⟨l.c,0+(l.s+o),none⟩) (sl+n) c'):=by
             refine .sl (l:=⟨l.c,l.s+o,l.n,i.size⟩) (by simp [bl.add]) hc (by omega) (.inr ?_)
             show 0+(l.s+o)+c'*i.size≤l.n
             have:c'*i.size≤c'*zb:=Nat.mul_le_mul_left _ ux
             omega
            rw [show 0+(l.s+o)=o+l.s by omega]at hcv
            exact hcv
           ·
            have hold:(Builtin.firstCells i.size sl (.slice (some ⟨l.c,o+l.s,none⟩) sl c')).run P w.drew= .ok olds.toArray w.drew:=run_firstCells_some w.drew i.size sl _ sl c' olds h3 (by simpa using h5)
            have lQ:=run_append_grow_src w t tx ty e i z ht hi hz (some ⟨l.c,o+l.s,none⟩) sl c' olds hold x' n news hS (by omega) (by omega) (growslice_fits (by omega) (by simpa using Qh))
            rw [lQ]at er
            have fD:sl+n≤grownCap w (sl+n) c' e:=grownCap_ge w (sl+n) c' e (by omega)
            have CG:=p7 (olds++news) z.cells (sl+n) (grownCap w (sl+n) c' e) i.size Uo (by rw [alW,h3,hS.newsLen,Nat.add_mul]) fD
            have Rk:=R.kill (b:=b) mu
            obtain ⟨R',G⟩:=Rk.new (show φ.m (H.put b none).nx=none from rE) (w':=w.drew.alloc (.cells ((olds++news).toArray++Builtin.zeroCells z.cells (grownCap w (sl+n) c' e- (sl+n))) e)) (z:=i.size) (cs:=old++new) rfl rfl rfl rfl
             (by rw [CG,alW,hol,OZ,←Nat.add_mul];exact Nat.mul_le_mul_right _ fD) (uN _ _ (h4.append hv) aT) Up
            refine ⟨_,_,_,er,R',G.same (by rfl) (by rfl),.inl ⟨_,rfl,?_⟩⟩
            refine .sl (bl.jZ _ _ _) fD (by omega) (.inr ?_)
            show 0+0+grownCap w (sl+n) c' e*i.size≤_
            rw [CG]
            simp
end
end Go.Proofs.YtppcmpmnglaleaaGreatDoor.A
namespace Go.Proofs.YtppcmpmnglaleaaGreatDoor.A
open Go Go.RowKit
section
variable{P:Program} {w0 w:World} {φ:bl} {H:AH}
theorem CH {sz n:Nat} {x x':Value} {c:List Value} (R:Rel w0 φ H w) (hx:V φ x x') (h:iG H sz n x=some c):
 ∃c',(Builtin.firstCells sz n x').run P w= .ok c'.toArray w∧VL φ c c'∧c.all one=true:=by
 unfold iG at h
 split at h
 ·rename_i a n' cp
  simp only [nb,Bool.cond_decide]at h
  obtain ⟨a',c',rfl,ha⟩:=V.OY hx
  split at h
  ·rename_i h0
   cases h
   refine ⟨[],?_,.nil,rfl⟩
   cases a'<;>simp [Builtin.firstCells,loadCells,loadCellsFrom,h0]
  ·rcases V.Cu hx with⟨l,Gw,fM,hl,_,_,_,he⟩|⟨fM,_⟩
   ·simp at he
    obtain ⟨rfl,rfl⟩:=he
    obtain ⟨_,h1,h2,iV,h3,h4,h5⟩:=R.ldn h hl
    exact ⟨iV,run_firstCells_some w sz n _ n' c' iV h3 h5,h4,h1⟩
   ·exfalso
    obtain ⟨b,o,sp⟩:=a
    dsimp only at fM
    subst fM
    simp [AH.ldn]at h
 ·cases h
  rw [hx.OX]
  exact ⟨[],by simp [Builtin.firstCells],.nil,rfl⟩
 ·rename_i s
  cases h
  rw [hx.string]
  refine ⟨_,?_,p6 _,?_⟩
  ·simp [Builtin.firstCells]
   apply Array.ext'
   simp
  ·rw [al3]
   intro u hu
   obtain ⟨_,_,rfl⟩:=List.mem_map.1 hu
   rfl
 ·cases h
theorem G0 {sz:Nat} {d s d' s' v:Value} {H':AH} {t tx ty e:TypeId} (R:Rel w0 φ H w) (ht:P.underlying t=some (.slice e)) (gA:dk P e=some sz) (hd:V φ d d') (hs:V φ s s') (h:iS sz H d s=some (v,H')) {r:Result Next}
 (er:r=((Builtin.copy_ #[t,tx] ty #[d',s']).run P w).andThen fun v w=>.ok (.value v) w):ff w0 φ H w (.v v) H' r:=by
 unfold iS at h
 split at h
 case h_2=>cases h
 rename_i base dl dc m hm
 dsimp only at h
 cases hf:iG H sz (Nat.min m dl) s with
 |none=>simp [hf]at h
 |some c=>
  simp only [hf,Option.bind_some]at h
  obtain ⟨c',Gx,LK,hc3⟩:=CH (P:=P) R hs hf
  obtain ⟨jJ,dc',rfl,hb⟩:=V.OY hd
  have hlen:(Builtin.lenOf s').run P w= .ok m w:=by
   unfold lj at hm
   split at hm
   ·simp at hm;subst hm
    obtain ⟨a',c',rfl,_⟩:=V.OY hs
    rfl
   ·simp at hm;subst hm
    rw [hs.string];rfl
   ·cases hm
  have run:∀{w':World},(match jJ with|some a=>(storeCells a c').run P w|none=>.ok () w)= .ok () w'→(Builtin.copy_ #[t,tx] ty #[.slice jJ dl dc',s']).run P w= .ok (goInt (Nat.min m dl:Nat)) w':=by
   intro w' hw
   cases jJ with
   |none=>simp at hw;subst hw;simp [Builtin.copy_,run_underlying ht,hlen,cm gA,Gx]
   |some a=>simp only at hw;simp [Builtin.copy_,run_underlying ht,hlen,cm gA,Gx,hw]
  cases base with
  |none=>
   obtain rfl:=hb.2 rfl
   simp at h
   obtain ⟨rfl,rfl⟩:=h
   rw [run (w':=w) rfl]at er
   exact .pure R (.same rfl) er
  |some a=>
   simp only at h
   cases c with
   |nil=>
    simp at h
    obtain ⟨rfl,rfl⟩:=h
    cases LK
    rw [run (w':=w) (by cases jJ<;>simp [storeCells])]at er
    exact .pure R (.same rfl) er
   |cons c0 cr=>
    simp only [List.isEmpty_cons,cond_false]at h
    cases gE:H.st a (c0::cr)with
    |none=>simp [gE]at h
    |some H1=>
     simp [gE]at h
     obtain ⟨rfl,rfl⟩:=h
     rcases V.Cu hd with⟨l,Gw,fM,hl,_,_,_,he⟩|⟨fM,_⟩
     ·simp at he
      obtain ⟨rfl,rfl⟩:=he
      obtain ⟨b,o,sp⟩:=a
      dsimp only at*
      subst fM
      obtain ⟨a',w',e1,e2,R',G⟩:=Cz (P:=P) R (.ptr hl) gE LK hc3
      simp at e1
      subst e1
      rw [run (w':=w') e2]at er
      exact ⟨φ,w',_,er,R',G,.inl ⟨_,rfl,.same rfl⟩⟩
     ·exfalso
      obtain ⟨b,o,sp⟩:=a
      dsimp only at fM
      subst fM
      simp [AH.st]at gE
theorem sW (z:Array Value) (m:Nat) (hm:z.size=m):∀n,(madeCells z (n*m)).toList=(List.replicate n z.toList).flatten
 |0=>by simp [madeCells]
 |n+1=>by
  have ih:=sW z m hm n
  simp only [madeCells,Array.toList_map,Array.toList_range]at ih⊢
  rw [show(n+1)*m=n*m+m by rw [Nat.succ_mul],List.range_add,List.map_append,ih,List.replicate_succ',List.flatten_append]
  congr 1
  simp only [List.map_map,List.flatten_cons,List.flatten_nil,List.append_nil]
  apply List.ext_getElem?
  intro j
  by_cases hj:j<m
  ·have:j<z.size:=by omega
   simp [hj,hm,Nat.mod_eq_of_lt hj,Nat.add_comm,this,getElem!_pos]
  ·rw [List.getElem?_eq_none (by simp;omega),List.getElem?_eq_none (by simp;omega)]
theorem all_replicate {z:List Value} (h:z.all flat=true):∀n,((List.replicate n z).flatten).all flat=true
 |0=>rfl
 |n+1=>by simp only [List.replicate_succ,List.flatten_cons,List.all_append,h,all_replicate h n];rfl
theorem G3 {sz bytes:Nat} {z:List Value} {k:IntKind} {n:Int} {t e:TypeId} {i:TypeInfo} (R:Rel w0 φ H w) (rE:φ.m H.nx=none) (ht:P.underlying t=some (.slice e)) (hi:P.info? e=some i) (hz:fB P e=some z) (Up:e≠BY) (gA:i.size=sz) (CE:i.bytes=bytes)
 (h0:0≤n) (hw:IntKind.i64.wrap n=n) (hb:(bytes:Int)*n≤2^47) {r:Result Next} (er:r=((Instr.makeSlice t (.int k n) (.int k n)).run P w).andThen fun v w=>.ok (.value v) w):
 ff w0 φ H w (.v (.slice (some ⟨H.nx,0,none⟩) n.toNat n.toNat)) (H.alloc (.cells sz (List.replicate n.toNat z).flatten)) r:=by
 obtain ⟨i',zv,pd,xp,G4,O0,O1⟩:=gD hz
 rw [hi]at pd
 cases pd
 subst gA CE
 have h63:n≤9223372036854775807:=by rw [IntKind.wrap_i64]at hw;omega
 have Uo:zv.cells.size=i.size:=by rw [←O1,←G4];simp
 rw [run_make w t e i zv ht hi xp k k n n h0 (Int.le_refl _) (by omega) h63]at er
 have hm:=sW zv.cells i.size Uo n.toNat
 rw [G4]at hm
 have iN:=all_replicate O0 n.toNat
 obtain ⟨R',G⟩:=R.new rE (w':=w.alloc (.cells (madeCells zv.cells (n.toNat*i.size)) e)) (z:=i.size) (cs:=(List.replicate n.toNat z).flatten) rfl rfl rfl rfl (by rw [←hm];simp) (mB (by rw [hm];exact VL.same iN) (ee iN)) Up
 refine ⟨_,_,_,er,R',G,.inl ⟨_,rfl,?_⟩⟩
 have:=V.sl (φ:=φ.add H.nx ⟨w.heap.size,0,(madeCells zv.cells (n.toNat*i.size)).size,i.size⟩) (o:=0) (n:=n.toNat) (bl.jZ φ H.nx ⟨w.heap.size,0,(madeCells zv.cells (n.toNat*i.size)).size,i.size⟩) (alR n.toNat) id (.inl rfl)
 simpa using this
theorem mC:∀(l:List Value) (k off:Nat) (arr:Array Value),off+k+l.length≤arr.size→
 ((l.zipIdx k).foldl (fun(cs:Array Value) (x:Value×Nat)=>cs.setIfInBounds (off+x.2) x.1) arr).toList=aF arr.toList (off+k) l
 |[],k,off,arr,h=>by
  rw [fg _ _ _ (by simpa using h)]
  simp
 |v::l,k,off,arr,h=>by
  simp only [List.zipIdx_cons,List.foldl_cons]
  rw [mC l (k+1) off _ (by simp at h⊢;omega)]
  rw [fg _ _ _ (by simp at h⊢;omega),fg _ _ _ (by simp at h⊢;omega)]
  apply List.ext_getElem?
  intro j
  simp only [Array.toList_setIfInBounds,List.length_cons]at*
  by_cases h1:j<off+k
  ·rw [List.append_assoc,List.append_assoc,al0 (by simp;omega),al0 (by simp;omega),List.getElem?_take,List.getElem?_take,if_pos (by omega),if_pos h1,List.getElem?_set_ne (by omega)]
  ·by_cases h2:j=off+k
   ·subst h2
    rw [List.append_assoc,al0 (by simp;omega),List.getElem?_take,if_pos (by omega),List.getElem?_set_self (by simp;omega)]
    rw [List.append_assoc,List.getElem?_append_right (by simp;omega),List.cons_append]
    simp
    rw [show off+k- min (off+k) arr.size=0 by omega]
    rfl
   ·by_cases h3:j<off+k+1+l.length
    ·rw [List.append_assoc,List.getElem?_append_right (by simp;omega),al0 (by simp;omega)]
     rw [List.append_assoc,List.getElem?_append_right (by simp;omega),al0 (by simp;omega)]
     simp
     rw [show j- min (off+k) arr.size=(j- min (off+(k+1)) arr.size)+1 by omega]
     simp
    ·rw [List.getElem?_append_right (by simp;omega),List.getElem?_append_right (by simp;omega),List.getElem?_drop,List.getElem?_drop]
     rw [List.getElem?_set_ne (by simp;omega)]
     congr 1
     simp
     omega
theorem sX:∀{ps:List (Nat×Nat×Value)} {ps':List (Nat×Value)} {c c2:List Value} {arr:Array Value} {place:Nat→Option (Nat×Nat)},
 ps.length=ps'.length→(∀(j:Nat) (p:Nat×Nat×Value),ps[j]?=some p→∃p':Nat×Value,ps'[j]?=some p'∧place p'.1=some (p.1,p.2.1)∧V φ p.2.2 p'.2)→
 gL c ps=some c2→VL φ c arr.toList→c.all one=true→∃mD,Instr.fill place arr ps'=some mD∧VL φ c2 mD.toList∧c2.all one=true
 |[],[],c,c2,arr,place,_,_,h,hv,ho=>by simp [gL]at h;subst h;exact ⟨arr,rfl,hv,ho⟩
 |[],_::_,_,_,_,_,h,_,_,_,_=>by simp at h
 |_::_,[],_,_,_,_,h,_,_,_,_=>by simp at h
 |(off,n,v)::ps,(i',v')::ps',c,c2,arr,place,hl,hp,h,hv,ho=>by
  obtain ⟨p',e1,e2,e3⟩:=hp 0 (off,n,v) (by simp)
  simp at e1
  subst e1
  dsimp only at e2 e3
  unfold gL at h
  obtain ⟨hc,h⟩:=au h
  simp only [nb,alQ,alZ,Bool.not_eq_true']at hc
  obtain ⟨⟨hn,GZ⟩,Xu⟩:=hc
  have nv:=e3.cells
  have adv:v'.cells.size=n:=by rw [←hn,nv.length];simp
  have hal:arr.size=c.length:=by rw [hv.length];simp
  have Xv:VL φ (aF c off (aP v)) (aF arr.toList off v'.cells.toList):=VL.aF off hv nv
  have Qj:=mC v'.cells.toList 0 off arr (by simp;omega)
  have Xw:(v'.cells.zipIdx.foldl (fun cs (x:Value×Nat)=>cs.setIfInBounds (off+x.2) x.1) arr).toList=aF arr.toList off v'.cells.toList:=by
   rw [←Array.foldl_toList,Array.toList_zipIdx]
   simpa using Qj
  obtain ⟨mD,q1,q2,q3⟩:=sX (ps:=ps) (ps':=ps') (arr:=v'.cells.zipIdx.foldl (fun cs (x:Value×Nat)=>cs.setIfInBounds (off+x.2) x.1) arr) (place:=place) (by simpa using hl) (fun j p hj=>by simpa using hp (j+1) p (by simpa using hj)) h (by rw [Xw];exact Xv) (by
   rw [fg _ _ _ (by omega)]
   simp only [List.all_append,lO e3 Xu,Bool.and_true,alQ]
   rw [al3]at ho
   exact ⟨al3.2 fun x hx=>ho x (List.mem_of_mem_take hx),al3.2 fun x hx=>ho x (List.mem_of_mem_drop hx)⟩)
  refine ⟨mD,?_,q2,q3⟩
  unfold Instr.fill
  rw [e2]
  simp only
  rw [if_neg (by simp;omega)]
  exact q1
theorem Rel.LL {w0 w w':World} {φ:bl} {H:AH} (R:Rel w0 φ H w) (h0:φ.m H.nx=none) (hh:w'.heap=w.heap.push (.map #[] 0)) (ho:w'.os=w.os) (ht:w'.tape=w.tape) (hp:w'.output=w.output):
 Rel w0 (φ.add H.nx ⟨w.heap.size,0,0,0⟩) (H.alloc (.map [])) w'∧Grow φ H w (φ.add H.nx ⟨w.heap.size,0,0,0⟩) (H.alloc (.map [])) w':=by
 have hle:φ.le (φ.add H.nx ⟨w.heap.size,0,0,0⟩):=bl.sU h0
 have gA:w0.heap.size≤w.heap.size:=R.below.size
 have gh:∀k,k<w.heap.size→w'.heap[k]?=w.heap[k]?:=fun k hk=>by rw [hh,Array.getElem?_push,if_neg (by omega)]
 have old:∀b l,φ.n0≤b→φ.m b=some l→(H.raw b).isSome=true→l.c<w.heap.size:=by
  intro b l hb hl hs
  cases hg:H.raw b with
  |none=>simp [hg]at hs
  |some aN=>
   cases aN with
   |cells z' c=>
    obtain ⟨_,_,_,a,e',h4,_⟩:=R.cells b l z' c hb hl hg
    exact (al1.1 h4).1
   |map es=>
    obtain ⟨_,a,e',h4,_⟩:=R.maps b l es hb hl hg
    exact (al1.1 h4).1
 refine ⟨?_,?_⟩
 ·refine ⟨R.n0,R.nE,by rw [AH.dj];have:=R.oD;exact Nat.le_succ_of_le this,R.c0,?_,?_,?_,?_,?_,?_,?_,R.sV⟩
  ·refine ⟨ho.trans R.below.os,ht.trans R.below.tape,hp.trans R.below.output,?_,fun k hk=>?_⟩
   ·rw [hh,Array.size_push];omega
   ·rw [gh k (by omega)];exact R.below.block k hk
  ·intro b hb
   exact hle _ _ (R.gg b hb)
  ·intro b z' c hb hg
   have jW:b<φ.n0:=hb
   rw [AH.cj,if_neg (by have:=R.oD;omega)]at hg
   obtain ⟨e',fz,hw⟩:=R.iU b z' c hb hg
   exact ⟨e',fz,by rw [gh b (by have:=R.nE;have:=R.c0;omega)];exact hw⟩
  ·intro b l z' c hb hl hg
   rw [AH.cj]at hg
   simp only [bl.add]at hl
   by_cases xi:b=H.nx
   ·rw [if_pos xi]at hg
    cases hg
   ·rw [if_neg xi]at hg hl
    obtain ⟨h1,h2,h3,a,e',h4,h5,h6,h7⟩:=R.cells b l z' c hb hl hg
    exact ⟨h1,h2,h3,a,e',by rw [gh _ (al1.1 h4).1];exact h4,h5,h6.mono hle,h7⟩
  ·intro b l es hb hl hg
   rw [AH.cj]at hg
   simp only [bl.add]at hl
   by_cases xi:b=H.nx
   ·rw [if_pos xi]at hg hl
    cases hg
    cases hl
    exact ⟨by show φ.c0≤w.heap.size;rw [R.c0];exact gA,#[],0,by rw [hh];simp,.nil⟩
   ·rw [if_neg xi]at hg hl
    obtain ⟨h1,a,e',h4,h5⟩:=R.maps b l es hb hl hg
    exact ⟨h1,a,e',by rw [gh _ (al1.1 h4).1];exact h4,h5.mono hle⟩
  ·intro b1 b2 l1 l2 j6 gC h1 h2 g1 g2 j7
   rw [AH.cj]at g1 g2
   simp only [bl.add]at h1 h2
   by_cases e1:b1=H.nx<;>by_cases e2:b2=H.nx
   ·rw [e1,e2]
   ·rw [if_pos e1]at h1
    rw [if_neg e2]at h2 g2
    cases h1
    have:=old b2 l2 gC h2 g2
    simp at j7
    omega
   ·rw [if_neg e1]at h1 g1
    rw [if_pos e2]at h2
    cases h2
    have:=old b1 l1 j6 h1 g1
    simp at j7
    omega
   ·rw [if_neg e1]at h1 g1
    rw [if_neg e2]at h2 g2
    exact R.inj b1 b2 l1 l2 j6 gC h1 h2 g1 g2 j7
  ·intro b s eb
   obtain ⟨h1,h2,l,h3,h4,h5⟩:=R.mr b s eb
   have fw:b≠H.nx:=by rintro rfl;rw [h0]at h3;cases h3
   refine ⟨h1,by rw [AH.cj,if_neg fw];exact h2,l,hle _ _ h3,h4,h5.pX rfl (fun k hk _=>gh k hk) fun b' l' a1 a2 a3=>?_⟩
   rw [AH.cj]at a3
   simp only [bl.add]at a2
   by_cases jW:b'=H.nx
   ·rw [if_pos jW]at a2
    cases a2
    exact .inr (.inl (alR _))
   ·rw [if_neg jW]at a2 a3
    exact .inl ⟨a1,a2,a3⟩
 ·refine ⟨hle,rfl,rfl,by rw [AH.dj];exact Nat.le_succ _,?_,by rw [hh,Array.size_push];exact Nat.le_succ _⟩
  ·intro b l h k
   simp only [bl.add]at k
   split at k
   ·rename_i hb;subst hb;exact ⟨alR _,by rw [AH.dj];exact al2 _⟩
   ·rw [h]at k;cases k
theorem Rel.CI {w0 w w':World} {φ:bl} {H:AH} (R:Rel w0 φ H w) {b ck:Nat} {c c':List (Value×Value)} {l:Loc} {es':Array MapEntry} (hb:φ.n0≤b) (hl:φ.m b=some l) (hg:H.get b=some (.map c))
 (hw:w'.heap[l.c]?=some (.map es' ck)) (hk:∀k,k≠l.c→w'.heap[k]?=w.heap[k]?) (hs:w'.heap.size=w.heap.size) (ho:w'.os=w.os) (ht:w'.tape=w.tape) (hp:w'.output=w.output)
 (hc:ML φ c' es'.toList):
 Rel w0 φ (H.put b (some (.map c'))) w'∧Grow φ H w φ (H.put b (some (.map c'))) w':=by
 have hg:=AH.fO hg
 obtain ⟨g1,a0,e0,g4,g5⟩:=R.maps b l c hb hl hg
 refine ⟨⟨R.n0,R.nE,R.oD,R.c0,?_,R.gg,?_,?_,?_,?_,?_,R.sV⟩,?_⟩
 ·refine ⟨ho.trans R.below.os,ht.trans R.below.tape,hp.trans R.below.output,by rw [hs];exact R.below.size,fun k h=>?_⟩
  rw [hk k (by have:=R.c0;omega)]
  exact R.below.block k h
 ·intro x z' d hx eV
  rw [AH.cu,if_neg (by omega)]at eV
  obtain ⟨e',fz,hh⟩:=R.iU x z' d hx eV
  refine ⟨e',fz,?_⟩
  rw [hk x (by have:=R.nE;omega)]
  exact hh
 ·intro x lx z' d hx gj eV
  rw [AH.cu]at eV
  by_cases iM:x=b
  ·rw [if_pos iM]at eV;cases eV
  ·rw [if_neg iM]at eV
   obtain ⟨h1,h2,h3,a,e',h4,h5,h6,h7⟩:=R.cells x lx z' d hx gj eV
   refine ⟨h1,h2,h3,a,e',?_,h5,h6,h7⟩
   rw [hk]
   ·exact h4
   ·intro hc
    exact iM (R.inj x b lx l hx hb gj hl (by simp [eV]) (by simp [hg]) hc)
 ·intro x lx es hx gj eV
  rw [AH.cu]at eV
  by_cases iM:x=b
  ·subst iM
   rw [if_pos rfl]at eV
   cases eV
   rw [hl]at gj
   cases gj
   exact ⟨g1,es',ck,hw,hc⟩
  ·rw [if_neg iM]at eV
   obtain ⟨h1,a,e',h4,h5⟩:=R.maps x lx es hx gj eV
   refine ⟨h1,a,e',?_,h5⟩
   rw [hk]
   ·exact h4
   ·intro hc
    exact iM (R.inj x b lx l hx hb gj hl (by simp [eV]) (by simp [hg]) hc)
 ·intro b1 b2 l1 l2 j6 gC h1 h2 s1 s2 j7
  have live:∀x,((H.put b (some (.map c'))).raw x).isSome=true→(H.raw x).isSome=true:=by
   intro x hx
   rw [AH.cu]at hx
   by_cases iM:x=b
   ·subst iM;simp [hg]
   ·rw [if_neg iM]at hx;exact hx
  exact R.inj b1 b2 l1 l2 j6 gC h1 h2 (live _ s1) (live _ s2) j7
 ·intro x s eb
  obtain ⟨h1,h2,lx,h3,h4,h5⟩:=R.mr x s eb
  have fw:x≠b:=by rintro rfl;rw [hg]at h2;cases h2
  obtain ⟨k1,k2⟩:=h5.apart b l hb hl (by simp [hg])
  refine ⟨h1,by rw [AH.cu,if_neg fw];exact h2,lx,h3,h4,h5.pX rfl (fun k _ Lz=>hk k ?_) fun b' l' a1 a2 a3=>.inl ⟨a1,a2,?_⟩⟩
  ·rcases Lz with rfl|⟨v,hv,AI⟩
   ·exact fun e=>k1 e.symm
   ·exact fun e=>k2 v hv (e▸AI)
  ·rw [AH.cu]at a3
   by_cases iM:b'=b
   ·subst iM;simp [hg]
   ·rw [if_neg iM]at a3;exact a3
 ·exact ⟨bl.le_refl _,rfl,rfl,alR _,fun _ _ h k=>(by rw [h]at k;cases k),by rw [hs];exact alR _⟩
theorem p8 {kk:Nat} {k:Value} (h:cq kk k=true):flat k=true:=by
 rcases kk with _|_|_|kk<;>cases k<;>first|rfl|(simp [cq]at h)
theorem p9 {kk:Nat} {kt:TypeId} {d:TypeDesc} {k k':Value} {b:Bool} (hd:P.underlying kt=some d) (hk:bJ P kt=some kk) (ho:cq kk k=true) (h:fZ k k'=some b):Instr.sameNow d k k'=some b∧cq kk k'=true∧(b=true→k=k'):=by
 unfold bJ at hk
 rw [hd]at hk
 cases d<;>simp at hk<;>subst hk
 case int=>
  cases k<;>simp [cq]at ho
  cases k'<;>simp [fZ]at h
  rename_i k1 a k2 c
  obtain ⟨rfl,rfl⟩:=h
  exact ⟨by simp [Instr.sameNow],rfl,by simp⟩
 case string=>
  cases k<;>simp [cq]at ho
  cases k'<;>simp [fZ]at h
  rename_i a c
  subst h
  refine ⟨?_,rfl,?_⟩
  ·simp [Instr.sameNow,beq_toListBytes,ByteArray.toList_eq]
  ·intro hb
   simp at hb
   have:a=c:=by
    obtain ⟨⟨a⟩⟩:=a
    obtain ⟨⟨c⟩⟩:=c
    simp at hb
    rw [hb]
   rw [this]
 case bool=>
  cases k<;>simp [cq]at ho
  cases k'<;>simp [fZ]at h
  subst h
  exact ⟨by simp [Instr.sameNow],rfl,by simp⟩
theorem yQ {kk:Nat} {kt:TypeId} {d:TypeDesc} {k:Value} (hd:P.underlying kt=some d) (hk:bJ P kt=some kk) (ho:cq kk k=true):
 ∀{es:List (Value×Value)} {l:List MapEntry} {r:Option Value} (i:Nat),ML φ es l→eL k es=some r→
  (r=none∧Instr.findNow d k l i=some none)∨∃v v' j e,r=some v∧Instr.findNow d k l i=some (some (i+j,v'))∧V φ v v'∧l[j]?=some e∧e.key=k
 |_,_,r,i,.nil,h=>by simp [eL]at h;subst h;exact .inl ⟨rfl,rfl⟩
 |_,_,r,i,.cons (k:=k') (v:=v) (v':=v') (n:=n) hv hl,h=>by
  simp only [eL]at h
  cases he:fZ k k' with
  |none=>simp [he]at h
  |some b=>
   obtain ⟨hs,Lz,hb⟩:=p9 hd hk ho he
   cases b with
   |true=>
    simp [he]at h
    subst h
    refine .inr ⟨v,v',0,_,rfl,?_,hv,rfl,(hb rfl).symm⟩
    simp [Instr.findNow,hs]
   |false=>
    simp only [he]at h
    rcases yQ hd hk ho (i+1) hl h with⟨hr,hf⟩|⟨v2,Qe,j,e,hr,hf,Kd,hj,Qk⟩
    ·exact .inl ⟨hr,by simp [Instr.findNow,hs,hf]⟩
    ·refine .inr ⟨v2,Qe,j+1,e,hr,?_,Kd,by simpa using hj,Qk⟩
     simp [Instr.findNow,hs,hf]
     omega
theorem CJ {kk:Nat} {kt:TypeId} {d:TypeDesc} {k u u':Value} (hd:P.underlying kt=some d) (hk:bJ P kt=some kk) (ho:cq kk k=true) (hu:V φ u u'):
 ∀{es O2:List (Value×Value)} {l:List MapEntry} (i:Nat),ML φ es l→jY k u es=some O2→
  (Instr.findNow d k l i=some none∧∀n,ML φ O2 (l++[⟨k,u',n⟩]))∨∃v' j e,Instr.findNow d k l i=some (some (i+j,v'))∧l[j]?=some e∧e.key=k∧ML φ O2 (l.modify j fun e=>{e with key:=k,val:=u'})
 |_,_,_,i,.nil,h=>by
  simp [jY]at h
  subst h
  exact .inl ⟨rfl,fun n=>.cons hu .nil⟩
 |_,_,_,i,.cons (k:=k') (v:=v) (v':=v') (n:=n) (l:=es) (l':=l) hv hl,h=>by
  simp only [jY]at h
  cases he:fZ k k' with
  |none=>simp [he]at h
  |some b=>
   obtain ⟨hs,Lz,hb⟩:=p9 hd hk ho he
   cases b with
   |true=>
    simp [he]at h
    subst h
    refine .inr ⟨v',0,_,?_,rfl,(hb rfl).symm,?_⟩
    ·simp [Instr.findNow,hs]
    ·simpa using ML.cons hu hl
   |false=>
    simp only [he]at h
    cases hq:jY k u es with
    |none=>simp [hq]at h
    |some es3=>
     simp [hq]at h
     subst h
     rcases CJ hd hk ho hu (i+1) hl hq with⟨hf,hm⟩|⟨Qe,j,e,hf,hj,Qk,hm⟩
     ·exact .inl ⟨by simp [Instr.findNow,hs,hf],fun n=>.cons hv (hm n)⟩
     ·refine .inr ⟨Qe,j+1,e,?_,by simpa using hj,Qk,?_⟩
      ·simp [Instr.findNow,hs,hf]
       omega
      ·simpa using ML.cons hv hm
theorem run_checkKey {kk:Nat} {kt:TypeId} {d:TypeDesc} (hd:P.underlying kt=some d) (hk:bJ P kt=some kk) (b:Bool) (n:Nat) (k:Value) (w:World):(Instr.checkKey b (n+1) kt k).run P w= .ok () w:=by
 unfold bJ at hk
 rw [hd]at hk
 cases d<;>simp at hk<;>simp [Instr.checkKey,run_underlying hd]
theorem rJ {kk:Nat} {k:Value} (h:cq kk k=true) (n:Nat):Instr.sameBits n k k=true:=by
 rcases kk with _|_|_|kk<;>cases k<;>simp [cq]at h<;>simp [Instr.sameBits,beq_toListBytes]
end
end Go.Proofs.YtppcmpmnglaleaaGreatDoor.A
namespace Go.Proofs.YtppcmpmnglaleaaGreatDoor.A
open Go Go.RowKit
section
variable{P:Program} {w0 w:World} {φ:bl} {H:AH}
def AP (P:Program) (f:Nat):Prop:=∃fn,P.funcs[f]?=some fn∧fn.body.isNone=false∧(fn.name== "runtime.NumGoroutine")=false
theorem mE {f:Nat} (h:AP P f) (as:Array Value) (w:World):(callFunc f as).run P w= .ok (.enter f as) w:=by
 obtain ⟨fn,h1,h2,h3⟩:=h
 have CK:¬ fn.name= "runtime.NumGoroutine":=by simpa using h3
 have B1:fn.body≠none:=by intro e;rw [e]at h2;cases h2
 simp [callFunc,h1,B1,CK]
theorem ff.enter {f:Nat} {as:List Value} {as':Array Value} {r:Result Next} (R:Rel w0 φ H w) (h:VL φ as as'.toList) (hr:r= .ok (.enter f as') w):ff w0 φ H w (.enter f as) H r:=
 ⟨φ,w,_,hr,R,Grow.refl _ _ _,as',rfl,h⟩
theorem xq {φ:bl} {fr:Fr} {a:Act} (F:j8 φ fr a) {x:Option Operand} {y:Option X} (h:OW x=some y):VO φ (y.map (X.ev fr)) (x.map a.eval):=by
 cases x with
 |none=>simp [OW]at h;subst h;exact .none
 |some x=>
  simp only [OW]at h
  cases hx:cX x with
  |none=>simp [hx]at h
  |some z=>simp [hx]at h;subst h;exact .some (cE F hx)
theorem Kg:∀{l l':List Value} {v v' r:Value},VL φ l l'→V φ v v'→J7 v l=some r→∃r',(l'.foldlM Builtin.max2 v').run P w= .ok r' w∧V φ r r'
 |_,_,v,v',r,.nil,hv,h=>by
  simp [J7]at h
  subst h
  exact ⟨v',by simp,hv⟩
 |_,_,v,v',r,.cons (v:=u) a b,hv,h=>by
  cases v<;>cases u<;>simp [J7]at h
  rw [hv.int,a.int]
  obtain ⟨r',h1,h2⟩:=Kg b (.same rfl) h
  refine ⟨r',?_,h2⟩
  simpa [Builtin.max2]using h1
theorem Kh:∀{l l':List Value} {v v' r:Value},VL φ l l'→V φ v v'→J8 v l=some r→∃r',(l'.foldlM Builtin.min2 v').run P w= .ok r' w∧V φ r r'
 |_,_,v,v',r,.nil,hv,h=>by
  simp [J8]at h
  subst h
  exact ⟨v',by simp,hv⟩
 |_,_,v,v',r,.cons (v:=u) a b,hv,h=>by
  cases v<;>cases u<;>simp [J8]at h
  rw [hv.int,a.int]
  obtain ⟨r',h1,h2⟩:=Kh b (.same rfl) h
  refine ⟨r',?_,h2⟩
  simpa [Builtin.min2]using h1
theorem CL {a b a' b':Value} {r:Bool} (h:fZ a b=some r) (ha:V φ a a') (hb:V φ b b'):a'=a∧b'=b:=by
 unfold fZ at h
 split at h
 ·exact ⟨ha.int,hb.int⟩
 ·exact ⟨ha.string,hb.string⟩
 ·exact ⟨ha.bool,hb.bool⟩
 ·cases h
theorem yR {ft:TypeId} {kk:Nat} (hk:bJ P ft=some kk) {x y:Value} {r:Bool} (ho:cq kk x=true) (h:fZ x y=some r) (d:Nat) (w:World) {cs ds:Array Value} {o:Nat} (hx:cs[o]?=some x) (hy:ds[o]?=some y):
 (part ft cs o).run P w= .ok x w∧(part ft ds o).run P w= .ok y w∧(Op.equalIn (d+1) ft x y).run P w= .ok r w:=by
 unfold bJ at hk
 cases hu:P.underlying ft with
 |none=>simp [hu]at hk
 |some ty=>
  cases ty<;>simp [hu]at hk<;>subst hk
  case int q=>
   cases x<;>simp [cq]at ho
   cases y<;>simp [fZ]at h
   rename_i k a k' b
   obtain ⟨rfl,rfl⟩:=h
   refine ⟨?_,?_,run_equalIn_int w d ft k q a b hu⟩<;>simp [part,isAgg,run_underlying hu,hx,hy]
  case string=>
   cases x<;>simp [cq]at ho
   cases y<;>simp [fZ]at h
   rename_i a b
   subst h
   refine ⟨?_,?_,?_⟩
   ·simp [part,isAgg,run_underlying hu,hx]
   ·simp [part,isAgg,run_underlying hu,hy]
   ·rw [run_equalIn_string w d ft a b hu];simp [ByteArray.toList_eq]
  case bool=>
   cases x<;>simp [cq]at ho
   cases y<;>simp [fZ]at h
   rename_i a b
   subst h
   refine ⟨?_,?_,run_equalIn_bool' w d ft a b hu⟩<;>simp [part,isAgg,run_underlying hu,hx,hy]
theorem oF {cs ds cW sY:Array Value} (hc:VL φ cs.toList cW.toList) (hd:VL φ ds.toList sY.toList) (d:Nat) (w:World):∀(fs:List Field) (b:Bool),(fs.all fun f=>f.name != "_" &&(bJ P f.type).isSome)=true→
 df cs.toList ds.toList (fs.map fun f=>(f.offset,(bJ P f.type).getD 9))=some b→(Op.eqFields (d+1) cW sY fs).run P w= .ok b w
 |[],b,_,h=>by simp [df]at h;subst h;simp [Op.eqFields]
 |f::fs,b,hf,h=>by
  simp only [List.all_cons,alQ]at hf
  obtain ⟨⟨rW,Ql⟩,bD⟩:=hf
  cases hk:bJ P f.type with
  |none=>simp [hk]at Ql
  |some kk=>
   simp only [List.map_cons,hk,Option.getD_some,df]at h
   cases hx:cs.toList[f.offset]? with
   |none=>simp [hx]at h
   |some x=>
    cases hy:ds.toList[f.offset]? with
    |none=>simp [hx,hy]at h
    |some y=>
     simp only [hx,hy]at h
     obtain ⟨ho,h⟩:=au h
     cases he:fZ x y with
     |none=>simp [he]at h
     |some r=>
      obtain ⟨x',GU,BX⟩:=hc.get _ _ hx
      obtain ⟨y',Xx,Ki⟩:=hd.get _ _ hy
      obtain ⟨rfl,rfl⟩:=CL he BX Ki
      obtain ⟨p1,p2,p3⟩:=yR (P:=P) hk ho he d w (cs:=cW) (ds:=sY) (o:=f.offset) (by simpa using GU) (by simpa using Xx)
      have LM:f.name≠ "_":=by simpa using rW
      simp only [Op.eqFields,if_pos LM,Sem.run_bind,p1,p2,p3,Result.andThen_ok]
      cases r with
      |true=>
       simp only [he]at h
       simpa using oF hc hd d w fs b bD h
      |false=>
       simp only [he]at h
       cases h
       simp
theorem LN {neg:Bool} {cs ds:Array Value} {x' y':Value} {b:Bool} {t:TypeId} {fs:Array Field} (R:Rel w0 φ H w) (hu:P.underlying t=some (.struct fs)) (hf:(fs.toList.all fun f=>f.name != "_" &&(bJ P f.type).isSome)=true) (hs:P.stoodInHeld t=false) (hg:P.eqGuardType P.depth t=false)
 (h:df cs.toList ds.toList (fs.toList.map fun f=>(f.offset,(bJ P f.type).getD 9))=some b) (hx:V φ (.agg cs) x') (hy:V φ (.agg ds) y') (xo yo:Operand) {r:Result Next} {op:BinOp} (pr:op=bif neg then .neq else .eql)
 (e:r=((do eqGuard op t xo yo x' y';binOp op t x' y':Sem Value).run P w).andThen fun v w=>.ok (.value v) w):ff w0 φ H w (.v (.bool (bif neg then !b else b))) H r:=by
 obtain ⟨cW,rfl,hc,_⟩:=hx.AG
 obtain ⟨sY,rfl,hd,_⟩:=hy.AG
 have hfo:P.fieldsOf t=fs:=by simp [Program.fieldsOf,hu]
 have AL:P.underlying t=some (.struct (P.fieldsOf t)):=by rw [hfo];exact hu
 have heq:(Op.equalIn 10000 t (.agg cW) (.agg sY)).run P w= .ok b w:=by
  rw [run_equalIn_struct w 9999 t cW sY AL hs,hfo]
  exact oF hc hd 9998 w fs.toList b hf h
 refine .pure R (.same rfl) ?_
 rw [e,Sem.run_bind,run_eqGuard_agg w op t xo yo cW sY hg]
 simp only [Result.andThen_ok]
 subst pr
 cases neg
 ·show((binOp .eql t (.agg cW) (.agg sY)).run P w).andThen _=_
  rw [run_eql_struct,heq]
  rfl
 ·show((binOp .neq t (.agg cW) (.agg sY)).run P w).andThen _=_
  rw [run_neq_struct,heq]
  rfl
theorem nG {fr:Fr} {a:Act} (F:j8 φ fr a) {place:Nat→Option (Nat×Nat)}:∀{ps:List (Nat×Operand)} {l:List (Nat×Nat×X)},fQ place ps=some l→
 (l.map fun p=>(p.1,p.2.1,p.2.2.ev fr)).length=(ps.map fun p=>(p.1,a.eval p.2)).length∧
 ∀(j:Nat) (p:Nat×Nat×Value),(l.map fun p=>(p.1,p.2.1,p.2.2.ev fr))[j]?=some p→∃p':Nat×Value,(ps.map fun p=>(p.1,a.eval p.2))[j]?=some p'∧place p'.1=some (p.1,p.2.1)∧V φ p.2.2 p'.2
 |[],l,h=>by simp [fQ]at h;subst h;exact ⟨rfl,fun j p h=>by simp at h⟩
 |(i,x)::ps,l,h=>by
  simp only [fQ]at h
  cases hp:place i with
  |none=>simp [hp]at h
  |some on=>
   cases hx:cX x with
   |none=>simp [hp,hx]at h
   |some y=>
    cases hl:fQ place ps with
    |none=>simp [hp,hx,hl]at h
    |some m=>
     simp [hp,hx,hl]at h
     subst h
     obtain ⟨h1,h2⟩:=nG F hl
     refine ⟨by simpa using h1,fun j p hj=>?_⟩
     cases j with
     |zero=>simp at hj;subst hj;exact ⟨(i,a.eval x),by simp,hp,cE F hx⟩
     |succ j=>simpa using h2 j p (by simpa using hj)
end
end Go.Proofs.YtppcmpmnglaleaaGreatDoor.A
namespace Go.Proofs.YtppcmpmnglaleaaGreatDoor.A
open Go Go.RowKit
section
variable{P:Program} {w0 w:World} {φ:bl} {H:AH}
theorem qa {t:TypeId} {n:Nat} (h:dk P t=some n):∃i,P.info? t=some i∧i.size=n:=by
 unfold dk at h
 cases hi:P.info? t with
 |none=>simp [hi]at h
 |some i=>simp [hi]at h;exact ⟨i,rfl,h⟩
theorem G5 {fr:Fr} {a:Act} (F:j8 φ fr a) (R:Rel w0 φ H w) (rE:φ.m H.nx=none) {c:Call} {ao:cl} (hc:Cq P c=some ao) {res:gM} {H':AH} (h:aS ao (X.ev fr) H=some (res,H')) (hf:∀f as,res= .enter f as→AP P f) (ty:TypeId):
 ff w0 φ H w res H' ((do let d←resolve a.eval c ty;invoke d.target d.args:Sem Next).run P w):=by
 obtain ⟨callee,args,argTypes⟩:=c
 unfold Cq at hc
 dsimp only at hc
 cases callee with
 |invoke x m=>cases hc
 |value x=>
  cases x with
  |func f=>
   simp only at hc
   cases has:AE args.toList with
   |none=>simp [has]at hc
   |some as=>
    simp [has]at hc
    subst hc
    simp only [aS,alO,alV]at h
    obtain ⟨rfl,rfl⟩:=h
    refine .enter R (as':=args.map a.eval) (by simpa using lP F has) ?_
    have:=mE (hf f _ rfl) (args.map a.eval) w
    simp [resolve,Act.eval,Deferred.ofValue,invoke,this]
  |tmp t=>
   simp only [cX]at hc
   cases has:AE args.toList with
   |none=>simp [has]at hc
   |some as=>
    simp [has]at hc
    subst hc
    simp only [aS]at h
    have hv:=F t
    simp only [X.ev]at h
    cases hq:fr.get t<;>simp [hq]at h
    rename_i fn first cap
    cases fn<;>simp at h
    obtain ⟨rfl,rfl⟩:=h
    rename_i f
    rw [hq]at hv
    obtain ⟨a',b',e,h1,h2⟩:=V.fn1 hv
    have e':a.eval (.tmp t)= .func (.func f) a' b':=e
    refine .enter R (as':=a'++args.map a.eval++b') (by simpa using h1.append ((lP F has).append h2)) ?_
    have:=mE (hf f _ rfl) (a'++args.map a.eval++b') w
    simp [resolve,e',Deferred.ofValue,invoke]
    simpa using this
  |const v=>
   simp only [cX]at hc
   split at hc
   ·rename_i y as hy has
    cases hc
    split at hy
    ·rename_i iN
     cases hy
     simp only [aS,X.ev]at h
     cases v<;>simp at h
     simp [uG,flat]at iN
    ·cases hy
   ·cases hc
  |global g=>simp [cX]at hc
 |builtin b=>
  simp only at hc
  split at hc
  ·
   rename_i x t rest fW CM
   have sZ:args= #[x]:=Array.ext' (by simpa using fW)
   have Xy:argTypes[0]?=some t:=by rw [←Array.getElem?_toList,CM];rfl
   subst sZ
   split at hc
   ·rename_i y hu hy
    cases hc
    have hv:=cE F hy
    simp only [aS]at h
    cases hq:y.ev fr<;>simp [hq]at h
    obtain ⟨rfl,rfl⟩:=h
    rw [hq]at hv
    refine .pure R (.same rfl) ?_
    simp [resolve,invoke,builtin,Builtin.len_,Xy,run_underlying hu,hv.string]
    rfl
   ·rename_i e y hu hy
    cases hc
    have hv:=cE F hy
    simp only [aS]at h
    cases hq:y.ev fr<;>simp [hq]at h
    obtain ⟨rfl,rfl⟩:=h
    rw [hq]at hv
    obtain ⟨a',c',e',_⟩:=V.OY hv
    refine .pure R (.same rfl) ?_
    simp [resolve,invoke,builtin,Builtin.len_,Xy,run_underlying hu,e']
    rfl
   ·rename_i n e y hu hy
    cases hc
    simp only [aS,alO,alV]at h
    obtain ⟨rfl,rfl⟩:=h
    refine .pure R (.same rfl) ?_
    simp [resolve,invoke,builtin,Builtin.len_,Xy,run_underlying hu]
    rfl
   ·cases hc
  ·
   rename_i s x t u fW CM
   have sZ:args= #[s,x]:=Array.ext' (by simpa using fW)
   have Xz:argTypes= #[t,u]:=Array.ext' (by simpa using CM)
   subst sZ Xz
   have key:∀{e:TypeId} {y z:X},P.underlying t=some (.slice e)→((∃e',P.underlying u=some (.slice e'))∨P.underlying u=some .string)→cX s=some y→cX x=some z→
    (match P.info? e with|some i=>if i.size=0∨i.bytes=0∨(fB P e).isNone∨e=BY then none else some (cl.app i.size i.bytes y z)|none=>none)=some ao→ff w0 φ H w res H' ((do let d←resolve a.eval {callee:=.builtin .append,args:=#[s,x],argTypes:=#[t,u]} ty;invoke d.target d.args:Sem Next).run P w):=by
    intro e y z hu hk hy hz hc
    cases hi:P.info? e with
    |none=>simp [hi]at hc
    |some i=>
     simp only [hi]at hc
     split at hc
     ·cases hc
     ·rename_i fw
      cases hc
      have hzz:(fB P e).isSome=true:=by
       cases ht:fB P e with
       |none=>exact absurd (.inr (.inr (.inl (by simp [ht])))) fw
       |some l=>rfl
      obtain ⟨l,hl⟩:=Option.isSome_iff_exists.1 hzz
      obtain ⟨i',zv,pd,xp,G4,_,O1⟩:=gD hl
      rw [hi]at pd
      cases pd
      simp only [aS]at h
      cases hq:aX i.size i.bytes H (y.ev fr) (z.ev fr)with
      |none=>simp [hq]at h
      |some r=>
       obtain ⟨v,H1⟩:=r
       simp [hq]at h
       obtain ⟨rfl,rfl⟩:=h
       refine LI (P:=P) (t:=t) (tx:=u) (ty:=ty) (e:=e) (i:=i) (z:=zv) R rE hu hi xp (by rw [←O1,←G4];simp) (fun e=>fw (.inr (.inr (.inr e)))) rfl (fun e=>fw (.inl e)) rfl hk (cE F hy) (cE F hz) hq ?_
       simp [resolve,invoke,builtin]
   split at hc
   ·rename_i e e' y z hu hk hy hz;exact key hu (.inl ⟨e',hk⟩) hy hz hc
   ·rename_i e y z hu hk hy hz;exact key hu (.inr hk) hy hz hc
   ·cases hc
  ·
   rename_i s x t u fW CM
   have sZ:args= #[s,x]:=Array.ext' (by simpa using fW)
   have Xz:argTypes= #[t,u]:=Array.ext' (by simpa using CM)
   subst sZ Xz
   split at hc
   ·rename_i e y z hu hy hz
    cases hn:dk P e with
    |none=>simp [hn]at hc
    |some n=>
     simp [hn]at hc
     subst hc
     simp only [aS]at h
     cases hq:iS n H (y.ev fr) (z.ev fr)with
     |none=>simp [hq]at h
     |some r=>
      obtain ⟨v,H1⟩:=r
      simp [hq]at h
      obtain ⟨rfl,rfl⟩:=h
      refine G0 (P:=P) (t:=t) (tx:=u) (ty:=ty) (e:=e) R hu hn (cE F hy) (cE F hz) hq ?_
      simp [resolve,invoke,builtin]
   ·cases hc
  ·
   rename_i x l fW
   have sZ:args.toList=x::l:=fW
   split at hc
   ·rename_i y ys hy wS
    cases hc
    simp only [aS]at h
    cases hq:J7 (y.ev fr) (ys.map (X.ev fr))with
    |none=>simp [hq]at h
    |some v=>
     simp [hq]at h
     obtain ⟨rfl,rfl⟩:=h
     obtain ⟨r',h1,h2⟩:=Kg (P:=P) (w:=w) (lP F wS) (cE F hy) hq
     refine .pure R h2 ?_
     simp [resolve,invoke,builtin,Builtin.max_,sZ,h1]
   ·cases hc
  ·
   rename_i x l fW
   have sZ:args.toList=x::l:=fW
   split at hc
   ·rename_i y ys hy wS
    cases hc
    simp only [aS]at h
    cases hq:J8 (y.ev fr) (ys.map (X.ev fr))with
    |none=>simp [hq]at h
    |some v=>
     simp [hq]at h
     obtain ⟨rfl,rfl⟩:=h
     obtain ⟨r',h1,h2⟩:=Kh (P:=P) (w:=w) (lP F wS) (cE F hy) hq
     refine .pure R h2 ?_
     simp [resolve,invoke,builtin,Builtin.min_,sZ,h1]
   ·cases hc
  ·cases hc
theorem CN {fr:Fr} {a:Act} (F:j8 φ fr a) (R:Rel w0 φ H w) {t:TypeId} {m k x:Operand} {ao:cl} {res:gM} {H':AH}
 (hc:(match P.underlying t,cX m,cX k,cX x with|some (.map kt _),some a,some b,some c=>(bJ P kt).map fun kk=>cl.nu kk a b c|_,_,_,_=>none)=some ao) (h:aS ao (X.ev fr) H=some (res,H')):
 ff w0 φ H w res H' ((do Instr.mapUpdate t (a.eval m) (a.eval k) (a.eval x);pure .skip:Sem Next).run P w):=by
 split at hc
 case h_2=>cases hc
 rename_i kt e m' k' x' hu hm hk hx
 cases B7:bJ P kt with
 |none=>simp [B7]at hc
 |some kk=>
  simp [B7]at hc
  subst hc
  have h1:=cE F hm
  have h2:=cE F hk
  have h3:=cE F hx
  have O3:∃d,P.underlying kt=some d:=by
   unfold bJ at B7
   cases hd:P.underlying kt with
   |none=>simp [hd]at B7
   |some d=>exact ⟨d,rfl⟩
  obtain ⟨d,hd⟩:=O3
  simp only [aS]at h
  split at h
  case h_2=>cases h
  rename_i r hq
  split at h
  case h_2=>cases h
  rename_i es hg
  obtain ⟨eN,h⟩:=au h
  simp only [alQ,alZ]at eN
  rw [hq]at h1
  obtain ⟨l,hl,e1⟩:=V.Xm h1
  have mu:φ.n0≤r:=by rw [←R.n0];exact eN.1.2
  obtain ⟨_,es',ck,hw,wR⟩:=R.maps r l es mu hl (AH.fO hg)
  have CO:a.eval k=k'.ev fr:=by
   have hf:=p8 eN.1.1
   have Qm:=eN.1.1
   cases B1:k'.ev fr<;>rw [B1]at hf h2 Qm<;>simp [flat]at hf<;>first
    |exact h2.int
    |exact h2.string
    |exact h2.bool
    |(rcases kk with _|_|_|kk<;>simp [cq]at Qm)
  have B8:(Instr.checkKey false 10000 kt (k'.ev fr)).run P w= .ok () w:=run_checkKey (P:=P) hd B7 false 9999 _ w
  have CP:(getObj l.c).run P w= .ok (.map es' ck) w:=by simp [getObj,Sem.run,hw]
  have dm:l.c<w.heap.size:=(al1.1 hw).1
  have set:∀ob:Obj,(setObj l.c ob).run P w= .ok () {w with heap:=w.heap.setIfInBounds l.c ob}:=by intro ob;simp [setObj,Sem.run,hw]
  cases XA:jY (k'.ev fr) (x'.ev fr) es with
  |none=>simp [XA]at h
  |some O2=>
   simp only [XA,Option.map_some,alO,alV]at h
   obtain ⟨rfl,rfl⟩:=h
   have done:∀(CQ:Array MapEntry) (Ur:Nat),ML φ O2 CQ.toList→(Instr.mapUpdate t (a.eval m) (a.eval k) (a.eval x)).run P w= .ok () {w with heap:=w.heap.setIfInBounds l.c (.map CQ Ur)}→
    ff w0 φ H w (.v undef) (H.put r (some (.map O2))) ((do Instr.mapUpdate t (a.eval m) (a.eval k) (a.eval x);pure .skip:Sem Next).run P w):=by
    intro CQ Ur XC lQ
    obtain ⟨R',G⟩:=R.CI (w':={w with heap:=w.heap.setIfInBounds l.c (.map CQ Ur)}) (es':=CQ) (ck:=Ur) mu hl hg (by simp [dm]) (fun q hq=>by simp [Array.getElem?_setIfInBounds_ne (Ne.symm hq)]) (by simp) rfl rfl rfl XC
    exact ⟨φ,_,_,by rw [Sem.run_bind,lQ];rfl,R',G,.inr ⟨rfl,rfl⟩⟩
   rcases CJ (P:=P) hd B7 eN.1.1 h3 0 wR XA with⟨G6,XD⟩|⟨v',j,en,G6,hj,Qk,XD⟩
   ·refine done (es'.push ⟨k'.ev fr,a.eval x,ck⟩) (ck+1) (by simpa using XD ck) ?_
    rw [e1,CO]
    simp [Instr.mapUpdate,run_underlying hu,CP,B8,Instr.findKey,run_underlying hd,G6,set]
   ·refine done (es'.modify j fun e=>{e with key:=k'.ev fr,val:=a.eval x}) ck (by simpa using XD) ?_
    rw [e1,CO]
    have LO:es'[j]?=some en:=by simpa using hj
    simp [Instr.mapUpdate,run_underlying hu,CP,B8,Instr.findKey,run_underlying hd,G6,set,LO,Qk,Instr.keyThatStays,rJ eN.1.1]
theorem Qn {fr:Fr} {a:Act} (F:j8 φ fr a) (R:Rel w0 φ H w) (rE:φ.m H.nx=none) {o:Oper} {ao:cl} (hc:Ul P o=some ao) {res:gM} {H':AH} (h:aS ao (X.ev fr) H=some (res,H')) (hf:∀f as,res= .enter f as→AP P f):
 ff w0 φ H w res H' ((execOp a.eval o).run P w):=by
 obtain ⟨dst,op,ty,pos,after,guard⟩:=o
 unfold Ul at hc
 unfold execOp
 dsimp only at hc⊢
 cases op<;>simp only at hc⊢
 case move x=>
  cases hx:cX x with
  |none=>simp [hx]at hc
  |some y=>simp [hx]at hc;subst hc;exact yP F R hx h (by simp)
 case assign x=>
  cases hx:cX x with
  |none=>simp [hx]at hc
  |some y=>simp [hx]at hc;subst hc;exact yP F R hx h (by simp)
 case pick c x y=>
  split at hc
  ·rename_i c' x' y' Gx hx hy
   cases hc
   simp only [aS]at h
   have hv:=cE F Gx
   cases hq:c'.ev fr<;>simp [hq]at h
   rename_i b
   obtain ⟨rfl,rfl⟩:=h
   rw [hq]at hv
   cases b
   ·exact .pure R (cE F hy) (by simp [hv.bool,asBool])
   ·exact .pure R (cE F hx) (by simp [hv.bool,asBool])
  ·cases hc
 case alloc e=>
  split at hc
  ·cases hc
  rename_i fw
  cases hz:fB P e with
  |none=>simp [hz]at hc
  |some z=>
   simp [hz]at hc
   subst hc
   simp only [aS,alO,alV]at h
   obtain ⟨rfl,rfl⟩:=h
   obtain ⟨i,v,hi,hv,ta⟩:=Cw hz R rE (fun e=>fw (.inl e))
   have:((do pure (Next.value (←Instr.alloc e true (.tuple #[]))):Sem Next)).run P w= .ok (.value (.pointer (some ⟨w.heap.size,0,none⟩))) {w with heap:=w.heap.push (.cells v.cells e)}:=by
    simp [Instr.alloc,zeroValue,typeInfo,hi,hv,newVar,newRow]
   rw [this]
   exact ta
 case box e x=>
  split at hc
  ·cases hc
  rename_i fw
  cases hx:cX x with
  |none=>simp [hx]at hc
  |some y=>
   simp [hx]at hc
   subst hc
   simp only [aS]at h
   cases ht:cv (y.ev fr)with
   |true=>simp [ht]at h
   |false=>
    simp [ht]at h
    obtain ⟨rfl,rfl⟩:=h
    have:=LA R rE (cE F hx) ht e fw
    have hr:((do pure (Next.value (←Instr.box e (a.eval x))):Sem Next)).run P w= .ok (.value (.pointer (some ⟨w.heap.size,0,none⟩))) {w with heap:=w.heap.push (.cells (a.eval x).cells e)}:=by
     simp [Instr.box,newVar,newRow]
    rw [hr]
    exact this
 case build t ps=>
  have key:∀{place:Nat→Option (Nat×Nat)} {z:List Value} {l:List (Nat×Nat×X)},fB P t=some z→fQ place ps.toList=some l→cl.build z l=ao→
   (∀zv,(P.info? t).bind (·.zero)=some zv→∀cells,Instr.fill place zv.cells (ps.map fun p=>(p.1,a.eval p.2)).toList=some cells→(Instr.build t (ps.map fun p=>(p.1,a.eval p.2))).run P w= .ok (.agg cells) w)→
   ff w0 φ H w res H' ((do pure (Next.value (←Instr.build t (ps.map fun p=>(p.1,a.eval p.2)))):Sem Next).run P w):=by
   intro place z l hz hl hao lQ
   subst hao
   obtain ⟨i,zv,hi,xp,G4,O0,O1⟩:=gD hz
   obtain ⟨e1,e2⟩:=nG F hl
   simp only [aS,List.map_map]at h
   cases hq:gL z (l.map fun p=>(p.1,p.2.1,p.2.2.ev fr))with
   |none=>simp [hq]at h
   |some c=>
    simp [hq]at h
    obtain ⟨rfl,rfl⟩:=h
    obtain ⟨mD,q1,q2,q3⟩:=sX (φ:=φ) (ps:=l.map fun p=>(p.1,p.2.1,p.2.2.ev fr)) (ps':=ps.toList.map fun p=>(p.1,a.eval p.2)) (place:=place) (arr:=zv.cells) e1 e2 hq (by rw [G4];exact VL.same O0) (ee O0)
    have:=lQ zv (by simp [hi,xp]) mD (by simpa using q1)
    refine .pure R (.agg (a':=mD) (by simpa using q3) (by simpa using q2)) ?_
    simp [this]
  split at hc
  ·rename_i fs z hu hz
   split at hc
   ·rename_i pl hpl
    cases hl:fQ (fun i=>pl[i]?) ps.toList with
    |none=>simp [hl]at hc
    |some l=>
     simp [hl]at hc
     refine key hz hl hc ?_
     intro zv xp cells yS
     cases hi:P.info? t with
     |none=>simp [hi]at xp
     |some i=>
      simp [hi]at xp
      refine run_build w t _ cells ?_
      unfold Program.built
      simp [hi,hu,xp,hpl]
      simpa using yS
   ·cases hc
  ·rename_i n e z hu hz
   split at hc
   ·rename_i n hn
    cases hl:fQ (fun i=>some (i*n,n)) ps.toList with
    |none=>simp [hl]at hc
    |some l=>
     simp [hl]at hc
     refine key hz hl hc ?_
     intro zv xp cells yS
     cases hi:P.info? t with
     |none=>simp [hi]at xp
     |some i=>
      simp [hi]at xp
      simp [Instr.build,zeroValue,typeInfo,hi,xp,run_underlying hu,cm hn]
      simp at yS
      simp [yS]
   ·cases hc
  ·cases hc
 case buildSlice t len ps=>
  split at hc
  ·rename_i e hu
   split at hc
   ·rename_i n z hn hz
    split at hc
    ·cases hc
    ·rename_i hlen
     cases hl:fQ (fun i=>some (i*n,n)) ps.toList with
     |none=>simp [hl]at hc
     |some l=>
      simp [hl]at hc
      subst hc
      obtain ⟨i,zv,hi,xp,G4,O0,O1⟩:=gD hz
      obtain ⟨i',pd,hsn⟩:=qa hn
      rw [hi]at pd
      cases pd
      obtain ⟨e1,e2⟩:=nG F hl
      simp only [aS,List.map_map]at h
      have iN:=all_replicate O0 len
      have Kj:=sW zv.cells n (by rw [←hsn,←O1,←G4];simp) len
      rw [G4]at Kj
      cases hq:gL (List.replicate len z).flatten (l.map fun p=>(p.1,p.2.1,p.2.2.ev fr))with
      |none=>simp [hq]at h
      |some c=>
       simp [hq]at h
       obtain ⟨rfl,rfl⟩:=h
       obtain ⟨mD,q1,q2,q3⟩:=sX (φ:=φ) (ps:=l.map fun p=>(p.1,p.2.1,p.2.2.ev fr)) (ps':=ps.toList.map fun p=>(p.1,a.eval p.2)) (place:=fun i=>some (i*n,n)) (arr:=madeCells zv.cells (len*n)) e1 e2 hq (by rw [Kj];exact VL.same iN) (ee iN)
       have hr:((do pure (Next.value (←Instr.buildSlice t len (ps.map fun p=>(p.1,a.eval p.2)))):Sem Next)).run P w= .ok (.value (.slice (some ⟨w.heap.size,0,none⟩) len len)) {w with heap:=w.heap.push (.cells mD e)}:=by
        have h24:¬ (2^24<len*n):=by omega
        have jo:(Instr.fill (fun i=>some (i*n,n)) (madeCells (if len*n=0 then #[]else zv.cells) (len*n)) (ps.toList.map fun p=>(p.1,a.eval p.2)))=some mD:=by
         by_cases h0:len*n=0
         ·rw [if_pos h0,h0]
          rw [h0]at q1
          have:madeCells (#[]:Array Value) 0=madeCells zv.cells 0:=by simp [madeCells]
          rw [this]
          exact q1
         ·rw [if_neg h0];exact q1
        by_cases h0:len*n=0
        ·rw [if_pos h0]at jo
         simp only [madeCells]at jo
         simp [Instr.buildSlice,run_underlying hu,cm hn,h0]
         rw [h0]at jo
         simp at jo
         simp [jo,newRow]
        ·rw [if_neg h0]at jo
         simp only [madeCells]at jo
         simp [Instr.buildSlice,run_underlying hu,cm hn,h0,h24,zeroValue,typeInfo,hi,xp]
         simp [jo,newRow]
       rw [hr]
       obtain ⟨R',G⟩:=R.new rE (w':={w with heap:=w.heap.push (.cells mD e)}) (z:=n) (cs:=c) (arr:=mD) (e:=e) rfl rfl rfl rfl (by rw [q2.length];simp) (mB q2 q3) (fun e=>hlen (.inr (.inr e)))
       refine ⟨_,_,_,rfl,R',G,.inl ⟨_,rfl,?_⟩⟩
       have:=V.sl (φ:=φ.add H.nx ⟨w.heap.size,0,mD.size,n⟩) (o:=0) (n:=len) (bl.jZ φ H.nx ⟨w.heap.size,0,mD.size,n⟩) (alR len) id (.inl rfl)
       simpa using this
   ·cases hc
  ·cases hc
 case load t x=>
  split at hc
  ·rename_i y LP hx
   cases hn:dk P t with
   |none=>simp [hn]at hc
   |some n=>
    simp [hn]at hc
    subst hc
    have hv:=cE F hx
    simp only [aS]at h
    cases hq:y.ev fr<;>simp [hq]at h
    rename_i p
    cases p<;>simp at h
    rename_i ad
    cases eW:H.ldn ad n with
    |none=>simp [eW]at h
    |some vs=>
     simp [eW]at h
     obtain ⟨rfl,rfl⟩:=h
     rw [hq]at hv
     obtain ⟨a',iV,e1,e2,e3,e4,e5⟩:=Cy R hv eW
     refine .pure R (.agg (a':=iV.toArray) (by simpa using e3) (by simpa using e4)) ?_
     have:=run_loadCells_list (P:=P) w a' iV e5
     rw [e2]at this
     simp [Instr.loadAt,e1,Instr.sureAddr,loadVar,iW LP,cm hn,this]
  ·rename_i y LP hx
   cases hc
   have hv:=cE F hx
   simp only [aS]at h
   cases hq:y.ev fr<;>simp [hq]at h
   rename_i p
   cases p<;>simp at h
   rename_i ad
   cases eW:H.ld ad with
   |none=>simp [eW]at h
   |some v=>
    simp [eW]at h
    obtain ⟨rfl,rfl⟩:=h
    rw [hq]at hv
    obtain ⟨a',v',e1,e2,e3⟩:=Kc R hv eW
    refine .pure R e3 ?_
    simp [Instr.loadAt,e1,Instr.sureAddr,loadVar,iW LP,e2]
  ·cases hc
 case store t x v=>
  split at hc
  ·rename_i y z hx hv
   cases hn:dk P t with
   |none=>simp [hn]at hc
   |some n=>
    simp [hn]at hc
    subst hc
    have h1:=cE F hx
    have h2:=cE F hv
    simp only [aS]at h
    cases hq:y.ev fr<;>simp [hq]at h
    rename_i p
    cases p<;>simp at h
    rename_i ad
    rw [hq]at h1
    cases eN:(Nat.beq (aP (z.ev fr)).length n&& !cv (z.ev fr))with
    |false=>simp [eN]at h
    |true=>
     simp only [eN,cond_true]at h
     simp [nb]at eN
     cases gE:H.st ad (aP (z.ev fr))with
     |none=>simp [gE]at h
     |some H1=>
      simp [gE]at h
      obtain ⟨rfl,rfl⟩:=h
      obtain ⟨a',w',e1,e2,R',G⟩:=Cz (P:=P) R h1 gE h2.cells (lO h2 eN.2)
      refine ⟨φ,w',_,?_,R',G,.inr ⟨rfl,rfl⟩⟩
      have hlen:(a.eval v).cells.size=n:=by rw [←eN.1,h2.cells.length];simp
      simp [Instr.storeAt,e1,Instr.sureAddr,storeVar,cm hn,hlen,e2]
  ·cases hc
 case nilCheck x=>
  cases hx:cX x with
  |none=>simp [hx]at hc
  |some y=>
   simp [hx]at hc
   subst hc
   have hv:=cE F hx
   simp only [aS]at h
   cases hq:y.ev fr<;>simp [hq]at h
   rename_i p
   cases p<;>simp at h
   obtain ⟨rfl,rfl⟩:=h
   rw [hq]at hv
   obtain ⟨l,h1,h2,h3⟩:=V.uM hv
   refine .pure R hv ?_
   simp [h3]
 case binOp op t x y ty2=>
  split at hc
  ·rename_i x' y' hx hy
   have h1:=cE F hx
   have h2:=cE F hy
   have XE:∀v,bq op (x'.ev fr) (y'.ev fr)=some v→res= .v v∧H'=H→ff w0 φ H w res H' ((do pure (Next.value (←(do eqGuard op t x y (a.eval x) (a.eval y);binOp op t (a.eval x) (a.eval y)))):Sem Next).run P w):=by
    rintro v hv ⟨rfl,rfl⟩
    refine LC (P:=P) R hv h1 h2 t x y ?_
    rw [Sem.run_bind]
    rfl
   have gC:ao= .bin op x' y'→ff w0 φ H w res H' ((do pure (Next.value (←(do eqGuard op t x y (a.eval x) (a.eval y);binOp op t (a.eval x) (a.eval y)))):Sem Next).run P w):=by
    rintro rfl
    simp only [aS]at h
    cases hq:bq op (x'.ev fr) (y'.ev fr)with
    |none=>simp [hq]at h
    |some v=>simp [hq]at h;exact XE v hq ⟨h.1.symm,h.2.symm⟩
   have heq:∀k neg,pW P t=some k→(op=bif neg then .neq else .eql)→ao= .eqk k neg x' y'→ff w0 φ H w res H' ((do pure (Next.value (←(do eqGuard op t x y (a.eval x) (a.eval y);binOp op t (a.eval x) (a.eval y)))):Sem Next).run P w):=by
    rintro k neg hk pr rfl
    simp only [aS]at h
    cases hq:fv k (x'.ev fr) (y'.ev fr)with
    |none=>simp [hq]at h
    |some b=>
     simp [hq]at h
     obtain ⟨rfl,rfl⟩:=h
     refine LD (P:=P) R hk hq h1 h2 x y pr ?_
     rw [Sem.run_bind]
     rfl
   have Qo:∀fs neg,P.underlying t=some (.struct fs)→((fs.toList.all fun f=>f.name != "_" &&(bJ P f.type).isSome)&& !P.stoodInHeld t&& !P.eqGuardType P.depth t)=true→(op=bif neg then .neq else .eql)→ao= .eqs neg (fs.toList.map fun f=>(f.offset,(bJ P f.type).getD 9)) x' y'→
    ff w0 φ H w res H' ((do pure (Next.value (←(do eqGuard op t x y (a.eval x) (a.eval y);binOp op t (a.eval x) (a.eval y)))):Sem Next).run P w):=by
    rintro fs neg hu eN pr rfl
    simp only [alQ,Bool.not_eq_true']at eN
    simp only [aS]at h
    cases hq:x'.ev fr<;>simp only [hq]at h<;>first
     |(cases h;done)
     |skip
    rename_i cs
    cases xu:y'.ev fr<;>simp only [xu]at h<;>first
     |(cases h;done)
     |skip
    rename_i ds
    cases LQ:df cs.toList ds.toList (fs.toList.map fun f=>(f.offset,(bJ P f.type).getD 9))with
    |none=>simp [LQ]at h
    |some b=>
     simp only [LQ,Option.map_some,alO,alV]at h
     obtain ⟨rfl,rfl⟩:=h
     rw [hq]at h1
     rw [xu]at h2
     refine LN (P:=P) R hu eN.1.1 eN.1.2 eN.2 LQ h1 h2 x y pr ?_
     rw [Sem.run_bind]
     rfl
   split at hc
   ·cases hc;exact gC rfl
   ·cases hc;exact gC rfl
   ·rename_i fs hu
    split at hc
    ·rename_i eN
     split at hc
     ·cases hc;exact Qo fs false hu eN rfl rfl
     ·cases hc;exact Qo fs true hu eN rfl rfl
     ·cases hc
    ·cases hc
   ·split at hc
    ·rename_i k hk;cases hc;exact heq k false hk rfl rfl
    ·rename_i k hk;cases hc;exact heq k true hk rfl rfl
    ·cases hc
  ·cases hc
 case unOp op t x=>
  cases hx:cX x with
  |none=>simp [hx]at hc
  |some y=>
   simp [hx]at hc
   subst hc
   have hv:=cE F hx
   simp only [aS]at h
   cases hq:Cn op (y.ev fr)with
   |none=>simp [hq]at h
   |some v=>
    simp [hq]at h
    obtain ⟨rfl,rfl⟩:=h
    unfold Cn at hq
    split at hq
    ·rename_i b hb
     cases hq
     rw [hb]at hv
     refine .pure R (.same rfl) ?_
     simp [hv.bool,Op.unary]
    ·rename_i k n hb
     cases hq
     rw [hb]at hv
     refine .pure R (.same rfl) ?_
     simp [hv.int,Op.unary,Op.intArith]
    ·cases hq
 case convert src dst x=>
  split at hc
  ·rename_i k1 k y XF XG hx
   cases hc
   have hv:=cE F hx
   simp only [aS]at h
   cases hq:y.ev fr<;>simp [hq]at h
   obtain ⟨rfl,rfl⟩:=h
   rw [hq]at hv
   refine .pure R (.same rfl) ?_
   simp [convert,run_underlying XF,run_underlying XG,hv.int,Conv.intToInt]
  ·rename_i k1 y XF XG hx
   cases hc
   have hv:=cE F hx
   simp only [aS]at h
   cases hq:y.ev fr<;>simp [hq]at h
   obtain ⟨rfl,rfl⟩:=h
   rw [hq]at hv
   refine .pure R (.same rfl) ?_
   simp [convert,run_underlying XF,run_underlying XG,hv.int,Conv.intToString]
  ·cases hc
 case makeFunc fn first cap=>
  cases fn<;>simp only at hc
  case func f=>
   split at hc
   ·rename_i xs ys hx hy
    cases hc
    simp only [aS,alO,alV]at h
    obtain ⟨rfl,rfl⟩:=h
    refine .pure R (.fn (a':=first.map a.eval) (b':=cap.map a.eval) (by simpa using lP F hx) (by simpa using lP F hy)) ?_
    simp [Instr.makeFunc]
   ·cases hc
  all_goals cases hc
 case makeMap t r=>
  cases r with
  |some r=>cases hc
  |none=>
   cases hc
   simp only [aS,alO,alV]at h
   obtain ⟨rfl,rfl⟩:=h
   obtain ⟨R',G⟩:=R.LL rE (w':={w with heap:=w.heap.push (.map #[] 0)}) rfl rfl rfl rfl
   refine ⟨_,_,.value (.map (some w.heap.size)),?_,R',G,.inl ⟨_,rfl,.mp (l:=⟨w.heap.size,0,0,0⟩) (bl.jZ _ _ _)⟩⟩
   simp [Instr.makeMap]
 case makeSlice t l c=>
  split at hc
  ·rename_i e hu
   split at hc
   ·rename_i i z x hi hz hx
    split at hc
    ·rename_i eN
     cases hc
     have hv:=cE F hx
     simp only [aS]at h
     cases hq:x.ev fr<;>simp [hq]at h
     rename_i k n
     rw [hq]at hv
     have Us:a.eval c=a.eval l:=by
      have hs:=eN.1
      unfold oC at hs
      split at hs
      ·simp at hs;rw [hs]
      ·simp at hs;obtain ⟨rfl,rfl⟩:=hs;rfl
      ·cases hs
     cases uw:(decide (0≤n)&&decide (IntKind.i64.wrap n=n)&&decide ((i.bytes:Int)*n≤140737488355328))with
     |false=>rw [uw]at h;simp at h
     |true=>
      rw [uw]at h
      simp only [cond_true,alO,alV]at h
      obtain ⟨rfl,rfl⟩:=h
      simp only [alQ,alZ]at uw
      refine G3 (P:=P) (k:=k) R rE hu hi hz eN.2.2.2 rfl rfl uw.1.1 uw.1.2 (by have:=uw.2;omega) ?_
      rw [Us,hv.int,Sem.run_bind]
      rfl
    ·cases hc
   ·cases hc
  ·cases hc
 case slice t x lo hi mx=>
  split at hc
  ·rename_i x' xj pd AM hx O4 hhi Qp
   have key:∀sz,ao= .sl sz x' xj pd AM→(∀v,bC sz H (x'.ev fr) (xj.map (X.ev fr)) (pd.map (X.ev fr)) (AM.map (X.ev fr))=some v→(P.underlying t=some .string∧∃s,x'.ev fr= .string s)∨(∃e,P.underlying t=some (.slice e)∧dk P e=some sz∧∃a n c,x'.ev fr= .slice a n c))→
    ff w0 φ H w res H' ((do pure (Next.value (←Instr.sliceAt t (a.eval x) (lo.map a.eval) (hi.map a.eval) (mx.map a.eval))):Sem Next).run P w):=by
    rintro sz rfl hty
    simp only [aS]at h
    cases hq:bC sz H (x'.ev fr) (xj.map (X.ev fr)) (pd.map (X.ev fr)) (AM.map (X.ev fr))with
    |none=>simp [hq]at h
    |some v=>
     simp [hq]at h
     obtain ⟨rfl,rfl⟩:=h
     obtain ⟨v',e1,e2⟩:=AN (P:=P) (t:=t) R (hty v hq) hq (cE F hx) (xq F O4) (xq F hhi) (xq F Qp)
     refine .pure R e2 ?_
     simp [e1]
   split at hc
   ·rename_i hu
    cases hc
    refine key 0 rfl (fun v hv=>.inl ⟨hu,?_⟩)
    unfold bC at hv
    split at hv
    ·split at hv
     ·cases hv
     ·obtain ⟨hb,_⟩:=au hv
      simp [nb]at hb
    ·exact ⟨_,by assumption⟩
    ·cases hv
   ·rename_i e hu
    cases hn:dk P e with
    |none=>simp [hn]at hc
    |some n=>
     simp only [hn]at hc
     split at hc
     ·cases hc
     ·rename_i mu
      cases hc
      refine key n rfl (fun v hv=>.inr ⟨e,hu,hn,?_⟩)
      unfold bC at hv
      split at hv
      ·exact ⟨_,_,_,by assumption⟩
      ·split at hv
       ·cases hv
       ·split at hv
        ·cases hv
        ·obtain ⟨hb,_⟩:=au hv
         simp [nb]at hb
         exact absurd hb mu
      ·cases hv
   ·cases hc
  ·cases hc
 case fieldAddr s x f=>
  split at hc
  ·rename_i fs y hu hx
   split at hc
   ·rename_i g hg
    split at hc
    ·rename_i n hn
     split at hc
     ·cases hc
     ·rename_i mu
      cases hc
      have hv:=cE F hx
      simp only [aS]at h
      cases hq:y.ev fr<;>simp [hq]at h
      rename_i p
      cases p<;>simp at h
      rename_i ad
      obtain ⟨fM,h⟩:=au h
      simp only [alO,alV]at h
      obtain ⟨rfl,rfl⟩:=h
      rw [hq]at hv
      obtain ⟨l,h1,h2,h3⟩:=V.uM hv
      refine .pure R (.ptr h2) ?_
      simp [Instr.fieldAt,run_underlying hu,hg,h3,Instr.sureAddr,fieldPlace,cm hn,mu,add_lit,Nat.add_assoc,Nat.add_comm,Nat.add_left_comm]
    ·cases hc
   ·cases hc
  ·cases hc
 case indexAddr t x i=>
  split at hc
  ·rename_i e y z hu hx hi
   cases hn:dk P e with
   |none=>simp [hn]at hc
   |some n=>
    simp [hn]at hc
    subst hc
    have h1:=cE F hx
    have h2:=cE F hi
    simp only [aS]at h
    split at h
    case h_2=>cases h
    rename_i ad len cap k j hq xu
    split at h
    case isFalse=>cases h
    rename_i hj
    obtain ⟨fM,h⟩:=au h
    simp only [alO,alV]at h
    obtain ⟨rfl,rfl⟩:=h
    rw [hq]at h1
    rw [xu]at h2
    rcases V.Cu h1 with⟨l,c',_,hl,_,_,_,e1⟩|⟨hs,_⟩
    ·refine .pure R (.ptr hl) ?_
     simp [Instr.indexAt,h2.int,asIntOf,run_underlying hu,e1,hj,cm hn,add_lit,Nat.add_assoc,Nat.add_comm,Nat.add_left_comm]
    ·rw [hs]at fM;simp at fM
  ·rename_i len e y z hu hx hi
   cases hn:dk P e with
   |none=>simp [hn]at hc
   |some n=>
    simp [hn]at hc
    subst hc
    have h1:=cE F hx
    have h2:=cE F hi
    simp only [aS]at h
    split at h
    case h_2=>cases h
    rename_i ad k j hq xu
    split at h
    case isFalse=>cases h
    rename_i hj
    obtain ⟨fM,h⟩:=au h
    simp only [alO,alV]at h
    obtain ⟨rfl,rfl⟩:=h
    rw [hq]at h1
    rw [xu]at h2
    obtain ⟨l,_,hl,e1⟩:=V.uM h1
    refine .pure R (.ptr hl) ?_
    simp [Instr.indexAt,h2.int,asIntOf,run_underlying hu,e1,Instr.sureAddr,hj,cm hn,add_lit,Nat.add_assoc,Nat.add_comm,Nat.add_left_comm]
  ·cases hc
 case index t x i=>
  split at hc
  ·rename_i y z hu hx hi
   cases hc
   have h1:=cE F hx
   have h2:=cE F hi
   simp only [aS]at h
   cases hq:y.ev fr<;>simp [hq]at h
   rename_i s
   cases xu:z.ev fr<;>simp [xu]at h
   rename_i k j
   obtain ⟨hj,h⟩:=h
   cases hb:s[j.toNat]? with
   |none=>simp [hb]at h
   |some b=>
    simp [hb]at h
    obtain ⟨rfl,rfl⟩:=h
    rw [hq]at h1
    rw [xu]at h2
    refine .pure R (.same rfl) ?_
    simp [Instr.index,h1.string,h2.int,asIntOf,run_underlying hu,hj,hb]
  ·cases hc
 case makeInterface t x=>
  split at hc
  ·cases hc
  ·rename_i d y hni hu hx
   cases hc
   simp only [aS,alO,alV]at h
   obtain ⟨rfl,rfl⟩:=h
   refine .pure R (.iface (cE F hx)) ?_
   cases d<;>first
    |(simp [Instr.makeInterface,run_underlying hu];done)
    |exact absurd rfl (hni _)
  ·cases hc
 case extract x i=>
  cases hx:cX x with
  |none=>simp [hx]at hc
  |some y=>
   simp [hx]at hc
   subst hc
   have hv:=cE F hx
   simp only [aS]at h
   cases hq:y.ev fr<;>simp [hq]at h
   rename_i vs
   cases hj:vs[i]? with
   |none=>simp [hj]at h
   |some v=>
    simp [hj]at h
    obtain ⟨rfl,rfl⟩:=h
    rw [hq]at hv
    obtain ⟨iV,e1,e2⟩:=V.Xn hv
    obtain ⟨v',e3,e4⟩:=e2.get i v (by simpa using hj)
    refine .pure R e4 ?_
    have Ut:iV[i]?=some v':=by simpa using e3
    simp [Instr.extract,e1,Ut]
 case call c=>exact G5 F R rE hc h hf ty
 case lookup t x k ok=>
  split at hc
  ·rename_i kt e x' k' hu hx hk
   split at hc
   ·rename_i z hz
    split at hc
    ·rename_i kk B7
     split at hc
     ·rename_i iN
      cases hc
      have h1:=cE F hx
      have h2:=cE F hk
      have O3:∃d,P.underlying kt=some d:=by
       unfold bJ at B7
       cases hd:P.underlying kt with
       |none=>simp [hd]at B7
       |some d=>exact ⟨d,rfl⟩
      obtain ⟨d,hd⟩:=O3
      have hzero:(zeroValue e).run P w= .ok z w:=by
       cases hi:P.info? e with
       |none=>simp [hi]at hz
       |some i=>simp [hi]at hz;simp [zeroValue,typeInfo,hi,hz]
      simp only [aS]at h
      split at h
      ·rename_i hq
       obtain ⟨hko,h⟩:=au h
       simp only [alO,alV]at h
       obtain ⟨rfl,rfl⟩:=h
       rw [hq]at h1
       have B8:=run_checkKey (P:=P) hd B7 true 9999 (a.eval k) w
       have lQ:(Instr.lookup t (a.eval x) (a.eval k) ok).run P w= .ok (if ok then .tuple #[z,.bool false]else z) w:=by
        rw [h1.mp0]
        simp [Instr.lookup,run_underlying hu,B8,Instr.findKey,run_underlying hd,Instr.findNow,hzero]
       refine .pure (x':=if ok then .tuple #[z,.bool false]else z) R ?_ (by simp [lQ])
       cases ok
       ·exact V.uL iN
       ·exact .tuple (.cons (V.uL iN) (.cons (.same rfl) .nil))
      ·rename_i r hq
       split at h
       case h_2=>cases h
       rename_i es hg
       obtain ⟨eN,h⟩:=au h
       simp only [alQ,alZ]at eN
       rw [hq]at h1
       obtain ⟨l,hl,e1⟩:=V.Xm h1
       obtain ⟨_,es',ck,hw,wR⟩:=R.maps r l es (by rw [←R.n0];exact eN.2) hl (AH.fO hg)
       have CO:a.eval k=k'.ev fr:=by
        have hf:=p8 eN.1
        cases B1:k'.ev fr<;>rw [B1]at hf h2 eN<;>simp [flat]at hf<;>first
         |exact h2.int
         |exact h2.string
         |exact h2.bool
         |(rcases kk with _|_|_|kk<;>simp [cq]at eN)
       have B8:=run_checkKey (P:=P) hd B7 es'.isEmpty 9999 (a.eval k) w
       cases Uu:eL (k'.ev fr) es with
       |none=>simp [Uu]at h
       |some ro=>
        have CP:(getObj l.c).run P w= .ok (.map es' ck) w:=by simp [getObj,Sem.run,hw]
        have G7:(Instr.checkKey es'.isEmpty 10000 kt (a.eval k)).run P w= .ok () w:=B8
        rcases yQ (P:=P) hd B7 eN.1 0 wR Uu with⟨rfl,G6⟩|⟨v,v',j,en,rfl,G6,nw,_,_⟩
        ·simp only [Uu,alO,alV]at h
         obtain ⟨rfl,rfl⟩:=h
         have lQ:(Instr.lookup t (a.eval x) (a.eval k) ok).run P w= .ok (if ok then .tuple #[z,.bool false]else z) w:=by
          rw [e1]
          rw [CO]at G7⊢
          simp [Instr.lookup,run_underlying hu,CP,G7,Instr.findKey,run_underlying hd,G6,hzero]
         refine .pure (x':=if ok then .tuple #[z,.bool false]else z) R ?_ (by simp [lQ])
         cases ok
         ·exact V.uL iN
         ·exact .tuple (.cons (V.uL iN) (.cons (.same rfl) .nil))
        ·simp only [Uu,alO,alV]at h
         obtain ⟨rfl,rfl⟩:=h
         have lQ:(Instr.lookup t (a.eval x) (a.eval k) ok).run P w= .ok (if ok then .tuple #[v',.bool true]else v') w:=by
          rw [e1]
          rw [CO]at G7⊢
          simp [Instr.lookup,run_underlying hu,CP,G7,Instr.findKey,run_underlying hd,G6]
         refine .pure (x':=if ok then .tuple #[v',.bool true]else v') R ?_ (by simp [lQ])
         cases ok
         ·exact nw
         ·exact .tuple (.cons nw (.cons (.same rfl) .nil))
      ·cases h
     ·cases hc
    ·cases hc
   ·cases hc
  ·cases hc
 case mapUpdate t m k x=>exact CN F R hc h
 case insert t m k x=>exact CN F R hc h
 all_goals cases hc
end
end Go.Proofs.YtppcmpmnglaleaaGreatDoor.A
