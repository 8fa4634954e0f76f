/- Texts that stand one behind the other: Abs7, Abs8, Abs9, AbsA. -/
import Derived.Test.YtoijnpfpjpefgaaGreatG5
import Derived.Deep.Upon
/- A text without what this claim does not need: Abs7. -/
set_option linter.unusedVariables false
set_option linter.unusedSimpArgs false
namespace Go.Proofs.YtoijnpfpjpefgaaGreat.A
open Go Go.RowKit
section
variable {P:Program} {w0 w:World} {φ:Phi} {H:AH}
theorem VL_bytes {φ:Phi}:∀ (l:List UInt8),VL φ (l.map fun b=>.int .u8 b.toNat) (l.map fun b=>.int .u8 b.toNat)
 | []=>.nil
 | b :: l=>.cons (.same rfl) (VL_bytes l)
theorem ok_src {sz n:Nat} {x x':Value} {new:List Value} {tx:TypeId} (R:Rel w0 φ H w) (hx:V φ x x') (hn:lenA x = some n) (h:srcA H sz x = some new)
  (hk:(∃ e',P.underlying tx = some (.slice e')) ∨ P.underlying tx = some .string) :
  ∃ news,Src P sz tx x' n news w ∧ VL φ new news ∧ new.all one = true:=by
 unfold srcA at h
 split at h
 ·rename_i a n' c
  simp [lenA] at hn
  subst hn
  simp only [nb,Bool.cond_decide] at h
  rcases V.sl1 hx with ⟨l,c',hsp,hl,_,_,_,rfl⟩ | ⟨hsp,rfl,_,a',c',rfl⟩
  ·split at h
   ·rename_i h0
    cases h
    subst h0
    refine ⟨[],⟨hk,fun _=>rfl,?_,?_,by simp,fun _ h=>by cases h⟩,.nil,rfl⟩
    ·simp [Builtin.firstCells,loadCells,loadCellsFrom]
    ·simp [Builtin.firstCells,loadCells,loadCellsFrom]
   ·obtain ⟨_,h1,h2,vs',h3,h4,h5⟩:=R.ldn h hl
    refine ⟨vs',⟨hk,fun _=>rfl,?_,?_,h3,h4.one h1⟩,h4,h1⟩
    ·exact run_firstCells_some w sz n' _ n' c' vs' h3 h5
    ·exact run_firstCells_some w.drew sz n' _ n' c' vs' h3 (by simpa using h5)
  ·simp at h
   subst h
   refine ⟨[],⟨hk,fun _=>rfl,?_,?_,by simp,fun _ h=>by cases h⟩,.nil,rfl⟩
   ·simp [Builtin.firstCells,loadCells,loadCellsFrom]
   ·simp [Builtin.firstCells,loadCells,loadCellsFrom]
 ·rename_i n' c
  simp [lenA] at hn
  subst hn
  simp only [nb,Bool.cond_decide] at h
  split at h
  ·rename_i h0
   cases h
   subst h0
   rw [hx.sl0]
   refine ⟨[],⟨hk,fun _=>rfl,?_,?_,by simp,fun _ h=>by cases h⟩,.nil,rfl⟩
   ·simp [Builtin.firstCells]
   ·simp [Builtin.firstCells]
  ·cases h
 ·rename_i s
  simp [lenA] at hn
  subst hn
  simp only [nb,Bool.cond_decide] at h
  split at h
  ·rename_i h1
   cases h
   subst h1
   rw [hx.string]
   refine ⟨byteCells s,⟨hk,fun _=>rfl,firstCells_string s w,firstCells_string s w.drew,by rw [byteCells_length,Nat.mul_one],fun u hu=>?_⟩,VL_bytes _,?_⟩
   ·obtain ⟨_,_,rfl⟩:=List.mem_map.1 hu
    rfl
   ·rw [List.all_eq_true]
    intro u hu
    obtain ⟨_,_,rfl⟩:=List.mem_map.1 hu
    rfl
  ·cases h
 ·cases h
theorem run_append_at (t tx ty e:TypeId) (i:TypeInfo) (ht:P.underlying t = some (.slice e)) (hi:P.info? e = some i) (b off sLen sCap:Nat) (x:Value) (n:Nat) (news:List Value) (hs:Src P i.size tx x n news w) {w':World}
  (hroom:sLen + n ≤ sCap) (hst:(storeCells ⟨b,off + sLen * i.size,none⟩ news).run P w = .ok () w') :
  (Builtin.append_ #[t,tx] ty #[.slice (some ⟨b,off,none⟩) sLen sCap,x]).run P w = .ok (.slice (some ⟨b,off,none⟩) (sLen + n) sCap) w':=by
 rcases hs.kind with ⟨e',hk⟩ | hk <;> simp [Builtin.append_,run_underlying ht,run_underlying hk,sizeOf,typeInfo,hi,hs.len,hroom,hs.cells,add_lit,hst]
theorem grownCap_ge (w:World) (need old:Nat) (e:TypeId) (h:need < 2 ^ 63):need ≤ grownCap w need old e:=by
 unfold grownCap
 simp [Question.cut]
theorem size_grown (cs:List Value) (z:Array Value) (need cap sz:Nat) (hz:z.size = sz) (hc:cs.length = need * sz) (hn:need ≤ cap):(cs.toArray ++ Builtin.zeroCells z (cap - need)).size = cap * sz:=by
 simp [size_zeroCells,hz,hc]
 rw [← Nat.add_mul]
 congr 1
 omega
theorem CR_grown {φ:Phi} {cs cs':List Value} (z:Array Value) (n:Nat) (h:VL φ cs cs') (o:cs.all one = true):CR φ 0 cs (cs'.toArray ++ Builtin.zeroCells z n):=by
 intro j v hj
 obtain ⟨v',e,hv⟩:=h.get j v hj
 refine ⟨List.all_eq_true.1 o v (List.mem_of_getElem? hj),v',?_,hv⟩
 have:j < cs'.length:=(List.getElem?_eq_some_iff.1 e).1
 rw [Nat.zero_add,Array.getElem?_append_left (by simpa using this)]
 simpa using e
theorem ok_app {sz bytes:Nat} {s x s' x' v:Value} {H':AH} {t tx ty e:TypeId} {i:TypeInfo} {z:Value} (R:Rel w0 φ H w) (h00:φ.m H.nx = none) (ht:P.underlying t = some (.slice e)) (hi:P.info? e = some i) (hz:i.zero = some z) (hzs:z.cells.size = i.size)
  (hsz:i.size = sz) (hsz0:sz ≠ 0) (hby:i.bytes = bytes) (hk:(∃ e',P.underlying tx = some (.slice e')) ∨ P.underlying tx = some .string)
  (hs:V φ s s') (hx:V φ x x') (h:aappend sz bytes H s x = some (v,H')) {r:Result Next} (er:r = ((Builtin.append_ #[t,tx] ty #[s',x']).run P w).andThen fun v w=>.ok (.value v) w) :
  OpOk w0 φ H w (.v v) H' r:=by
 subst hsz hby
 unfold aappend at h
 split at h
 case h_2=>cases h
 rename_i base sl sc n hn
 split at h
 ·rename_i h0
  subst h0
  simp only [Bool.cond_decide] at h
  split at h
  case isFalse=>cases h
  rename_i hle
  cases h
  obtain ⟨base',sc',rfl,hb⟩:=V.sln hs
  have hle':sl ≤ sc':=by
   cases base with
   | none=>have he:=hs.sl0; simp at he; omega
   | some a =>
    rcases V.sl1 hs with ⟨l,c',_,_,hcc,_,_,he⟩ | ⟨_,rfl,_,_⟩
    ·simp at he; omega
    ·omega
  have hsrc:Src P i.size tx x' 0 [] w:=by
   unfold lenA at hn
   split at hn
   ·simp at hn
    subst hn
    obtain ⟨a',c',rfl,_⟩:=V.sln hx
    refine ⟨hk,fun _=>rfl,?_,?_,by simp,fun _ h=>by cases h⟩ <;> cases a' <;> simp [Builtin.firstCells,loadCells,loadCellsFrom]
   ·rename_i s
    simp at hn
    rw [hx.string]
    refine ⟨hk,fun _=>?_,?_,?_,by simp,fun _ h=>by cases h⟩
    ·simp [Builtin.lenOf,hn]
    ·simp [Builtin.firstCells]
    ·simp [Builtin.firstCells]
   ·cases hn
  rw [run_append_nothing w t tx ty e i ht hi base' sl sc' hle' x' hsrc] at er
  exact .pure R hs er
 ·rename_i h0
  cases hq:srcA H i.size x with
  | none=>simp [hq] at h
  | some new =>
   simp only [hq] at h
   obtain ⟨news,hS,hv,ho⟩:=ok_src (P:=P) R hx hn hq hk
   cases hch:(decide ((sl + n) * i.bytes ≤ 2 ^ 47) && decide (sl + n < 2 ^ 62)) with
   | false=>simp [hch] at h
   | true =>
    simp only [hch,cond_true] at h
    simp at hch
    obtain ⟨hb47,hb62⟩:=hch
    have hnl:new.length = n * i.size:=by rw [hv.length]; exact hS.newsLen
    split at h
    ·rename_i hroom
     cases base with
     | none=>cases h
     | some a =>
      simp only at h
      cases hzk:(H.zok a.block i.size && a.spot.isNone) with
      | false=>simp [hzk] at h
      | true =>
       simp only [hzk,cond_true] at h
       cases hst:H.st ⟨a.block,a.off + sl * i.size,none⟩ new with
       | none=>simp [hst] at h
       | some H1 =>
        simp [hst] at h
        obtain ⟨rfl,rfl⟩:=h
        simp at hzk
        rcases V.sl1 hs with ⟨l,c',hsp,hl,hcc,hc0,hcb,rfl⟩ | ⟨hsp,_⟩
        ·have hp:V φ (.pointer (some ⟨a.block,a.off + sl * i.size,none⟩)) (.pointer (some ⟨l.c,a.off + sl * i.size + l.s,none⟩)):=.ptr hl
         obtain ⟨a',w',e1,e2,R',G⟩:=ok_st (P:=P) R hp hst hv ho
         simp at e1
         subst e1
         rw [show a.off + sl * i.size + l.s = a.off + l.s + sl * i.size by omega] at e2
         rw [run_append_at t tx ty e i ht hi l.c (a.off + l.s) sl c' x' n news hS (by omega) e2] at er
         refine ⟨φ,w',_,er,R',G,.inl ⟨_,rfl,?_⟩⟩
         obtain ⟨b,o,sp⟩:=a
         dsimp only at hsp ⊢
         subst hsp
         exact .sl hl hcc hc0 hcb
        ·rw [hsp] at hzk; simp at hzk
    ·rename_i hroom
     split at h
     ·rename_i hsc
      subst hsc
      obtain ⟨hch2,h⟩:=bif_some h
      simp only [Option.some.injEq,Prod.mk.injEq] at h
      obtain ⟨rfl,rfl⟩:=h
      simp only [nb,Bool.and_eq_true,decide_eq_true_eq] at hch2
      obtain ⟨rfl,hsp⟩:=hch2
      have hs':∃ base',s' = .slice base' 0 0:=by
       cases base with
       | none=>exact ⟨none,hs.sl0⟩
       | some a =>
        rcases V.sl1 hs with ⟨l,c',_,hl,hcc,hc0,hcb,rfl⟩ | ⟨hsp',_⟩
        ·exact ⟨_,by rw [hc0 rfl]⟩
        ·dsimp only at hsp; rw [hsp'] at hsp; simp at hsp
      obtain ⟨base',rfl⟩:=hs'
      have hold:(Builtin.firstCells i.size 0 (.slice base' 0 0)).run P w.drew = .ok ([]:List Value).toArray w.drew:=by
       cases base' <;> simp [Builtin.firstCells,loadCells,loadCellsFrom]
      have hrun:=run_append_grow_src w t tx ty e i z ht hi hz base' 0 0 [] hold x' n news hS (by omega) (by omega) (by
       rw [Nat.zero_add] at *
       exact growslice_fits (by omega) (by simpa using hb47))
      rw [hrun] at er
      simp only [Nat.zero_add,List.nil_append] at er
      have hcap:n ≤ grownCap w n 0 e:=grownCap_ge w n 0 e (by omega)
      have hasz:=size_grown news z.cells n (grownCap w n 0 e) i.size hzs hS.newsLen hcap
      obtain ⟨R',G⟩:=R.new h00 (w':=w.drew.alloc (.cells (news.toArray ++ Builtin.zeroCells z.cells (grownCap w n 0 e - n)) e)) (z:=i.size) (cs:=new) rfl rfl rfl rfl (by rw [hasz,hnl]; exact Nat.mul_le_mul_right _ hcap) (CR_grown _ _ hv ho)
      refine ⟨_,_,_,er,R',G,.inl ⟨_,rfl,?_⟩⟩
      refine .sl (Phi.add_self _ _ _) hcap (by omega) (.inr ?_)
      show 0 + 0 + grownCap w n 0 e * i.size ≤ _
      rw [hasz]
      simp
     ·rename_i hsc
      cases base with
      | none=>cases h
      | some a =>
       simp only at h
       cases hch2:(decide (H.n0 ≤ a.block) && a.spot.isNone && H.zok a.block i.size) with
       | false=>simp [hch2] at h
       | true =>
        simp only [hch2,cond_true] at h
        cases hld:H.ldn a (sl * i.size) with
        | none=>simp [hld] at h
        | some old =>
         simp [hld] at h
         obtain ⟨rfl,rfl⟩:=h
         simp at hch2
         obtain ⟨⟨hn0,hsp⟩,hzk⟩:=hch2
         rw [R.n0] at hn0
         rcases V.sl1 hs with ⟨l,c',hsp',hl,hcc,hc0,hcb,rfl⟩ | ⟨hsp',_⟩
         case inr=>rw [hsp'] at hsp; simp at hsp
         obtain ⟨b,o,sp⟩:=a
         dsimp only at *
         subst hsp'
         unfold AH.zok at hzk
         cases hg:H.get b with
         | none=>simp [hg] at hzk
         | some blk =>
          cases blk with
          | map es=>simp [hg] at hzk
          | cells zb cb =>
           simp [hg] at hzk
           obtain ⟨g1,g2,g3,arr,e0,g4,g5,g6⟩:=R.cells b l zb cb hn0 hl (AH.raw_of hg)
           obtain ⟨_,hoo,hol,olds,h3,h4,h5⟩:=R.ldn hld hl
           have hldb:old = (cb.drop o).take (sl * i.size) ∧ o + sl * i.size ≤ cb.length:=by
            unfold AH.ldn at hld
            simp only [hg,Bool.cond_decide,R.n0] at hld
            split at hld
            ·rename_i hn
             rw [if_neg (by omega)] at hld
             cases hld
             exact ⟨rfl,hn⟩
            ·cases hld
           have hall:(old ++ new).all one = true:=by simp only [List.all_append,hoo,ho]; rfl
           by_cases hc:sl + n ≤ c'
           ·-- room in the model alone
            have hbound:o + l.s + c' * l.z ≤ l.n:=by
             rcases hcb with e1 | e1
             ·omega
             ·exact e1
            rw [g2] at hbound
            have hfit:o + l.s + sl * i.size + news.length ≤ arr.size:=by
             rw [g5,hS.newsLen,show o + l.s + sl * i.size + n * i.size = o + l.s + (sl + n) * i.size by rw [Nat.add_mul]; omega]
             have:(sl + n) * i.size ≤ c' * zb:=Nat.mul_le_mul hc hzk
             omega
            have hst:=run_storeCells_at P l.c (o + l.s + sl * i.size) e0 news 0 arr w g4 (by omega) hS.one
            simp only [Nat.add_zero] at hst
            rw [run_append_at t tx ty e i ht hi l.c (o + l.s) sl c' x' n news hS hc hst] at er
            have hCR:CR φ (l.s + o) (old ++ new) (arr.toList.take (o + l.s + sl * i.size) ++ news ++ arr.toList.drop (o + l.s + sl * i.size + news.length)).toArray:=by
             intro j v hj
             by_cases hjo:j < old.length
             ·rw [List.getElem?_append_left hjo] at hj
              have hjc:cb[o + j]? = some v:=by
               rw [hldb.1] at hj
               have:j < sl * i.size:=by omega
               simpa [List.getElem?_take,this,List.getElem?_drop] using hj
              obtain ⟨q1,v',q2,q3⟩:=g6 (o + j) v hjc
              refine ⟨q1,v',?_,q3⟩
              rw [List.getElem?_toArray,List.append_assoc,List.getElem?_append_left (by simp; omega),List.getElem?_take,if_pos (by omega)]
              have:arr.toList[l.s + (o + j)]? = some v':=by simpa using q2
              rw [← this]
              congr 1
              omega
             ·rw [List.getElem?_append_right (by omega)] at hj
              obtain ⟨v',q2,q3⟩:=hv.get _ v hj
              refine ⟨List.all_eq_true.1 ho v (List.mem_of_getElem? hj),v',?_,q3⟩
              have hjn:j - old.length < news.length:=(List.getElem?_eq_some_iff.1 q2).1
              rw [List.getElem?_toArray,List.append_assoc,List.getElem?_append_right (by simp; omega),List.getElem?_append_left (by simp; omega),← q2]
              congr 1
              simp
              omega
            obtain ⟨R',G⟩:=R.move h00 (s2:=l.s + o) (z2:=i.size) (c2:=old ++ new) (w':=w.setRow l.c (arr.toList.take (o + l.s + sl * i.size) ++ news ++ arr.toList.drop (o + l.s + sl * i.size + news.length)).toArray) hn0 hl hg (setRow_heap w l.c arr _ e0 (0,0) g4) (fun k hk=>setRow_other w l.c k _ hk) (setRow_size _ _ _) rfl rfl rfl (by simp; omega)
             (by rw [List.length_append,hol,hnl]; rw [hS.newsLen,g5] at hfit; omega) hCR
            refine ⟨_,_,_,er,R',G,.inl ⟨_,rfl,?_⟩⟩
            have hcv:V (φ.add H.nx ⟨l.c,l.s + o,l.n,i.size⟩) (.slice (some ⟨H.nx,0,none⟩) (sl + n) (sl + n)) (.slice (some ⟨l.c,0 + (l.s + o),none⟩) (sl + n) c'):=by
             refine .sl (l:=⟨l.c,l.s + o,l.n,i.size⟩) (by simp [Phi.add]) hc (by omega) (.inr ?_)
             show 0 + (l.s + o) + c' * i.size ≤ l.n
             have:c' * i.size ≤ c' * zb:=Nat.mul_le_mul_left _ hzk
             omega
            rw [show 0 + (l.s + o) = o + l.s by omega] at hcv
            exact hcv
           ·-- a new block on both sides
            have hold:(Builtin.firstCells i.size sl (.slice (some ⟨l.c,o + l.s,none⟩) sl c')).run P w.drew = .ok olds.toArray w.drew:=run_firstCells_some w.drew i.size sl _ sl c' olds h3 (by simpa using h5)
            have hrun:=run_append_grow_src w t tx ty e i z ht hi hz (some ⟨l.c,o + l.s,none⟩) sl c' olds hold x' n news hS (by omega) (by omega) (growslice_fits (by omega) (by simpa using hb47))
            rw [hrun] at er
            have hcap:sl + n ≤ grownCap w (sl + n) c' e:=grownCap_ge w (sl + n) c' e (by omega)
            have hasz:=size_grown (olds ++ news) z.cells (sl + n) (grownCap w (sl + n) c' e) i.size hzs (by rw [List.length_append,h3,hS.newsLen,Nat.add_mul]) hcap
            have Rk:=R.kill (b:=b) hn0
            obtain ⟨R',G⟩:=Rk.new (show φ.m (H.put b none).nx = none from h00) (w':=w.drew.alloc (.cells ((olds ++ news).toArray ++ Builtin.zeroCells z.cells (grownCap w (sl + n) c' e - (sl + n))) e)) (z:=i.size) (cs:=old ++ new) rfl rfl rfl rfl
             (by rw [hasz,List.length_append,hol,hnl,← Nat.add_mul]; exact Nat.mul_le_mul_right _ hcap) (CR_grown _ _ (h4.append hv) hall)
            refine ⟨_,_,_,er,R',G.same (by rfl) (by rfl),.inl ⟨_,rfl,?_⟩⟩
            refine .sl (Phi.add_self _ _ _) hcap (by omega) (.inr ?_)
            show 0 + 0 + grownCap w (sl + n) c' e * i.size ≤ _
            rw [hasz]
            simp
end
end Go.Proofs.YtoijnpfpjpefgaaGreat.A
/- A text without what this claim does not need: Abs8. -/
set_option linter.unusedVariables false
set_option linter.unusedSimpArgs false
namespace Go.Proofs.YtoijnpfpjpefgaaGreat.A
open Go Go.RowKit
section
variable {P:Program} {w0 w:World} {φ:Phi} {H:AH}
theorem ok_first {sz n:Nat} {x x':Value} {c:List Value} (R:Rel w0 φ H w) (hx:V φ x x') (h:firstA H sz n x = some c) :
  ∃ c',(Builtin.firstCells sz n x').run P w = .ok c'.toArray w ∧ VL φ c c' ∧ c.all one = true:=by
 unfold firstA at h
 split at h
 ·rename_i a n' cp
  simp only [nb,Bool.cond_decide] at h
  obtain ⟨a',c',rfl,ha⟩:=V.sln hx
  split at h
  ·rename_i h0
   cases h
   refine ⟨[],?_,.nil,rfl⟩
   cases a' <;> simp [Builtin.firstCells,loadCells,loadCellsFrom,h0]
  ·rcases V.sl1 hx with ⟨l,c'',hsp,hl,_,_,_,he⟩ | ⟨hsp,_⟩
   ·simp at he
    obtain ⟨rfl,rfl⟩:=he
    obtain ⟨_,h1,h2,vs',h3,h4,h5⟩:=R.ldn h hl
    exact ⟨vs',run_firstCells_some w sz n _ n' c' vs' h3 h5,h4,h1⟩
   ·exfalso
    obtain ⟨b,o,sp⟩:=a
    dsimp only at hsp
    subst hsp
    simp [AH.ldn] at h
 ·cases h
  rw [hx.sl0]
  exact ⟨[],by simp [Builtin.firstCells],.nil,rfl⟩
 ·rename_i s
  cases h
  rw [hx.string]
  refine ⟨_,?_,VL_bytes _,?_⟩
  ·simp [Builtin.firstCells]
   apply Array.ext'
   simp
  ·rw [List.all_eq_true]
   intro u hu
   obtain ⟨_,_,rfl⟩:=List.mem_map.1 hu
   rfl
 ·cases h
theorem ok_copy {sz:Nat} {d s d' s' v:Value} {H':AH} {t tx ty e:TypeId} (R:Rel w0 φ H w) (ht:P.underlying t = some (.slice e)) (hsz:tsize P e = some sz) (hd:V φ d d') (hs:V φ s s') (h:acopy sz H d s = some (v,H')) {r:Result Next}
  (er:r = ((Builtin.copy_ #[t,tx] ty #[d',s']).run P w).andThen fun v w=>.ok (.value v) w):OpOk w0 φ H w (.v v) H' r:=by
 unfold acopy at h
 split at h
 case h_2=>cases h
 rename_i base dl dc m hm
 dsimp only at h
 cases hf:firstA H sz (Nat.min m dl) s with
 | none=>simp [hf] at h
 | some c =>
  simp only [hf,Option.bind_some] at h
  obtain ⟨c',hc1,hc2,hc3⟩:=ok_first (P:=P) R hs hf
  obtain ⟨base',dc',rfl,hb⟩:=V.sln hd
  have hlen:(Builtin.lenOf s').run P w = .ok m w:=by
   unfold lenA at hm
   split at hm
   ·simp at hm; subst hm
    obtain ⟨a',c',rfl,_⟩:=V.sln hs
    rfl
   ·simp at hm; subst hm
    rw [hs.string]; rfl
   ·cases hm
  have run:∀ {w':World},(match base' with | some a=>(storeCells a c').run P w | none=>.ok () w) = .ok () w' → (Builtin.copy_ #[t,tx] ty #[.slice base' dl dc',s']).run P w = .ok (goInt (Nat.min m dl:Nat)) w':=by
   intro w' hw
   cases base' with
   | none=>simp at hw; subst hw; simp [Builtin.copy_,run_underlying ht,hlen,run_tsize hsz,hc1]
   | some a=>simp only at hw; simp [Builtin.copy_,run_underlying ht,hlen,run_tsize hsz,hc1,hw]
  cases base with
  | none =>
   obtain rfl:=hb.2 rfl
   simp at h
   obtain ⟨rfl,rfl⟩:=h
   rw [run (w':=w) rfl] at er
   exact .pure R (.same rfl) er
  | some a =>
   simp only at h
   cases c with
   | nil =>
    simp at h
    obtain ⟨rfl,rfl⟩:=h
    cases hc2
    rw [run (w':=w) (by cases base' <;> simp [storeCells])] at er
    exact .pure R (.same rfl) er
   | cons c0 cr =>
    simp only [List.isEmpty_cons,cond_false] at h
    cases hst:H.st a (c0 :: cr) with
    | none=>simp [hst] at h
    | some H1 =>
     simp [hst] at h
     obtain ⟨rfl,rfl⟩:=h
     rcases V.sl1 hd with ⟨l,c'',hsp,hl,_,_,_,he⟩ | ⟨hsp,_⟩
     ·simp at he
      obtain ⟨rfl,rfl⟩:=he
      obtain ⟨b,o,sp⟩:=a
      dsimp only at *
      subst hsp
      obtain ⟨a',w',e1,e2,R',G⟩:=ok_st (P:=P) R (.ptr hl) hst hc2 hc3
      simp at e1
      subst e1
      rw [run (w':=w') e2] at er
      exact ⟨φ,w',_,er,R',G,.inl ⟨_,rfl,.same rfl⟩⟩
     ·exfalso
      obtain ⟨b,o,sp⟩:=a
      dsimp only at hsp
      subst hsp
      simp [AH.st] at hst
theorem made_eq (z:Array Value) (m:Nat) (hm:z.size = m):∀ n,(madeCells z (n * m)).toList = (List.replicate n z.toList).flatten
 | 0=>by simp [madeCells]
 | n + 1=>by
  have ih:=made_eq z m hm n
  simp only [madeCells,Array.toList_map,Array.toList_range] at ih ⊢
  rw [show (n + 1) * m = n * m + m by rw [Nat.succ_mul],List.range_add,List.map_append,ih,List.replicate_succ',List.flatten_append]
  congr 1
  simp only [List.map_map,List.flatten_cons,List.flatten_nil,List.append_nil]
  apply List.ext_getElem?
  intro j
  by_cases hj:j < m
  ·have:j < z.size:=by omega
   simp [hj,hm,Nat.mod_eq_of_lt hj,Nat.add_comm,this,getElem!_pos]
  ·rw [List.getElem?_eq_none (by simp; omega),List.getElem?_eq_none (by simp; omega)]
theorem all_replicate {z:List Value} (h:z.all flat = true):∀ n,((List.replicate n z).flatten).all flat = true
 | 0=>rfl
 | n + 1=>by simp only [List.replicate_succ,List.flatten_cons,List.all_append,h,all_replicate h n]; rfl
theorem ok_mksl {sz bytes:Nat} {z:List Value} {k:IntKind} {n:Int} {t e:TypeId} {i:TypeInfo} (R:Rel w0 φ H w) (h00:φ.m H.nx = none) (ht:P.underlying t = some (.slice e)) (hi:P.info? e = some i) (hz:tzero P e = some z) (hsz:i.size = sz) (hby:i.bytes = bytes)
  (h0:0 ≤ n) (hw:IntKind.i64.wrap n = n) (hb:(bytes:Int) * n ≤ 2 ^ 47) {r:Result Next} (er:r = ((Instr.makeSlice t (.int k n) (.int k n)).run P w).andThen fun v w=>.ok (.value v) w) :
  OpOk w0 φ H w (.v (.slice (some ⟨H.nx,0,none⟩) n.toNat n.toNat)) (H.alloc (.cells sz (List.replicate n.toNat z).flatten)) r:=by
 obtain ⟨i',zv,hi',hzv,hzl,hzf,hzn⟩:=run_tzero hz
 rw [hi] at hi'
 cases hi'
 subst hsz hby
 have h63:n ≤ 9223372036854775807:=by rw [IntKind.wrap_i64] at hw; omega
 have hzs:zv.cells.size = i.size:=by rw [← hzn,← hzl]; simp
 rw [run_make w t e i zv ht hi hzv k k n n h0 (Int.le_refl _) (by omega) h63] at er
 have hm:=made_eq zv.cells i.size hzs n.toNat
 rw [hzl] at hm
 have hfl:=all_replicate hzf n.toNat
 obtain ⟨R',G⟩:=R.new h00 (w':=w.alloc (.cells (madeCells zv.cells (n.toNat * i.size)) e)) (z:=i.size) (cs:=(List.replicate n.toNat z).flatten) rfl rfl rfl rfl (by rw [← hm]; simp) (CR_of_VL (by rw [hm]; exact VL.same hfl) (all_flat_one hfl))
 refine ⟨_,_,_,er,R',G,.inl ⟨_,rfl,?_⟩⟩
 have:=V.sl (φ:=φ.add H.nx ⟨w.heap.size,0,(madeCells zv.cells (n.toNat * i.size)).size,i.size⟩) (o:=0) (n:=n.toNat) (Phi.add_self φ H.nx ⟨w.heap.size,0,(madeCells zv.cells (n.toNat * i.size)).size,i.size⟩) (Nat.le_refl n.toNat) id (.inl rfl)
 simpa using this
theorem foldl_splice:∀ (l:List Value) (k off:Nat) (arr:Array Value),off + k + l.length ≤ arr.size →
  ((l.zipIdx k).foldl (fun (cs:Array Value) (x:Value × Nat)=>cs.setIfInBounds (off + x.2) x.1) arr).toList = splice arr.toList (off + k) l
 | [],k,off,arr,h=>by
  rw [splice_eq _ _ _ (by simpa using h)]
  simp
 | v :: l,k,off,arr,h=>by
  simp only [List.zipIdx_cons,List.foldl_cons]
  rw [foldl_splice l (k + 1) off _ (by simp at h ⊢; omega)]
  rw [splice_eq _ _ _ (by simp at h ⊢; omega),splice_eq _ _ _ (by simp at h ⊢; omega)]
  apply List.ext_getElem?
  intro j
  simp only [Array.toList_setIfInBounds,List.length_cons] at *
  by_cases h1:j < off + k
  ·rw [List.append_assoc,List.append_assoc,List.getElem?_append_left (by simp; omega),List.getElem?_append_left (by simp; omega),List.getElem?_take,List.getElem?_take,if_pos (by omega),if_pos h1,List.getElem?_set_ne (by omega)]
  ·by_cases h2:j = off + k
   ·subst h2
    rw [List.append_assoc,List.getElem?_append_left (by simp; omega),List.getElem?_take,if_pos (by omega),List.getElem?_set_self (by simp; omega)]
    rw [List.append_assoc,List.getElem?_append_right (by simp; omega),List.cons_append]
    simp
    rw [show off + k - min (off + k) arr.size = 0 by omega]
    rfl
   ·by_cases h3:j < off + k + 1 + l.length
    ·rw [List.append_assoc,List.getElem?_append_right (by simp; omega),List.getElem?_append_left (by simp; omega)]
     rw [List.append_assoc,List.getElem?_append_right (by simp; omega),List.getElem?_append_left (by simp; omega)]
     simp
     rw [show j - min (off + k) arr.size = (j - min (off + (k + 1)) arr.size) + 1 by omega]
     simp
    ·rw [List.getElem?_append_right (by simp; omega),List.getElem?_append_right (by simp; omega),List.getElem?_drop,List.getElem?_drop]
     rw [List.getElem?_set_ne (by simp; omega)]
     congr 1
     simp
     omega
theorem ok_fill:∀ {ps:List (Nat × Nat × Value)} {ps':List (Nat × Value)} {c c2:List Value} {arr:Array Value} {place:Nat → Option (Nat × Nat)},
  ps.length = ps'.length → (∀ (j:Nat) (p:Nat × Nat × Value),ps[j]? = some p → ∃ p':Nat × Value,ps'[j]? = some p' ∧ place p'.1 = some (p.1,p.2.1) ∧ V φ p.2.2 p'.2) →
  fillA c ps = some c2 → VL φ c arr.toList → c.all one = true → ∃ arr2,Instr.fill place arr ps' = some arr2 ∧ VL φ c2 arr2.toList ∧ c2.all one = true
 | [],[],c,c2,arr,place,_,_,h,hv,ho=>by simp [fillA] at h; subst h; exact ⟨arr,rfl,hv,ho⟩
 | [],_ :: _,_,_,_,_,h,_,_,_,_=>by simp at h
 | _ :: _,[],_,_,_,_,h,_,_,_,_=>by simp at h
 | (off,n,v) :: ps,(i',v') :: ps',c,c2,arr,place,hl,hp,h,hv,ho=>by
  obtain ⟨p',e1,e2,e3⟩:=hp 0 (off,n,v) (by simp)
  simp at e1
  subst e1
  dsimp only at e2 e3
  unfold fillA at h
  obtain ⟨hc,h⟩:=bif_some h
  simp only [nb,Bool.and_eq_true,decide_eq_true_eq,Bool.not_eq_true'] at hc
  obtain ⟨⟨hn,hfit⟩,htup⟩:=hc
  have hcl:=e3.cells
  have hsize:v'.cells.size = n:=by rw [← hn,hcl.length]; simp
  have hal:arr.size = c.length:=by rw [hv.length]; simp
  have hspl:VL φ (splice c off (vcells v)) (splice arr.toList off v'.cells.toList):=VL.splice off hv hcl
  have hfold:=foldl_splice v'.cells.toList 0 off arr (by simp; omega)
  have harr:(v'.cells.zipIdx.foldl (fun cs (x:Value × Nat)=>cs.setIfInBounds (off + x.2) x.1) arr).toList = splice arr.toList off v'.cells.toList:=by
   rw [← Array.foldl_toList,Array.toList_zipIdx]
   simpa using hfold
  obtain ⟨arr2,q1,q2,q3⟩:=ok_fill (ps:=ps) (ps':=ps') (arr:=v'.cells.zipIdx.foldl (fun cs (x:Value × Nat)=>cs.setIfInBounds (off + x.2) x.1) arr) (place:=place) (by simpa using hl) (fun j p hj=>by simpa using hp (j + 1) p (by simpa using hj)) h (by rw [harr]; exact hspl) (by
   rw [splice_eq _ _ _ (by omega)]
   simp only [List.all_append,vcells_one e3 htup,Bool.and_true,Bool.and_eq_true]
   rw [List.all_eq_true] at ho
   exact ⟨List.all_eq_true.2 fun x hx=>ho x (List.mem_of_mem_take hx),List.all_eq_true.2 fun x hx=>ho x (List.mem_of_mem_drop hx)⟩)
  refine ⟨arr2,?_,q2,q3⟩
  unfold Instr.fill
  rw [e2]
  simp only
  rw [if_neg (by simp; omega)]
  exact q1
theorem Rel.newMap {w0 w w':World} {φ:Phi} {H:AH} (R:Rel w0 φ H w) (h0:φ.m H.nx = none) (hh:w'.heap = w.heap.push (.map #[] 0)) (ho:w'.os = w.os) (ht:w'.tape = w.tape) (hp:w'.output = w.output) :
  Rel w0 (φ.add H.nx ⟨w.heap.size,0,0,0⟩) (H.alloc (.map [])) w' ∧ Grow φ H w (φ.add H.nx ⟨w.heap.size,0,0,0⟩) (H.alloc (.map [])) w':=by
 have hle:φ.le (φ.add H.nx ⟨w.heap.size,0,0,0⟩):=Phi.le_add h0
 have hsz:w0.heap.size ≤ w.heap.size:=R.below.size
 have hget:∀ k,k < w.heap.size → w'.heap[k]? = w.heap[k]?:=fun k hk=>by rw [hh,Array.getElem?_push,if_neg (by omega)]
 have old:∀ b l,φ.n0 ≤ b → φ.m b = some l → (H.raw b).isSome = true → l.c < w.heap.size:=by
  intro b l hb hl hs
  cases hg:H.raw b with
  | none=>simp [hg] at hs
  | some blk =>
   cases blk with
   | cells z' c =>
    obtain ⟨_,_,_,a,e',h4,_⟩:=R.cells b l z' c hb hl hg
    exact (Array.getElem?_eq_some_iff.1 h4).1
   | map es =>
    obtain ⟨_,a,e',h4,_⟩:=R.maps b l es hb hl hg
    exact (Array.getElem?_eq_some_iff.1 h4).1
 refine ⟨?_,?_⟩
 ·refine ⟨R.n0,R.le1,by rw [AH.alloc_nx]; have:=R.le2; exact Nat.le_succ_of_le this,R.c0,?_,?_,?_,?_,?_,?_⟩
  ·refine ⟨ho.trans R.below.os,ht.trans R.below.tape,hp.trans R.below.output,?_,fun k hk=>?_⟩
   ·rw [hh,Array.size_push]; omega
   ·rw [hget k (by omega)]; exact R.below.block k hk
  ·intro b hb
   exact hle _ _ (R.oldm b hb)
  ·intro b z' c hb hg
   have hb':b < φ.n0:=hb
   rw [AH.raw_alloc,if_neg (by have:=R.le2; omega)] at hg
   obtain ⟨e',fz,hw⟩:=R.oldc b z' c hb hg
   exact ⟨e',fz,by rw [hget b (by have:=R.le1; have:=R.c0; omega)]; exact hw⟩
  ·intro b l z' c hb hl hg
   rw [AH.raw_alloc] at hg
   simp only [Phi.add] at hl
   by_cases hbn:b = H.nx
   ·rw [if_pos hbn] at hg
    cases hg
   ·rw [if_neg hbn] at hg hl
    obtain ⟨h1,h2,h3,a,e',h4,h5,h6⟩:=R.cells b l z' c hb hl hg
    exact ⟨h1,h2,h3,a,e',by rw [hget _ (Array.getElem?_eq_some_iff.1 h4).1]; exact h4,h5,h6.mono hle⟩
  ·intro b l es hb hl hg
   rw [AH.raw_alloc] at hg
   simp only [Phi.add] at hl
   by_cases hbn:b = H.nx
   ·rw [if_pos hbn] at hg hl
    cases hg
    cases hl
    exact ⟨by show φ.c0 ≤ w.heap.size; rw [R.c0]; exact hsz,#[],0,by rw [hh]; simp,.nil⟩
   ·rw [if_neg hbn] at hg hl
    obtain ⟨h1,a,e',h4,h5⟩:=R.maps b l es hb hl hg
    exact ⟨h1,a,e',by rw [hget _ (Array.getElem?_eq_some_iff.1 h4).1]; exact h4,h5.mono hle⟩
  ·intro b1 b2 l1 l2 hb1 hb2 h1 h2 g1 g2 hc12
   rw [AH.raw_alloc] at g1 g2
   simp only [Phi.add] at h1 h2
   by_cases e1:b1 = H.nx <;> by_cases e2:b2 = H.nx
   ·rw [e1,e2]
   ·rw [if_pos e1] at h1
    rw [if_neg e2] at h2 g2
    cases h1
    have:=old b2 l2 hb2 h2 g2
    simp at hc12
    omega
   ·rw [if_neg e1] at h1 g1
    rw [if_pos e2] at h2
    cases h2
    have:=old b1 l1 hb1 h1 g1
    simp at hc12
    omega
   ·rw [if_neg e1] at h1 g1
    rw [if_neg e2] at h2 g2
    exact R.inj b1 b2 l1 l2 hb1 hb2 h1 h2 g1 g2 hc12
 ·refine ⟨hle,rfl,rfl,by rw [AH.alloc_nx]; exact Nat.le_succ _,?_,by rw [hh,Array.size_push]; exact Nat.le_succ _,?_⟩
  ·intro b l h k
   simp only [Phi.add] at k
   split at k
   ·rename_i hb; subst hb; exact ⟨Nat.le_refl _,by rw [AH.alloc_nx]; exact Nat.lt_succ_self _⟩
   ·rw [h] at k; cases k
  ·intro c hc hf
   refine ⟨hget c hc,fun b l hl=>?_⟩
   simp only [Phi.add] at hl
   split at hl
   ·cases hl
    show w.heap.size ≠ c
    omega
   ·exact hf b l hl
theorem Rel.writeMap {w0 w w':World} {φ:Phi} {H:AH} (R:Rel w0 φ H w) {b ck:Nat} {c c':List (Value × Value)} {l:Loc} {es':Array MapEntry} (hb:φ.n0 ≤ b) (hl:φ.m b = some l) (hg:H.get b = some (.map c))
  (hw:w'.heap[l.c]? = some (.map es' ck)) (hk:∀ k,k ≠ l.c → w'.heap[k]? = w.heap[k]?) (hs:w'.heap.size = w.heap.size) (ho:w'.os = w.os) (ht:w'.tape = w.tape) (hp:w'.output = w.output)
  (hc:ML φ c' es'.toList) :
  Rel w0 φ (H.put b (some (.map c'))) w' ∧ Grow φ H w φ (H.put b (some (.map c'))) w':=by
 have hg:=AH.raw_of hg
 obtain ⟨g1,a0,e0,g4,g5⟩:=R.maps b l c hb hl hg
 refine ⟨⟨R.n0,R.le1,R.le2,R.c0,?_,R.oldm,?_,?_,?_,?_⟩,?_⟩
 ·refine ⟨ho.trans R.below.os,ht.trans R.below.tape,hp.trans R.below.output,by rw [hs]; exact R.below.size,fun k h=>?_⟩
  rw [hk k (by have:=R.c0; omega)]
  exact R.below.block k h
 ·intro x z' d hx hgx
  rw [AH.raw_put,if_neg (by omega)] at hgx
  obtain ⟨e',fz,hh⟩:=R.oldc x z' d hx hgx
  refine ⟨e',fz,?_⟩
  rw [hk x (by have:=R.le1; omega)]
  exact hh
 ·intro x lx z' d hx hlx hgx
  rw [AH.raw_put] at hgx
  by_cases hxb:x = b
  ·rw [if_pos hxb] at hgx; cases hgx
  ·rw [if_neg hxb] at hgx
   obtain ⟨h1,h2,h3,a,e',h4,h5,h6⟩:=R.cells x lx z' d hx hlx hgx
   refine ⟨h1,h2,h3,a,e',?_,h5,h6⟩
   rw [hk]
   ·exact h4
   ·intro hc
    exact hxb (R.inj x b lx l hx hb hlx hl (by simp [hgx]) (by simp [hg]) hc)
 ·intro x lx es hx hlx hgx
  rw [AH.raw_put] at hgx
  by_cases hxb:x = b
  ·subst hxb
   rw [if_pos rfl] at hgx
   cases hgx
   rw [hl] at hlx
   cases hlx
   exact ⟨g1,es',ck,hw,hc⟩
  ·rw [if_neg hxb] at hgx
   obtain ⟨h1,a,e',h4,h5⟩:=R.maps x lx es hx hlx hgx
   refine ⟨h1,a,e',?_,h5⟩
   rw [hk]
   ·exact h4
   ·intro hc
    exact hxb (R.inj x b lx l hx hb hlx hl (by simp [hgx]) (by simp [hg]) hc)
 ·intro b1 b2 l1 l2 hb1 hb2 h1 h2 s1 s2 hc12
  have live:∀ x,((H.put b (some (.map c'))).raw x).isSome = true → (H.raw x).isSome = true:=by
   intro x hx
   rw [AH.raw_put] at hx
   by_cases hxb:x = b
   ·subst hxb; simp [hg]
   ·rw [if_neg hxb] at hx; exact hx
  exact R.inj b1 b2 l1 l2 hb1 hb2 h1 h2 (live _ s1) (live _ s2) hc12
 ·exact ⟨Phi.le_refl _,rfl,rfl,Nat.le_refl _,fun _ _ h k=>(by rw [h] at k; cases k),by rw [hs]; exact Nat.le_refl _,fun c hc hf=>⟨hk c (fun e=>hf b l hl e.symm),hf⟩⟩
theorem keyOk_flat {kk:Nat} {k:Value} (h:keyOk kk k = true):flat k = true:=by
 rcases kk with _ | _ | _ | kk <;> cases k <;> first | rfl | (simp [keyOk] at h)
theorem sameNow_eq {kk:Nat} {kt:TypeId} {d:TypeDesc} {k k':Value} {b:Bool} (hd:P.underlying kt = some d) (hk:keyKind P kt = some kk) (ho:keyOk kk k = true) (h:veq? k k' = some b):Instr.sameNow d k k' = some b ∧ keyOk kk k' = true ∧ (b = true → k = k'):=by
 unfold keyKind at hk
 rw [hd] at hk
 cases d <;> simp at hk <;> subst hk
 case int =>
  cases k <;> simp [keyOk] at ho
  cases k' <;> simp [veq?] at h
  rename_i k1 a k2 c
  obtain ⟨rfl,rfl⟩:=h
  exact ⟨by simp [Instr.sameNow],rfl,by simp⟩
 case string =>
  cases k <;> simp [keyOk] at ho
  cases k' <;> simp [veq?] at h
  rename_i a c
  subst h
  refine ⟨?_,rfl,?_⟩
  ·simp [Instr.sameNow,beq_toListBytes,ByteArray.toList_eq]
  ·intro hb
   simp at hb
   have:a = c:=by
    obtain ⟨⟨a⟩⟩:=a
    obtain ⟨⟨c⟩⟩:=c
    simp at hb
    rw [hb]
   rw [this]
 case bool =>
  cases k <;> simp [keyOk] at ho
  cases k' <;> simp [veq?] at h
  subst h
  exact ⟨by simp [Instr.sameNow],rfl,by simp⟩
theorem ok_find {kk:Nat} {kt:TypeId} {d:TypeDesc} {k:Value} (hd:P.underlying kt = some d) (hk:keyKind P kt = some kk) (ho:keyOk kk k = true) :
  ∀ {es:List (Value × Value)} {l:List MapEntry} {r:Option Value} (i:Nat),ML φ es l → findA k es = some r →
   (r = none ∧ Instr.findNow d k l i = some none) ∨ ∃ v v' j e,r = some v ∧ Instr.findNow d k l i = some (some (i + j,v')) ∧ V φ v v' ∧ l[j]? = some e ∧ e.key = k
 | _,_,r,i,.nil,h=>by simp [findA] at h; subst h; exact .inl ⟨rfl,rfl⟩
 | _,_,r,i,.cons (k:=k') (v:=v) (v':=v') (n:=n) hv hl,h=>by
  simp only [findA] at h
  cases he:veq? k k' with
  | none=>simp [he] at h
  | some b =>
   obtain ⟨hs,hk',hb⟩:=sameNow_eq hd hk ho he
   cases b with
   | true =>
    simp [he] at h
    subst h
    refine .inr ⟨v,v',0,_,rfl,?_,hv,rfl,(hb rfl).symm⟩
    simp [Instr.findNow,hs]
   | false =>
    simp only [he] at h
    rcases ok_find hd hk ho (i + 1) hl h with ⟨hr,hf⟩ | ⟨v2,v2',j,e,hr,hf,hv2,hj,hek⟩
    ·exact .inl ⟨hr,by simp [Instr.findNow,hs,hf]⟩
    ·refine .inr ⟨v2,v2',j + 1,e,hr,?_,hv2,by simpa using hj,hek⟩
     simp [Instr.findNow,hs,hf]
     omega
theorem ok_upd {kk:Nat} {kt:TypeId} {d:TypeDesc} {k u u':Value} (hd:P.underlying kt = some d) (hk:keyKind P kt = some kk) (ho:keyOk kk k = true) (hu:V φ u u') :
  ∀ {es es2:List (Value × Value)} {l:List MapEntry} (i:Nat),ML φ es l → updA k u es = some es2 →
   (Instr.findNow d k l i = some none ∧ ∀ n,ML φ es2 (l ++ [⟨k,u',n⟩])) ∨ ∃ v' j e,Instr.findNow d k l i = some (some (i + j,v')) ∧ l[j]? = some e ∧ e.key = k ∧ ML φ es2 (l.modify j fun e=>{ e with key:=k,val:=u' })
 | _,_,_,i,.nil,h=>by
  simp [updA] at h
  subst h
  exact .inl ⟨rfl,fun n=>.cons hu .nil⟩
 | _,_,_,i,.cons (k:=k') (v:=v) (v':=v') (n:=n) (l:=es) (l':=l) hv hl,h=>by
  simp only [updA] at h
  cases he:veq? k k' with
  | none=>simp [he] at h
  | some b =>
   obtain ⟨hs,hk',hb⟩:=sameNow_eq hd hk ho he
   cases b with
   | true =>
    simp [he] at h
    subst h
    refine .inr ⟨v',0,_,?_,rfl,(hb rfl).symm,?_⟩
    ·simp [Instr.findNow,hs]
    ·simpa using ML.cons hu hl
   | false =>
    simp only [he] at h
    cases hq:updA k u es with
    | none=>simp [hq] at h
    | some es3 =>
     simp [hq] at h
     subst h
     rcases ok_upd hd hk ho hu (i + 1) hl hq with ⟨hf,hm⟩ | ⟨v2',j,e,hf,hj,hek,hm⟩
     ·exact .inl ⟨by simp [Instr.findNow,hs,hf],fun n=>.cons hv (hm n)⟩
     ·refine .inr ⟨v2',j + 1,e,?_,by simpa using hj,hek,?_⟩
      ·simp [Instr.findNow,hs,hf]
       omega
      ·simpa using ML.cons hv hm
theorem run_checkKey {kk:Nat} {kt:TypeId} {d:TypeDesc} (hd:P.underlying kt = some d) (hk:keyKind P kt = some kk) (b:Bool) (n:Nat) (k:Value) (w:World):(Instr.checkKey b (n + 1) kt k).run P w = .ok () w:=by
 unfold keyKind at hk
 rw [hd] at hk
 cases d <;> simp at hk <;> simp [Instr.checkKey,run_underlying hd]
theorem sameBits_refl {kk:Nat} {k:Value} (h:keyOk kk k = true) (n:Nat):Instr.sameBits n k k = true:=by
 rcases kk with _ | _ | _ | kk <;> cases k <;> simp [keyOk] at h <;> simp [Instr.sameBits,beq_toListBytes]
end
end Go.Proofs.YtoijnpfpjpefgaaGreat.A
/- A text without what this claim does not need: Abs9. -/
set_option linter.unusedVariables false
set_option linter.unusedSimpArgs false
namespace Go.Proofs.YtoijnpfpjpefgaaGreat.A
open Go Go.RowKit
section
variable {P:Program} {w0 w:World} {φ:Phi} {H:AH}
def HasF (P:Program) (f:Nat):Prop:=∃ fn,P.funcs[f]? = some fn ∧ fn.body.isNone = false ∧ (fn.name == "runtime.NumGoroutine") = false
theorem run_callFunc {f:Nat} (h:HasF P f) (as:Array Value) (w:World):(callFunc f as).run P w = .ok (.enter f as) w:=by
 obtain ⟨fn,h1,h2,h3⟩:=h
 have h3':¬ fn.name = "runtime.NumGoroutine":=by simpa using h3
 have h2':fn.body ≠ none:=by intro e; rw [e] at h2; cases h2
 simp [callFunc,h1,h2',h3']
theorem OpOk.enter {f:Nat} {as:List Value} {as':Array Value} {r:Result Next} (R:Rel w0 φ H w) (h:VL φ as as'.toList) (hr:r = .ok (.enter f as') w):OpOk w0 φ H w (.enter f as) H r :=
 ⟨φ,w,_,hr,R,Grow.refl _ _ _,as',rfl,h⟩
theorem cXo_VO {φ:Phi} {fr:Fr} {a:Act} (F:FrR φ fr a) {x:Option Operand} {y:Option X} (h:cXo x = some y):VO φ (y.map (X.ev fr)) (x.map a.eval):=by
 cases x with
 | none=>simp [cXo] at h; subst h; exact .none
 | some x =>
  simp only [cXo] at h
  cases hx:cX x with
  | none=>simp [hx] at h
  | some z=>simp [hx] at h; subst h; exact .some (cX_V F hx)
theorem ok_mx:∀ {l l':List Value} {v v' r:Value},VL φ l l' → V φ v v' → mxA v l = some r → ∃ r',(l'.foldlM Builtin.max2 v').run P w = .ok r' w ∧ V φ r r'
 | _,_,v,v',r,.nil,hv,h=>by
  simp [mxA] at h
  subst h
  exact ⟨v',by simp,hv⟩
 | _,_,v,v',r,.cons (v:=u) a b,hv,h=>by
  cases v <;> cases u <;> simp [mxA] at h
  rw [hv.int,a.int]
  obtain ⟨r',h1,h2⟩:=ok_mx b (.same rfl) h
  refine ⟨r',?_,h2⟩
  simpa [Builtin.max2] using h1
theorem ok_mn:∀ {l l':List Value} {v v' r:Value},VL φ l l' → V φ v v' → mnA v l = some r → ∃ r',(l'.foldlM Builtin.min2 v').run P w = .ok r' w ∧ V φ r r'
 | _,_,v,v',r,.nil,hv,h=>by
  simp [mnA] at h
  subst h
  exact ⟨v',by simp,hv⟩
 | _,_,v,v',r,.cons (v:=u) a b,hv,h=>by
  cases v <;> cases u <;> simp [mnA] at h
  rw [hv.int,a.int]
  obtain ⟨r',h1,h2⟩:=ok_mn b (.same rfl) h
  refine ⟨r',?_,h2⟩
  simpa [Builtin.min2] using h1
theorem veq?_V {a b a' b':Value} {r:Bool} (h:veq? a b = some r) (ha:V φ a a') (hb:V φ b b'):a' = a ∧ b' = b:=by
 unfold veq? at h
 split at h
 ·exact ⟨ha.int,hb.int⟩
 ·exact ⟨ha.string,hb.string⟩
 ·exact ⟨ha.bool,hb.bool⟩
 ·cases h
theorem run_eq1 {ft:TypeId} {kk:Nat} (hk:keyKind P ft = some kk) {x y:Value} {r:Bool} (ho:keyOk kk x = true) (h:veq? x y = some r) (d:Nat) (w:World) {cs ds:Array Value} {o:Nat} (hx:cs[o]? = some x) (hy:ds[o]? = some y) :
  (part ft cs o).run P w = .ok x w ∧ (part ft ds o).run P w = .ok y w ∧ (Op.equalIn (d + 1) ft x y).run P w = .ok r w:=by
 unfold keyKind at hk
 cases hu:P.underlying ft with
 | none=>simp [hu] at hk
 | some ty =>
  cases ty <;> simp [hu] at hk <;> subst hk
  case int q =>
   cases x <;> simp [keyOk] at ho
   cases y <;> simp [veq?] at h
   rename_i k a k' b
   obtain ⟨rfl,rfl⟩:=h
   refine ⟨?_,?_,run_equalIn_int w d ft k q a b hu⟩ <;> simp [part,isAgg,run_underlying hu,hx,hy]
  case string =>
   cases x <;> simp [keyOk] at ho
   cases y <;> simp [veq?] at h
   rename_i a b
   subst h
   refine ⟨?_,?_,?_⟩
   ·simp [part,isAgg,run_underlying hu,hx]
   ·simp [part,isAgg,run_underlying hu,hy]
   ·rw [run_equalIn_string w d ft a b hu]; simp [ByteArray.toList_eq]
  case bool =>
   cases x <;> simp [keyOk] at ho
   cases y <;> simp [veq?] at h
   rename_i a b
   subst h
   refine ⟨?_,?_,run_equalIn_bool' w d ft a b hu⟩ <;> simp [part,isAgg,run_underlying hu,hx,hy]
theorem ok_eqFields {cs ds cs' ds':Array Value} (hc:VL φ cs.toList cs'.toList) (hd:VL φ ds.toList ds'.toList) (d:Nat) (w:World):∀ (fs:List Field) (b:Bool),(fs.all fun f=>f.name != "_" && (keyKind P f.type).isSome) = true →
  eqCells cs.toList ds.toList (fs.map fun f=>(f.offset,(keyKind P f.type).getD 9)) = some b → (Op.eqFields (d + 1) cs' ds' fs).run P w = .ok b w
 | [],b,_,h=>by simp [eqCells] at h; subst h; simp [Op.eqFields]
 | f :: fs,b,hf,h=>by
  simp only [List.all_cons,Bool.and_eq_true] at hf
  obtain ⟨⟨hname,hkind⟩,hrest⟩:=hf
  cases hk:keyKind P f.type with
  | none=>simp [hk] at hkind
  | some kk =>
   simp only [List.map_cons,hk,Option.getD_some,eqCells] at h
   cases hx:cs.toList[f.offset]? with
   | none=>simp [hx] at h
   | some x =>
    cases hy:ds.toList[f.offset]? with
    | none=>simp [hx,hy] at h
    | some y =>
     simp only [hx,hy] at h
     obtain ⟨ho,h⟩:=bif_some h
     cases he:veq? x y with
     | none=>simp [he] at h
     | some r =>
      obtain ⟨x',hx1,hx2⟩:=hc.get _ _ hx
      obtain ⟨y',hy1,hy2⟩:=hd.get _ _ hy
      obtain ⟨rfl,rfl⟩:=veq?_V he hx2 hy2
      obtain ⟨p1,p2,p3⟩:=run_eq1 (P:=P) hk ho he d w (cs:=cs') (ds:=ds') (o:=f.offset) (by simpa using hx1) (by simpa using hy1)
      have hname':f.name ≠ "_":=by simpa using hname
      simp only [Op.eqFields,if_pos hname',Sem.run_bind,p1,p2,p3,Result.andThen_ok]
      cases r with
      | true =>
       simp only [he] at h
       simpa using ok_eqFields hc hd d w fs b hrest h
      | false =>
       simp only [he] at h
       cases h
       simp
theorem ok_eqs {neg:Bool} {cs ds:Array Value} {x' y':Value} {b:Bool} {t:TypeId} {fs:Array Field} (R:Rel w0 φ H w) (hu:P.underlying t = some (.struct fs)) (hf:(fs.toList.all fun f=>f.name != "_" && (keyKind P f.type).isSome) = true) (hs:P.stoodInHeld t = false) (hg:P.eqGuardType P.depth t = false)
  (h:eqCells cs.toList ds.toList (fs.toList.map fun f=>(f.offset,(keyKind P f.type).getD 9)) = some b) (hx:V φ (.agg cs) x') (hy:V φ (.agg ds) y') (xo yo:Operand) {r:Result Next} {op:BinOp} (hop:op = bif neg then .neq else .eql)
  (e:r = ((do eqGuard op t xo yo x' y'; binOp op t x' y':Sem Value).run P w).andThen fun v w=>.ok (.value v) w):OpOk w0 φ H w (.v (.bool (bif neg then !b else b))) H r:=by
 obtain ⟨cs',rfl,hc,_⟩:=hx.agg1
 obtain ⟨ds',rfl,hd,_⟩:=hy.agg1
 have hfo:P.fieldsOf t = fs:=by simp [Program.fieldsOf,hu]
 have hu':P.underlying t = some (.struct (P.fieldsOf t)):=by rw [hfo]; exact hu
 have heq:(Op.equalIn 10000 t (.agg cs') (.agg ds')).run P w = .ok b w:=by
  rw [run_equalIn_struct w 9999 t cs' ds' hu' hs,hfo]
  exact ok_eqFields hc hd 9998 w fs.toList b hf h
 refine .pure R (.same rfl) ?_
 rw [e,Sem.run_bind,run_eqGuard_agg w op t xo yo cs' ds' hg]
 simp only [Result.andThen_ok]
 subst hop
 cases neg
 ·show ((binOp .eql t (.agg cs') (.agg ds')).run P w).andThen _ = _
  rw [run_eql_struct,heq]
  rfl
 ·show ((binOp .neq t (.agg cs') (.agg ds')).run P w).andThen _ = _
  rw [run_neq_struct,heq]
  rfl
theorem cParts_ok {fr:Fr} {a:Act} (F:FrR φ fr a) {place:Nat → Option (Nat × Nat)}:∀ {ps:List (Nat × Operand)} {l:List (Nat × Nat × X)},cParts place ps = some l →
  (l.map fun p=>(p.1,p.2.1,p.2.2.ev fr)).length = (ps.map fun p=>(p.1,a.eval p.2)).length ∧
  ∀ (j:Nat) (p:Nat × Nat × Value),(l.map fun p=>(p.1,p.2.1,p.2.2.ev fr))[j]? = some p → ∃ p':Nat × Value,(ps.map fun p=>(p.1,a.eval p.2))[j]? = some p' ∧ place p'.1 = some (p.1,p.2.1) ∧ V φ p.2.2 p'.2
 | [],l,h=>by simp [cParts] at h; subst h; exact ⟨rfl,fun j p h=>by simp at h⟩
 | (i,x) :: ps,l,h=>by
  simp only [cParts] at h
  cases hp:place i with
  | none=>simp [hp] at h
  | some on =>
   cases hx:cX x with
   | none=>simp [hp,hx] at h
   | some y =>
    cases hl:cParts place ps with
    | none=>simp [hp,hx,hl] at h
    | some m =>
     simp [hp,hx,hl] at h
     subst h
     obtain ⟨h1,h2⟩:=cParts_ok F hl
     refine ⟨by simpa using h1,fun j p hj=>?_⟩
     cases j with
     | zero=>simp at hj; subst hj; exact ⟨(i,a.eval x),by simp,hp,cX_V F hx⟩
     | succ j=>simpa using h2 j p (by simpa using hj)
end
end Go.Proofs.YtoijnpfpjpefgaaGreat.A
/- A text without what this claim does not need: AbsA. -/
set_option linter.unusedVariables false
set_option linter.unusedSimpArgs false
namespace Go.Proofs.YtoijnpfpjpefgaaGreat.A
open Go Go.RowKit
section
variable {P:Program} {w0 w:World} {φ:Phi} {H:AH}
theorem tsize_size {t:TypeId} {n:Nat} (h:tsize P t = some n):∃ i,P.info? t = some i ∧ i.size = n:=by
 unfold tsize at h
 cases hi:P.info? t with
 | none=>simp [hi] at h
 | some i=>simp [hi] at h; exact ⟨i,rfl,h⟩
theorem ok_call {fr:Fr} {a:Act} (F:FrR φ fr a) (R:Rel w0 φ H w) (h00:φ.m H.nx = none) {c:Call} {ao:AOp} (hc:cCall P c = some ao) {res:ARes} {H':AH} (h:aop ao (X.ev fr) H = some (res,H')) (hf:∀ f as,res = .enter f as → HasF P f) (ty:TypeId) :
  OpOk w0 φ H w res H' ((do let d ← resolve a.eval c ty; invoke d.target d.args:Sem Next).run P w):=by
 obtain ⟨callee,args,argTypes⟩:=c
 unfold cCall at hc
 dsimp only at hc
 cases callee with
 | invoke x m=>cases hc
 | value x =>
  cases x with
  | func f =>
   simp only at hc
   cases has:cXs args.toList with
   | none=>simp [has] at hc
   | some as =>
    simp [has] at hc
    subst hc
    simp only [aop,Option.some.injEq,Prod.mk.injEq] at h
    obtain ⟨rfl,rfl⟩:=h
    refine .enter R (as':=args.map a.eval) (by simpa using cXs_VL F has) ?_
    have:=run_callFunc (hf f _ rfl) (args.map a.eval) w
    simp [resolve,Act.eval,Deferred.ofValue,invoke,this]
  | tmp t =>
   simp only [cX] at hc
   cases has:cXs args.toList with
   | none=>simp [has] at hc
   | some as =>
    simp [has] at hc
    subst hc
    simp only [aop] at h
    have hv:=F t
    simp only [X.ev] at h
    cases hq:fr.get t <;> simp [hq] at h
    rename_i fn first cap
    cases fn <;> simp at h
    obtain ⟨rfl,rfl⟩:=h
    rename_i f
    rw [hq] at hv
    obtain ⟨a',b',e,h1,h2⟩:=V.fn1 hv
    have e':a.eval (.tmp t) = .func (.func f) a' b':=e
    refine .enter R (as':=a' ++ args.map a.eval ++ b') (by simpa using h1.append ((cXs_VL F has).append h2)) ?_
    have:=run_callFunc (hf f _ rfl) (a' ++ args.map a.eval ++ b') w
    simp [resolve,e',Deferred.ofValue,invoke]
    simpa using this
  | const v =>
   simp only [cX] at hc
   split at hc
   ·rename_i y as hy has
    cases hc
    split at hy
    ·rename_i hfl
     cases hy
     simp only [aop,X.ev] at h
     cases v <;> simp at h
     simp [flat2,flat] at hfl
    ·cases hy
   ·cases hc
  | global g=>simp [cX] at hc
 | builtin b =>
  simp only at hc
  split at hc
  ·-- len
   rename_i x t rest hargs htys
   have harg:args = #[x]:=Array.ext' (by simpa using hargs)
   have ht0:argTypes[0]? = some t:=by rw [← Array.getElem?_toList,htys]; rfl
   subst harg
   split at hc
   ·rename_i y hu hy
    cases hc
    have hv:=cX_V F hy
    simp only [aop] at h
    cases hq:y.ev fr <;> simp [hq] at h
    obtain ⟨rfl,rfl⟩:=h
    rw [hq] at hv
    refine .pure R (.same rfl) ?_
    simp [resolve,invoke,builtin,Builtin.len_,ht0,run_underlying hu,hv.string]
    rfl
   ·rename_i e y hu hy
    cases hc
    have hv:=cX_V F hy
    simp only [aop] at h
    cases hq:y.ev fr <;> simp [hq] at h
    obtain ⟨rfl,rfl⟩:=h
    rw [hq] at hv
    obtain ⟨a',c',e',_⟩:=V.sln hv
    refine .pure R (.same rfl) ?_
    simp [resolve,invoke,builtin,Builtin.len_,ht0,run_underlying hu,e']
    rfl
   ·rename_i n e y hu hy
    cases hc
    simp only [aop,Option.some.injEq,Prod.mk.injEq] at h
    obtain ⟨rfl,rfl⟩:=h
    refine .pure R (.same rfl) ?_
    simp [resolve,invoke,builtin,Builtin.len_,ht0,run_underlying hu]
    rfl
   ·cases hc
  ·-- append
   rename_i s x t u hargs htys
   have harg:args = #[s,x]:=Array.ext' (by simpa using hargs)
   have htt:argTypes = #[t,u]:=Array.ext' (by simpa using htys)
   subst harg htt
   have key:∀ {e:TypeId} {y z:X},P.underlying t = some (.slice e) → ((∃ e',P.underlying u = some (.slice e')) ∨ P.underlying u = some .string) → cX s = some y → cX x = some z →
     (match P.info? e with | some i=>if i.size = 0 ∨ i.bytes = 0 ∨ (tzero P e).isNone then none else some (AOp.app i.size i.bytes y z) | none=>none) = some ao → OpOk w0 φ H w res H' ((do let d ← resolve a.eval { callee:=.builtin .append,args:=#[s,x],argTypes:=#[t,u] } ty; invoke d.target d.args:Sem Next).run P w):=by
    intro e y z hu hk hy hz hc
    cases hi:P.info? e with
    | none=>simp [hi] at hc
    | some i =>
     simp only [hi] at hc
     split at hc
     ·cases hc
     ·rename_i hne
      cases hc
      have hzz:(tzero P e).isSome = true:=by
       cases ht:tzero P e with
       | none=>exact absurd (.inr (.inr (by simp [ht]))) hne
       | some l=>rfl
      obtain ⟨l,hl⟩:=Option.isSome_iff_exists.1 hzz
      obtain ⟨i',zv,hi',hzv,hzl,_,hzn⟩:=run_tzero hl
      rw [hi] at hi'
      cases hi'
      simp only [aop] at h
      cases hq:aappend i.size i.bytes H (y.ev fr) (z.ev fr) with
      | none=>simp [hq] at h
      | some r =>
       obtain ⟨v,H1⟩:=r
       simp [hq] at h
       obtain ⟨rfl,rfl⟩:=h
       refine ok_app (P:=P) (t:=t) (tx:=u) (ty:=ty) (e:=e) (i:=i) (z:=zv) R h00 hu hi hzv (by rw [← hzn,← hzl]; simp) rfl (fun e=>hne (.inl e)) rfl hk (cX_V F hy) (cX_V F hz) hq ?_
       simp [resolve,invoke,builtin]
   split at hc
   ·rename_i e e' y z hu hk hy hz; exact key hu (.inl ⟨e',hk⟩) hy hz hc
   ·rename_i e y z hu hk hy hz; exact key hu (.inr hk) hy hz hc
   ·cases hc
  ·-- copy
   rename_i s x t u hargs htys
   have harg:args = #[s,x]:=Array.ext' (by simpa using hargs)
   have htt:argTypes = #[t,u]:=Array.ext' (by simpa using htys)
   subst harg htt
   split at hc
   ·rename_i e y z hu hy hz
    cases hn:tsize P e with
    | none=>simp [hn] at hc
    | some n =>
     simp [hn] at hc
     subst hc
     simp only [aop] at h
     cases hq:acopy n H (y.ev fr) (z.ev fr) with
     | none=>simp [hq] at h
     | some r =>
      obtain ⟨v,H1⟩:=r
      simp [hq] at h
      obtain ⟨rfl,rfl⟩:=h
      refine ok_copy (P:=P) (t:=t) (tx:=u) (ty:=ty) (e:=e) R hu hn (cX_V F hy) (cX_V F hz) hq ?_
      simp [resolve,invoke,builtin]
   ·cases hc
  ·-- max
   rename_i x l hargs
   have harg:args.toList = x :: l:=hargs
   split at hc
   ·rename_i y ys hy hys
    cases hc
    simp only [aop] at h
    cases hq:mxA (y.ev fr) (ys.map (X.ev fr)) with
    | none=>simp [hq] at h
    | some v =>
     simp [hq] at h
     obtain ⟨rfl,rfl⟩:=h
     obtain ⟨r',h1,h2⟩:=ok_mx (P:=P) (w:=w) (cXs_VL F hys) (cX_V F hy) hq
     refine .pure R h2 ?_
     simp [resolve,invoke,builtin,Builtin.max_,harg,h1]
   ·cases hc
  ·-- min
   rename_i x l hargs
   have harg:args.toList = x :: l:=hargs
   split at hc
   ·rename_i y ys hy hys
    cases hc
    simp only [aop] at h
    cases hq:mnA (y.ev fr) (ys.map (X.ev fr)) with
    | none=>simp [hq] at h
    | some v =>
     simp [hq] at h
     obtain ⟨rfl,rfl⟩:=h
     obtain ⟨r',h1,h2⟩:=ok_mn (P:=P) (w:=w) (cXs_VL F hys) (cX_V F hy) hq
     refine .pure R h2 ?_
     simp [resolve,invoke,builtin,Builtin.min_,harg,h1]
   ·cases hc
  ·cases hc
theorem ok_mup {fr:Fr} {a:Act} (F:FrR φ fr a) (R:Rel w0 φ H w) {t:TypeId} {m k x:Operand} {ao:AOp} {res:ARes} {H':AH}
  (hc:(match P.underlying t,cX m,cX k,cX x with | some (.map kt _),some a,some b,some c=>(keyKind P kt).map fun kk=>AOp.mup kk a b c | _,_,_,_=>none) = some ao) (h:aop ao (X.ev fr) H = some (res,H')) :
  OpOk w0 φ H w res H' ((do Instr.mapUpdate t (a.eval m) (a.eval k) (a.eval x); pure .skip:Sem Next).run P w):=by
 split at hc
 case h_2=>cases hc
 rename_i kt e m' k' x' hu hm hk hx
 cases hkk:keyKind P kt with
 | none=>simp [hkk] at hc
 | some kk =>
  simp [hkk] at hc
  subst hc
  have h1:=cX_V F hm
  have h2:=cX_V F hk
  have h3:=cX_V F hx
  have hkd:∃ d,P.underlying kt = some d:=by
   unfold keyKind at hkk
   cases hd:P.underlying kt with
   | none=>simp [hd] at hkk
   | some d=>exact ⟨d,rfl⟩
  obtain ⟨d,hd⟩:=hkd
  simp only [aop] at h
  split at h
  case h_2=>cases h
  rename_i r hq
  split at h
  case h_2=>cases h
  rename_i es hg
  obtain ⟨hch,h⟩:=bif_some h
  simp only [Bool.and_eq_true,decide_eq_true_eq] at hch
  rw [hq] at h1
  obtain ⟨l,hl,e1⟩:=V.mp1 h1
  have hn0:φ.n0 ≤ r:=by rw [← R.n0]; exact hch.1.2
  obtain ⟨_,es',ck,hw,hml⟩:=R.maps r l es hn0 hl (AH.raw_of hg)
  have hkeq:a.eval k = k'.ev fr:=by
   have hf:=keyOk_flat hch.1.1
   have hch1:=hch.1.1
   cases h2':k'.ev fr <;> rw [h2'] at hf h2 hch1 <;> simp [flat] at hf <;> first
    | exact h2.int
    | exact h2.string
    | exact h2.bool
    | (rcases kk with _ | _ | _ | kk <;> simp [keyOk] at hch1)
  have hck:(Instr.checkKey false 10000 kt (k'.ev fr)).run P w = .ok () w:=run_checkKey (P:=P) hd hkk false 9999 _ w
  have hobj:(getObj l.c).run P w = .ok (.map es' ck) w:=by simp [getObj,Sem.run,hw]
  have hlt:l.c < w.heap.size:=(Array.getElem?_eq_some_iff.1 hw).1
  have set:∀ ob:Obj,(setObj l.c ob).run P w = .ok () { w with heap:=w.heap.setIfInBounds l.c ob }:=by intro ob; simp [setObj,Sem.run,hw]
  cases hup:updA (k'.ev fr) (x'.ev fr) es with
  | none=>simp [hup] at h
  | some es2 =>
   simp only [hup,Option.map_some,Option.some.injEq,Prod.mk.injEq] at h
   obtain ⟨rfl,rfl⟩:=h
   have done:∀ (es'':Array MapEntry) (ck':Nat),ML φ es2 es''.toList → (Instr.mapUpdate t (a.eval m) (a.eval k) (a.eval x)).run P w = .ok () { w with heap:=w.heap.setIfInBounds l.c (.map es'' ck') } →
     OpOk w0 φ H w (.v undef) (H.put r (some (.map es2))) ((do Instr.mapUpdate t (a.eval m) (a.eval k) (a.eval x); pure .skip:Sem Next).run P w):=by
    intro es'' ck' hml2 hrun
    obtain ⟨R',G⟩:=R.writeMap (w':={ w with heap:=w.heap.setIfInBounds l.c (.map es'' ck') }) (es':=es'') (ck:=ck') hn0 hl hg (by simp [hlt]) (fun q hq=>by simp [Array.getElem?_setIfInBounds_ne (Ne.symm hq)]) (by simp) rfl rfl rfl hml2
    exact ⟨φ,_,_,by rw [Sem.run_bind,hrun]; rfl,R',G,.inr ⟨rfl,rfl⟩⟩
   rcases ok_upd (P:=P) hd hkk hch.1.1 h3 0 hml hup with ⟨hfn,hm2⟩ | ⟨v',j,en,hfn,hj,hek,hm2⟩
   ·refine done (es'.push ⟨k'.ev fr,a.eval x,ck⟩) (ck + 1) (by simpa using hm2 ck) ?_
    rw [e1,hkeq]
    simp [Instr.mapUpdate,run_underlying hu,hobj,hck,Instr.findKey,run_underlying hd,hfn,set]
   ·refine done (es'.modify j fun e=>{ e with key:=k'.ev fr,val:=a.eval x }) ck (by simpa using hm2) ?_
    rw [e1,hkeq]
    have hj':es'[j]? = some en:=by simpa using hj
    simp [Instr.mapUpdate,run_underlying hu,hobj,hck,Instr.findKey,run_underlying hd,hfn,set,hj',hek,Instr.keyThatStays,sameBits_refl hch.1.1]
theorem opSim {fr:Fr} {a:Act} (F:FrR φ fr a) (R:Rel w0 φ H w) (h00:φ.m H.nx = none) {o:Oper} {ao:AOp} (hc:cOp P o = some ao) {res:ARes} {H':AH} (h:aop ao (X.ev fr) H = some (res,H')) (hf:∀ f as,res = .enter f as → HasF P f) :
  OpOk w0 φ H w res H' ((execOp a.eval o).run P w):=by
 obtain ⟨dst,op,ty,pos,after,guard⟩:=o
 unfold cOp at hc
 unfold execOp
 dsimp only at hc ⊢
 cases op <;> simp only at hc ⊢
 case move x =>
  cases hx:cX x with
  | none=>simp [hx] at hc
  | some y=>simp [hx] at hc; subst hc; exact ok_move F R hx h (by simp)
 case assign x =>
  cases hx:cX x with
  | none=>simp [hx] at hc
  | some y=>simp [hx] at hc; subst hc; exact ok_move F R hx h (by simp)
 case pick c x y =>
  split at hc
  ·rename_i c' x' y' hc1 hx hy
   cases hc
   simp only [aop] at h
   have hv:=cX_V F hc1
   cases hq:c'.ev fr <;> simp [hq] at h
   rename_i b
   obtain ⟨rfl,rfl⟩:=h
   rw [hq] at hv
   cases b
   ·exact .pure R (cX_V F hy) (by simp [hv.bool,asBool])
   ·exact .pure R (cX_V F hx) (by simp [hv.bool,asBool])
  ·cases hc
 case alloc e =>
  cases hz:tzero P e with
  | none=>simp [hz] at hc
  | some z =>
   simp [hz] at hc
   subst hc
   simp only [aop,Option.some.injEq,Prod.mk.injEq] at h
   obtain ⟨rfl,rfl⟩:=h
   obtain ⟨i,v,hi,hv,hok⟩:=ok_alloc hz R h00
   have:((do pure (Next.value (← Instr.alloc e true (.tuple #[]))):Sem Next)).run P w = .ok (.value (.pointer (some ⟨w.heap.size,0,none⟩))) { w with heap:=w.heap.push (.cells v.cells e) }:=by
    simp [Instr.alloc,zeroValue,typeInfo,hi,hv,newVar,newRow]
   rw [this]
   exact hok
 case box e x =>
  cases hx:cX x with
  | none=>simp [hx] at hc
  | some y =>
   simp [hx] at hc
   subst hc
   simp only [aop] at h
   cases ht:isTup (y.ev fr) with
   | true=>simp [ht] at h
   | false =>
    simp [ht] at h
    obtain ⟨rfl,rfl⟩:=h
    have:=ok_box R h00 (cX_V F hx) ht e
    have hr:((do pure (Next.value (← Instr.box e (a.eval x))):Sem Next)).run P w = .ok (.value (.pointer (some ⟨w.heap.size,0,none⟩))) { w with heap:=w.heap.push (.cells (a.eval x).cells e) }:=by
     simp [Instr.box,newVar,newRow]
    rw [hr]
    exact this
 case build t ps =>
  have key:∀ {place:Nat → Option (Nat × Nat)} {z:List Value} {l:List (Nat × Nat × X)},tzero P t = some z → cParts place ps.toList = some l → AOp.build z l = ao →
    (∀ zv,(P.info? t).bind (·.zero) = some zv → ∀ cells,Instr.fill place zv.cells (ps.map fun p=>(p.1,a.eval p.2)).toList = some cells → (Instr.build t (ps.map fun p=>(p.1,a.eval p.2))).run P w = .ok (.agg cells) w) →
    OpOk w0 φ H w res H' ((do pure (Next.value (← Instr.build t (ps.map fun p=>(p.1,a.eval p.2)))):Sem Next).run P w):=by
   intro place z l hz hl hao hrun
   subst hao
   obtain ⟨i,zv,hi,hzv,hzl,hzf,hzn⟩:=run_tzero hz
   obtain ⟨e1,e2⟩:=cParts_ok F hl
   simp only [aop,List.map_map] at h
   cases hq:fillA z (l.map fun p=>(p.1,p.2.1,p.2.2.ev fr)) with
   | none=>simp [hq] at h
   | some c =>
    simp [hq] at h
    obtain ⟨rfl,rfl⟩:=h
    obtain ⟨arr2,q1,q2,q3⟩:=ok_fill (φ:=φ) (ps:=l.map fun p=>(p.1,p.2.1,p.2.2.ev fr)) (ps':=ps.toList.map fun p=>(p.1,a.eval p.2)) (place:=place) (arr:=zv.cells) e1 e2 hq (by rw [hzl]; exact VL.same hzf) (all_flat_one hzf)
    have:=hrun zv (by simp [hi,hzv]) arr2 (by simpa using q1)
    refine .pure R (.agg (a':=arr2) (by simpa using q3) (by simpa using q2)) ?_
    simp [this]
  split at hc
  ·rename_i fs z hu hz
   split at hc
   ·rename_i pl hpl
    cases hl:cParts (fun i=>pl[i]?) ps.toList with
    | none=>simp [hl] at hc
    | some l =>
     simp [hl] at hc
     refine key hz hl hc ?_
     intro zv hzv cells hfill
     cases hi:P.info? t with
     | none=>simp [hi] at hzv
     | some i =>
      simp [hi] at hzv
      refine run_build w t _ cells ?_
      unfold Program.built
      simp [hi,hu,hzv,hpl]
      simpa using hfill
   ·cases hc
  ·rename_i n e z hu hz
   split at hc
   ·rename_i n hn
    cases hl:cParts (fun i=>some (i * n,n)) ps.toList with
    | none=>simp [hl] at hc
    | some l =>
     simp [hl] at hc
     refine key hz hl hc ?_
     intro zv hzv cells hfill
     cases hi:P.info? t with
     | none=>simp [hi] at hzv
     | some i =>
      simp [hi] at hzv
      simp [Instr.build,zeroValue,typeInfo,hi,hzv,run_underlying hu,run_tsize hn]
      simp at hfill
      simp [hfill]
   ·cases hc
  ·cases hc
 case buildSlice t len ps =>
  split at hc
  ·rename_i e hu
   split at hc
   ·rename_i n z hn hz
    split at hc
    ·cases hc
    ·rename_i hlen
     cases hl:cParts (fun i=>some (i * n,n)) ps.toList with
     | none=>simp [hl] at hc
     | some l =>
      simp [hl] at hc
      subst hc
      obtain ⟨i,zv,hi,hzv,hzl,hzf,hzn⟩:=run_tzero hz
      obtain ⟨i',hi',hsn⟩:=tsize_size hn
      rw [hi] at hi'
      cases hi'
      obtain ⟨e1,e2⟩:=cParts_ok F hl
      simp only [aop,List.map_map] at h
      have hfl:=all_replicate hzf len
      have hmade:=made_eq zv.cells n (by rw [← hsn,← hzn,← hzl]; simp) len
      rw [hzl] at hmade
      cases hq:fillA (List.replicate len z).flatten (l.map fun p=>(p.1,p.2.1,p.2.2.ev fr)) with
      | none=>simp [hq] at h
      | some c =>
       simp [hq] at h
       obtain ⟨rfl,rfl⟩:=h
       obtain ⟨arr2,q1,q2,q3⟩:=ok_fill (φ:=φ) (ps:=l.map fun p=>(p.1,p.2.1,p.2.2.ev fr)) (ps':=ps.toList.map fun p=>(p.1,a.eval p.2)) (place:=fun i=>some (i * n,n)) (arr:=madeCells zv.cells (len * n)) e1 e2 hq (by rw [hmade]; exact VL.same hfl) (all_flat_one hfl)
       have hr:((do pure (Next.value (← Instr.buildSlice t len (ps.map fun p=>(p.1,a.eval p.2)))):Sem Next)).run P w = .ok (.value (.slice (some ⟨w.heap.size,0,none⟩) len len)) { w with heap:=w.heap.push (.cells arr2 e) }:=by
        have h24:¬ (2 ^ 24 < len * n):=by omega
        have hcells:(Instr.fill (fun i=>some (i * n,n)) (madeCells (if len * n = 0 then #[] else zv.cells) (len * n)) (ps.toList.map fun p=>(p.1,a.eval p.2))) = some arr2:=by
         by_cases h0:len * n = 0
         ·rw [if_pos h0,h0]
          rw [h0] at q1
          have:madeCells (#[]:Array Value) 0 = madeCells zv.cells 0:=by simp [madeCells]
          rw [this]
          exact q1
         ·rw [if_neg h0]; exact q1
        by_cases h0:len * n = 0
        ·rw [if_pos h0] at hcells
         simp only [madeCells] at hcells
         simp [Instr.buildSlice,run_underlying hu,run_tsize hn,h0]
         rw [h0] at hcells
         simp at hcells
         simp [hcells,newRow]
        ·rw [if_neg h0] at hcells
         simp only [madeCells] at hcells
         simp [Instr.buildSlice,run_underlying hu,run_tsize hn,h0,h24,zeroValue,typeInfo,hi,hzv]
         simp [hcells,newRow]
       rw [hr]
       obtain ⟨R',G⟩:=R.new h00 (w':={ w with heap:=w.heap.push (.cells arr2 e) }) (z:=n) (cs:=c) (arr:=arr2) (e:=e) rfl rfl rfl rfl (by rw [q2.length]; simp) (CR_of_VL q2 q3)
       refine ⟨_,_,_,rfl,R',G,.inl ⟨_,rfl,?_⟩⟩
       have:=V.sl (φ:=φ.add H.nx ⟨w.heap.size,0,arr2.size,n⟩) (o:=0) (n:=len) (Phi.add_self φ H.nx ⟨w.heap.size,0,arr2.size,n⟩) (Nat.le_refl len) id (.inl rfl)
       simpa using this
   ·cases hc
  ·cases hc
 case load t x =>
  split at hc
  ·rename_i y hag hx
   cases hn:tsize P t with
   | none=>simp [hn] at hc
   | some n =>
    simp [hn] at hc
    subst hc
    have hv:=cX_V F hx
    simp only [aop] at h
    cases hq:y.ev fr <;> simp [hq] at h
    rename_i p
    cases p <;> simp at h
    rename_i ad
    cases hld:H.ldn ad n with
    | none=>simp [hld] at h
    | some vs =>
     simp [hld] at h
     obtain ⟨rfl,rfl⟩:=h
     rw [hq] at hv
     obtain ⟨a',vs',e1,e2,e3,e4,e5⟩:=ok_ldn R hv hld
     refine .pure R (.agg (a':=vs'.toArray) (by simpa using e3) (by simpa using e4)) ?_
     have:=run_loadCells_list (P:=P) w a' vs' e5
     rw [e2] at this
     simp [Instr.loadAt,e1,Instr.sureAddr,loadVar,run_tagg hag,run_tsize hn,this]
  ·rename_i y hag hx
   cases hc
   have hv:=cX_V F hx
   simp only [aop] at h
   cases hq:y.ev fr <;> simp [hq] at h
   rename_i p
   cases p <;> simp at h
   rename_i ad
   cases hld:H.ld ad with
   | none=>simp [hld] at h
   | some v =>
    simp [hld] at h
    obtain ⟨rfl,rfl⟩:=h
    rw [hq] at hv
    obtain ⟨a',v',e1,e2,e3⟩:=ok_ld R hv hld
    refine .pure R e3 ?_
    simp [Instr.loadAt,e1,Instr.sureAddr,loadVar,run_tagg hag,e2]
  ·cases hc
 case store t x v =>
  split at hc
  ·rename_i y z hx hv
   cases hn:tsize P t with
   | none=>simp [hn] at hc
   | some n =>
    simp [hn] at hc
    subst hc
    have h1:=cX_V F hx
    have h2:=cX_V F hv
    simp only [aop] at h
    cases hq:y.ev fr <;> simp [hq] at h
    rename_i p
    cases p <;> simp at h
    rename_i ad
    rw [hq] at h1
    cases hch:(Nat.beq (vcells (z.ev fr)).length n && !isTup (z.ev fr)) with
    | false=>simp [hch] at h
    | true =>
     simp only [hch,cond_true] at h
     simp [nb] at hch
     cases hst:H.st ad (vcells (z.ev fr)) with
     | none=>simp [hst] at h
     | some H1 =>
      simp [hst] at h
      obtain ⟨rfl,rfl⟩:=h
      obtain ⟨a',w',e1,e2,R',G⟩:=ok_st (P:=P) R h1 hst h2.cells (vcells_one h2 hch.2)
      refine ⟨φ,w',_,?_,R',G,.inr ⟨rfl,rfl⟩⟩
      have hlen:(a.eval v).cells.size = n:=by rw [← hch.1,h2.cells.length]; simp
      simp [Instr.storeAt,e1,Instr.sureAddr,storeVar,run_tsize hn,hlen,e2]
  ·cases hc
 case nilCheck x =>
  cases hx:cX x with
  | none=>simp [hx] at hc
  | some y =>
   simp [hx] at hc
   subst hc
   have hv:=cX_V F hx
   simp only [aop] at h
   cases hq:y.ev fr <;> simp [hq] at h
   rename_i p
   cases p <;> simp at h
   obtain ⟨rfl,rfl⟩:=h
   rw [hq] at hv
   obtain ⟨l,h1,h2,h3⟩:=V.ptr1 hv
   refine .pure R hv ?_
   simp [h3]
 case binOp op t x y ty2 =>
  split at hc
  ·rename_i x' y' hx hy
   have h1:=cX_V F hx
   have h2:=cX_V F hy
   have hbin:∀ v,abin op (x'.ev fr) (y'.ev fr) = some v → res = .v v ∧ H' = H → OpOk w0 φ H w res H' ((do pure (Next.value (← (do eqGuard op t x y (a.eval x) (a.eval y); binOp op t (a.eval x) (a.eval y)))):Sem Next).run P w):=by
    rintro v hv ⟨rfl,rfl⟩
    refine ok_bin (P:=P) R hv h1 h2 t x y ?_
    rw [Sem.run_bind]
    rfl
   have hb2:ao = .bin op x' y' → OpOk w0 φ H w res H' ((do pure (Next.value (← (do eqGuard op t x y (a.eval x) (a.eval y); binOp op t (a.eval x) (a.eval y)))):Sem Next).run P w):=by
    rintro rfl
    simp only [aop] at h
    cases hq:abin op (x'.ev fr) (y'.ev fr) with
    | none=>simp [hq] at h
    | some v=>simp [hq] at h; exact hbin v hq ⟨h.1.symm,h.2.symm⟩
   have heq:∀ k neg,eqKind P t = some k → (op = bif neg then .neq else .eql) → ao = .eqk k neg x' y' → OpOk w0 φ H w res H' ((do pure (Next.value (← (do eqGuard op t x y (a.eval x) (a.eval y); binOp op t (a.eval x) (a.eval y)))):Sem Next).run P w):=by
    rintro k neg hk hop rfl
    simp only [aop] at h
    cases hq:aeq k (x'.ev fr) (y'.ev fr) with
    | none=>simp [hq] at h
    | some b =>
     simp [hq] at h
     obtain ⟨rfl,rfl⟩:=h
     refine ok_eqk (P:=P) R hk hq h1 h2 x y hop ?_
     rw [Sem.run_bind]
     rfl
   have heqs:∀ fs neg,P.underlying t = some (.struct fs) → ((fs.toList.all fun f=>f.name != "_" && (keyKind P f.type).isSome) && !P.stoodInHeld t && !P.eqGuardType P.depth t) = true → (op = bif neg then .neq else .eql) → ao = .eqs neg (fs.toList.map fun f=>(f.offset,(keyKind P f.type).getD 9)) x' y' →
     OpOk w0 φ H w res H' ((do pure (Next.value (← (do eqGuard op t x y (a.eval x) (a.eval y); binOp op t (a.eval x) (a.eval y)))):Sem Next).run P w):=by
    rintro fs neg hu hch hop rfl
    simp only [Bool.and_eq_true,Bool.not_eq_true'] at hch
    simp only [aop] at h
    cases hq:x'.ev fr <;> simp only [hq] at h <;> first
     | (cases h; done)
     | skip
    rename_i cs
    cases hq2:y'.ev fr <;> simp only [hq2] at h <;> first
     | (cases h; done)
     | skip
    rename_i ds
    cases hq3:eqCells cs.toList ds.toList (fs.toList.map fun f=>(f.offset,(keyKind P f.type).getD 9)) with
    | none=>simp [hq3] at h
    | some b =>
     simp only [hq3,Option.map_some,Option.some.injEq,Prod.mk.injEq] at h
     obtain ⟨rfl,rfl⟩:=h
     rw [hq] at h1
     rw [hq2] at h2
     refine ok_eqs (P:=P) R hu hch.1.1 hch.1.2 hch.2 hq3 h1 h2 x y hop ?_
     rw [Sem.run_bind]
     rfl
   split at hc
   ·cases hc; exact hb2 rfl
   ·cases hc; exact hb2 rfl
   ·rename_i fs hu
    split at hc
    ·rename_i hch
     split at hc
     ·cases hc; exact heqs fs false hu hch rfl rfl
     ·cases hc; exact heqs fs true hu hch rfl rfl
     ·cases hc
    ·cases hc
   ·split at hc
    ·rename_i k hk; cases hc; exact heq k false hk rfl rfl
    ·rename_i k hk; cases hc; exact heq k true hk rfl rfl
    ·cases hc
  ·cases hc
 case unOp op t x =>
  cases hx:cX x with
  | none=>simp [hx] at hc
  | some y =>
   simp [hx] at hc
   subst hc
   have hv:=cX_V F hx
   simp only [aop] at h
   cases hq:aun op (y.ev fr) with
   | none=>simp [hq] at h
   | some v =>
    simp [hq] at h
    obtain ⟨rfl,rfl⟩:=h
    unfold aun at hq
    split at hq
    ·rename_i b hb
     cases hq
     rw [hb] at hv
     refine .pure R (.same rfl) ?_
     simp [hv.bool,Op.unary]
    ·rename_i k n hb
     cases hq
     rw [hb] at hv
     refine .pure R (.same rfl) ?_
     simp [hv.int,Op.unary,Op.intArith]
    ·cases hq
 case convert src dst x =>
  split at hc
  ·rename_i k1 k y hu1 hu2 hx
   cases hc
   have hv:=cX_V F hx
   simp only [aop] at h
   cases hq:y.ev fr <;> simp [hq] at h
   obtain ⟨rfl,rfl⟩:=h
   rw [hq] at hv
   refine .pure R (.same rfl) ?_
   simp [convert,run_underlying hu1,run_underlying hu2,hv.int,Conv.intToInt]
  ·rename_i k1 y hu1 hu2 hx
   cases hc
   have hv:=cX_V F hx
   simp only [aop] at h
   cases hq:y.ev fr <;> simp [hq] at h
   obtain ⟨rfl,rfl⟩:=h
   rw [hq] at hv
   refine .pure R (.same rfl) ?_
   simp [convert,run_underlying hu1,run_underlying hu2,hv.int,Conv.intToString]
  ·cases hc
 case makeFunc fn first cap =>
  cases fn <;> simp only at hc
  case func f =>
   split at hc
   ·rename_i xs ys hx hy
    cases hc
    simp only [aop,Option.some.injEq,Prod.mk.injEq] at h
    obtain ⟨rfl,rfl⟩:=h
    refine .pure R (.fn (a':=first.map a.eval) (b':=cap.map a.eval) (by simpa using cXs_VL F hx) (by simpa using cXs_VL F hy)) ?_
    simp [Instr.makeFunc]
   ·cases hc
  all_goals cases hc
 case makeMap t r =>
  cases r with
  | some r=>cases hc
  | none =>
   cases hc
   simp only [aop,Option.some.injEq,Prod.mk.injEq] at h
   obtain ⟨rfl,rfl⟩:=h
   obtain ⟨R',G⟩:=R.newMap h00 (w':={ w with heap:=w.heap.push (.map #[] 0) }) rfl rfl rfl rfl
   refine ⟨_,_,.value (.map (some w.heap.size)),?_,R',G,.inl ⟨_,rfl,.mp (l:=⟨w.heap.size,0,0,0⟩) (Phi.add_self _ _ _)⟩⟩
   simp [Instr.makeMap]
 case makeSlice t l c =>
  split at hc
  ·rename_i e hu
   split at hc
   ·rename_i i z x hi hz hx
    split at hc
    ·rename_i hch
     cases hc
     have hv:=cX_V F hx
     simp only [aop] at h
     cases hq:x.ev fr <;> simp [hq] at h
     rename_i k n
     rw [hq] at hv
     have hlc:a.eval c = a.eval l:=by
      have hs:=hch.1
      unfold sameOperand at hs
      split at hs
      ·simp at hs; rw [hs]
      ·simp at hs; obtain ⟨rfl,rfl⟩:=hs; rfl
      ·cases hs
     cases hcc:(decide (0 ≤ n) && decide (IntKind.i64.wrap n = n) && decide ((i.bytes:Int) * n ≤ 140737488355328)) with
     | false=>rw [hcc] at h; simp at h
     | true =>
      rw [hcc] at h
      simp only [cond_true,Option.some.injEq,Prod.mk.injEq] at h
      obtain ⟨rfl,rfl⟩:=h
      simp only [Bool.and_eq_true,decide_eq_true_eq] at hcc
      refine ok_mksl (P:=P) (k:=k) R h00 hu hi hz rfl rfl hcc.1.1 hcc.1.2 (by have:=hcc.2; omega) ?_
      rw [hlc,hv.int,Sem.run_bind]
      rfl
    ·cases hc
   ·cases hc
  ·cases hc
 case slice t x lo hi mx =>
  split at hc
  ·rename_i x' lo' hi' mx' hx hlo hhi hmx
   have key:∀ sz,ao = .sl sz x' lo' hi' mx' → (∀ v,aslice sz H (x'.ev fr) (lo'.map (X.ev fr)) (hi'.map (X.ev fr)) (mx'.map (X.ev fr)) = some v → (P.underlying t = some .string ∧ ∃ s,x'.ev fr = .string s) ∨ (∃ e,P.underlying t = some (.slice e) ∧ tsize P e = some sz ∧ ∃ a n c,x'.ev fr = .slice a n c)) →
     OpOk w0 φ H w res H' ((do pure (Next.value (← Instr.sliceAt t (a.eval x) (lo.map a.eval) (hi.map a.eval) (mx.map a.eval))):Sem Next).run P w):=by
    rintro sz rfl hty
    simp only [aop] at h
    cases hq:aslice sz H (x'.ev fr) (lo'.map (X.ev fr)) (hi'.map (X.ev fr)) (mx'.map (X.ev fr)) with
    | none=>simp [hq] at h
    | some v =>
     simp [hq] at h
     obtain ⟨rfl,rfl⟩:=h
     obtain ⟨v',e1,e2⟩:=ok_aslice (P:=P) (t:=t) R (hty v hq) hq (cX_V F hx) (cXo_VO F hlo) (cXo_VO F hhi) (cXo_VO F hmx)
     refine .pure R e2 ?_
     simp [e1]
   split at hc
   ·rename_i hu
    cases hc
    refine key 0 rfl (fun v hv=>.inl ⟨hu,?_⟩)
    unfold aslice at hv
    split at hv
    ·split at hv
     ·cases hv
     ·obtain ⟨hb,_⟩:=bif_some hv
      simp [nb] at hb
    ·exact ⟨_,by assumption⟩
    ·cases hv
   ·rename_i e hu
    cases hn:tsize P e with
    | none=>simp [hn] at hc
    | some n =>
     simp only [hn] at hc
     split at hc
     ·cases hc
     ·rename_i hn0
      cases hc
      refine key n rfl (fun v hv=>.inr ⟨e,hu,hn,?_⟩)
      unfold aslice at hv
      split at hv
      ·exact ⟨_,_,_,by assumption⟩
      ·split at hv
       ·cases hv
       ·split at hv
        ·cases hv
        ·obtain ⟨hb,_⟩:=bif_some hv
         simp [nb] at hb
         exact absurd hb hn0
      ·cases hv
   ·cases hc
  ·cases hc
 case fieldAddr s x f =>
  split at hc
  ·rename_i fs y hu hx
   split at hc
   ·rename_i g hg
    split at hc
    ·rename_i n hn
     split at hc
     ·cases hc
     ·rename_i hn0
      cases hc
      have hv:=cX_V F hx
      simp only [aop] at h
      cases hq:y.ev fr <;> simp [hq] at h
      rename_i p
      cases p <;> simp at h
      rename_i ad
      obtain ⟨hsp,h⟩:=bif_some h
      simp only [Option.some.injEq,Prod.mk.injEq] at h
      obtain ⟨rfl,rfl⟩:=h
      rw [hq] at hv
      obtain ⟨l,h1,h2,h3⟩:=V.ptr1 hv
      refine .pure R (.ptr h2) ?_
      simp [Instr.fieldAt,run_underlying hu,hg,h3,Instr.sureAddr,fieldPlace,run_tsize hn,hn0,add_lit,Nat.add_assoc,Nat.add_comm,Nat.add_left_comm]
    ·cases hc
   ·cases hc
  ·cases hc
 case indexAddr t x i =>
  split at hc
  ·rename_i e y z hu hx hi
   cases hn:tsize P e with
   | none=>simp [hn] at hc
   | some n =>
    simp [hn] at hc
    subst hc
    have h1:=cX_V F hx
    have h2:=cX_V F hi
    simp only [aop] at h
    split at h
    case h_2=>cases h
    rename_i ad len cap k j hq hq2
    split at h
    case isFalse=>cases h
    rename_i hj
    obtain ⟨hsp,h⟩:=bif_some h
    simp only [Option.some.injEq,Prod.mk.injEq] at h
    obtain ⟨rfl,rfl⟩:=h
    rw [hq] at h1
    rw [hq2] at h2
    rcases V.sl1 h1 with ⟨l,c',_,hl,_,_,_,e1⟩ | ⟨hs,_⟩
    ·refine .pure R (.ptr hl) ?_
     simp [Instr.indexAt,h2.int,asIntOf,run_underlying hu,e1,hj,run_tsize hn,add_lit,Nat.add_assoc,Nat.add_comm,Nat.add_left_comm]
    ·rw [hs] at hsp; simp at hsp
  ·rename_i len e y z hu hx hi
   cases hn:tsize P e with
   | none=>simp [hn] at hc
   | some n =>
    simp [hn] at hc
    subst hc
    have h1:=cX_V F hx
    have h2:=cX_V F hi
    simp only [aop] at h
    split at h
    case h_2=>cases h
    rename_i ad k j hq hq2
    split at h
    case isFalse=>cases h
    rename_i hj
    obtain ⟨hsp,h⟩:=bif_some h
    simp only [Option.some.injEq,Prod.mk.injEq] at h
    obtain ⟨rfl,rfl⟩:=h
    rw [hq] at h1
    rw [hq2] at h2
    obtain ⟨l,_,hl,e1⟩:=V.ptr1 h1
    refine .pure R (.ptr hl) ?_
    simp [Instr.indexAt,h2.int,asIntOf,run_underlying hu,e1,Instr.sureAddr,hj,run_tsize hn,add_lit,Nat.add_assoc,Nat.add_comm,Nat.add_left_comm]
  ·cases hc
 case index t x i =>
  split at hc
  ·rename_i y z hu hx hi
   cases hc
   have h1:=cX_V F hx
   have h2:=cX_V F hi
   simp only [aop] at h
   cases hq:y.ev fr <;> simp [hq] at h
   rename_i s
   cases hq2:z.ev fr <;> simp [hq2] at h
   rename_i k j
   obtain ⟨hj,h⟩:=h
   cases hb:s[j.toNat]? with
   | none=>simp [hb] at h
   | some b =>
    simp [hb] at h
    obtain ⟨rfl,rfl⟩:=h
    rw [hq] at h1
    rw [hq2] at h2
    refine .pure R (.same rfl) ?_
    simp [Instr.index,h1.string,h2.int,asIntOf,run_underlying hu,hj,hb]
  ·cases hc
 case makeInterface t x =>
  split at hc
  ·cases hc
  ·rename_i d y hni hu hx
   cases hc
   simp only [aop,Option.some.injEq,Prod.mk.injEq] at h
   obtain ⟨rfl,rfl⟩:=h
   refine .pure R (.iface (cX_V F hx)) ?_
   cases d <;> first
    | (simp [Instr.makeInterface,run_underlying hu]; done)
    | exact absurd rfl (hni _)
  ·cases hc
 case extract x i =>
  cases hx:cX x with
  | none=>simp [hx] at hc
  | some y =>
   simp [hx] at hc
   subst hc
   have hv:=cX_V F hx
   simp only [aop] at h
   cases hq:y.ev fr <;> simp [hq] at h
   rename_i vs
   cases hj:vs[i]? with
   | none=>simp [hj] at h
   | some v =>
    simp [hj] at h
    obtain ⟨rfl,rfl⟩:=h
    rw [hq] at hv
    obtain ⟨vs',e1,e2⟩:=V.tup1 hv
    obtain ⟨v',e3,e4⟩:=e2.get i v (by simpa using hj)
    refine .pure R e4 ?_
    have e3':vs'[i]? = some v':=by simpa using e3
    simp [Instr.extract,e1,e3']
 case call c=>exact ok_call F R h00 hc h hf ty
 case lookup t x k ok =>
  split at hc
  ·rename_i kt e x' k' hu hx hk
   split at hc
   ·rename_i z hz
    split at hc
    ·rename_i kk hkk
     split at hc
     ·rename_i hfl
      cases hc
      have h1:=cX_V F hx
      have h2:=cX_V F hk
      have hkd:∃ d,P.underlying kt = some d:=by
       unfold keyKind at hkk
       cases hd:P.underlying kt with
       | none=>simp [hd] at hkk
       | some d=>exact ⟨d,rfl⟩
      obtain ⟨d,hd⟩:=hkd
      have hzero:(zeroValue e).run P w = .ok z w:=by
       cases hi:P.info? e with
       | none=>simp [hi] at hz
       | some i=>simp [hi] at hz; simp [zeroValue,typeInfo,hi,hz]
      simp only [aop] at h
      split at h
      ·rename_i hq
       obtain ⟨hko,h⟩:=bif_some h
       simp only [Option.some.injEq,Prod.mk.injEq] at h
       obtain ⟨rfl,rfl⟩:=h
       rw [hq] at h1
       have hck:=run_checkKey (P:=P) hd hkk true 9999 (a.eval k) w
       have hrun:(Instr.lookup t (a.eval x) (a.eval k) ok).run P w = .ok (if ok then .tuple #[z,.bool false] else z) w:=by
        rw [h1.mp0]
        simp [Instr.lookup,run_underlying hu,hck,Instr.findKey,run_underlying hd,Instr.findNow,hzero]
       refine .pure (x':=if ok then .tuple #[z,.bool false] else z) R ?_ (by simp [hrun])
       cases ok
       ·exact V.same2 hfl
       ·exact .tuple (.cons (V.same2 hfl) (.cons (.same rfl) .nil))
      ·rename_i r hq
       split at h
       case h_2=>cases h
       rename_i es hg
       obtain ⟨hch,h⟩:=bif_some h
       simp only [Bool.and_eq_true,decide_eq_true_eq] at hch
       rw [hq] at h1
       obtain ⟨l,hl,e1⟩:=V.mp1 h1
       obtain ⟨_,es',ck,hw,hml⟩:=R.maps r l es (by rw [← R.n0]; exact hch.2) hl (AH.raw_of hg)
       have hkeq:a.eval k = k'.ev fr:=by
        have hf:=keyOk_flat hch.1
        cases h2':k'.ev fr <;> rw [h2'] at hf h2 hch <;> simp [flat] at hf <;> first
         | exact h2.int
         | exact h2.string
         | exact h2.bool
         | (rcases kk with _ | _ | _ | kk <;> simp [keyOk] at hch)
       have hck:=run_checkKey (P:=P) hd hkk es'.isEmpty 9999 (a.eval k) w
       cases hfa:findA (k'.ev fr) es with
       | none=>simp [hfa] at h
       | some ro =>
        have hobj:(getObj l.c).run P w = .ok (.map es' ck) w:=by simp [getObj,Sem.run,hw]
        have hck':(Instr.checkKey es'.isEmpty 10000 kt (a.eval k)).run P w = .ok () w:=hck
        rcases ok_find (P:=P) hd hkk hch.1 0 hml hfa with ⟨rfl,hfn⟩ | ⟨v,v',j,en,rfl,hfn,hvv,_,_⟩
        ·simp only [hfa,Option.some.injEq,Prod.mk.injEq] at h
         obtain ⟨rfl,rfl⟩:=h
         have hrun:(Instr.lookup t (a.eval x) (a.eval k) ok).run P w = .ok (if ok then .tuple #[z,.bool false] else z) w:=by
          rw [e1]
          rw [hkeq] at hck' ⊢
          simp [Instr.lookup,run_underlying hu,hobj,hck',Instr.findKey,run_underlying hd,hfn,hzero]
         refine .pure (x':=if ok then .tuple #[z,.bool false] else z) R ?_ (by simp [hrun])
         cases ok
         ·exact V.same2 hfl
         ·exact .tuple (.cons (V.same2 hfl) (.cons (.same rfl) .nil))
        ·simp only [hfa,Option.some.injEq,Prod.mk.injEq] at h
         obtain ⟨rfl,rfl⟩:=h
         have hrun:(Instr.lookup t (a.eval x) (a.eval k) ok).run P w = .ok (if ok then .tuple #[v',.bool true] else v') w:=by
          rw [e1]
          rw [hkeq] at hck' ⊢
          simp [Instr.lookup,run_underlying hu,hobj,hck',Instr.findKey,run_underlying hd,hfn]
         refine .pure (x':=if ok then .tuple #[v',.bool true] else v') R ?_ (by simp [hrun])
         cases ok
         ·exact hvv
         ·exact .tuple (.cons hvv (.cons (.same rfl) .nil))
      ·cases h
     ·cases hc
    ·cases hc
   ·cases hc
  ·cases hc
 case mapUpdate t m k x=>exact ok_mup F R hc h
 case insert t m k x=>exact ok_mup F R hc h
 all_goals cases hc
end
end Go.Proofs.YtoijnpfpjpefgaaGreat.A
