/- Texts that stand one behind the other: AbsA2. -/
import Derived.Test.YtppcmpmnglaleaaGreatDoorG6
import Derived.ChangeKeysEq
set_option linter.unusedVariables false
set_option linter.unusedSimpArgs false
namespace Go.Proofs.YtppcmpmnglaleaaGreatDoor.A
open Go Go.RowKit
section
variable{P:Program} {w0 w:World} {φ:bZ} {H:AH}
theorem BX {t:TypeId} {o n:Nat} {ag:Bool} {cs dF:Array Value} {v:Value} (hn:ew P t=some n) (ht:Aa P t=some ag) (h1:ag=true∨n=1) (hc:VL φ cs.toList dF.toList) (ho:cs.toList.all one=true) (h:rj ((cs.toList.drop o).take n) n ag=some v):
 ∃v',(part t dF o).run P w= .ok v' w∧V φ v v':=by
 unfold rj at h
 obtain ⟨hl,h⟩:=aD h
 rw [nb]at hl
 have hl:=of_decide_eq_true hl
 have hlen:=hc.length
 cases ag with
 |true=>
  simp only [cond_true,asm]at h
  subst h
  refine ⟨.agg (dF.extract o (o+n)),by simp [part,kT ht,cW hn],.agg ?_ ?_⟩
  ·rw [asB]at ho⊢
   exact fun x hx=>ho x (List.mem_of_mem_drop (List.mem_of_mem_take (by simpa using hx)))
  ·have:=(hc.drop o).take n
   simpa [Array.toList_extract,List.extract]using this
 |false=>
  rcases h1 with h1|rfl
  ·cases h1
  simp only [cond_false]at h
  split at h
  ·rename_i x hx
   cases h
   have hg:cs.toList[o]?=some v:=by
    have:((cs.toList.drop o).take 1)[0]?=some v:=by rw [hx];rfl
    simpa using this
   obtain ⟨v',e,hv⟩:=hc.get _ _ hg
   have e':dF[o]?=some v':=by simpa using e
   exact ⟨v',by simp [part,kT ht,e'],hv⟩
  ·cases h
theorem sS {cs ds dF vY:Array Value} (hc:VL φ cs.toList dF.toList) (hd:VL φ ds.toList vY.toList) {e:TypeId} {kk:Nat} (hk:cv P e=some kk) (d:Nat) (w:World):∀(is:List Nat) (b:Bool),
 ep cs.toList ds.toList (is.map fun i=>(i,kk))=some b→(Op.eqItems (d+1) e 1 dF vY is).run P w= .ok b w
 |[],b,h=>by simp [ep]at h;subst h;simp [Op.eqItems]
 |i::is,b,h=>by
  simp only [List.map_cons,ep]at h
  cases hx:cs.toList[i]?with
  |none=>simp [hx]at h
  |some x=>
   cases hy:ds.toList[i]?with
   |none=>simp [hx,hy]at h
   |some y=>
    simp only [hx,hy]at h
    obtain ⟨ho,h⟩:=aD h
    cases he:iq x y with
    |none=>simp [he]at h
    |some r=>
     obtain ⟨x',Gi,zL⟩:=hc.get _ _ hx
     obtain ⟨y',hy1,Al⟩:=hd.get _ _ hy
     obtain ⟨rfl,rfl⟩:=Gx he zL Al
     obtain ⟨p1,p2,p3⟩:=BV (P:=P) hk ho he d w (cs:=dF) (ds:=vY) (o:=i) (by simpa using Gi) (by simpa using hy1)
     simp only [Op.eqItems,Nat.mul_one,Sem.run_bind,p1,p2,p3,Result.andThen_ok]
     cases r with
     |true=>
      simp only [he]at h
      simpa using sS hc hd hk d w is b h
     |false=>
      simp only [he]at h
      cases h
      simp
def Am (H:AH):AH:={H with tr:=T.put none (some none) (H.nx+1) H.tr H.nx,nx:=H.nx+1,bs:=some (H.nx,.empty)}
theorem sT (H:AH) (c:Nat):(Am H).raw c=if c=H.nx then none else H.raw c:=by
 unfold AH.raw Am
 simp only [T.bV none (some none) (H.nx+1) H.tr H.nx c (by omega)]
 by_cases h:c=H.nx
 ·subst h;simp
 ·simp [h]
theorem Rel.QK {w':World} (R:Rel w0 φ H w) (h0:φ.m H.nx=none) (gF:BT≠BY) (hh:w'.heap=w.heap.push (.cells #[.pointer none,.slice none 0 0] BT (0,0))) (ho:w'.os=w.os) (ht:w'.tape=w.tape) (hp:w'.output=w.output):
 Rel w0 (φ.add H.nx ⟨w.heap.size,0,2,0⟩) (Am H) w'∧Grow φ H w (φ.add H.nx ⟨w.heap.size,0,2,0⟩) (Am H) w':=by
 have hle:φ.le (φ.add H.nx ⟨w.heap.size,0,2,0⟩):=bZ.vV h0
 have iu:w0.heap.size≤w.heap.size:=R.below.size
 have jv:∀k,k<w.heap.size→w'.heap[k]?=w.heap[k]?:=fun k hk=>by rw [hh,Array.getElem?_push,if_neg (by omega)]
 have back:∀{b l},(φ.add H.nx ⟨w.heap.size,0,2,0⟩).m b=some l→((Am H).raw b).isSome=true→φ.m b=some l∧(H.raw b).isSome=true∧(Am H).raw b=H.raw b:=by
  intro b l hl hs
  rw [sT]at hs⊢
  simp only [bZ.add]at hl
  by_cases hb:b=H.nx
  ·rw [if_pos hb]at hs;cases hs
  ·rw [if_neg hb]at hl hs⊢
   exact ⟨hl,hs,rfl⟩
 have c8:∀{b l},φ.n0≤b→φ.m b=some l→(H.raw b).isSome=true→l.c<w.heap.size:=by
  intro b l hb hl hs
  cases hg:H.raw b with
  |none=>simp [hg]at hs
  |some aX=>
   cases aX with
   |cells z' c=>
    obtain ⟨_,_,_,a,e',h4,_⟩:=R.cells b l z' c hb hl hg
    exact (asz.1 h4).1
   |map es=>
    obtain ⟨_,a,e',h4,_⟩:=R.maps b l es hb hl hg
    exact (asz.1 h4).1
 refine ⟨{
  n0:=R.n0
  rR:=R.rR
  r5:=by have:=R.r5;exact Nat.le_succ_of_le this
  c0:=R.c0
  below:=⟨ho.trans R.below.os,ht.trans R.below.tape,hp.trans R.below.output,by rw [hh,Array.size_push];omega,fun k hk=>by rw [jv k (by omega)];exact R.below.block k hk⟩
  kh:=fun b hb=>hle _ _ (R.kh b hb)
  ma:=fun b z' c hb hg=>by
   have mi:b<φ.n0:=hb
   rw [sT,if_neg (by have:=R.r5;omega)]at hg
   obtain ⟨e',fz,hw⟩:=R.ma b z' c hb hg
   exact ⟨e',fz,by rw [jv b (by have:=R.rR;have:=R.c0;omega)];exact hw⟩
  cells:=fun b l z' c hb hl hg=>by
   obtain ⟨hl',hs,e⟩:=back hl (by rw [hg];rfl)
   rw [e]at hg
   obtain ⟨h1,h2,h3,a,e',h4,h5,h6,h7⟩:=R.cells b l z' c hb hl' hg
   exact ⟨h1,h2,h3,a,e',by rw [jv _ (asz.1 h4).1];exact h4,h5,h6.mono hle,h7⟩
  maps:=fun b l es hb hl hg=>by
   obtain ⟨hl',hs,e⟩:=back hl (by rw [hg];rfl)
   rw [e]at hg
   obtain ⟨h1,a,e',h4,h5⟩:=R.maps b l es hb hl' hg
   exact ⟨h1,a,e',by rw [jv _ (asz.1 h4).1];exact h4,h5.mono hle⟩
  inj:=fun b1 b2 l1 l2 mj iL h1 h2 g1 g2 mr=>R.inj b1 b2 l1 l2 mj iL (back h1 g1).1 (back h2 g2).1 (back h1 g1).2.1 (back h2 g2).2.1 mr
  qn:=fun b s eb=>by
   have e1:H.nx=b∧ByteArray.empty=s:=by simpa [Am]using eb
   obtain ⟨rfl,rfl⟩:=e1
   refine ⟨R.r5,by rw [sT,if_pos rfl],⟨w.heap.size,0,2,0⟩,by simp [bZ.add],rfl,⟨.inl ⟨by show φ.c0≤w.heap.size;rw [R.c0];exact iu,.slice none 0 0,by rw [hh];simp,World.ownsRowF_nil _ _ _ _,by simp [Value.ownBlock]⟩,fun b l a1 a2 a3=>?_⟩⟩
   obtain ⟨a2',a3',_⟩:=back a2 a3
   have:=c8 a1 a2' a3'
   refine ⟨by show l.c≠w.heap.size;omega,fun v hv=>?_⟩
   have:w'.cell? ⟨w.heap.size,1,none⟩=some (.slice none 0 0):=by simp [World.cell?,hh]
   rw [this]at hv
   cases hv
   simp [Value.ownBlock]},hle,rfl,rfl,Nat.le_succ _,?_,by rw [hh,Array.size_push];exact Nat.le_succ _⟩
 intro b l h k
 simp only [bZ.add]at k
 split at k
 ·rename_i hb;subst hb;exact ⟨asp _,asA _⟩
 ·rw [h]at k;cases k
theorem QL {fr:Fr} {a:Act} (F:mu φ fr a) (R:Rel w0 φ H w) (uG:φ.m H.nx=none) {o:Oper} {res:jN} {H':AH} (h:aA (Qt P o) (X.ev fr) H=some (res,H')):iv w0 φ H w res H' ((execOp a.eval o).run P w):=by
 have bad:∀{l:List X} {Q:Prop},aA (.xt .bad l) (X.ev fr) H=some (res,H')→Q:=by
  intro l Q h
  simp [aA,Ga]at h
 obtain ⟨dst,op,ty,pos,after,guard⟩:=o
 unfold Qt at h
 unfold execOp
 dsimp only at h⊢
 split at h
 ·
  rename_i s x f
  split at h
  ·rename_i fs y hu hx
   split at h
   ·rename_i g hg
    split at h
    ·rename_i n ag hn ht
     cases gK:(ag||Nat.beq n 1)with
     |false=>rw [gK]at h;exact bad h
     |true=>
      rw [gK,cond_true]at h
      have h1:ag=true∨n=1:=by
       rw [nb]at gK
       simpa using gK
      simp only [aA,List.map_cons,List.map_nil]at h
      have hv:=dK F hx
      cases hq:y.ev fr<;>simp [hq,Ga]at h
      rename_i cs
      rw [hq]at hv
      obtain ⟨dF,e1,hc,ho⟩:=hv.DT
      obtain ⟨v,hp,rfl,rfl⟩:=h
      obtain ⟨v',hr,cA⟩:=BX (P:=P) (w:=w) hn ht h1 hc ho hp
      refine .pure R cA ?_
      simp [Instr.field,run_underlying hu,hg,e1,asAgg,hr]
    ·exact bad h
   ·exact bad h
  ·exact bad h
 ·
  rename_i t x i
  split at h
  ·rename_i len e y z hu hx hi
   split at h
   ·rename_i n ag hn ht
    cases gK:(ag||Nat.beq n 1)with
    |false=>rw [gK]at h;exact bad h
    |true=>
     rw [gK,cond_true]at h
     have h1:ag=true∨n=1:=by
      rw [nb]at gK
      simpa using gK
     simp only [aA,List.map_cons,List.map_nil]at h
     have hv:=dK F hx
     have xB:=dK F hi
     cases hq:y.ev fr<;>simp [hq,Ga]at h
     rename_i cs
     cases xS:z.ev fr<;>simp [xS]at h
     rename_i k j
     rw [hq]at hv
     rw [xS]at xB
     obtain ⟨dF,e1,hc,ho⟩:=hv.DT
     obtain ⟨v0,⟨hj,hp⟩,rfl,rfl⟩:=h
     obtain ⟨v,hp,rfl,rfl⟩:=hp
     obtain ⟨v',hr,cA⟩:=BX (P:=P) (w:=w) hn ht h1 hc ho hp
     refine .pure R cA ?_
     simp [Instr.index,asIntOf,run_underlying hu,e1,xB.int,hj,cW hn,hr]
   ·exact bad h
  ·exact bad h
 ·
  rename_i op t x y ty2
  split at h
  ·rename_i len e x' y' hu hx hy
   split at h
   ·rename_i kk n hk hn
    cases gK:(Nat.beq n 1&& !P.eqGuardType P.depth t)with
    |false=>rw [gK]at h;exact bad h
    |true=>
     rw [gK,cond_true]at h
     rw [nb]at gK
     simp only [aso,asx,Bool.not_eq_true']at gK
     obtain ⟨rfl,hg⟩:=gK
     obtain ⟨i,hi,iu⟩:=sR hn
     have O2:P.cellsOf e=1:=by simp [Program.cellsOf,hi,iu]
     have key:∀neg:Bool,(op=bif neg then .neq else .eql)→aA (.eqs neg ((List.range' 0 len).map fun i=>(i,kk)) x' y') (X.ev fr) H=some (res,H')→
      iv w0 φ H w res H' ((do pure (Next.value (←(do eqGuard op t x y (a.eval x) (a.eval y);binOp op t (a.eval x) (a.eval y)))):Sem Next).run P w):=by
      intro neg r6 h
      simp only [aA]at h
      have h1:=dK F hx
      have h2:=dK F hy
      cases hq:x'.ev fr<;>simp only [hq]at h<;>first
       |(cases h;done)
       |skip
      rename_i cs
      cases xS:y'.ev fr<;>simp only [xS]at h<;>first
       |(cases h;done)
       |skip
      rename_i ds
      cases QJ:ep cs.toList ds.toList ((List.range' 0 len).map fun i=>(i,kk))with
      |none=>simp [QJ]at h
      |some b=>
       simp only [QJ,Option.map_some,asm,ast]at h
       obtain ⟨rfl,rfl⟩:=h
       rw [hq]at h1
       rw [xS]at h2
       obtain ⟨dF,e1,hc,_⟩:=h1.DT
       obtain ⟨vY,e2,hd,_⟩:=h2.DT
       have heq:(Op.equalIn 10000 t (.agg dF) (.agg vY)).run P w= .ok b w:=by
        rw [run_equalIn_array w 9999 dF vY hu hi,O2,List.range_eq_range']
        exact sS hc hd hk 9998 w _ b QJ
       refine .pure R (.same rfl) ?_
       rw [e1,e2,Sem.run_bind,Sem.run_bind,run_eqGuard_agg w op t x y dF vY hg]
       simp only [Result.andThen_ok]
       subst r6
       cases neg
       ·show(((binOp .eql t (.agg dF) (.agg vY)).run P w).andThen _)=_
        rw [run_eql_struct,heq]
        rfl
       ·show(((binOp .neq t (.agg dF) (.agg vY)).run P w).andThen _)=_
        rw [run_neq_struct,heq]
        rfl
     split at h
     ·exact key false rfl h
     ·exact key true rfl h
     ·exact bad h
   ·exact bad h
  ·exact bad h
 ·
  rename_i e
  cases gK:(decide (e=BT)&&Qs (iT P e)&&decide (BT≠BY))with
  |false=>rw [gK]at h;exact bad h
  |true=>
   rw [gK,cond_true]at h
   simp only [aso,asx]at gK
   obtain ⟨⟨rfl,hz⟩,gF⟩:=gK
   have hz':iT P BT=some [.pointer none,.slice none 0 0]:=by
    unfold Qs at hz
    split at hz
    ·assumption
    ·cases hz
   simp only [aA,List.map_nil,Ga,Option.map_some,asm,ast]at h
   obtain ⟨rfl,rfl⟩:=h
   obtain ⟨i,v,hi,hv,jF,hf,hl⟩:=jE hz'
   have iu:w0.heap.size≤w.heap.size:=R.below.size
   have VZ:v.cells= #[.pointer none,.slice none 0 0]:=by
    apply Array.ext'
    simpa using jF
   have oF:((do pure (Next.value (←Instr.alloc BT true (.tuple #[]))):Sem Next)).run P w= .ok (.value (.pointer (some ⟨w.heap.size,0,none⟩))) {w with heap:=w.heap.push (.cells v.cells BT)}:=by
    simp [Instr.alloc,zeroValue,typeInfo,hi,hv,newVar,newRow]
   rw [oF]
   obtain ⟨R',G⟩:=R.QK uG gF (w':={w with heap:=w.heap.push (.cells v.cells BT)}) (by rw [VZ]) rfl rfl rfl
   refine ⟨_,_,_,rfl,R',G,.inl ⟨_,rfl,?_⟩⟩
   exact .ptr (l:=⟨w.heap.size,0,2,0⟩) (by simp [bZ.add])
 ·exact bad h
theorem GF {fr:Fr} {a:Act} (F:mu φ fr a) (R:Rel w0 φ H w) (uG:φ.m H.nx=none) {o:Oper} {ao:cN} (hc:KW P o=ao) {res:jN} {H':AH} (h:aA ao (X.ev fr) H=some (res,H')) (hf:∀f as,res= .enter f as→D5 P f):iv w0 φ H w res H' ((execOp a.eval o).run P w):=by
 subst hc
 unfold KW at h
 cases hc:Z8 P o with
 |some ao=>
  rw [hc]at h
  exact VW F R uG hc h hf
 |none=>
  rw [hc]at h
  exact QL F R uG h
end
end Go.Proofs.YtppcmpmnglaleaaGreatDoor.A
