/- Texts that stand one behind the other: AbsA2. -/
import Derived.Test.YtppcmpmnglaleaaGreatDoorG7
import Derived.ChangeKeysEq
set_option linter.unusedVariables false
set_option linter.unusedSimpArgs false
namespace Go.Proofs.YtppcmpmnglaleaaGreatDoor.A
open Go Go.RowKit
section
variable{P:Program} {w0 w:World} {φ:bl} {H:AH}
theorem yT {t:TypeId} {o n:Nat} {ag:Bool} {cs cW:Array Value} {v:Value} (hn:dk P t=some n) (ht:xd P t=some ag) (h1:ag=true∨n=1) (hc:VL φ cs.toList cW.toList) (ho:cs.toList.all one=true) (h:oy ((cs.toList.drop o).take n) n ag=some v):
 ∃v',(part t cW o).run P w= .ok v' w∧V φ v v':=by
 unfold oy at h
 obtain ⟨hl,h⟩:=au h
 rw [nb]at hl
 have hl:=of_decide_eq_true hl
 have hlen:=hc.length
 cases ag with
 |true=>
  simp only [cond_true,alO]at h
  subst h
  refine ⟨.agg (cW.extract o (o+n)),by simp [part,iW ht,cm hn],.agg ?_ ?_⟩
  ·rw [al3]at ho⊢
   exact fun x hx=>ho x (List.mem_of_mem_drop (List.mem_of_mem_take (by simpa using hx)))
  ·have:=(hc.drop o).take n
   simpa [Array.toList_extract,List.extract]using this
 |false=>
  rcases h1 with h1|rfl
  ·cases h1
  simp only [cond_false]at h
  split at h
  ·rename_i x hx
   cases h
   have hg:cs.toList[o]?=some v:=by
    have:((cs.toList.drop o).take 1)[0]?=some v:=by rw [hx];rfl
    simpa using this
   obtain ⟨v',e,hv⟩:=hc.get _ _ hg
   have e':cW[o]?=some v':=by simpa using e
   exact ⟨v',by simp [part,iW ht,e'],hv⟩
  ·cases h
theorem qb {cs ds cW sY:Array Value} (hc:VL φ cs.toList cW.toList) (hd:VL φ ds.toList sY.toList) {e:TypeId} {kk:Nat} (hk:bJ P e=some kk) (d:Nat) (w:World):∀(is:List Nat) (b:Bool),
 df cs.toList ds.toList (is.map fun i=>(i,kk))=some b→(Op.eqItems (d+1) e 1 cW sY is).run P w= .ok b w
 |[],b,h=>by simp [df]at h;subst h;simp [Op.eqItems]
 |i::is,b,h=>by
  simp only [List.map_cons,df]at h
  cases hx:cs.toList[i]? with
  |none=>simp [hx]at h
  |some x=>
   cases hy:ds.toList[i]? with
   |none=>simp [hx,hy]at h
   |some y=>
    simp only [hx,hy]at h
    obtain ⟨ho,h⟩:=au h
    cases he:fZ x y with
    |none=>simp [he]at h
    |some r=>
     obtain ⟨x',GU,BX⟩:=hc.get _ _ hx
     obtain ⟨y',Xx,Ki⟩:=hd.get _ _ hy
     obtain ⟨rfl,rfl⟩:=CL he BX Ki
     obtain ⟨p1,p2,p3⟩:=yR (P:=P) hk ho he d w (cs:=cW) (ds:=sY) (o:=i) (by simpa using GU) (by simpa using Xx)
     simp only [Op.eqItems,Nat.mul_one,Sem.run_bind,p1,p2,p3,Result.andThen_ok]
     cases r with
     |true=>
      simp only [he]at h
      simpa using qb hc hd hk d w is b h
     |false=>
      simp only [he]at h
      cases h
      simp
def xv (H:AH):AH:={H with tr:=T.put none (some none) (H.nx+1) H.tr H.nx,nx:=H.nx+1,bs:=some (H.nx,.empty)}
theorem qc (H:AH) (c:Nat):(xv H).raw c=if c=H.nx then none else H.raw c:=by
 unfold AH.raw xv
 simp only [T.bj none (some none) (H.nx+1) H.tr H.nx c (by omega)]
 by_cases h:c=H.nx
 ·subst h;simp
 ·simp [h]
theorem Rel.LR {w':World} (R:Rel w0 φ H w) (h0:φ.m H.nx=none) (fw:BT≠BY) (hh:w'.heap=w.heap.push (.cells #[.pointer none,.slice none 0 0] BT (0,0))) (ho:w'.os=w.os) (ht:w'.tape=w.tape) (hp:w'.output=w.output):
 Rel w0 (φ.add H.nx ⟨w.heap.size,0,2,0⟩) (xv H) w'∧Grow φ H w (φ.add H.nx ⟨w.heap.size,0,2,0⟩) (xv H) w':=by
 have hle:φ.le (φ.add H.nx ⟨w.heap.size,0,2,0⟩):=bl.sU h0
 have gA:w0.heap.size≤w.heap.size:=R.below.size
 have gh:∀k,k<w.heap.size→w'.heap[k]?=w.heap[k]?:=fun k hk=>by rw [hh,Array.getElem?_push,if_neg (by omega)]
 have back:∀{b l},(φ.add H.nx ⟨w.heap.size,0,2,0⟩).m b=some l→((xv H).raw b).isSome=true→φ.m b=some l∧(H.raw b).isSome=true∧(xv H).raw b=H.raw b:=by
  intro b l hl hs
  rw [qc]at hs⊢
  simp only [bl.add]at hl
  by_cases hb:b=H.nx
  ·rw [if_pos hb]at hs;cases hs
  ·rw [if_neg hb]at hl hs⊢
   exact ⟨hl,hs,rfl⟩
 have dm:∀{b l},φ.n0≤b→φ.m b=some l→(H.raw b).isSome=true→l.c<w.heap.size:=by
  intro b l hb hl hs
  cases hg:H.raw b with
  |none=>simp [hg]at hs
  |some aN=>
   cases aN with
   |cells z' c=>
    obtain ⟨_,_,_,a,e',h4,_⟩:=R.cells b l z' c hb hl hg
    exact (al1.1 h4).1
   |map es=>
    obtain ⟨_,a,e',h4,_⟩:=R.maps b l es hb hl hg
    exact (al1.1 h4).1
 refine ⟨{
  n0:=R.n0
  nE:=R.nE
  oD:=by have:=R.oD;exact Nat.le_succ_of_le this
  c0:=R.c0
  below:=⟨ho.trans R.below.os,ht.trans R.below.tape,hp.trans R.below.output,by rw [hh,Array.size_push];omega,fun k hk=>by rw [gh k (by omega)];exact R.below.block k hk⟩
  gg:=fun b hb=>hle _ _ (R.gg b hb)
  sV:=R.sV
  iU:=fun b z' c hb hg=>by
   have jW:b<φ.n0:=hb
   rw [qc,if_neg (by have:=R.oD;omega)]at hg
   obtain ⟨e',fz,hw⟩:=R.iU b z' c hb hg
   exact ⟨e',fz,by rw [gh b (by have:=R.nE;have:=R.c0;omega)];exact hw⟩
  cells:=fun b l z' c hb hl hg=>by
   obtain ⟨XH,hs,e⟩:=back hl (by rw [hg];rfl)
   rw [e]at hg
   obtain ⟨h1,h2,h3,a,e',h4,h5,h6,h7⟩:=R.cells b l z' c hb XH hg
   exact ⟨h1,h2,h3,a,e',by rw [gh _ (al1.1 h4).1];exact h4,h5,h6.mono hle,h7⟩
  maps:=fun b l es hb hl hg=>by
   obtain ⟨XH,hs,e⟩:=back hl (by rw [hg];rfl)
   rw [e]at hg
   obtain ⟨h1,a,e',h4,h5⟩:=R.maps b l es hb XH hg
   exact ⟨h1,a,e',by rw [gh _ (al1.1 h4).1];exact h4,h5.mono hle⟩
  inj:=fun b1 b2 l1 l2 j6 gC h1 h2 g1 g2 j7=>R.inj b1 b2 l1 l2 j6 gC (back h1 g1).1 (back h2 g2).1 (back h1 g1).2.1 (back h2 g2).2.1 j7
  mr:=fun b s eb=>by
   have e1:H.nx=b∧ByteArray.empty=s:=by simpa [xv]using eb
   obtain ⟨rfl,rfl⟩:=e1
   refine ⟨R.oD,by rw [qc,if_pos rfl],⟨w.heap.size,0,2,0⟩,by simp [bl.add],rfl,⟨.inl ⟨by show φ.c0≤w.heap.size;rw [R.c0];exact gA,.slice none 0 0,by rw [hh];simp,World.ownsRowF_nil _ _ _ _,by simp [Value.ownBlock]⟩,fun b l a1 a2 a3=>?_⟩⟩
   obtain ⟨a2',a3',_⟩:=back a2 a3
   have:=dm a1 a2' a3'
   refine ⟨by show l.c≠w.heap.size;omega,fun v hv=>?_⟩
   have:w'.cell? ⟨w.heap.size,1,none⟩=some (.slice none 0 0):=by simp [World.cell?,hh]
   rw [this]at hv
   cases hv
   simp [Value.ownBlock]},hle,rfl,rfl,Nat.le_succ _,?_,by rw [hh,Array.size_push];exact Nat.le_succ _⟩
 intro b l h k
 simp only [bl.add]at k
 split at k
 ·rename_i hb;subst hb;exact ⟨alR _,al2 _⟩
 ·rw [h]at k;cases k
theorem LS {fr:Fr} {a:Act} (F:j8 φ fr a) (R:Rel w0 φ H w) (rE:φ.m H.nx=none) {o:Oper} {res:gM} {H':AH} (h:aS (Lw P o) (X.ev fr) H=some (res,H')):ff w0 φ H w res H' ((execOp a.eval o).run P w):=by
 have bad:∀{l:List X} {Q:Prop},aS (.xt .bad l) (X.ev fr) H=some (res,H')→Q:=by
  intro l Q h
  simp [aS,Co]at h
 obtain ⟨dst,op,ty,pos,after,guard⟩:=o
 unfold Lw at h
 unfold execOp
 dsimp only at h⊢
 split at h
 ·
  rename_i s x f
  split at h
  ·rename_i fs y hu hx
   split at h
   ·rename_i g hg
    split at h
    ·rename_i n ag hn ht
     cases eN:(ag||Nat.beq n 1)with
     |false=>rw [eN]at h;exact bad h
     |true=>
      rw [eN,cond_true]at h
      have h1:ag=true∨n=1:=by
       rw [nb]at eN
       simpa using eN
      simp only [aS,List.map_cons,List.map_nil]at h
      have hv:=cE F hx
      cases hq:y.ev fr<;>simp [hq,Co]at h
      rename_i cs
      rw [hq]at hv
      obtain ⟨cW,e1,hc,ho⟩:=hv.AG
      obtain ⟨v,hp,rfl,rfl⟩:=h
      obtain ⟨v',hr,dy⟩:=yT (P:=P) (w:=w) hn ht h1 hc ho hp
      refine .pure R dy ?_
      simp [Instr.field,run_underlying hu,hg,e1,asAgg,hr]
    ·exact bad h
   ·exact bad h
  ·exact bad h
 ·
  rename_i t x i
  split at h
  ·rename_i len e y z hu hx hi
   split at h
   ·rename_i n ag hn ht
    cases eN:(ag||Nat.beq n 1)with
    |false=>rw [eN]at h;exact bad h
    |true=>
     rw [eN,cond_true]at h
     have h1:ag=true∨n=1:=by
      rw [nb]at eN
      simpa using eN
     simp only [aS,List.map_cons,List.map_nil]at h
     have hv:=cE F hx
     have Kd:=cE F hi
     cases hq:y.ev fr<;>simp [hq,Co]at h
     rename_i cs
     cases xu:z.ev fr<;>simp [xu]at h
     rename_i k j
     rw [hq]at hv
     rw [xu]at Kd
     obtain ⟨cW,e1,hc,ho⟩:=hv.AG
     obtain ⟨v0,⟨hj,hp⟩,rfl,rfl⟩:=h
     obtain ⟨v,hp,rfl,rfl⟩:=hp
     obtain ⟨v',hr,dy⟩:=yT (P:=P) (w:=w) hn ht h1 hc ho hp
     refine .pure R dy ?_
     simp [Instr.index,asIntOf,run_underlying hu,e1,Kd.int,hj,cm hn,hr]
   ·exact bad h
  ·exact bad h
 ·
  rename_i op t x y ty2
  split at h
  ·rename_i len e x' y' hu hx hy
   split at h
   ·rename_i kk n hk hn
    cases eN:(Nat.beq n 1&& !P.eqGuardType P.depth t)with
    |false=>rw [eN]at h;exact bad h
    |true=>
     rw [eN,cond_true]at h
     rw [nb]at eN
     simp only [alQ,alZ,Bool.not_eq_true']at eN
     obtain ⟨rfl,hg⟩:=eN
     obtain ⟨i,hi,gA⟩:=qa hn
     have LU:P.cellsOf e=1:=by simp [Program.cellsOf,hi,gA]
     have key:∀neg:Bool,(op=bif neg then .neq else .eql)→aS (.eqs neg ((List.range' 0 len).map fun i=>(i,kk)) x' y') (X.ev fr) H=some (res,H')→
      ff w0 φ H w res H' ((do pure (Next.value (←(do eqGuard op t x y (a.eval x) (a.eval y);binOp op t (a.eval x) (a.eval y)))):Sem Next).run P w):=by
      intro neg pr h
      simp only [aS]at h
      have h1:=cE F hx
      have h2:=cE F hy
      cases hq:x'.ev fr<;>simp only [hq]at h<;>first
       |(cases h;done)
       |skip
      rename_i cs
      cases xu:y'.ev fr<;>simp only [xu]at h<;>first
       |(cases h;done)
       |skip
      rename_i ds
      cases LQ:df cs.toList ds.toList ((List.range' 0 len).map fun i=>(i,kk))with
      |none=>simp [LQ]at h
      |some b=>
       simp only [LQ,Option.map_some,alO,alV]at h
       obtain ⟨rfl,rfl⟩:=h
       rw [hq]at h1
       rw [xu]at h2
       obtain ⟨cW,e1,hc,_⟩:=h1.AG
       obtain ⟨sY,e2,hd,_⟩:=h2.AG
       have heq:(Op.equalIn 10000 t (.agg cW) (.agg sY)).run P w= .ok b w:=by
        rw [run_equalIn_array w 9999 cW sY hu hi,LU,List.range_eq_range']
        exact qb hc hd hk 9998 w _ b LQ
       refine .pure R (.same rfl) ?_
       rw [e1,e2,Sem.run_bind,Sem.run_bind,run_eqGuard_agg w op t x y cW sY hg]
       simp only [Result.andThen_ok]
       subst pr
       cases neg
       ·show(((binOp .eql t (.agg cW) (.agg sY)).run P w).andThen _)=_
        rw [run_eql_struct,heq]
        rfl
       ·show(((binOp .neq t (.agg cW) (.agg sY)).run P w).andThen _)=_
        rw [run_neq_struct,heq]
        rfl
     split at h
     ·exact key false rfl h
     ·exact key true rfl h
     ·exact bad h
   ·exact bad h
  ·exact bad h
 ·
  rename_i e
  cases eN:(decide (e=BT)&&Lv (fB P e)&&decide (BT≠BY))with
  |false=>rw [eN]at h;exact bad h
  |true=>
   rw [eN,cond_true]at h
   simp only [alQ,alZ]at eN
   obtain ⟨⟨rfl,hz⟩,fw⟩:=eN
   have Xq:fB P BT=some [.pointer none,.slice none 0 0]:=by
    unfold Lv at hz
    split at hz
    ·assumption
    ·cases hz
   simp only [aS,List.map_nil,Co,Option.map_some,alO,alV]at h
   obtain ⟨rfl,rfl⟩:=h
   obtain ⟨i,v,hi,hv,gF,hf,hl⟩:=gD Xq
   have gA:w0.heap.size≤w.heap.size:=R.below.size
   have XI:v.cells= #[.pointer none,.slice none 0 0]:=by
    apply Array.ext'
    simpa using gF
   have lQ:((do pure (Next.value (←Instr.alloc BT true (.tuple #[]))):Sem Next)).run P w= .ok (.value (.pointer (some ⟨w.heap.size,0,none⟩))) {w with heap:=w.heap.push (.cells v.cells BT)}:=by
    simp [Instr.alloc,zeroValue,typeInfo,hi,hv,newVar,newRow]
   rw [lQ]
   obtain ⟨R',G⟩:=R.LR rE fw (w':={w with heap:=w.heap.push (.cells v.cells BT)}) (by rw [XI]) rfl rfl rfl
   refine ⟨_,_,_,rfl,R',G,.inl ⟨_,rfl,?_⟩⟩
   exact .ptr (l:=⟨w.heap.size,0,2,0⟩) (by simp [bl.add])
 ·exact bad h
theorem CS {fr:Fr} {a:Act} (F:j8 φ fr a) (R:Rel w0 φ H w) (rE:φ.m H.nx=none) {o:Oper} {ao:cl} (hc:GQ P o=ao) {res:gM} {H':AH} (h:aS ao (X.ev fr) H=some (res,H')) (hf:∀f as,res= .enter f as→AP P f):ff w0 φ H w res H' ((execOp a.eval o).run P w):=by
 subst hc
 unfold GQ at h
 cases hc:Ul P o with
 |some ao=>
  rw [hc]at h
  exact Qn F R rE hc h hf
 |none=>
  rw [hc]at h
  exact LS F R rE h
end
end Go.Proofs.YtppcmpmnglaleaaGreatDoor.A
