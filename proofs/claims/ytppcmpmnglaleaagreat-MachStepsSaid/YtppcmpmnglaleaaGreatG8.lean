/- Texts that stand one behind the other: AbsA2. -/
import Derived.Test.YtppcmpmnglaleaaGreatG7
import Derived.ChangeKeysEq
set_option linter.unusedVariables false
set_option linter.unusedSimpArgs false
namespace Go.Proofs.YtppcmpmnglaleaaGreat.A
open Go Go.RowKit
section
variable{P:Program} {w0 w:World} {φ:bS} {H:AH}
theorem Ax {t:TypeId} {o n:Nat} {b:Bool} {cs a:Array Value} {v:Value} (m:eA P t=some n) (i:yJ P t=some b) (g:b=true∨n=1) (f:VL φ cs.toList a.toList) (j:cs.toList.all one=true) (h:qf ((cs.toList.drop o).take n) n b=some v):
 ∃v',(part t a o).run P w= .ok v' w∧V φ v v':=by
 unfold qf at h;obtain ⟨d,h⟩:=aP h;rw [nb]at d;have d:=of_decide_eq_true d;have k:=f.length
 cases b with
 |true=>
  simp only [cond_true,apH]at h;subst h;refine ⟨.agg (a.extract o (o+n)),by simp [part,kr i,c8 m],.agg ?_ ?_⟩
  ·rw [apW]at j⊢
   exact fun x c=>j x (List.mem_of_mem_drop (List.mem_of_mem_take (by simpa using c)))
  ·have:=(f.drop o).take n
   simpa [Array.toList_extract,List.extract]using this
 |false=>
  rcases g with g|rfl
  ·cases g
  simp only [cond_false]at h;split at h
  ·rename_i x c
   cases h
   have p:cs.toList[o]?=some v:=by
    have:((cs.toList.drop o).take 1)[0]?=some v:=by rw [c];rfl
    simpa using this
   obtain ⟨v',e,l⟩:=f.get _ _ p;have q:a[o]?=some v':=by simpa using e
   exact ⟨v',by simp [part,kr i,q],l⟩
  ·cases h
theorem rP {cs ds j g:Array Value} (m:VL φ cs.toList j.toList) (l:VL φ ds.toList g.toList) {e:TypeId} {kk:Nat} (k:cq P e=some kk) (d:Nat) (w:World):∀(is:List Nat) (b:Bool),
 du cs.toList ds.toList (is.map fun i=>(i,kk))=some b→(Op.eqItems (d+1) e 1 j g is).run P w= .ok b w
 |[],b,h=>by simp [du]at h;subst h;simp [Op.eqItems]
 |i::is,b,h=>by
  simp only [List.map_cons,du]at h
  cases c:cs.toList[i]? with
  |none=>simp [c]at h
  |some x=>
   cases f:ds.toList[i]? with
   |none=>simp [c,f]at h
   |some y=>
    simp only [c,f]at h;obtain ⟨z,h⟩:=aP h
    cases a:iI x y with
    |none=>simp [a]at h
    |some r=>
     obtain ⟨B,v,u⟩:=m.get _ _ c;obtain ⟨A,t,s⟩:=l.get _ _ f;obtain ⟨rfl,rfl⟩:=Em a u s;obtain ⟨q,p,n⟩:=Av (P:=P) k z a d w (cs:=j) (ds:=g) (o:=i) (by simpa using v) (by simpa using t);simp only [Op.eqItems,Nat.mul_one,Sem.run_bind,q,p,n,Result.andThen_ok]
     cases r with
     |true=>
      simp only [a]at h
      simpa using rP m l k d w is b h
     |false=>
      simp only [a]at h;cases h;simp
def yZ (H:AH):AH:={H with tr:=T.put none (some none) (H.nx+1) H.tr H.nx,nx:=H.nx+1,bs:=some (H.nx,.empty)}
theorem rQ (H:AH) (c:Nat):(yZ H).raw c=if c=H.nx then none else H.raw c:=by
 unfold AH.raw yZ;simp only [T.bR none (some none) (H.nx+1) H.tr H.nx c (by omega)];by_cases h:c=H.nx
 ·subst h;simp
 ·simp [h]
theorem Rel.No {w':World} (R:Rel w0 φ H w) (V:φ.m H.nx=none) (fR:BT≠BY) (t:w'.heap=w.heap.push (.cells #[.pointer none,.slice none 0 0] BT (0,0))) (L:w'.os=w.os) (I:w'.tape=w.tape) (K:w'.output=w.output):
 Rel w0 (φ.add H.nx ⟨w.heap.size,0,2,0⟩) (yZ H) w'∧eB φ H w (φ.add H.nx ⟨w.heap.size,0,2,0⟩) (yZ H) w':=by
 have j:φ.le (φ.add H.nx ⟨w.heap.size,0,2,0⟩):=bS.uE V;have J:w0.heap.size≤w.heap.size:=R.below.size;have u:∀k,k<w.heap.size→w'.heap[k]?=w.heap[k]?:=fun k B=>by rw [t,Array.getElem?_push,if_neg (by omega)]
 have back:∀{b l},(φ.add H.nx ⟨w.heap.size,0,2,0⟩).m b=some l→((yZ H).raw b).isSome=true→φ.m b=some l∧(H.raw b).isSome=true∧(yZ H).raw b=H.raw b:=by
  intro b l g i;rw [rQ]at i⊢;simp only [bS.add]at g;by_cases d:b=H.nx
  ·rw [if_pos d]at i;cases i
  ·rw [if_neg d]at g i⊢
   exact ⟨g,i,rfl⟩
 have M:∀{b l},φ.n0≤b→φ.m b=some l→(H.raw b).isSome=true→l.c<w.heap.size:=by
  intro b l d g i
  cases f:H.raw b with
  |none=>simp [f]at i
  |some aU=>
   cases aU with
   |cells r c=>
    obtain ⟨_,_,_,a,p,n,_⟩:=R.cells b l r c d g f;exact (apU.1 n).1
   |map es=>
    obtain ⟨_,a,p,n,_⟩:=R.maps b l es d g f;exact (apU.1 n).1
 refine ⟨{
  n0:=R.n0
  qQ:=R.qQ
  qR:=by have:=R.qR;exact Nat.le_succ_of_le this
  c0:=R.c0
  below:=⟨L.trans R.below.os,I.trans R.below.tape,K.trans R.below.output,by rw [t,Array.size_push];omega,fun k B=>by rw [u k (by omega)];exact R.below.block k B⟩
  jJ:=fun b d=>j _ _ (R.jJ b d)
  wD:=R.wD
  lJ:=fun b r c d f=>by
   have lA:b<φ.n0:=d;rw [rQ,if_neg (by have:=R.qR;omega)]at f;obtain ⟨p,W,G⟩:=R.lJ b r c d f;exact ⟨p,W,by rw [u b (by have:=R.qQ;have:=R.c0;omega)];exact G⟩
  cells:=fun b l r c d g f=>by
   obtain ⟨o,i,e⟩:=back g (by rw [f];rfl);rw [e]at f;obtain ⟨q,h2,U,a,p,n,x,T,S⟩:=R.cells b l r c d o f;exact ⟨q,h2,U,a,p,by rw [u _ (apU.1 n).1];exact n,x,T.mono j,S⟩
  maps:=fun b l es d g f=>by
   obtain ⟨o,i,e⟩:=back g (by rw [f];rfl);rw [e]at f;obtain ⟨q,a,p,n,x⟩:=R.maps b l es d o f;exact ⟨q,a,p,by rw [u _ (apU.1 n).1];exact n,x.mono j⟩
  inj:=fun b1 Z F E Q O q h2 D C N=>R.inj b1 Z F E Q O (back q D).1 (back h2 C).1 (back q D).2.1 (back h2 C).2.1 N
  tD:=fun b s X=>by
   have Y:H.nx=b∧ByteArray.empty=s:=by simpa [yZ]using X
   obtain ⟨rfl,rfl⟩:=Y;refine ⟨R.qR,by rw [rQ,if_pos rfl],⟨w.heap.size,0,2,0⟩,by simp [bS.add],rfl,⟨.inl ⟨by show φ.c0≤w.heap.size;rw [R.c0];exact J,.slice none 0 0,by rw [t];simp,World.ownsRowF_nil _ _ _ _,by simp [Value.ownBlock]⟩,fun b l a1 a2 a3=>?_⟩⟩;obtain ⟨z,y,_⟩:=back a2 a3;have:=M a1 z y;refine ⟨by show l.c≠w.heap.size;omega,fun v A=>?_⟩;have:w'.cell? ⟨w.heap.size,1,none⟩=some (.slice none 0 0):=by simp [World.cell?,t]
   rw [this]at A;cases A
   simp [Value.ownBlock]},j,rfl,rfl,ap7 _,?_,by rw [t,Array.size_push];exact ap7 _⟩
 intro b l h k;simp only [bS.add]at k;split at k
 ·rename_i d;subst d;exact ⟨apK _,apV _⟩
 ·rw [h]at k;cases k
theorem Np {d:Fr} {a:Act} (F:lY φ d a) (R:Rel w0 φ H w) (tp:φ.m H.nx=none) {o:Oper} {res:jI} {H':AH} (h:aA (MT P o) (X.ev d) H=some (res,H')):gP w0 φ H w res H' ((execOp a.eval o).run P w):=by
 have bad:∀{l:List X} {Q:Prop},aA (.xt .bad l) (X.ev d) H=some (res,H')→Q:=by
  intro l Q h;simp [aA,DU]at h
 obtain ⟨dst,op,ty,pos,after,guard⟩:=o;unfold MT at h;unfold execOp;dsimp only at h⊢;split at h
 ·
  rename_i s x f;split at h
  ·rename_i fs y C B
   split at h
   ·rename_i g W
    split at h
    ·rename_i n M u S
     cases c:(M||Nat.beq n 1)with
     |false=>rw [c]at h;exact bad h
     |true=>
      rw [c,cond_true]at h
      have A:M=true∨n=1:=by
       rw [nb]at c
       simpa using c
      simp only [aA,List.map_cons,List.map_nil]at h;have q:=dK F B;cases p:y.ev d<;>simp [p,DU]at h;rename_i cs;rw [p]at q;obtain ⟨r,K,J,V⟩:=q.Cg;obtain ⟨v,E,rfl,rfl⟩:=h;obtain ⟨v',T,O⟩:=Ax (P:=P) (w:=w) u S A J V E;refine .pure R O ?_;simp [Instr.field,run_underlying C,W,K,asAgg,T]
    ·exact bad h
   ·exact bad h
  ·exact bad h
 ·
  rename_i t x i;split at h
  ·rename_i len e y z C B hi
   split at h
   ·rename_i n M u S
    cases c:(M||Nat.beq n 1)with
    |false=>rw [c]at h;exact bad h
    |true=>
     rw [c,cond_true]at h
     have A:M=true∨n=1:=by
      rw [nb]at c
      simpa using c
     simp only [aA,List.map_cons,List.map_nil]at h;have q:=dK F B;have wj:=dK F hi;cases p:y.ev d<;>simp [p,DU]at h;rename_i cs;cases D:z.ev d<;>simp [D]at h;rename_i k j;rw [p]at q;rw [D]at wj;obtain ⟨r,K,J,V⟩:=q.Cg;obtain ⟨v0,⟨hj,E⟩,rfl,rfl⟩:=h;obtain ⟨v,E,rfl,rfl⟩:=E;obtain ⟨v',T,O⟩:=Ax (P:=P) (w:=w) u S A J V E;refine .pure R O ?_;simp [Instr.index,asIntOf,run_underlying C,K,wj.int,hj,c8 u,T]
   ·exact bad h
  ·exact bad h
 ·
  rename_i op t x y ty2;split at h
  ·rename_i len e Z Y C B hy
   split at h
   ·rename_i kk n hk u
    cases c:(Nat.beq n 1&& !P.eqGuardType P.depth t)with
    |false=>rw [c]at h;exact bad h
    |true=>
     rw [c,cond_true]at h;rw [nb]at c;simp only [apJ,apS,Bool.not_eq_true']at c;obtain ⟨rfl,W⟩:=c;obtain ⟨i,hi,jG⟩:=rO u;have Dy:P.cellsOf e=1:=by simp [Program.cellsOf,hi,jG]
     have key:∀neg:Bool,(op=bif neg then .neq else .eql)→aA (.eqs neg ((List.range' 0 len).map fun i=>(i,kk)) Z Y) (X.ev d) H=some (res,H')→
      gP w0 φ H w res H' ((do pure (Next.value (←(do eqGuard op t x y (a.eval x) (a.eval y);binOp op t (a.eval x) (a.eval y)))):Sem Next).run P w):=by
      intro neg qS h;simp only [aA]at h;have A:=dK F B;have h2:=dK F hy
      cases p:Z.ev d<;>simp only [p]at h<;>first
       |(cases h;done)
       |skip
      rename_i cs
      cases D:Y.ev d<;>simp only [D]at h<;>first
       |(cases h;done)
       |skip
      rename_i ds
      cases U:du cs.toList ds.toList ((List.range' 0 len).map fun i=>(i,kk))with
      |none=>simp [U]at h
      |some b=>
       simp only [U,Option.map_some,apH,apO]at h;obtain ⟨rfl,rfl⟩:=h;rw [p]at A;rw [D]at h2;obtain ⟨r,K,J,_⟩:=A.Cg;obtain ⟨L,e2,hd,_⟩:=h2.Cg
       have I:(Op.equalIn 10000 t (.agg r) (.agg L)).run P w= .ok b w:=by
        rw [run_equalIn_array w 9999 r L C hi,Dy,List.range_eq_range'];exact rP J hd hk 9998 w _ b U
       refine .pure R (.same rfl) ?_;rw [K,e2,Sem.run_bind,Sem.run_bind,run_eqGuard_agg w op t x y r L W];simp only [Result.andThen_ok];subst qS;cases neg
       ·show(((binOp .eql t (.agg r) (.agg L)).run P w).andThen _)=_
        rw [run_eql_struct,I];rfl
       ·show(((binOp .neq t (.agg r) (.agg L)).run P w).andThen _)=_
        rw [run_neq_struct,I];rfl
     split at h
     ·exact key false rfl h
     ·exact key true rfl h
     ·exact bad h
   ·exact bad h
  ·exact bad h
 ·
  rename_i e
  cases c:(decide (e=BT)&&MS (ij P e)&&decide (BT≠BY))with
  |false=>rw [c]at h;exact bad h
  |true=>
   rw [c,cond_true]at h;simp only [apJ,apS]at c;obtain ⟨⟨rfl,N⟩,fR⟩:=c
   have ZW:ij P BT=some [.pointer none,.slice none 0 0]:=by
    unfold MS at N;split at N
    ·assumption
    ·cases N
   simp only [aA,List.map_nil,DU,Option.map_some,apH,apO]at h;obtain ⟨rfl,rfl⟩:=h;obtain ⟨i,v,hi,q,jO,hf,hl⟩:=ji ZW;have jG:w0.heap.size≤w.heap.size:=R.below.size
   have SK:v.cells= #[.pointer none,.slice none 0 0]:=by
    apply Array.ext'
    simpa using jO
   have nD:((do pure (Next.value (←Instr.alloc BT true (.tuple #[]))):Sem Next)).run P w= .ok (.value (.pointer (some ⟨w.heap.size,0,none⟩))) {w with heap:=w.heap.push (.cells v.cells BT)}:=by
    simp [Instr.alloc,zeroValue,typeInfo,hi,q,newVar,newRow]
   rw [nD];obtain ⟨R',G⟩:=R.No tp fR (w':={w with heap:=w.heap.push (.cells v.cells BT)}) (by rw [SK]) rfl rfl rfl;refine ⟨_,_,_,rfl,R',G,.inl ⟨_,rfl,?_⟩⟩;exact .ptr (l:=⟨w.heap.size,0,2,0⟩) (by simp [bS.add])
 ·exact bad h
theorem Eu {e:Fr} {a:Act} (F:lY φ e a) (R:Rel w0 φ H w) (d:φ.m H.nx=none) {o:Oper} {c:cQ} (b:Io P o=c) {res:jI} {H':AH} (h:aA c (X.ev e) H=some (res,H')) (g:∀f as,res= .enter f as→yW P f):gP w0 φ H w res H' ((execOp a.eval o).run P w):=by
 subst b;unfold Io at h
 cases b:WB P o with
 |some c=>
  rw [b]at h;exact SE F R d b h g
 |none=>
  rw [b]at h;exact Np F R d h
end
end Go.Proofs.YtppcmpmnglaleaaGreat.A
