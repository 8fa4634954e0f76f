/- Texts that stand one behind the other: AbsA2. -/
import Derived.Test.YtppcmpmnglaleaaGreatDoorG7
import Derived.ChangeKeysEq
set_option linter.unusedVariables false
set_option linter.unusedSimpArgs false
namespace Go.Proofs.YtppcmpmnglaleaaGreatDoor.A
open Go Go.RowKit
section
variable{P:Program} {w0 w:World} {φ:bM} {H:AH}
theorem Bf {t:TypeId} {o n:Nat} {b:Bool} {cs a:Array Value} {v:Value} (m:dS P t=some n) (i:zm P t=some b) (g:b=true∨n=1) (f:VL φ cs.toList a.toList) (j:cs.toList.all one=true) (h:qw ((cs.toList.drop o).take n) n b=some v):
 ∃v',(part t a o).run P w= .ok v' w∧V φ v v':=by
 unfold qw at h;obtain ⟨d,h⟩:=aw h;rw [nb]at d;have d:=of_decide_eq_true d;have k:=f.length
 cases b with
 |true=>
  simp only [cond_true,aqH]at h;subst h;refine ⟨.agg (a.extract o (o+n)),by simp [part,kc i,cB m],.agg ?_ ?_⟩
  ·rw [aqW]at j⊢
   exact fun x c=>j x (List.mem_of_mem_drop (List.mem_of_mem_take (by simpa using c)))
  ·have:=(f.drop o).take n
   simpa [Array.toList_extract,List.extract]using this
 |false=>
  rcases g with g|rfl
  ·cases g
  simp only [cond_false]at h;split at h
  ·rename_i x c
   cases h
   have p:cs.toList[o]?=some v:=by
    have:((cs.toList.drop o).take 1)[0]?=some v:=by rw [c];rfl
    simpa using this
   obtain ⟨v',e,l⟩:=f.get _ _ p;have q:a[o]?=some v':=by simpa using e
   exact ⟨v',by simp [part,kc i,q],l⟩
  ·cases h
theorem se {cs ds k j:Array Value} (n:VL φ cs.toList k.toList) (m:VL φ ds.toList j.toList) {e:TypeId} {kk:Nat} (l:bX P e=some kk) (d:Nat) (w:World):∀(is:List Nat) (b:Bool),
 dP cs.toList ds.toList (is.map fun i=>(i,kk))=some b→(Op.eqItems (d+1) e 1 k j is).run P w= .ok b w
 |[],b,h=>by simp [dP]at h;subst h;simp [Op.eqItems]
 |i::is,b,h=>by
  simp only [List.map_cons,dP]at h
  cases c:cs.toList[i]? with
  |none=>simp [c]at h
  |some x=>
   cases g:ds.toList[i]? with
   |none=>simp [c,g]at h
   |some y=>
    simp only [c,g]at h;obtain ⟨z,h⟩:=aw h
    cases a:il x y with
    |none=>simp [a]at h
    |some r=>
     obtain ⟨B,v,u⟩:=n.get _ _ c;obtain ⟨A,f,t⟩:=m.get _ _ g;obtain ⟨rfl,rfl⟩:=Fb a u t;obtain ⟨s,q,p⟩:=Bd (P:=P) l z a d w (cs:=k) (ds:=j) (o:=i) (by simpa using v) (by simpa using f);simp only [Op.eqItems,Nat.mul_one,Sem.run_bind,s,q,p,Result.andThen_ok]
     cases r with
     |true=>
      simp only [a]at h
      simpa using se n m l d w is b h
     |false=>
      simp only [a]at h;cases h;simp
def zD (H:AH):AH:={H with tr:=T.put none (some none) (H.nx+1) H.tr H.nx,nx:=H.nx+1,bs:=some (H.nx,.empty)}
theorem sg (H:AH) (c:Nat):(zD H).raw c=if c=H.nx then none else H.raw c:=by
 unfold AH.raw zD;simp only [T.bG none (some none) (H.nx+1) H.tr H.nx c (by omega)];by_cases h:c=H.nx
 ·subst h;simp
 ·simp [h]
theorem Rel.Pp {w':World} (R:Rel w0 φ H w) (V:φ.m H.nx=none) (fW:BT≠BY) (t:w'.heap=w.heap.push (.cells #[.pointer none,.slice none 0 0] BT (0,0))) (L:w'.os=w.os) (I:w'.tape=w.tape) (K:w'.output=w.output):
 Rel w0 (φ.add H.nx ⟨w.heap.size,0,2,0⟩) (zD H) w'∧Grow φ H w (φ.add H.nx ⟨w.heap.size,0,2,0⟩) (zD H) w':=by
 have j:φ.le (φ.add H.nx ⟨w.heap.size,0,2,0⟩):=bM.u6 V;have J:w0.heap.size≤w.heap.size:=R.below.size;have u:∀k,k<w.heap.size→w'.heap[k]?=w.heap[k]?:=fun k B=>by rw [t,Array.getElem?_push,if_neg (by omega)]
 have back:∀{b l},(φ.add H.nx ⟨w.heap.size,0,2,0⟩).m b=some l→((zD H).raw b).isSome=true→φ.m b=some l∧(H.raw b).isSome=true∧(zD H).raw b=H.raw b:=by
  intro b l g i;rw [sg]at i⊢;simp only [bM.add]at g;by_cases d:b=H.nx
  ·rw [if_pos d]at i;cases i
  ·rw [if_neg d]at g i⊢
   exact ⟨g,i,rfl⟩
 have M:∀{b l},φ.n0≤b→φ.m b=some l→(H.raw b).isSome=true→l.c<w.heap.size:=by
  intro b l d g i
  cases f:H.raw b with
  |none=>simp [f]at i
  |some aR=>
   cases aR with
   |cells r c=>
    obtain ⟨_,_,_,a,p,n,_⟩:=R.cells b l r c d g f;exact (aqU.1 n).1
   |map es=>
    obtain ⟨_,a,p,n,_⟩:=R.maps b l es d g f;exact (aqU.1 n).1
 refine ⟨{
  n0:=R.n0
  pR:=R.pR
  qA:=by have:=R.qA;exact Nat.le_succ_of_le this
  c0:=R.c0
  below:=⟨L.trans R.below.os,I.trans R.below.tape,K.trans R.below.output,by rw [t,Array.size_push];omega,fun k B=>by rw [u k (by omega)];exact R.below.block k B⟩
  iG:=fun b d=>j _ _ (R.iG b d)
  u7:=R.u7
  j9:=fun b r c d f=>by
   have lE:b<φ.n0:=d;rw [sg,if_neg (by have:=R.qA;omega)]at f;obtain ⟨p,W,G⟩:=R.j9 b r c d f;exact ⟨p,W,by rw [u b (by have:=R.pR;have:=R.c0;omega)];exact G⟩
  cells:=fun b l r c d g f=>by
   obtain ⟨o,i,e⟩:=back g (by rw [f];rfl);rw [e]at f;obtain ⟨q,h2,U,a,p,n,x,T,S⟩:=R.cells b l r c d o f;exact ⟨q,h2,U,a,p,by rw [u _ (aqU.1 n).1];exact n,x,T.mono j,S⟩
  maps:=fun b l es d g f=>by
   obtain ⟨o,i,e⟩:=back g (by rw [f];rfl);rw [e]at f;obtain ⟨q,a,p,n,x⟩:=R.maps b l es d o f;exact ⟨q,a,p,by rw [u _ (aqU.1 n).1];exact n,x.mono j⟩
  inj:=fun b1 Z F E Q O q h2 D C N=>R.inj b1 Z F E Q O (back q D).1 (back h2 C).1 (back q D).2.1 (back h2 C).2.1 N
  oA:=fun b s X=>by
   have Y:H.nx=b∧ByteArray.empty=s:=by simpa [zD]using X
   obtain ⟨rfl,rfl⟩:=Y;refine ⟨R.qA,by rw [sg,if_pos rfl],⟨w.heap.size,0,2,0⟩,by simp [bM.add],rfl,⟨.inl ⟨by show φ.c0≤w.heap.size;rw [R.c0];exact J,.slice none 0 0,by rw [t];simp,World.ownsRowF_nil _ _ _ _,by simp [Value.ownBlock]⟩,fun b l a1 a2 a3=>?_⟩⟩;obtain ⟨z,y,_⟩:=back a2 a3;have:=M a1 z y;refine ⟨by show l.c≠w.heap.size;omega,fun v A=>?_⟩;have:w'.cell? ⟨w.heap.size,1,none⟩=some (.slice none 0 0):=by simp [World.cell?,t]
   rw [this]at A;cases A
   simp [Value.ownBlock]},j,rfl,rfl,aq7 _,?_,by rw [t,Array.size_push];exact aq7 _⟩
 intro b l h k;simp only [bM.add]at k;split at k
 ·rename_i d;subst d;exact ⟨aqK _,aqV _⟩
 ·rw [h]at k;cases k
theorem Pq {d:Fr} {a:Act} (F:lM φ d a) (R:Rel w0 φ H w) (tP:φ.m H.nx=none) {o:Oper} {res:iY} {H':AH} (h:aq (O4 P o) (X.ev d) H=some (res,H')):gq w0 φ H w res H' ((execOp a.eval o).run P w):=by
 have bad:∀{l:List X} {Q:Prop},aq (.xt .bad l) (X.ev d) H=some (res,H')→Q:=by
  intro l Q h;simp [aq,EM]at h
 obtain ⟨dst,op,ty,pos,after,guard⟩:=o;unfold O4 at h;unfold execOp;dsimp only at h⊢;split at h
 ·
  rename_i s x f;split at h
  ·rename_i fs y C B
   split at h
   ·rename_i g Z
    split at h
    ·rename_i n M u U
     cases c:(M||Nat.beq n 1)with
     |false=>rw [c]at h;exact bad h
     |true=>
      rw [c,cond_true]at h
      have A:M=true∨n=1:=by
       rw [nb]at c
       simpa using c
      simp only [aq,List.map_cons,List.map_nil]at h;have q:=dk F B;cases p:y.ev d<;>simp [p,EM]at h;rename_i cs;rw [p]at q;obtain ⟨r,K,J,Y⟩:=q.C6;obtain ⟨v,E,rfl,rfl⟩:=h;obtain ⟨v',V,T⟩:=Bf (P:=P) (w:=w) u U A J Y E;refine .pure R T ?_;simp [Instr.field,run_underlying C,Z,K,asAgg,V]
    ·exact bad h
   ·exact bad h
  ·exact bad h
 ·
  rename_i t x i;split at h
  ·rename_i len e y z C B hi
   split at h
   ·rename_i n M u U
    cases c:(M||Nat.beq n 1)with
    |false=>rw [c]at h;exact bad h
    |true=>
     rw [c,cond_true]at h
     have A:M=true∨n=1:=by
      rw [nb]at c
      simpa using c
     simp only [aq,List.map_cons,List.map_nil]at h;have q:=dk F B;have zw:=dk F hi;cases p:y.ev d<;>simp [p,EM]at h;rename_i cs;cases D:z.ev d<;>simp [D]at h;rename_i k j;rw [p]at q;rw [D]at zw;obtain ⟨r,K,J,Y⟩:=q.C6;obtain ⟨v0,⟨hj,E⟩,rfl,rfl⟩:=h;obtain ⟨v,E,rfl,rfl⟩:=E;obtain ⟨v',V,T⟩:=Bf (P:=P) (w:=w) u U A J Y E;refine .pure R T ?_;simp [Instr.index,asIntOf,run_underlying C,K,zw.int,hj,cB u,V]
   ·exact bad h
  ·exact bad h
 ·
  rename_i op t x y ty2;split at h
  ·rename_i len e x' y' C B hy
   split at h
   ·rename_i kk n hk u
    cases c:(Nat.beq n 1&& !P.eqGuardType P.depth t)with
    |false=>rw [c]at h;exact bad h
    |true=>
     rw [c,cond_true]at h;rw [nb]at c;simp only [aqJ,aqS,Bool.not_eq_true']at c;obtain ⟨rfl,Z⟩:=c;obtain ⟨i,hi,iu⟩:=sb u;have Pr:P.cellsOf e=1:=by simp [Program.cellsOf,hi,iu]
     have key:∀neg:Bool,(op=bif neg then .neq else .eql)→aq (.eqs neg ((List.range' 0 len).map fun i=>(i,kk)) x' y') (X.ev d) H=some (res,H')→
      gq w0 φ H w res H' ((do pure (Next.value (←(do eqGuard op t x y (a.eval x) (a.eval y);binOp op t (a.eval x) (a.eval y)))):Sem Next).run P w):=by
      intro neg rl h;simp only [aq]at h;have A:=dk F B;have h2:=dk F hy
      cases p:x'.ev d<;>simp only [p]at h<;>first
       |(cases h;done)
       |skip
      rename_i cs
      cases D:y'.ev d<;>simp only [D]at h<;>first
       |(cases h;done)
       |skip
      rename_i ds
      cases W:dP cs.toList ds.toList ((List.range' 0 len).map fun i=>(i,kk))with
      |none=>simp [W]at h
      |some b=>
       simp only [W,Option.map_some,aqH,aqO]at h;obtain ⟨rfl,rfl⟩:=h;rw [p]at A;rw [D]at h2;obtain ⟨r,K,J,_⟩:=A.C6;obtain ⟨L,e2,hd,_⟩:=h2.C6
       have I:(Op.equalIn 10000 t (.agg r) (.agg L)).run P w= .ok b w:=by
        rw [run_equalIn_array w 9999 r L C hi,Pr,List.range_eq_range'];exact se J hd hk 9998 w _ b W
       refine .pure R (.same rfl) ?_;rw [K,e2,Sem.run_bind,Sem.run_bind,run_eqGuard_agg w op t x y r L Z];simp only [Result.andThen_ok];subst rl;cases neg
       ·show(((binOp .eql t (.agg r) (.agg L)).run P w).andThen _)=_
        rw [run_eql_struct,I];rfl
       ·show(((binOp .neq t (.agg r) (.agg L)).run P w).andThen _)=_
        rw [run_neq_struct,I];rfl
     split at h
     ·exact key false rfl h
     ·exact key true rfl h
     ·exact bad h
   ·exact bad h
  ·exact bad h
 ·
  rename_i e
  cases c:(decide (e=BT)&&O3 (gQ P e)&&decide (BT≠BY))with
  |false=>rw [c]at h;exact bad h
  |true=>
   rw [c,cond_true]at h;simp only [aqJ,aqS]at c;obtain ⟨⟨rfl,O⟩,fW⟩:=c
   have N:gQ P BT=some [.pointer none,.slice none 0 0]:=by
    unfold O3 at O;split at O
    ·assumption
    ·cases O
   simp only [aq,List.map_nil,EM,Option.map_some,aqH,aqO]at h;obtain ⟨rfl,rfl⟩:=h;obtain ⟨i,v,hi,q,iR,hf,hl⟩:=iQ N;have iu:w0.heap.size≤w.heap.size:=R.below.size
   have S:v.cells= #[.pointer none,.slice none 0 0]:=by
    apply Array.ext'
    simpa using iR
   have nH:((do pure (Next.value (←Instr.alloc BT true (.tuple #[]))):Sem Next)).run P w= .ok (.value (.pointer (some ⟨w.heap.size,0,none⟩))) {w with heap:=w.heap.push (.cells v.cells BT)}:=by
    simp [Instr.alloc,zeroValue,typeInfo,hi,q,newVar,newRow]
   rw [nH];obtain ⟨R',G⟩:=R.Pp tP fW (w':={w with heap:=w.heap.push (.cells v.cells BT)}) (by rw [S]) rfl rfl rfl;refine ⟨_,_,_,rfl,R',G,.inl ⟨_,rfl,?_⟩⟩;exact .ptr (l:=⟨w.heap.size,0,2,0⟩) (by simp [bM.add])
 ·exact bad h
theorem Fj {e:Fr} {a:Act} (F:lM φ e a) (R:Rel w0 φ H w) (d:φ.m H.nx=none) {o:Oper} {c:cv} (b:JJ P o=c) {res:iY} {H':AH} (h:aq c (X.ev e) H=some (res,H')) (g:∀f as,res= .enter f as→Dc P f):gq w0 φ H w res H' ((execOp a.eval o).run P w):=by
 subst b;unfold JJ at h
 cases b:YG P o with
 |some c=>
  rw [b]at h;exact Uj F R d b h g
 |none=>
  rw [b]at h;exact Pq F R d h
end
end Go.Proofs.YtppcmpmnglaleaaGreatDoor.A
