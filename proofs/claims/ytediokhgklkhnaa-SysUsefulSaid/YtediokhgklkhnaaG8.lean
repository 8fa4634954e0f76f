/- Texts that stand one behind the other: AbsA2. -/
import Derived.Test.YtediokhgklkhnaaG7
import Derived.ChangeKeysEq
set_option linter.unusedVariables false
set_option linter.unusedSimpArgs false
namespace Go.Proofs.Ytediokhgklkhnaa.A
open Go Go.RowKit
section
variable{P:Program} {w0 w:World} {φ:aF} {H:AH}
theorem oH {t:TypeId} {o n:Nat} {b:Bool} {cs a:Array Value} {v:Value} (m:bp P t=some n) (i:nh P t=some b) (g:b=true∨n=1) (f:VL φ cs.toList a.toList) (j:cs.toList.all one=true) (h:iq ((cs.toList.drop o).take n) n b=some v):
 ∃v',(part t a o).run P w= .ok v' w∧V φ v v':=by
 unfold iq at h;obtain ⟨d,h⟩:=ai h;rw [nb]at d;have d:=of_decide_eq_true d;have k:=f.length
 cases b with
 |true=>
  simp only [cond_true,OH]at h;subst h;refine ⟨.agg (a.extract o (o+n)),by simp [part,dY i,aQ m],.agg ?_ ?_⟩
  ·rw [OX]at j⊢
   exact fun x c=>j x (List.mem_of_mem_drop (List.mem_of_mem_take (by simpa using c)))
  ·have:=(f.drop o).take n
   simpa [Array.toList_extract,List.extract]using this
 |false=>
  rcases g with g|rfl
  ·cases g
  simp only [cond_false]at h;split at h
  ·rename_i x c
   cases h
   have p:cs.toList[o]?=some v:=by
    have:((cs.toList.drop o).take 1)[0]?=some v:=by rw [c];rfl
    simpa using this
   obtain ⟨v',e,l⟩:=f.get _ _ p;have q:a[o]?=some v':=by simpa using e
   exact ⟨v',by simp [part,dY i,q],l⟩
  ·cases h
theorem jr {cs ds j g:Array Value} (m:VL φ cs.toList j.toList) (l:VL φ ds.toList g.toList) {e:TypeId} {kk:Nat} (k:aL P e=some kk) (d:Nat) (w:World):∀(is:List Nat) (b:Bool),
 bq cs.toList ds.toList (is.map fun i=>(i,kk))=some b→(Op.eqItems (d+1) e 1 j g is).run P w= .ok b w
 |[],b,h=>by simp [bq]at h;subst h;simp [Op.eqItems]
 |i::is,b,h=>by
  simp only [List.map_cons,bq]at h
  cases c:cs.toList[i]? with
  |none=>simp [c]at h
  |some x=>
   cases f:ds.toList[i]? with
   |none=>simp [c,f]at h
   |some y=>
    simp only [c,f]at h;obtain ⟨z,h⟩:=ai h
    cases a:dN x y with
    |none=>simp [a]at h
    |some r=>
     obtain ⟨B,v,u⟩:=m.get _ _ c;obtain ⟨A,t,s⟩:=l.get _ _ f;obtain ⟨rfl,rfl⟩:=rq a u s;obtain ⟨q,p,n⟩:=oE (P:=P) k z a d w (cs:=j) (ds:=g) (o:=i) (by simpa using v) (by simpa using t);simp only [Op.eqItems,Nat.mul_one,Sem.run_bind,q,p,n,Result.andThen_ok]
     cases r with
     |true=>
      simp only [a]at h
      simpa using jr m l k d w is b h
     |false=>
      simp only [a]at h;cases h;simp
def nD (H:AH):AH:={H with tr:=T.put none (some none) (H.nx+1) H.tr H.nx,nx:=H.nx+1,bs:=some (H.nx,.empty)}
theorem js (H:AH) (c:Nat):(nD H).raw c=if c=H.nx then none else H.raw c:=by
 unfold AH.raw nD;simp only [T.aN none (some none) (H.nx+1) H.tr H.nx c (by omega)];by_cases h:c=H.nx
 ·subst h;simp
 ·simp [h]
theorem Rel.xW {w':World} (R:Rel w0 φ H w) (T:φ.m H.nx=none) (cQ:BT≠BY) (r:w'.heap=w.heap.push (.cells #[.pointer none,.slice none 0 0] BT (0,0))) (J:w'.os=w.os) (F:w'.tape=w.tape) (I:w'.output=w.output):
 Rel w0 (φ.add H.nx ⟨w.heap.size,0,2,0⟩) (nD H) w'∧bx φ H w (φ.add H.nx ⟨w.heap.size,0,2,0⟩) (nD H) w':=by
 have j:φ.le (φ.add H.nx ⟨w.heap.size,0,2,0⟩):=aF.kN T;have G:w0.heap.size≤w.heap.size:=R.below.size;have t:∀k,k<w.heap.size→w'.heap[k]?=w.heap[k]?:=fun k z=>by rw [r,Array.getElem?_push,if_neg (by omega)]
 have back:∀{b l},(φ.add H.nx ⟨w.heap.size,0,2,0⟩).m b=some l→((nD H).raw b).isSome=true→φ.m b=some l∧(H.raw b).isSome=true∧(nD H).raw b=H.raw b:=by
  intro b l g i;rw [js]at i⊢;simp only [aF.add]at g;by_cases d:b=H.nx
  ·rw [if_pos d]at i;cases i
  ·rw [if_neg d]at g i⊢
   exact ⟨g,i,rfl⟩
 have K:∀{b l},φ.n0≤b→φ.m b=some l→(H.raw b).isSome=true→l.c<w.heap.size:=by
  intro b l d g i
  cases f:H.raw b with
  |none=>simp [f]at i
  |some bF=>
   cases bF with
   |cells q c=>
    obtain ⟨_,_,_,a,o,n,_⟩:=R.cells b l q c d g f;exact (OV.1 n).1
   |map es=>
    obtain ⟨_,a,o,n,_⟩:=R.maps b l es d g f;exact (OV.1 n).1
 refine ⟨{
  n0:=R.n0
  j1:=R.j1
  iN:=by have:=R.iN;exact Nat.le_succ_of_le this
  c0:=R.c0
  below:=⟨J.trans R.below.os,F.trans R.below.tape,I.trans R.below.output,by rw [r,Array.size_push];omega,fun k z=>by rw [t k (by omega)];exact R.below.block k z⟩
  dz:=fun b d=>j _ _ (R.dz b d)
  l8:=R.l8
  eG:=fun b q c d f=>by
   have fj:b<φ.n0:=d;rw [js,if_neg (by have:=R.iN;omega)]at f;obtain ⟨o,U,E⟩:=R.eG b q c d f;exact ⟨o,U,by rw [t b (by have:=R.j1;have:=R.c0;omega)];exact E⟩
  cells:=fun b l q c d g f=>by
   obtain ⟨u,i,e⟩:=back g (by rw [f];rfl);rw [e]at f;obtain ⟨p,h2,S,a,o,n,x,Q,O⟩:=R.cells b l q c d u f;exact ⟨p,h2,S,a,o,by rw [t _ (OV.1 n).1];exact n,x,Q.mono j,O⟩
  maps:=fun b l es d g f=>by
   obtain ⟨u,i,e⟩:=back g (by rw [f];rfl);rw [e]at f;obtain ⟨p,a,o,n,x⟩:=R.maps b l es d u f;exact ⟨p,a,o,by rw [t _ (OV.1 n).1];exact n,x.mono j⟩
  inj:=fun Y X D C N M p h2 B A L=>R.inj Y X D C N M (back p B).1 (back h2 A).1 (back p B).2.1 (back h2 A).2.1 L
  j9:=fun b s V=>by
   have W:H.nx=b∧ByteArray.empty=s:=by simpa [nD]using V
   obtain ⟨rfl,rfl⟩:=W;refine ⟨R.iN,by rw [js,if_pos rfl],⟨w.heap.size,0,2,0⟩,by simp [aF.add],rfl,⟨.inl ⟨by show φ.c0≤w.heap.size;rw [R.c0];exact G,.slice none 0 0,by rw [r];simp,World.ownsRowF_nil _ _ _ _,by simp [Value.ownBlock]⟩,fun b l a1 a2 a3=>?_⟩⟩;obtain ⟨wB,Z,_⟩:=back a2 a3;have:=K a1 wB Z;refine ⟨by show l.c≠w.heap.size;omega,fun v y=>?_⟩;have:w'.cell? ⟨w.heap.size,1,none⟩=some (.slice none 0 0):=by simp [World.cell?,r]
   rw [this]at y;cases y
   simp [Value.ownBlock]},j,rfl,rfl,O8 _,?_,by rw [r,Array.size_push];exact O8 _⟩
 intro b l h k;simp only [aF.add]at k;split at k
 ·rename_i d;subst d;exact ⟨OL _,OW _⟩
 ·rw [h]at k;cases k
theorem xY {z:List Value} {d J v:Value} {K:AH} {t ty e:TypeId} (R:Rel w0 φ H w) (x:P.underlying t=some (.slice e)) (N:ch P e=some z) (I:V φ d J) (h:kJ (.mZ z) [d] H=some (v,K)) {r:Result Next}
 (k:r=((Builtin.clear_ #[t] ty #[J]).run P w).andThen fun v w=>.ok (.value v) w):cw w0 φ H w (.v v) K r:=by
 unfold kJ at h;split at h
 case h_1=>cases ‹XK.mZ z=XK.pX _ _ _›
 case h_2=>cases ‹XK.mZ z=XK.pY _ _ _›
 case h_3=>cases ‹XK.mZ z=XK.j9›
 case h_4=>cases ‹XK.mZ z=XK.lX _ _›
 case h_6=>cases h
 rename_i Z base n c s y;cases s;cases y;obtain ⟨i,g,hi,L,B,M,xO⟩:=cB N;obtain ⟨j,X,rfl,U⟩:=V.xB I
 have pass:∀{w':World},(j=none∨n=0∨∃a,j=some a∧0<n∧(storeCells a (madeCells g.cells (n*g.cells.size)).toList).run P w= .ok () w')→((j=none∨n=0)→w'=w)→(Builtin.clear_ #[t] ty #[.slice j n X]).run P w= .ok (.tuple #[]) w':=by
  intro w' O C
  cases j with
  |none=>rw [C (.inl rfl)];simp [Builtin.clear_,run_underlying x]
  |some a=>
   cases n with
   |zero=>rw [C (.inr rfl)];simp [Builtin.clear_,run_underlying x]
   |succ n=>
    rcases O with q|q|⟨A,q,_,S⟩
    ·cases q
    ·cases q
    ·cases q
     have Q:(storeCells a (Builtin.zeroCells g.cells (n+1)).toList).run P w= .ok () w':=S;simp [Builtin.clear_,run_underlying x,zeroValue,typeInfo,hi,L,Q]
 have u:g.cells.size=z.length:=by rw [←B];simp
 cases base with
 |none=>
  obtain rfl:=U.2 rfl;simp only [OH,OP]at h;obtain ⟨rfl,rfl⟩:=h;rw [pass (w':=w) (.inl rfl) (fun _=>rfl)]at k;exact .pure R (.tuple .nil) k
 |some a=>
  simp only at h
  cases f:(Nat.beq n 0||z.isEmpty)with
  |true=>
   rw [f,cond_true]at h;simp only [OH,OP]at h;obtain ⟨rfl,rfl⟩:=h;refine .pure R (.tuple .nil) ?_;rw [k,pass (w':=w) ?_ (fun _=>rfl)]
   ·rfl
   ·rw [nb]at f
    simp only [Bool.or_eq_true,OT,List.isEmpty_iff]at f;rcases f with q|q
    ·exact .inr (.inl q)
    ·cases j with
     |none=>exact .inl rfl
     |some A=>
      by_cases W:n=0
      ·exact .inr (.inl W)
      ·refine .inr (.inr ⟨A,rfl,by omega,?_⟩)
       subst q;have:g.cells.size=0:=u;rw [this,Nat.mul_zero];simp [madeCells,storeCells]
  |false=>
   rw [f,cond_false]at h;rw [nb]at f;simp only [Bool.or_eq_false_iff,decide_eq_false_iff_not]at f
   cases m:H.st a (List.replicate n z).flatten with
   |none=>simp [m]at h
   |some H1=>
    simp only [m,Option.map_some,OH,OP]at h;obtain ⟨rfl,rfl⟩:=h;have E:=all_replicate M n;have D:=fk g.cells z.length u n;rw [B]at D;rcases V.qG I with⟨l,AS,p,T,_,_,_,F⟩|⟨p,_⟩
    ·simp at F
     obtain ⟨rfl,rfl⟩:=F;obtain ⟨b,o,sp⟩:=a;dsimp only at*;subst p;obtain ⟨A,w',s,y,Y,G⟩:=oC (P:=P) R (.ptr T) m (VL.same E) (bD E);simp at s;subst s;rw [pass (w':=w') (.inr (.inr ⟨_,rfl,by omega,by rw [u,D];exact y⟩)) (fun q=>by rcases q with q|q;cases q;omega)]at k;exact ⟨φ,w',_,k,Y,G,.inl ⟨_,rfl,.tuple .nil⟩⟩
    ·exfalso
     obtain ⟨b,o,sp⟩:=a;dsimp only at p;subst p;simp [AH.st]at m
theorem xZ {u:Fr} {a:Act} (F:eR φ u a) (R:Rel w0 φ H w) (j5:φ.m H.nx=none) {o:Oper} {res:dw} {T:AH} (h:aB (xz P o) (X.ev u) H=some (res,T)):cw w0 φ H w res T ((execOp a.eval o).run P w):=by
 have bad:∀{l:List X} {Q:Prop},aB (.xt .bad l) (X.ev u) H=some (res,T)→Q:=by
  intro l Q h;simp [aB,kJ]at h
 obtain ⟨dst,op,ty,pos,after,guard⟩:=o;unfold xz at h;unfold execOp;dsimp only at h⊢;split at h
 ·
  rename_i s x f;split at h
  ·rename_i fs y A D
   split at h
   ·rename_i g hg
    split at h
    ·rename_i n S B W
     cases d:(S||Nat.beq n 1)with
     |false=>rw [d]at h;exact bad h
     |true=>
      rw [d,cond_true]at h
      have I:S=true∨n=1:=by
       rw [nb]at d
       simpa using d
      simp only [aB,List.map_cons,List.map_nil]at h;have r:=bc F D;cases p:y.ev u<;>simp [p,kJ]at h;rename_i cs;rw [p]at r;obtain ⟨E,C,N,ho⟩:=r.p7;obtain ⟨v,L,rfl,rfl⟩:=h;obtain ⟨v',Z,V⟩:=oH (P:=P) (w:=w) B W I N ho L;refine .pure R V ?_;simp [Instr.field,run_underlying A,hg,C,asAgg,Z]
    ·exact bad h
   ·exact bad h
  ·exact bad h
 ·
  rename_i t x i;split at h
  ·rename_i len e y z A D hi
   split at h
   ·rename_i n S B W
    cases d:(S||Nat.beq n 1)with
    |false=>rw [d]at h;exact bad h
    |true=>
     rw [d,cond_true]at h
     have I:S=true∨n=1:=by
      rw [nb]at d
      simpa using d
     simp only [aB,List.map_cons,List.map_nil]at h;have r:=bc F D;have wo:=bc F hi;cases p:y.ev u<;>simp [p,kJ]at h;rename_i cs;cases K:z.ev u<;>simp [K]at h;rename_i k j;rw [p]at r;rw [K]at wo;obtain ⟨E,C,N,ho⟩:=r.p7;obtain ⟨v0,⟨hj,L⟩,rfl,rfl⟩:=h;obtain ⟨v,L,rfl,rfl⟩:=L;obtain ⟨v',Z,V⟩:=oH (P:=P) (w:=w) B W I N ho L;refine .pure R V ?_;simp [Instr.index,asIntOf,run_underlying A,C,wo.int,hj,aQ B,Z]
   ·exact bad h
  ·exact bad h
 ·
  rename_i op t x y ty2;split at h
  ·rename_i len e x' y' A D U
   split at h
   ·rename_i kk n hk B
    cases d:(Nat.beq n 1&& !P.eqGuardType P.depth t)with
    |false=>rw [d]at h;exact bad h
    |true=>
     rw [d,cond_true]at h;rw [nb]at d;simp only [OK,OT,Bool.not_eq_true']at d;obtain ⟨rfl,hg⟩:=d;obtain ⟨i,hi,Y⟩:=fX B;have Lr:P.cellsOf e=1:=by simp [Program.cellsOf,hi,Y]
     have key:∀neg:Bool,(op=bif neg then .neq else .eql)→aB (.eqs neg ((List.range' 0 len).map fun i=>(i,kk)) x' y') (X.ev u) H=some (res,T)→
      cw w0 φ H w res T ((do pure (Next.value (←(do eqGuard op t x y (a.eval x) (a.eval y);binOp op t (a.eval x) (a.eval y)))):Sem Next).run P w):=by
      intro neg j3 h;simp only [aB]at h;have I:=bc F D;have h2:=bc F U
      cases p:x'.ev u<;>simp only [p]at h<;>first
       |(cases h;done)
       |skip
      rename_i cs
      cases K:y'.ev u<;>simp only [K]at h<;>first
       |(cases h;done)
       |skip
      rename_i ds
      cases xV:bq cs.toList ds.toList ((List.range' 0 len).map fun i=>(i,kk))with
      |none=>simp [xV]at h
      |some b=>
       simp only [xV,Option.map_some,OH,OP]at h;obtain ⟨rfl,rfl⟩:=h;rw [p]at I;rw [K]at h2;obtain ⟨E,C,N,_⟩:=I.p7;obtain ⟨O,e2,hd,_⟩:=h2.p7
       have M:(Op.equalIn 10000 t (.agg E) (.agg O)).run P w= .ok b w:=by
        rw [run_equalIn_array w 9999 E O A hi,Lr,List.range_eq_range'];exact jr N hd hk 9998 w _ b xV
       refine .pure R (.same rfl) ?_;rw [C,e2,Sem.run_bind,Sem.run_bind,run_eqGuard_agg w op t x y E O hg];simp only [Result.andThen_ok];subst j3;cases neg
       ·show(((binOp .eql t (.agg E) (.agg O)).run P w).andThen _)=_
        rw [run_eql_struct,M];rfl
       ·show(((binOp .neq t (.agg E) (.agg O)).run P w).andThen _)=_
        rw [run_neq_struct,M];rfl
     split at h
     ·exact key false rfl h
     ·exact key true rfl h
     ·exact bad h
   ·exact bad h
  ·exact bad h
 ·
  rename_i t x;split at h
  ·rename_i len e y A D
   split at h
   ·rename_i n B
    cases d:(Nat.beq len 0||Nat.beq n 0)with
    |true=>rw [d,cond_true]at h;exact bad h
    |false=>
     rw [d,cond_false]at h;simp only [aB,List.map_cons,List.map_nil]at h;have r:=bc F D;cases p:y.ev u<;>simp [p,kJ]at h;rename_i q;cases q<;>simp at h;rename_i b;obtain ⟨_,⟨rfl,rfl⟩,rfl⟩:=h;rw [p]at r;obtain ⟨l,hs,hl,C⟩:=r.l7;obtain ⟨bb,bo,bs⟩:=b;dsimp only at hs hl C;subst hs;refine .pure R (.sl (c':=len) hl (OL _) id (.inl rfl)) ?_;obtain ⟨i,hi,Y⟩:=fX B;simp [Instr.sliceAt,Instr.sliceBounds,Instr.sureAddr,run_underlying A,C,aQ B,Addr.add]
   ·exact bad h
  ·exact bad h
 ·
  rename_i c;obtain ⟨callee,args,argTypes⟩:=c;dsimp only at h⊢;split at h
  ·rename_i x t eD nB
   have jq:args= #[x]:=Array.ext' (by simpa using eD);have AX:argTypes= #[t]:=Array.ext' (by simpa using nB);subst jq AX;split at h
   ·rename_i e y A U
    split at h
    ·rename_i z J
     simp only [aB,List.map_cons,List.map_nil]at h;obtain ⟨q,p,h⟩:=OR.1 h;obtain ⟨v,H2⟩:=q;simp only [OP]at h;obtain ⟨rfl,rfl⟩:=h;refine xY (P:=P) (ty:=ty) R A J (bc F U) p ?_;simp [resolve,invoke,builtin]
    ·exact bad h
   ·exact bad h
  ·exact bad h
 ·
  rename_i e
  cases d:(decide (e=BT)&&xy (ch P e)&&decide (BT≠BY))with
  |false=>rw [d]at h;exact bad h
  |true=>
   rw [d,cond_true]at h;simp only [OK,OT]at d;obtain ⟨⟨rfl,J⟩,cQ⟩:=d
   have FB:ch P BT=some [.pointer none,.slice none 0 0]:=by
    unfold xy at J;split at J
    ·assumption
    ·cases J
   simp only [aB,List.map_nil,kJ,Option.map_some,OH,OP]at h;obtain ⟨rfl,rfl⟩:=h;obtain ⟨i,v,hi,r,qM,hf,hl⟩:=cB FB;have Y:w0.heap.size≤w.heap.size:=R.below.size
   have Ls:v.cells= #[.pointer none,.slice none 0 0]:=by
    apply Array.ext'
    simpa using qM
   have fW:((do pure (Next.value (←Instr.alloc BT true (.tuple #[]))):Sem Next)).run P w= .ok (.value (.pointer (some ⟨w.heap.size,0,none⟩))) {w with heap:=w.heap.push (.cells v.cells BT)}:=by
    simp [Instr.alloc,zeroValue,typeInfo,hi,r,newVar,newRow]
   rw [fW];obtain ⟨R',G⟩:=R.xW j5 cQ (w':={w with heap:=w.heap.push (.cells v.cells BT)}) (by rw [Ls]) rfl rfl rfl;refine ⟨_,_,_,rfl,R',G,.inl ⟨_,rfl,?_⟩⟩;exact .ptr (l:=⟨w.heap.size,0,2,0⟩) (by simp [aF.add])
 ·exact bad h
theorem rB {e:Fr} {a:Act} (F:eR φ e a) (R:Rel w0 φ H w) (d:φ.m H.nx=none) {o:Oper} {c:aY} (b:ud P o=c) {res:dw} {g:AH} (h:aB c (X.ev e) H=some (res,g)) (i:∀f as,res= .enter f as→nz P f):cw w0 φ H w res g ((execOp a.eval o).run P w):=by
 subst b;unfold ud at h
 cases b:Di P o with
 |some c=>
  rw [b]at h;exact A0 F R d b h i
 |none=>
  rw [b]at h;exact xZ F R d h
end
end Go.Proofs.Ytediokhgklkhnaa.A
