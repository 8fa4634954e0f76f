/- Texts that stand one behind the other: Abs7, Abs8, Abs9, AbsA. -/
import Derived.Test.YtediokhgklkhnaaG6
import Derived.Deep.Upon
set_option linter.unusedVariables false
set_option linter.unusedSimpArgs false
namespace Go.Proofs.Ytediokhgklkhnaa.A
section
open Go Go.RowKit
section
variable{P:Program} {w0 w:World} {φ:aF} {H:AH}
theorem jl {φ:aF}:∀(l:List UInt8),VL φ (l.map fun b=>.int .u8 b.toNat) (l.map fun b=>.int .u8 b.toNat)
 |[]=>.nil
 |b::l=>.cons (.same rfl) (jl l)
theorem xJ {sz n:Nat} {x x':Value} {new:List Value} {tx:TypeId} (R:Rel w0 φ H w) (i:V φ x x') (b:fR x=some n) (h:je H sz x=some new)
 (e:(∃v,P.underlying tx=some (.slice v))∨P.underlying tx=some .string):
 ∃news,Src P sz tx x' n news w∧VL φ new news∧new.all one=true:=by
 unfold je at h;split at h
 ·rename_i a d c
  simp [fR]at b;subst b;simp only [nb,Bool.cond_decide]at h;rcases V.qG i with⟨l,o,r,t,_,_,_,rfl⟩|⟨r,rfl,_,y,o,rfl⟩
  ·split at h
   ·rename_i m
    cases h;subst m;refine ⟨[],⟨e,fun _=>rfl,?_,?_,by simp,fun _ h=>by cases h⟩,.nil,rfl⟩
    ·simp [Builtin.firstCells,loadCells,loadCellsFrom]
    ·simp [Builtin.firstCells,loadCells,loadCellsFrom]
   ·obtain ⟨_,f,h2,g,k,q,p⟩:=R.ldn h t
    refine ⟨g,⟨e,fun _=>rfl,?_,?_,k,q.one f⟩,q,f⟩
    ·exact run_firstCells_some w sz d _ d o g k p
    ·exact run_firstCells_some w.drew sz d _ d o g k (by simpa using p)
  ·simp at h
   subst h;refine ⟨[],⟨e,fun _=>rfl,?_,?_,by simp,fun _ h=>by cases h⟩,.nil,rfl⟩
   ·simp [Builtin.firstCells,loadCells,loadCellsFrom]
   ·simp [Builtin.firstCells,loadCells,loadCellsFrom]
 ·rename_i d c
  simp [fR]at b;subst b;simp only [nb,Bool.cond_decide]at h;split at h
  ·rename_i m
   cases h;subst m;rw [i.z4];refine ⟨[],⟨e,fun _=>rfl,?_,?_,by simp,fun _ h=>by cases h⟩,.nil,rfl⟩
   ·simp [Builtin.firstCells]
   ·simp [Builtin.firstCells]
  ·cases h
 ·rename_i s
  simp [fR]at b;subst b;simp only [nb,Bool.cond_decide]at h;split at h
  ·rename_i f
   cases h;subst f;rw [i.string];refine ⟨byteCells s,⟨e,fun _=>rfl,firstCells_string s w,firstCells_string s w.drew,by rw [byteCells_length,Nat.mul_one],fun u j=>?_⟩,jl _,?_⟩
   ·obtain ⟨_,_,rfl⟩:=Pe.1 j
    rfl
   ·rw [OX]
    intro u j;obtain ⟨_,_,rfl⟩:=Pe.1 j;rfl
  ·cases h
 ·cases h
theorem fH (t tx ty e:TypeId) (i:TypeInfo) (g:P.underlying t=some (.slice e)) (hi:P.info? e=some i) (b off a c:Nat) (x:Value) (n:Nat) (news:List Value) (d:Src P i.size tx x n news w) {w':World}
 (j:a+n≤c) (h:(storeCells ⟨b,off+a*i.size,none⟩ news).run P w= .ok () w'):
 (Builtin.append_ #[t,tx] ty #[.slice (some ⟨b,off,none⟩) a c,x]).run P w= .ok (.slice (some ⟨b,off,none⟩) (a+n) c) w':=by
 rcases d.kind with⟨k,f⟩|f<;>simp [Builtin.append_,run_underlying g,run_underlying f,sizeOf,typeInfo,hi,d.len,j,d.cells,add_lit,h]
theorem grownCap_ge (w:World) (a old:Nat) (e:TypeId) (h:a<2^63):a≤grownCap w a old e:=by
 unfold grownCap;simp [Question.cut]
theorem jm (cs:List Value) (z:Array Value) (a cap sz:Nat) (b:z.size=sz) (c:cs.length=a*sz) (d:a≤cap):(cs.toArray++Builtin.zeroCells z (cap- a)).size=cap*sz:=by
 simp [size_zeroCells,b,c];rw [←Nat.add_mul];congr 1;omega
theorem l9 {φ:aF} {cs a:List Value} (z:Array Value) (n:Nat) (h:VL φ cs a) (o:cs.all one=true):CR φ 0 cs (a.toArray++Builtin.zeroCells z n):=by
 intro j v b;obtain ⟨c,e,d⟩:=h.get j v b;refine ⟨OX.1 o v (OM b),c,?_,d⟩;have:j<a.length:=(ON.1 e).1;rw [Nat.zero_add,Array.getElem?_append_left (by simpa using this)]
 simpa using e
theorem xL {sz bytes:Nat} {s x s' x' v:Value} {H':AH} {t tx ty e:TypeId} {i:TypeInfo} {z:Value} (R:Rel w0 φ H w) (j5:φ.m H.nx=none) (N:P.underlying t=some (.slice e)) (hi:P.info? e=some i) (hz:i.zero=some z) (wu:z.cells.size=i.size)
 (Dk:e≠BY) (gk:i.size=sz) (xM:sz≠0) (FE:i.bytes=bytes) (Q:(∃e',P.underlying tx=some (.slice e'))∨P.underlying tx=some .string)
 (B:V φ s s') (hx:V φ x x') (h:aK sz bytes H s x=some (v,H')) {r:Result Next} (q:r=((Builtin.append_ #[t,tx] ty #[s',x']).run P w).andThen fun v w=>.ok (.value v) w):
 cw w0 φ H w (.v v) H' r:=by
 subst gk FE;unfold aK at h;split at h
 case h_2=>cases h
 rename_i base sl sc n u;split at h
 ·rename_i h0
  subst h0;simp only [Bool.cond_decide]at h;split at h
  case isFalse=>cases h
  rename_i hle;cases h;obtain ⟨F,IJ,rfl,hb⟩:=V.xB B
  have FF:sl≤IJ:=by
   cases base with
   |none=>have he:=B.z4;simp at he;omega
   |some a=>
    rcases V.qG B with⟨l,d,_,_,Z,_,_,he⟩|⟨_,rfl,_,_⟩
    ·simp at he;omega
    ·omega
  have fV:Src P i.size tx x' 0 [] w:=by
   unfold fR at u;split at u
   ·simp at u
    subst u;obtain ⟨a',d,rfl,_⟩:=V.xB hx;refine ⟨Q,fun _=>rfl,?_,?_,by simp,fun _ h=>by cases h⟩<;>cases a'<;>simp [Builtin.firstCells,loadCells,loadCellsFrom]
   ·rename_i s
    simp at u;rw [hx.string];refine ⟨Q,fun _=>?_,?_,?_,by simp,fun _ h=>by cases h⟩
    ·simp [Builtin.lenOf,u]
    ·simp [Builtin.firstCells]
    ·simp [Builtin.firstCells]
   ·cases u
  rw [run_append_nothing w t tx ty e i N hi F sl IJ FF x' fV]at q;exact .pure R B q
 ·rename_i h0
  cases hq:je H i.size x with
  |none=>simp [hq]at h
  |some new=>
   simp only [hq]at h;obtain ⟨news,y,M,W⟩:=xJ (P:=P) R hx u hq Q
   cases Y:(decide ((sl+n)*i.bytes≤2^47)&&decide (sl+n<2^62))with
   |false=>simp [Y]at h
   |true=>
    simp only [Y,cond_true]at h;simp at Y;obtain ⟨AQ,Lb⟩:=Y;have qH:new.length=n*i.size:=by rw [M.length];exact y.newsLen
    split at h
    ·rename_i ri
     cases base with
     |none=>cases h
     |some a=>
      simp only at h
      cases f:(H.gj a.block i.size&&a.spot.isNone)with
      |false=>simp [f]at h
      |true=>
       simp only [f,cond_true]at h
       cases J:H.st ⟨a.block,a.off+sl*i.size,none⟩ new with
       |none=>simp [J]at h
       |some H1=>
        simp [J]at h;obtain ⟨rfl,rfl⟩:=h;simp at f;rcases V.qG B with⟨l,d,g,C,Z,kO,xI,rfl⟩|⟨g,_⟩
        ·have hp:V φ (.pointer (some ⟨a.block,a.off+sl*i.size,none⟩)) (.pointer (some ⟨l.c,a.off+sl*i.size+l.s,none⟩)):=.ptr C
         obtain ⟨a',w',T,e2,I,G⟩:=oC (P:=P) R hp J M W;simp at T;subst T;rw [show a.off+sl*i.size+l.s=a.off+l.s+sl*i.size by omega]at e2;rw [fH t tx ty e i N hi l.c (a.off+l.s) sl d x' n news y (by omega) e2]at q;refine ⟨φ,w',_,q,I,G,.inl ⟨_,rfl,?_⟩⟩;obtain ⟨b,o,sp⟩:=a;dsimp only at g⊢;subst g;exact .sl C Z kO xI
        ·rw [g]at f;simp at f
    ·rename_i ri
     split at h
     ·rename_i IK
      subst IK;obtain ⟨D,h⟩:=ai h;simp only [OH,OP]at h;obtain ⟨rfl,rfl⟩:=h;simp only [nb,OK,OT]at D;obtain ⟨rfl,g⟩:=D
      have xN:∃F,s'= .slice F 0 0:=by
       cases base with
       |none=>exact ⟨none,B.z4⟩
       |some a=>
        rcases V.qG B with⟨l,d,_,C,Z,kO,xI,rfl⟩|⟨O,_⟩
        ·exact ⟨_,by rw [kO rfl]⟩
        ·dsimp only at g;rw [O]at g;simp at g
      obtain ⟨F,rfl⟩:=xN
      have p:(Builtin.firstCells i.size 0 (.slice F 0 0)).run P w.drew= .ok ([]:List Value).toArray w.drew:=by
       cases F<;>simp [Builtin.firstCells,loadCells,loadCellsFrom]
      have fW:=run_append_grow_src w t tx ty e i z N hi hz F 0 0 [] p x' n news y (by omega) (by omega) (by
       rw [Nat.zero_add]at*
       exact growslice_fits (by omega) (by simpa using AQ))
      rw [fW]at q;simp only [Nat.zero_add,List.nil_append]at q;have E:n≤grownCap w n 0 e:=grownCap_ge w n 0 e (by omega);have S:=jm news z.cells n (grownCap w n 0 e) i.size wu y.newsLen E;obtain ⟨I,G⟩:=R.new j5 (w':=w.drew.alloc (.cells (news.toArray++Builtin.zeroCells z.cells (grownCap w n 0 e- n)) e)) (z:=i.size) (cs:=new) rfl rfl rfl rfl (by rw [S,qH];exact Nat.mul_le_mul_right _ E) (l9 _ _ M W) Dk;refine ⟨_,_,_,q,I,G,.inl ⟨_,rfl,?_⟩⟩;refine .sl (aF.eP _ _ _) E (by omega) (.inr ?_);show 0+0+grownCap w n 0 e*i.size≤_;rw [S];simp
     ·rename_i IK
      cases base with
      |none=>cases h
      |some a=>
       simp only at h
       cases D:(decide (H.n0≤a.block)&&a.spot.isNone&&H.gj a.block i.size)with
       |false=>simp [D]at h
       |true=>
        simp only [D,cond_true]at h
        cases A:H.ldn a (sl*i.size)with
        |none=>simp [A]at h
        |some old=>
         simp [A]at h;obtain ⟨rfl,rfl⟩:=h;simp at D;obtain ⟨⟨X,g⟩,f⟩:=D;rw [R.n0]at X;rcases V.qG B with⟨l,d,O,C,Z,kO,xI,rfl⟩|⟨O,_⟩
         case inr=>rw [O]at g;simp at g
         obtain ⟨b,o,sp⟩:=a;dsimp only at*;subst O;unfold AH.gj at f
         cases L:H.get b with
         |none=>simp [L]at f
         |some bF=>
          cases bF with
          |map es=>simp [L]at f
          |cells zb cb=>
           simp [L]at f;obtain ⟨g1,g2,g3,arr,e0,g4,g5,g6,g7⟩:=R.cells b l zb cb X C (AH.cL L);obtain ⟨_,Lc,IL,olds,h3,h4,h5⟩:=R.ldn A C
           have FG:old=(cb.drop o).take (sl*i.size)∧o+sl*i.size≤cb.length:=by
            unfold AH.ldn at A;simp only [L,Bool.cond_decide,R.n0]at A;split at A
            ·rename_i u
             rw [if_neg (by omega)]at A;cases A;exact ⟨rfl,u⟩
            ·cases A
           have dA:(old++new).all one=true:=by simp only [List.all_append,Lc,W];rfl
           by_cases hc:sl+n≤d
           ·
            have hbound:o+l.s+d*l.z≤l.n:=by
             rcases xI with T|T
             ·omega
             ·exact T
            rw [g2]at hbound
            have AR:o+l.s+sl*i.size+news.length≤arr.size:=by
             rw [g5,y.newsLen,show o+l.s+sl*i.size+n*i.size=o+l.s+(sl+n)*i.size by rw [Nat.add_mul];omega];have:(sl+n)*i.size≤d*zb:=Nat.mul_le_mul hc f;omega
            have J:=run_storeCells_at P l.c (o+l.s+sl*i.size) e0 news 0 arr w g4 (by omega) y.one;simp only [Nat.add_zero]at J;rw [fH t tx ty e i N hi l.c (o+l.s) sl d x' n news y hc J]at q
            have Ld:CR φ (l.s+o) (old++new) (arr.toList.take (o+l.s+sl*i.size)++news++arr.toList.drop (o+l.s+sl*i.size+news.length)).toArray:=by
             intro j v K;by_cases Lf:j<old.length
             ·rw [OU Lf]at K
              have Lg:cb[o+j]?=some v:=by
               rw [FG.1]at K;have:j<sl*i.size:=by omega
               simpa [Pg,this,Pm]using K
              obtain ⟨q1,v',U,q3⟩:=g6 (o+j) v Lg;refine ⟨q1,v',?_,q3⟩;rw [List.getElem?_toArray,O6,OU (by simp;omega),Pg,if_pos (by omega)];have:arr.toList[l.s+(o+j)]?=some v':=by simpa using U
              rw [←this];congr 1;omega
             ·rw [OY (by omega)]at K
              obtain ⟨v',U,q3⟩:=M.get _ v K;refine ⟨OX.1 W v (OM K),v',?_,q3⟩;have ug:j- old.length<news.length:=(ON.1 U).1;rw [List.getElem?_toArray,O6,OY (by simp;omega),OU (by simp;omega),←U];congr 1;simp;omega
            obtain ⟨I,G⟩:=R.move j5 (s2:=l.s+o) (z2:=i.size) (c2:=old++new) (w':=w.setRow l.c (arr.toList.take (o+l.s+sl*i.size)++news++arr.toList.drop (o+l.s+sl*i.size+news.length)).toArray) X C L (setRow_heap w l.c arr _ e0 (0,0) g4) (fun k Q=>setRow_other w l.c k _ Q) (setRow_size _ _ _) rfl rfl rfl (by simp;omega)
             (by rw [OQ,IL,qH];rw [y.newsLen,g5]at AR;omega) Ld g7
            refine ⟨_,_,_,q,I,G,.inl ⟨_,rfl,?_⟩⟩
            have IM:V (φ.add H.nx ⟨l.c,l.s+o,l.n,i.size⟩) (.slice (some ⟨H.nx,0,none⟩) (sl+n) (sl+n)) (.slice (some ⟨l.c,0+(l.s+o),none⟩) (sl+n) d):=by
             refine .sl (l:=⟨l.c,l.s+o,l.n,i.size⟩) (by simp [aF.add]) hc (by omega) (.inr ?_);show 0+(l.s+o)+d*i.size≤l.n;have:d*i.size≤d*zb:=Nat.mul_le_mul_left _ f;omega
            rw [show 0+(l.s+o)=o+l.s by omega]at IM;exact IM
           ·
            have p:(Builtin.firstCells i.size sl (.slice (some ⟨l.c,o+l.s,none⟩) sl d)).run P w.drew= .ok olds.toArray w.drew:=run_firstCells_some w.drew i.size sl _ sl d olds h3 (by simpa using h5);have fW:=run_append_grow_src w t tx ty e i z N hi hz (some ⟨l.c,o+l.s,none⟩) sl d olds p x' n news y (by omega) (by omega) (growslice_fits (by omega) (by simpa using AQ));rw [fW]at q;have E:sl+n≤grownCap w (sl+n) d e:=grownCap_ge w (sl+n) d e (by omega);have S:=jm (olds++news) z.cells (sl+n) (grownCap w (sl+n) d e) i.size wu (by rw [OQ,h3,y.newsLen,Nat.add_mul]) E;have Rk:=R.kill (b:=b) X
            obtain ⟨I,G⟩:=Rk.new (show φ.m (H.put b none).nx=none from j5) (w':=w.drew.alloc (.cells ((olds++news).toArray++Builtin.zeroCells z.cells (grownCap w (sl+n) d e- (sl+n))) e)) (z:=i.size) (cs:=old++new) rfl rfl rfl rfl
             (by rw [S,OQ,IL,qH,←Nat.add_mul];exact Nat.mul_le_mul_right _ E) (l9 _ _ (h4.append M) dA) Dk
            refine ⟨_,_,_,q,I,G.same (by rfl) (by rfl),.inl ⟨_,rfl,?_⟩⟩;refine .sl (aF.eP _ _ _) E (by omega) (.inr ?_);show 0+0+grownCap w (sl+n) d e*i.size≤_;rw [S];simp
end
end
section
open Go Go.RowKit
section
variable{P:Program} {w0 w:World} {φ:aF} {H:AH}
theorem rm {sz n:Nat} {x x':Value} {c:List Value} (R:Rel w0 φ H w) (d:V φ x x') (h:dM H sz n x=some c):
 ∃c',(Builtin.firstCells sz n x').run P w= .ok c'.toArray w∧VL φ c c'∧c.all one=true:=by
 unfold dM at h;split at h
 ·rename_i a i z
  simp only [nb,Bool.cond_decide]at h;obtain ⟨v,c',rfl,y⟩:=V.xB d;split at h
  ·rename_i t
   cases h;refine ⟨[],?_,.nil,rfl⟩;cases v<;>simp [Builtin.firstCells,loadCells,loadCellsFrom,t]
  ·rcases V.qG d with⟨l,A,e,k,_,_,_,g⟩|⟨e,_⟩
   ·simp at g
    obtain ⟨rfl,rfl⟩:=g;obtain ⟨_,r,h2,f,q,p,m⟩:=R.ldn h k;exact ⟨f,run_firstCells_some w sz n _ i c' f q m,p,r⟩
   ·exfalso
    obtain ⟨b,o,sp⟩:=a;dsimp only at e;subst e;simp [AH.ldn]at h
 ·cases h
  rw [d.z4];exact ⟨[],by simp [Builtin.firstCells],.nil,rfl⟩
 ·rename_i s
  cases h;rw [d.string];refine ⟨_,?_,jl _,?_⟩
  ·simp [Builtin.firstCells]
   apply Array.ext';simp
  ·rw [OX]
   intro u j;obtain ⟨_,_,rfl⟩:=Pe.1 j;rfl
 ·cases h
theorem uk {sz:Nat} {d s F j v:Value} {J:AH} {t tx ty e:TypeId} (R:Rel w0 φ H w) (y:P.underlying t=some (.slice e)) (z:bp P e=some sz) (B:V φ d F) (u:V φ s j) (h:eN sz H d s=some (v,J)) {r:Result Next}
 (i:r=((Builtin.copy_ #[t,tx] ty #[F,j]).run P w).andThen fun v w=>.ok (.value v) w):cw w0 φ H w (.v v) J r:=by
 unfold eN at h;split at h
 case h_2=>cases h
 rename_i base dl W m g;dsimp only at h
 cases x:dM H sz (Nat.min m dl) s with
 |none=>simp [x]at h
 |some c=>
  simp only [x,Option.bind_some]at h;obtain ⟨I,D,C,L⟩:=rm (P:=P) R u x;obtain ⟨q,O,rfl,M⟩:=V.xB B
  have f:(Builtin.lenOf j).run P w= .ok m w:=by
   unfold fR at g;split at g
   ·simp at g;subst g
    obtain ⟨T,I,rfl,_⟩:=V.xB u;rfl
   ·simp at g;subst g
    rw [u.string];rfl
   ·cases g
  have run:∀{w':World},(match q with|some a=>(storeCells a I).run P w|none=>.ok () w)= .ok () w'→(Builtin.copy_ #[t,tx] ty #[.slice q dl O,j]).run P w= .ok (goInt (Nat.min m dl:Nat)) w':=by
   intro w' k
   cases q with
   |none=>simp at k;subst k;simp [Builtin.copy_,run_underlying y,f,aQ z,D]
   |some a=>simp only at k;simp [Builtin.copy_,run_underlying y,f,aQ z,D,k]
  cases base with
  |none=>
   obtain rfl:=M.2 rfl;simp at h;obtain ⟨rfl,rfl⟩:=h;rw [run (w':=w) rfl]at i;exact .pure R (.same rfl) i
  |some a=>
   simp only at h
   cases c with
   |nil=>
    simp at h;obtain ⟨rfl,rfl⟩:=h;cases C;rw [run (w':=w) (by cases q<;>simp [storeCells])]at i;exact .pure R (.same rfl) i
   |cons S Q=>
    simp only [List.isEmpty_cons,cond_false]at h
    cases n:H.st a (S::Q)with
    |none=>simp [n]at h
    |some Y=>
     simp [n]at h;obtain ⟨rfl,rfl⟩:=h;rcases V.qG B with⟨l,X,p,K,_,_,_,A⟩|⟨p,_⟩
     ·simp at A
      obtain ⟨rfl,rfl⟩:=A;obtain ⟨b,o,sp⟩:=a;dsimp only at*;subst p;obtain ⟨T,w',E,N,U,G⟩:=oC (P:=P) R (.ptr K) n C L;simp at E;subst E;rw [run (w':=w') N]at i;exact ⟨φ,w',_,i,U,G,.inl ⟨_,rfl,.same rfl⟩⟩
     ·exfalso
      obtain ⟨b,o,sp⟩:=a;dsimp only at p;subst p;simp [AH.st]at n
theorem fk (z:Array Value) (m:Nat) (a:z.size=m):∀n,(madeCells z (n*m)).toList=(List.replicate n z.toList).flatten
 |0=>by simp [madeCells]
 |n+1=>by
  have ih:=fk z m a n;simp only [madeCells,Array.toList_map,Array.toList_range]at ih⊢;rw [show(n+1)*m=n*m+m by rw [Nat.succ_mul],List.range_add,List.map_append,ih,List.replicate_succ',List.flatten_append];congr 1;simp only [List.map_map,List.flatten_cons,List.flatten_nil,List.append_nil];apply List.ext_getElem?;intro j;by_cases b:j<m
  ·have:j<z.size:=by omega
   simp [b,a,Nat.mod_eq_of_lt b,Nat.add_comm,this,getElem!_pos]
  ·rw [Pn (by simp;omega),Pn (by simp;omega)]
theorem all_replicate {z:List Value} (h:z.all flat=true):∀n,((List.replicate n z).flatten).all flat=true
 |0=>rfl
 |n+1=>by simp only [List.replicate_succ,List.flatten_cons,List.all_append,h,all_replicate h n];rfl
theorem um {sz bytes:Nat} {z:List Value} {k:IntKind} {n:Int} {t e:TypeId} {i:TypeInfo} (R:Rel w0 φ H w) (C:φ.m H.nx=none) (u:P.underlying t=some (.slice e)) (hi:P.info? e=some i) (q:ch P e=some z) (y:e≠BY) (x:i.size=sz) (A:i.bytes=bytes)
 (D:0≤n) (s:IntKind.i64.wrap n=n) (I:(bytes:Int)*n≤2^47) {r:Result Next} (g:r=((Instr.makeSlice t (.int k n) (.int k n)).run P w).andThen fun v w=>.ok (.value v) w):
 cw w0 φ H w (.v (.slice (some ⟨H.nx,0,none⟩) n.toNat n.toNat)) (H.alloc (.cells sz (List.replicate n.toNat z).flatten)) r:=by
 obtain ⟨F,a,d,h,c,p,l⟩:=cB q;rw [hi]at d;cases d;subst x A;have B:n≤9223372036854775807:=by rw [IntKind.wrap_i64]at s;omega
 have j:a.cells.size=i.size:=by rw [←l,←c];simp
 rw [run_make w t e i a u hi h k k n n D (Int.le_refl _) (by omega) B]at g;have b:=fk a.cells i.size j n.toNat;rw [c]at b;have f:=all_replicate p n.toNat;obtain ⟨E,G⟩:=R.new C (w':=w.alloc (.cells (madeCells a.cells (n.toNat*i.size)) e)) (z:=i.size) (cs:=(List.replicate n.toNat z).flatten) rfl rfl rfl rfl (by rw [←b];simp) (gw (by rw [b];exact VL.same f) (bD f)) y;refine ⟨_,_,_,g,E,G,.inl ⟨_,rfl,?_⟩⟩;have:=V.sl (φ:=φ.add H.nx ⟨w.heap.size,0,(madeCells a.cells (n.toNat*i.size)).size,i.size⟩) (o:=0) (n:=n.toNat) (aF.eP φ H.nx ⟨w.heap.size,0,(madeCells a.cells (n.toNat*i.size)).size,i.size⟩) (OL n.toNat) id (.inl rfl)
 simpa using this
theorem gA:∀(l:List Value) (k off:Nat) (arr:Array Value),off+k+l.length≤arr.size→
 ((l.zipIdx k).foldl (fun(cs:Array Value) (x:Value×Nat)=>cs.setIfInBounds (off+x.2) x.1) arr).toList=bw arr.toList (off+k) l
 |[],k,off,arr,h=>by
  rw [cC _ _ _ (by simpa using h)];simp
 |v::l,k,off,arr,h=>by
  simp only [List.zipIdx_cons,List.foldl_cons];rw [gA l (k+1) off _ (by simp at h⊢;omega)];rw [cC _ _ _ (by simp at h⊢;omega),cC _ _ _ (by simp at h⊢;omega)];apply List.ext_getElem?;intro j;simp only [Array.toList_setIfInBounds,List.length_cons]at*;by_cases a:j<off+k
  ·rw [O6,O6,OU (by simp;omega),OU (by simp;omega),Pg,Pg,if_pos (by omega),if_pos a,O5 (by omega)]
  ·by_cases h2:j=off+k
   ·subst h2
    rw [O6,OU (by simp;omega),Pg,if_pos (by omega),Pj (by simp;omega)];rw [O6,OY (by simp;omega),List.cons_append];simp;rw [show off+k- min (off+k) arr.size=0 by omega];rfl
   ·by_cases b:j<off+k+1+l.length
    ·rw [O6,OY (by simp;omega),OU (by simp;omega)]
     rw [O6,OY (by simp;omega),OU (by simp;omega)];simp;rw [show j- min (off+k) arr.size=(j- min (off+(k+1)) arr.size)+1 by omega];simp
    ·rw [OY (by simp;omega),OY (by simp;omega),Pm,Pm]
     rw [O5 (by simp;omega)];congr 1;simp;omega
theorem kP:∀{ps:List (Nat×Nat×Value)} {ps':List (Nat×Value)} {c c2:List Value} {arr:Array Value} {place:Nat→Option (Nat×Nat)},
 ps.length=ps'.length→(∀(j:Nat) (p:Nat×Nat×Value),ps[j]?=some p→∃d:Nat×Value,ps'[j]?=some d∧place d.1=some (p.1,p.2.1)∧V φ p.2.2 d.2)→
 eC c ps=some c2→VL φ c arr.toList→c.all one=true→∃f,Instr.fill place arr ps'=some f∧VL φ c2 f.toList∧c2.all one=true
 |[],[],c,c2,arr,place,_,_,h,e,b=>by simp [eC]at h;subst h;exact ⟨arr,rfl,e,b⟩
 |[],_::_,_,_,_,_,h,_,_,_,_=>by simp at h
 |_::_,[],_,_,_,_,h,_,_,_,_=>by simp at h
 |(off,n,v)::ps,(E,a)::ps',c,c2,arr,place,A,k,h,e,b=>by
  obtain ⟨d,q,o,i⟩:=k 0 (off,n,v) (by simp);simp at q;subst q;dsimp only at o i;unfold eC at h;obtain ⟨m,h⟩:=ai h;simp only [nb,OK,OT,Bool.not_eq_true']at m;obtain ⟨⟨z,G⟩,u⟩:=m;have l:=i.cells;have F:a.cells.size=n:=by rw [←z,l.length];simp
  have I:arr.size=c.length:=by rw [e.length];simp
  have y:VL φ (bw c off (aE v)) (bw arr.toList off a.cells.toList):=VL.bw off e l;have C:=gA a.cells.toList 0 off arr (by simp;omega)
  have D:(a.cells.zipIdx.foldl (fun cs (x:Value×Nat)=>cs.setIfInBounds (off+x.2) x.1) arr).toList=bw arr.toList off a.cells.toList:=by
   rw [←Array.foldl_toList,Array.toList_zipIdx]
   simpa using C
  obtain ⟨f,t,s,r⟩:=kP (ps:=ps) (ps':=ps') (arr:=a.cells.zipIdx.foldl (fun cs (x:Value×Nat)=>cs.setIfInBounds (off+x.2) x.1) arr) (place:=place) (by simpa using A) (fun j p B=>by simpa using k (j+1) p (by simpa using B)) h (by rw [D];exact y) (by
   rw [cC _ _ _ (by omega)];simp only [List.all_append,fT i u,Bool.and_true,OK];rw [OX]at b
   exact ⟨OX.2 fun x g=>b x (List.mem_of_mem_take g),OX.2 fun x g=>b x (List.mem_of_mem_drop g)⟩)
  refine ⟨f,?_,s,r⟩;unfold Instr.fill;rw [o];simp only;rw [if_neg (by simp;omega)];exact t
theorem Rel.xP {w0 w w':World} {φ:aF} {H:AH} (R:Rel w0 φ H w) (M:φ.m H.nx=none) (z:w'.heap=w.heap.push (.map #[] 0)) (U:w'.os=w.os) (O:w'.tape=w.tape) (T:w'.output=w.output):
 Rel w0 (φ.add H.nx ⟨w.heap.size,0,0,0⟩) (H.alloc (.map [])) w'∧bx φ H w (φ.add H.nx ⟨w.heap.size,0,0,0⟩) (H.alloc (.map [])) w':=by
 have i:φ.le (φ.add H.nx ⟨w.heap.size,0,0,0⟩):=aF.kN M;have Q:w0.heap.size≤w.heap.size:=R.below.size;have p:∀k,k<w.heap.size→w'.heap[k]?=w.heap[k]?:=fun k y=>by rw [z,Array.getElem?_push,if_neg (by omega)]
 have old:∀b l,φ.n0≤b→φ.m b=some l→(H.raw b).isSome=true→l.c<w.heap.size:=by
  intro b l e g S
  cases d:H.raw b with
  |none=>simp [d]at S
  |some bF=>
   cases bF with
   |cells o c=>
    obtain ⟨_,_,_,a,n,j,_⟩:=R.cells b l o c e g d;exact (OV.1 j).1
   |map es=>
    obtain ⟨_,a,n,j,_⟩:=R.maps b l es e g d;exact (OV.1 j).1
 refine ⟨?_,?_⟩
 ·refine ⟨R.n0,R.j1,by rw [AH.bP];have:=R.iN;exact Nat.le_succ_of_le this,R.c0,?_,?_,?_,?_,?_,?_,?_,R.l8⟩
  ·refine ⟨U.trans R.below.os,O.trans R.below.tape,T.trans R.below.output,?_,fun k y=>?_⟩
   ·rw [z,Array.size_push];omega
   ·rw [p k (by omega)];exact R.below.block k y
  ·intro b e
   exact i _ _ (R.dz b e)
  ·intro b o c e d
   have D:b<φ.n0:=e;rw [AH.aV,if_neg (by have:=R.iN;omega)]at d;obtain ⟨n,Y,N⟩:=R.eG b o c e d;exact ⟨n,Y,by rw [p b (by have:=R.j1;have:=R.c0;omega)];exact N⟩
  ·intro b l o c e g d
   rw [AH.aV]at d;simp only [aF.add]at g;by_cases q:b=H.nx
   ·rw [if_pos q]at d
    cases d
   ·rw [if_neg q]at d g
    obtain ⟨f,h2,t,a,n,j,r,X,W⟩:=R.cells b l o c e g d;exact ⟨f,h2,t,a,n,by rw [p _ (OV.1 j).1];exact j,r,X.mono i,W⟩
  ·intro b l es e g d
   rw [AH.aV]at d;simp only [aF.add]at g;by_cases q:b=H.nx
   ·rw [if_pos q]at d g
    cases d;cases g;exact ⟨by show φ.c0≤w.heap.size;rw [R.c0];exact Q,#[],0,by rw [z];simp,.nil⟩
   ·rw [if_neg q]at d g
    obtain ⟨f,a,n,j,r⟩:=R.maps b l es e g d;exact ⟨f,a,n,by rw [p _ (OV.1 j).1];exact j,r.mono i⟩
  ·intro F E J I L K f h2 v u C
   rw [AH.aV]at v u;simp only [aF.add]at f h2;by_cases B:F=H.nx<;>by_cases A:E=H.nx
   ·rw [B,A]
   ·rw [if_pos B]at f
    rw [if_neg A]at h2 u;cases f;have:=old E I K h2 u;simp at C;omega
   ·rw [if_neg B]at f v
    rw [if_pos A]at h2;cases h2;have:=old F J L f v;simp at C;omega
   ·rw [if_neg B]at f v
    rw [if_neg A]at h2 u;exact R.inj F E J I L K f h2 v u C
  ·intro b s Z
   obtain ⟨f,h2,l,t,j,r⟩:=R.j9 b s Z;have V:b≠H.nx:=by rintro rfl;rw [M]at t;cases t
   refine ⟨f,by rw [AH.aV,if_neg V];exact h2,l,i _ _ t,j,r.jh rfl (fun k y _=>p k y) fun b' l' a1 x G=>?_⟩;rw [AH.aV]at G;simp only [aF.add]at x;by_cases D:b'=H.nx
   ·rw [if_pos D]at x
    cases x;exact .inr (.inl (OL _))
   ·rw [if_neg D]at x G
    exact .inl ⟨a1,x,G⟩
 ·refine ⟨i,rfl,rfl,by rw [AH.bP];exact O8 _,?_,by rw [z,Array.size_push];exact O8 _⟩
  ·intro b l h k
   simp only [aF.add]at k;split at k
   ·rename_i e;subst e;exact ⟨OL _,by rw [AH.bP];exact OW _⟩
   ·rw [h]at k;cases k
theorem Rel.rn {w0 w w':World} {φ:aF} {H:AH} (R:Rel w0 φ H w) {b ck:Nat} {c c':List (Value×Value)} {l:Loc} {es':Array MapEntry} (A:φ.n0≤b) (r:φ.m b=some l) (j:H.get b=some (.map c))
 (M:w'.heap[l.c]?=some (.map es' ck)) (t:∀k,k≠l.c→w'.heap[k]?=w.heap[k]?) (E:w'.heap.size=w.heap.size) (T:w'.os=w.os) (Q:w'.tape=w.tape) (S:w'.output=w.output)
 (u:ML φ c' es'.toList):
 Rel w0 φ (H.put b (some (.map c'))) w'∧bx φ H w φ (H.put b (some (.map c'))) w':=by
 have j:=AH.cL j;obtain ⟨g1,a0,e0,g4,g5⟩:=R.maps b l c A r j;refine ⟨⟨R.n0,R.j1,R.iN,R.c0,?_,R.dz,?_,?_,?_,?_,?_,R.l8⟩,?_⟩
 ·refine ⟨T.trans R.below.os,Q.trans R.below.tape,S.trans R.below.output,by rw [E];exact R.below.size,fun k h=>?_⟩
  rw [t k (by have:=R.c0;omega)];exact R.below.block k h
 ·intro x B d i f
  rw [AH.aW,if_neg (by omega)]at f;obtain ⟨z,fz,W⟩:=R.eG x B d i f;refine ⟨z,fz,?_⟩;rw [t x (by have:=R.j1;omega)];exact W
 ·intro x n B d i o f
  rw [AH.aW]at f;by_cases g:x=b
  ·rw [if_pos g]at f;cases f
  ·rw [if_neg g]at f
   obtain ⟨p,h2,C,a,z,y,q,h6,h7⟩:=R.cells x n B d i o f;refine ⟨p,h2,C,a,z,?_,q,h6,h7⟩;rw [t]
   ·exact y
   ·intro u
    exact g (R.inj x b n l i A o r (by simp [f]) (by simp [j]) u)
 ·intro x n es i o f
  rw [AH.aW]at f;by_cases g:x=b
  ·subst g
   rw [if_pos rfl]at f;cases f;rw [r]at o;cases o;exact ⟨g1,es',ck,M,u⟩
  ·rw [if_neg g]at f
   obtain ⟨p,a,z,y,q⟩:=R.maps x n es i o f;refine ⟨p,a,z,?_,q⟩;rw [t]
   ·exact y
   ·intro u
    exact g (R.inj x b n l i A o r (by simp [f]) (by simp [j]) u)
 ·intro b1 b2 J I Z Y p h2 G F X
  have live:∀x,((H.put b (some (.map c'))).raw x).isSome=true→(H.raw x).isSome=true:=by
   intro x i;rw [AH.aW]at i;by_cases g:x=b
   ·subst g;simp [j]
   ·rw [if_neg g]at i;exact i
  exact R.inj b1 b2 J I Z Y p h2 (live _ G) (live _ F) X
 ·intro x s eb
  obtain ⟨p,h2,n,C,y,q⟩:=R.j9 x s eb;have U:x≠b:=by rintro rfl;rw [j]at h2;cases h2
  obtain ⟨L,K⟩:=q.apart b l A r (by simp [j]);refine ⟨p,by rw [AH.aW,if_neg U];exact h2,n,C,y,q.jh rfl (fun k _ V=>t k ?_) fun b' l' a1 a2 D=>.inl ⟨a1,a2,?_⟩⟩
  ·rcases V with rfl|⟨v,O,N⟩
   ·exact fun e=>L e.symm
   ·exact fun e=>K v O (e▸N)
  ·rw [AH.aW]at D
   by_cases g:b'=b
   ·subst g;simp [j]
   ·rw [if_neg g]at D;exact D
 ·exact ⟨aF.le_refl _,rfl,rfl,OL _,fun _ _ h k=>(by rw [h]at k;cases k),by rw [E];exact OL _⟩
theorem jn {kk:Nat} {k:Value} (h:bf kk k=true):flat k=true:=by
 rcases kk with _|_|_|kk<;>cases k<;>first|rfl|(simp [bf]at h)
theorem jo {kk:Nat} {kt:TypeId} {d:TypeDesc} {k e:Value} {b:Bool} (j:P.underlying kt=some d) (f:aL P kt=some kk) (g:bf kk k=true) (h:dN k e=some b):Instr.sameNow d k e=some b∧bf kk e=true∧(b=true→k=e):=by
 unfold aL at f;rw [j]at f;cases d<;>simp at f<;>subst f
 case int=>
  cases k<;>simp [bf]at g;cases e<;>simp [dN]at h;rename_i m a l c;obtain ⟨rfl,rfl⟩:=h;exact ⟨by simp [Instr.sameNow],rfl,by simp⟩
 case string=>
  cases k<;>simp [bf]at g;cases e<;>simp [dN]at h;rename_i a c;subst h;refine ⟨?_,rfl,?_⟩
  ·simp [Instr.sameNow,beq_toListBytes,ByteArray.toList_eq]
  ·intro i
   simp at i
   have:a=c:=by
    obtain ⟨⟨a⟩⟩:=a;obtain ⟨⟨c⟩⟩:=c;simp at i;rw [i]
   rw [this]
 case bool=>
  cases k<;>simp [bf]at g;cases e<;>simp [dN]at h;subst h;exact ⟨by simp [Instr.sameNow],rfl,by simp⟩
theorem oD {kk:Nat} {kt:TypeId} {d:TypeDesc} {k:Value} (p:P.underlying kt=some d) (o:aL P kt=some kk) (m:bf kk k=true):
 ∀{es:List (Value×Value)} {l:List MapEntry} {r:Option Value} (i:Nat),ML φ es l→dW k es=some r→
  (r=none∧Instr.findNow d k l i=some none)∨∃v v' j e,r=some v∧Instr.findNow d k l i=some (some (i+j,v'))∧V φ v v'∧l[j]?=some e∧e.key=k
 |_,_,r,i,.nil,h=>by simp [dW]at h;subst h;exact .inl ⟨rfl,rfl⟩
 |_,_,r,i,.cons (k:=t) (v:=v) (v':=v') (n:=n) x y,h=>by
  simp only [dW]at h
  cases a:dN k t with
  |none=>simp [a]at h
  |some b=>
   obtain ⟨c,C,B⟩:=jo p o m a
   cases b with
   |true=>
    simp [a]at h;subst h;refine .inr ⟨v,v',0,_,rfl,?_,x,rfl,(B rfl).symm⟩;simp [Instr.findNow,c]
   |false=>
    simp only [a]at h;rcases oD p o m (i+1) y h with⟨f,g⟩|⟨s,q,j,e,f,g,u,z,A⟩
    ·exact .inl ⟨f,by simp [Instr.findNow,c,g]⟩
    ·refine .inr ⟨s,q,j+1,e,f,?_,u,by simpa using z,A⟩
     simp [Instr.findNow,c,g];omega
theorem rp {kk:Nat} {kt:TypeId} {d:TypeDesc} {k u c:Value} (y:P.underlying kt=some d) (x:aL P kt=some kk) (s:bf kk k=true) (f:V φ u c):
 ∀{es q:List (Value×Value)} {l:List MapEntry} (i:Nat),ML φ es l→iI k u es=some q→
  (Instr.findNow d k l i=some none∧∀n,ML φ q (l++[⟨k,c,n⟩]))∨∃v' j e,Instr.findNow d k l i=some (some (i+j,v'))∧l[j]?=some e∧e.key=k∧ML φ q (l.modify j fun e=>{e with key:=k,val:=c})
 |_,_,_,i,.nil,h=>by
  simp [iI]at h;subst h;exact .inl ⟨rfl,fun n=>.cons f .nil⟩
 |_,_,_,i,.cons (k:=A) (v:=v) (v':=v') (n:=n) (l:=es) (l':=l) r t,h=>by
  simp only [iI]at h
  cases a:dN k A with
  |none=>simp [a]at h
  |some b=>
   obtain ⟨g,E,D⟩:=jo y x s a
   cases b with
   |true=>
    simp [a]at h;subst h;refine .inr ⟨v',0,_,?_,rfl,(D rfl).symm,?_⟩
    ·simp [Instr.findNow,g]
    ·simpa using ML.cons f t
   |false=>
    simp only [a]at h
    cases m:iI k u es with
    |none=>simp [m]at h
    |some F=>
     simp [m]at h;subst h;rcases rp y x s f (i+1) t m with⟨p,o⟩|⟨z,j,e,p,B,C,o⟩
     ·exact .inl ⟨by simp [Instr.findNow,g,p],fun n=>.cons r (o n)⟩
     ·refine .inr ⟨z,j+1,e,?_,by simpa using B,C,?_⟩
      ·simp [Instr.findNow,g,p]
       omega
      ·simpa using ML.cons r o
theorem run_checkKey {kk:Nat} {kt:TypeId} {d:TypeDesc} (c:P.underlying kt=some d) (a:aL P kt=some kk) (b:Bool) (n:Nat) (k:Value) (w:World):(Instr.checkKey b (n+1) kt k).run P w= .ok () w:=by
 unfold aL at a;rw [c]at a;cases d<;>simp at a<;>simp [Instr.checkKey,run_underlying c]
theorem kb {kk:Nat} {k:Value} (h:bf kk k=true) (n:Nat):Instr.sameBits n k k=true:=by
 rcases kk with _|_|_|kk<;>cases k<;>simp [bf]at h<;>simp [Instr.sameBits,beq_toListBytes]
end
end
section
open Go Go.RowKit
section
variable{P:Program} {w0 w:World} {φ:aF} {H:AH}
def nz (P:Program) (f:Nat):Prop:=∃fn,P.funcs[f]?=some fn∧fn.body.isNone=false∧(fn.name== "runtime.NumGoroutine")=false
theorem gE {f:Nat} (h:nz P f) (as:Array Value) (w:World):(callFunc f as).run P w= .ok (.enter f as) w:=by
 obtain ⟨fn,d,h2,b⟩:=h;have a:¬ fn.name= "runtime.NumGoroutine":=by simpa using b
 have c:fn.body≠none:=by intro e;rw [e]at h2;cases h2
 simp [callFunc,d,c,a]
theorem cw.enter {f:Nat} {as:List Value} {as':Array Value} {r:Result Next} (R:Rel w0 φ H w) (h:VL φ as as'.toList) (a:r= .ok (.enter f as') w):cw w0 φ H w (.enter f as) H r:=
 ⟨φ,w,_,a,R,bx.refl _ _ _,as',rfl,h⟩
theorem nA {φ:aF} {c:Fr} {a:Act} (F:eR φ c a) {x:Option Operand} {y:Option X} (h:z3 x=some y):VO φ (y.map (X.ev c)) (x.map a.eval):=by
 cases x with
 |none=>simp [z3]at h;subst h;exact .none
 |some x=>
  simp only [z3]at h
  cases b:cX x with
  |none=>simp [b]at h
  |some z=>simp [b]at h;subst h;exact .some (bc F b)
theorem wy:∀{l l':List Value} {v v' r:Value},VL φ l l'→V φ v v'→wc v l=some r→∃r',(l'.foldlM Builtin.max2 v').run P w= .ok r' w∧V φ r r'
 |_,_,v,v',r,.nil,c,h=>by
  simp [wc]at h;subst h;exact ⟨v',by simp,c⟩
 |_,_,v,v',r,.cons (v:=u) a b,c,h=>by
  cases v<;>cases u<;>simp [wc]at h;rw [c.int,a.int];obtain ⟨r',d,h2⟩:=wy b (.same rfl) h;refine ⟨r',?_,h2⟩
  simpa [Builtin.max2]using d
theorem wz:∀{l l':List Value} {v v' r:Value},VL φ l l'→V φ v v'→we v l=some r→∃r',(l'.foldlM Builtin.min2 v').run P w= .ok r' w∧V φ r r'
 |_,_,v,v',r,.nil,c,h=>by
  simp [we]at h;subst h;exact ⟨v',by simp,c⟩
 |_,_,v,v',r,.cons (v:=u) a b,c,h=>by
  cases v<;>cases u<;>simp [we]at h;rw [c.int,a.int];obtain ⟨r',d,h2⟩:=wz b (.same rfl) h;refine ⟨r',?_,h2⟩
  simpa [Builtin.min2]using d
theorem rq {a b a' b':Value} {r:Bool} (h:dN a b=some r) (d:V φ a a') (c:V φ b b'):a'=a∧b'=b:=by
 unfold dN at h;split at h
 ·exact ⟨d.int,c.int⟩
 ·exact ⟨d.string,c.string⟩
 ·exact ⟨d.bool,c.bool⟩
 ·cases h
theorem oE {e:TypeId} {kk:Nat} (f:aL P e=some kk) {x y:Value} {r:Bool} (j:bf kk x=true) (h:dN x y=some r) (d:Nat) (w:World) {cs ds:Array Value} {o:Nat} (i:cs[o]?=some x) (g:ds[o]?=some y):
 (part e cs o).run P w= .ok x w∧(part e ds o).run P w= .ok y w∧(Op.equalIn (d+1) e x y).run P w= .ok r w:=by
 unfold aL at f
 cases c:P.underlying e with
 |none=>simp [c]at f
 |some ty=>
  cases ty<;>simp [c]at f<;>subst f
  case int q=>
   cases x<;>simp [bf]at j;cases y<;>simp [dN]at h;rename_i k a l b;obtain ⟨rfl,rfl⟩:=h;refine ⟨?_,?_,run_equalIn_int w d e k q a b c⟩<;>simp [part,isAgg,run_underlying c,i,g]
  case string=>
   cases x<;>simp [bf]at j;cases y<;>simp [dN]at h;rename_i a b;subst h;refine ⟨?_,?_,?_⟩
   ·simp [part,isAgg,run_underlying c,i]
   ·simp [part,isAgg,run_underlying c,g]
   ·rw [run_equalIn_string w d e a b c];simp [ByteArray.toList_eq]
  case bool=>
   cases x<;>simp [bf]at j;cases y<;>simp [dN]at h;rename_i a b;subst h;refine ⟨?_,?_,run_equalIn_bool' w d e a b c⟩<;>simp [part,isAgg,run_underlying c,i,g]
theorem iy {cs ds k j:Array Value} (n:VL φ cs.toList k.toList) (m:VL φ ds.toList j.toList) (d:Nat) (w:World):∀(c:List Field) (b:Bool),(c.all fun f=>f.name != "_" &&(aL P f.type).isSome)=true→
 bq cs.toList ds.toList (c.map fun f=>(f.offset,(aL P f.type).getD 9))=some b→(Op.eqFields (d+1) k j c).run P w= .ok b w
 |[],b,_,h=>by simp [bq]at h;subst h;simp [Op.eqFields]
 |f::c,b,l,h=>by
  simp only [List.all_cons,OK]at l;obtain ⟨⟨D,E⟩,A⟩:=l
  cases i:aL P f.type with
  |none=>simp [i]at E
  |some kk=>
   simp only [List.map_cons,i,Option.getD_some,bq]at h
   cases e:cs.toList[f.offset]? with
   |none=>simp [e]at h
   |some x=>
    cases g:ds.toList[f.offset]? with
    |none=>simp [e,g]at h
    |some y=>
     simp only [e,g]at h;obtain ⟨B,h⟩:=ai h
     cases a:dN x y with
     |none=>simp [a]at h
     |some r=>
      obtain ⟨G,z,v⟩:=n.get _ _ e;obtain ⟨F,u,t⟩:=m.get _ _ g;obtain ⟨rfl,rfl⟩:=rq a v t;obtain ⟨s,q,p⟩:=oE (P:=P) i B a d w (cs:=k) (ds:=j) (o:=f.offset) (by simpa using z) (by simpa using u);have C:f.name≠ "_":=by simpa using D
      simp only [Op.eqFields,if_pos C,Sem.run_bind,s,q,p,Result.andThen_ok]
      cases r with
      |true=>
       simp only [a]at h
       simpa using iy n m d w c b A h
      |false=>
       simp only [a]at h;cases h;simp
theorem xS {neg:Bool} {cs ds:Array Value} {x' g:Value} {b:Bool} {t:TypeId} {fs:Array Field} (R:Rel w0 φ H w) (k:P.underlying t=some (.struct fs)) (u:(fs.toList.all fun f=>f.name != "_" &&(aL P f.type).isSome)=true) (p:P.stoodInHeld t=false) (s:P.eqGuardType P.depth t=false)
 (h:bq cs.toList ds.toList (fs.toList.map fun f=>(f.offset,(aL P f.type).getD 9))=some b) (n:V φ (.agg cs) x') (m:V φ (.agg ds) g) (j i:Operand) {r:Result Next} {op:BinOp} (q:op=bif neg then .neq else .eql)
 (e:r=((do eqGuard op t j i x' g;binOp op t x' g:Sem Value).run P w).andThen fun v w=>.ok (.value v) w):cw w0 φ H w (.v (.bool (bif neg then !b else b))) H r:=by
 obtain ⟨d,rfl,y,_⟩:=n.p7;obtain ⟨c,rfl,x,_⟩:=m.p7;have l:P.fieldsOf t=fs:=by simp [Program.fieldsOf,k]
 have o:P.underlying t=some (.struct (P.fieldsOf t)):=by rw [l];exact k
 have a:(Op.equalIn 10000 t (.agg d) (.agg c)).run P w= .ok b w:=by
  rw [run_equalIn_struct w 9999 t d c o p,l];exact iy y x 9998 w fs.toList b u h
 refine .pure R (.same rfl) ?_;rw [e,Sem.run_bind,run_eqGuard_agg w op t j i d c s];simp only [Result.andThen_ok];subst q;cases neg
 ·show((binOp .eql t (.agg d) (.agg c)).run P w).andThen _=_
  rw [run_eql_struct,a];rfl
 ·show((binOp .neq t (.agg d) (.agg c)).run P w).andThen _=_
  rw [run_neq_struct,a];rfl
theorem hG {g:Fr} {a:Act} (F:eR φ g a) {place:Nat→Option (Nat×Nat)}:∀{ps:List (Nat×Operand)} {l:List (Nat×Nat×X)},cN place ps=some l→
 (l.map fun p=>(p.1,p.2.1,p.2.2.ev g)).length=(ps.map fun p=>(p.1,a.eval p.2)).length∧
 ∀(j:Nat) (p:Nat×Nat×Value),(l.map fun p=>(p.1,p.2.1,p.2.2.ev g))[j]?=some p→∃d:Nat×Value,(ps.map fun p=>(p.1,a.eval p.2))[j]?=some d∧place d.1=some (p.1,p.2.1)∧V φ p.2.2 d.2
 |[],l,h=>by simp [cN]at h;subst h;exact ⟨rfl,fun j p h=>by simp at h⟩
 |(i,x)::ps,l,h=>by
  simp only [cN]at h
  cases b:place i with
  |none=>simp [b]at h
  |some on=>
   cases c:cX x with
   |none=>simp [b,c]at h
   |some y=>
    cases e:cN place ps with
    |none=>simp [b,c,e]at h
    |some m=>
     simp [b,c,e]at h;subst h;obtain ⟨k,h2⟩:=hG F e;refine ⟨by simpa using k,fun j p f=>?_⟩
     cases j with
     |zero=>simp at f;subst f;exact ⟨(i,a.eval x),by simp,b,bc F c⟩
     |succ j=>simpa using h2 j p (by simpa using f)
end
end
section
open Go Go.RowKit
section
variable{P:Program} {w0 w:World} {φ:aF} {H:AH}
theorem fX {t:TypeId} {n:Nat} (h:bp P t=some n):∃i,P.info? t=some i∧i.size=n:=by
 unfold bp at h
 cases hi:P.info? t with
 |none=>simp [hi]at h
 |some i=>simp [hi]at h;exact ⟨i,rfl,h⟩
theorem uq {A:Fr} {a:Act} (F:eR φ A a) (R:Rel w0 φ H w) (j5:φ.m H.nx=none) {c:Call} {U:aY} (j:qZ P c=some U) {res:dw} {W:AH} (h:aB U (X.ev A) H=some (res,W)) (Z:∀f as,res= .enter f as→nz P f) (ty:TypeId):
 cw w0 φ H w res W ((do let d←resolve a.eval c ty;invoke d.target d.args:Sem Next).run P w):=by
 obtain ⟨callee,args,argTypes⟩:=c;unfold qZ at j;dsimp only at j
 cases callee with
 |invoke x m=>cases j
 |value x=>
  cases x with
  |func f=>
   simp only at j
   cases p:pZ args.toList with
   |none=>simp [p]at j
   |some as=>
    simp [p]at j;subst j;simp only [aB,OH,OP]at h;obtain ⟨rfl,rfl⟩:=h;refine .enter R (as':=args.map a.eval) (by simpa using fU F p) ?_;have:=gE (Z f _ rfl) (args.map a.eval) w;simp [resolve,Act.eval,Deferred.ofValue,invoke,this]
  |tmp t=>
   simp only [cX]at j
   cases p:pZ args.toList with
   |none=>simp [p]at j
   |some as=>
    simp [p]at j;subst j;simp only [aB]at h;have D:=F t;simp only [X.ev]at h;cases k:A.get t<;>simp [k]at h;rename_i fn first cap
    cases fn<;>simp at h;obtain ⟨rfl,rfl⟩:=h;rename_i f;rw [k]at D;obtain ⟨L,b',e,K,h2⟩:=V.K6 D;have G:a.eval (.tmp t)= .func (.func f) L b':=e;refine .enter R (as':=L++args.map a.eval++b') (by simpa using K.append ((fU F p).append h2)) ?_;have:=gE (Z f _ rfl) (L++args.map a.eval++b') w;simp [resolve,G,Deferred.ofValue,invoke]
    simpa using this
  |const v=>
   simp only [cX]at j;split at j
   ·rename_i y as o p
    cases j;split at o
    ·rename_i cR
     cases o;simp only [aB,X.ev]at h;cases v<;>simp at h;simp [lW,flat]at cR
    ·cases o
   ·cases j
  |global g=>simp [cX]at j
 |builtin b=>
  simp only at j;split at j
  ·
   rename_i x t rest B I;have C:args= #[x]:=Array.ext' (by simpa using B);have Q:argTypes[0]?=some t:=by rw [←Array.getElem?_toList,I];rfl
   subst C;split at j
   ·rename_i y q o
    cases j;have D:=bc F o;simp only [aB]at h;cases k:y.ev A<;>simp [k]at h;obtain ⟨rfl,rfl⟩:=h;rw [k]at D;refine .pure R (.same rfl) ?_;simp [resolve,invoke,builtin,Builtin.len_,Q,run_underlying q,D.string];rfl
   ·rename_i e y q o
    cases j;have D:=bc F o;simp only [aB]at h;cases k:y.ev A<;>simp [k]at h;obtain ⟨rfl,rfl⟩:=h;rw [k]at D;obtain ⟨L,c',G,_⟩:=V.xB D;refine .pure R (.same rfl) ?_;simp [resolve,invoke,builtin,Builtin.len_,Q,run_underlying q,G];rfl
   ·rename_i n e y q o
    cases j;simp only [aB,OH,OP]at h;obtain ⟨rfl,rfl⟩:=h;refine .pure R (.same rfl) ?_;simp [resolve,invoke,builtin,Builtin.len_,Q,run_underlying q];rfl
   ·cases j
  ·
   rename_i s x t u B I;have C:args= #[s,x]:=Array.ext' (by simpa using B);have O:argTypes= #[t,u]:=Array.ext' (by simpa using I);subst C O
   have key:∀{e:TypeId} {y z:X},P.underlying t=some (.slice e)→((∃G,P.underlying u=some (.slice G))∨P.underlying u=some .string)→cX s=some y→cX x=some z→
    (match P.info? e with|some i=>if i.size=0∨i.bytes=0∨(ch P e).isNone∨e=BY then none else some (aY.app i.size i.bytes y z)|none=>none)=some U→cw w0 φ H w res W ((do let d←resolve a.eval {callee:=.builtin .append,args:=#[s,x],argTypes:=#[t,u]} ty;invoke d.target d.args:Sem Next).run P w):=by
    intro e y z q J o E j
    cases hi:P.info? e with
    |none=>simp [hi]at j
    |some i=>
     simp only [hi]at j;split at j
     ·cases j
     ·rename_i S
      cases j
      have Lj:(ch P e).isSome=true:=by
       cases ht:ch P e with
       |none=>exact absurd (.inr (.inr (.inl (by simp [ht])))) S
       |some l=>rfl
      obtain ⟨l,hl⟩:=Pk.1 Lj;obtain ⟨i',zv,Y,ma,qJ,_,xO⟩:=cB hl;rw [hi]at Y;cases Y;simp only [aB]at h
      cases k:aK i.size i.bytes H (y.ev A) (z.ev A)with
      |none=>simp [k]at h
      |some r=>
       obtain ⟨v,H1⟩:=r;simp [k]at h;obtain ⟨rfl,rfl⟩:=h;refine xL (P:=P) (t:=t) (tx:=u) (ty:=ty) (e:=e) (i:=i) (z:=zv) R j5 q hi ma (by rw [←xO,←qJ];simp) (fun e=>S (.inr (.inr (.inr e)))) rfl (fun e=>S (.inl e)) rfl J (bc F o) (bc F E) k ?_;simp [resolve,invoke,builtin]
   split at j
   ·rename_i e G y z q J o E;exact key q (.inl ⟨G,J⟩) o E j
   ·rename_i e y z q J o E;exact key q (.inr J) o E j
   ·cases j
  ·
   rename_i s x t u B I;have C:args= #[s,x]:=Array.ext' (by simpa using B);have O:argTypes= #[t,u]:=Array.ext' (by simpa using I);subst C O;split at j
   ·rename_i e y z q o E
    cases T:bp P e with
    |none=>simp [T]at j
    |some n=>
     simp [T]at j;subst j;simp only [aB]at h
     cases k:eN n H (y.ev A) (z.ev A)with
     |none=>simp [k]at h
     |some r=>
      obtain ⟨v,H1⟩:=r;simp [k]at h;obtain ⟨rfl,rfl⟩:=h;refine uk (P:=P) (t:=t) (tx:=u) (ty:=ty) (e:=e) R q T (bc F o) (bc F E) k ?_;simp [resolve,invoke,builtin]
   ·cases j
  ·
   rename_i x l B;have C:args.toList=x::l:=B;split at j
   ·rename_i y M o N
    cases j;simp only [aB]at h
    cases k:wc (y.ev A) (M.map (X.ev A))with
    |none=>simp [k]at h
    |some v=>
     simp [k]at h;obtain ⟨rfl,rfl⟩:=h;obtain ⟨r',K,h2⟩:=wy (P:=P) (w:=w) (fU F N) (bc F o) k;refine .pure R h2 ?_;simp [resolve,invoke,builtin,Builtin.max_,C,K]
   ·cases j
  ·
   rename_i x l B;have C:args.toList=x::l:=B;split at j
   ·rename_i y M o N
    cases j;simp only [aB]at h
    cases k:we (y.ev A) (M.map (X.ev A))with
    |none=>simp [k]at h
    |some v=>
     simp [k]at h;obtain ⟨rfl,rfl⟩:=h;obtain ⟨r',K,h2⟩:=wz (P:=P) (w:=w) (fU F N) (bc F o) k;refine .pure R h2 ?_;simp [resolve,invoke,builtin,Builtin.min_,C,K]
   ·cases j
  ·cases j
theorem ru {fr:Fr} {a:Act} (F:eR φ fr a) (R:Rel w0 φ H w) {t:TypeId} {m k x:Operand} {U:aY} {res:dw} {W:AH}
 (o:(match P.underlying t,cX m,cX k,cX x with|some (.map kt _),some a,some b,some c=>(aL P kt).map fun kk=>aY.qF kk a b c|_,_,_,_=>none)=some U) (h:aB U (X.ev fr) H=some (res,W)):
 cw w0 φ H w res W ((do Instr.mapUpdate t (a.eval m) (a.eval k) (a.eval x);pure .skip:Sem Next).run P w):=by
 split at o
 case h_2=>cases o
 rename_i kt e m' f Y D hm hk Z
 cases g:aL P kt with
 |none=>simp [g]at o
 |some kk=>
  simp [g]at o;subst o;have Q:=bc F hm;have h2:=bc F hk;have h3:=bc F Z
  have FM:∃d,P.underlying kt=some d:=by
   unfold aL at g
   cases i:P.underlying kt with
   |none=>simp [i]at g
   |some d=>exact ⟨d,rfl⟩
  obtain ⟨d,i⟩:=FM;simp only [aB]at h;split at h
  case h_2=>cases h
  rename_i r A;split at h
  case h_2=>cases h
  rename_i es L;obtain ⟨n,h⟩:=ai h;simp only [OK,OT]at n;rw [A]at Q;obtain ⟨l,J,T⟩:=V.Fu Q;have I:φ.n0≤r:=by rw [←R.n0];exact n.1.2
  obtain ⟨_,es',ck,y,nu⟩:=R.maps r l es I J (AH.cL L)
  have K:a.eval k=f.ev fr:=by
   have M:=jn n.1.1;have O:=n.1.1
   cases uo:f.ev fr<;>rw [uo]at M h2 O<;>simp [flat]at M<;>first
    |exact h2.int
    |exact h2.string
    |exact h2.bool
    |(rcases kk with _|_|_|kk<;>simp [bf]at O)
  have N:(Instr.checkKey false 10000 kt (f.ev fr)).run P w= .ok () w:=run_checkKey (P:=P) i g false 9999 _ w;have E:(getObj l.c).run P w= .ok (.map es' ck) w:=by simp [getObj,Sem.run,y]
  have c7:l.c<w.heap.size:=(OV.1 y).1;have set:∀u:Obj,(setObj l.c u).run P w= .ok () {w with heap:=w.heap.setIfInBounds l.c u}:=by intro u;simp [setObj,Sem.run,y]
  cases z:iI (f.ev fr) (Y.ev fr) es with
  |none=>simp [z]at h
  |some S=>
   simp only [z,Option.map_some,OH,OP]at h;obtain ⟨rfl,rfl⟩:=h
   have done:∀(p:Array MapEntry) (s:Nat),ML φ S p.toList→(Instr.mapUpdate t (a.eval m) (a.eval k) (a.eval x)).run P w= .ok () {w with heap:=w.heap.setIfInBounds l.c (.map p s)}→
    cw w0 φ H w (.v undef) (H.put r (some (.map S))) ((do Instr.mapUpdate t (a.eval m) (a.eval k) (a.eval x);pure .skip:Sem Next).run P w):=by
    intro p s FO fW;obtain ⟨R',G⟩:=R.rn (w':={w with heap:=w.heap.setIfInBounds l.c (.map p s)}) (es':=p) (ck:=s) I J L (by simp [c7]) (fun q A=>by simp [Array.getElem?_setIfInBounds_ne (Ne.symm A)]) (by simp) rfl rfl rfl FO;exact ⟨φ,_,_,by rw [Sem.run_bind,fW];rfl,R',G,.inr ⟨rfl,rfl⟩⟩
   rcases rp (P:=P) i g n.1.1 h3 0 nu z with⟨C,B⟩|⟨v',j,en,C,hj,AU,B⟩
   ·refine done (es'.push ⟨f.ev fr,a.eval x,ck⟩) (ck+1) (by simpa using B ck) ?_
    rw [T,K];simp [Instr.mapUpdate,run_underlying D,E,N,Instr.findKey,run_underlying i,C,set]
   ·refine done (es'.modify j fun e=>{e with key:=f.ev fr,val:=a.eval x}) ck (by simpa using B) ?_
    rw [T,K];have AZ:es'[j]?=some en:=by simpa using hj
    simp [Instr.mapUpdate,run_underlying D,E,N,Instr.findKey,run_underlying i,C,set,AZ,AU,Instr.keyThatStays,kb n.1.1]
theorem A0 {fr:Fr} {a:Act} (F:eR φ fr a) (R:Rel w0 φ H w) (j5:φ.m H.nx=none) {o:Oper} {ao:aY} (q:Di P o=some ao) {res:dw} {H':AH} (h:aB ao (X.ev fr) H=some (res,H')) (hf:∀f as,res= .enter f as→nz P f):
 cw w0 φ H w res H' ((execOp a.eval o).run P w):=by
 obtain ⟨dst,op,ty,pos,after,guard⟩:=o;unfold Di at q;unfold execOp;dsimp only at q⊢;cases op<;>simp only at q⊢
 case move x=>
  cases A:cX x with
  |none=>simp [A]at q
  |some y=>simp [A]at q;subst q;exact oB F R A h (by simp)
 case assign x=>
  cases A:cX x with
  |none=>simp [A]at q
  |some y=>simp [A]at q;subst q;exact oB F R A h (by simp)
 case pick c x y=>
  split at q
  ·rename_i c' x' y' Dl A hy
   cases q;simp only [aB]at h;have B:=bc F Dl;cases u:c'.ev fr<;>simp [u]at h;rename_i b;obtain ⟨rfl,rfl⟩:=h;rw [u]at B;cases b
   ·exact .pure R (bc F hy) (by simp [B.bool,asBool])
   ·exact .pure R (bc F A) (by simp [B.bool,asBool])
  ·cases q
 case alloc e=>
  split at q
  ·cases q
  rename_i cQ
  cases L:ch P e with
  |none=>simp [L]at q
  |some z=>
   simp [L]at q;subst q;simp only [aB,OH,OP]at h;obtain ⟨rfl,rfl⟩:=h;obtain ⟨i,v,hi,B,A1⟩:=ra L R j5 (fun e=>cQ (.inl e))
   have:((do pure (Next.value (←Instr.alloc e true (.tuple #[]))):Sem Next)).run P w= .ok (.value (.pointer (some ⟨w.heap.size,0,none⟩))) {w with heap:=w.heap.push (.cells v.cells e)}:=by
    simp [Instr.alloc,zeroValue,typeInfo,hi,B,newVar,newRow]
   rw [this];exact A1
 case box e x=>
  split at q
  ·cases q
  rename_i cQ
  cases A:cX x with
  |none=>simp [A]at q
  |some y=>
   simp [A]at q;subst q;simp only [aB]at h
   cases ht:bu (y.ev fr)with
   |true=>simp [ht]at h
   |false=>
    simp [ht]at h;obtain ⟨rfl,rfl⟩:=h;have:=xE R j5 (bc F A) ht e cQ
    have hr:((do pure (Next.value (←Instr.box e (a.eval x))):Sem Next)).run P w= .ok (.value (.pointer (some ⟨w.heap.size,0,none⟩))) {w with heap:=w.heap.push (.cells (a.eval x).cells e)}:=by
     simp [Instr.box,newVar,newRow]
    rw [hr];exact this
 case build t ps=>
  have key:∀{place:Nat→Option (Nat×Nat)} {z:List Value} {l:List (Nat×Nat×X)},ch P t=some z→cN place ps.toList=some l→aY.build z l=ao→
   (∀N,(P.info? t).bind (·.zero)=some N→∀cells,Instr.fill place N.cells (ps.map fun p=>(p.1,a.eval p.2)).toList=some cells→(Instr.build t (ps.map fun p=>(p.1,a.eval p.2))).run P w= .ok (.agg cells) w)→
   cw w0 φ H w res H' ((do pure (Next.value (←Instr.build t (ps.map fun p=>(p.1,a.eval p.2)))):Sem Next).run P w):=by
   intro place z l L K Lk fW;subst Lk;obtain ⟨i,N,hi,Q,qJ,wv,xO⟩:=cB L;obtain ⟨J,M⟩:=hG F K;simp only [aB,List.map_map]at h
   cases u:eC z (l.map fun p=>(p.1,p.2.1,p.2.2.ev fr))with
   |none=>simp [u]at h
   |some c=>
    simp [u]at h;obtain ⟨rfl,rfl⟩:=h;obtain ⟨gC,q1,q2,q3⟩:=kP (φ:=φ) (ps:=l.map fun p=>(p.1,p.2.1,p.2.2.ev fr)) (ps':=ps.toList.map fun p=>(p.1,a.eval p.2)) (place:=place) (arr:=N.cells) J M u (by rw [qJ];exact VL.same wv) (bD wv);have:=fW N (by simp [hi,Q]) gC (by simpa using q1);refine .pure R (.agg (a':=gC) (by simpa using q3) (by simpa using q2)) ?_;simp [this]
  split at q
  ·rename_i W z C L
   split at q
   ·rename_i pl A2
    cases K:cN (fun i=>pl[i]?) ps.toList with
    |none=>simp [K]at q
    |some l=>
     simp [K]at q;refine key L K q ?_;intro N Q cells oG
     cases hi:P.info? t with
     |none=>simp [hi]at Q
     |some i=>
      simp [hi]at Q;refine run_build w t _ cells ?_;unfold Program.built;simp [hi,C,Q,A2]
      simpa using oG
   ·cases q
  ·rename_i n e z C L
   split at q
   ·rename_i n D
    cases K:cN (fun i=>some (i*n,n)) ps.toList with
    |none=>simp [K]at q
    |some l=>
     simp [K]at q;refine key L K q ?_;intro N Q cells oG
     cases hi:P.info? t with
     |none=>simp [hi]at Q
     |some i=>
      simp [hi]at Q;simp [Instr.build,zeroValue,typeInfo,hi,Q,run_underlying C,aQ D];simp at oG;simp [oG]
   ·cases q
  ·cases q
 case buildSlice t len ps=>
  split at q
  ·rename_i e C
   split at q
   ·rename_i n z D L
    split at q
    ·cases q
    ·rename_i T
     cases K:cN (fun i=>some (i*n,n)) ps.toList with
     |none=>simp [K]at q
     |some l=>
      simp [K]at q;subst q;obtain ⟨i,N,hi,Q,qJ,wv,xO⟩:=cB L;obtain ⟨i',j4,Ll⟩:=fX D;rw [hi]at j4;cases j4;obtain ⟨J,M⟩:=hG F K;simp only [aB,List.map_map]at h;have cR:=all_replicate wv len;have wA:=fk N.cells n (by rw [←Ll,←xO,←qJ];simp) len;rw [qJ]at wA
      cases u:eC (List.replicate len z).flatten (l.map fun p=>(p.1,p.2.1,p.2.2.ev fr))with
      |none=>simp [u]at h
      |some c=>
       simp [u]at h;obtain ⟨rfl,rfl⟩:=h;obtain ⟨gC,q1,q2,q3⟩:=kP (φ:=φ) (ps:=l.map fun p=>(p.1,p.2.1,p.2.2.ev fr)) (ps':=ps.toList.map fun p=>(p.1,a.eval p.2)) (place:=fun i=>some (i*n,n)) (arr:=madeCells N.cells (len*n)) J M u (by rw [wA];exact VL.same cR) (bD cR)
       have hr:((do pure (Next.value (←Instr.buildSlice t len (ps.map fun p=>(p.1,a.eval p.2)))):Sem Next)).run P w= .ok (.value (.slice (some ⟨w.heap.size,0,none⟩) len len)) {w with heap:=w.heap.push (.cells gC e)}:=by
        have Lm:¬ (2^24<len*n):=by omega
        have eS:(Instr.fill (fun i=>some (i*n,n)) (madeCells (if len*n=0 then #[]else N.cells) (len*n)) (ps.toList.map fun p=>(p.1,a.eval p.2)))=some gC:=by
         by_cases U:len*n=0
         ·rw [if_pos U,U]
          rw [U]at q1;have:madeCells (#[]:Array Value) 0=madeCells N.cells 0:=by simp [madeCells]
          rw [this];exact q1
         ·rw [if_neg U];exact q1
        by_cases U:len*n=0
        ·rw [if_pos U]at eS
         simp only [madeCells]at eS;simp [Instr.buildSlice,run_underlying C,aQ D,U];rw [U]at eS;simp at eS;simp [eS,newRow]
        ·rw [if_neg U]at eS
         simp only [madeCells]at eS;simp [Instr.buildSlice,run_underlying C,aQ D,U,Lm,zeroValue,typeInfo,hi,Q];simp [eS,newRow]
       rw [hr];obtain ⟨R',G⟩:=R.new j5 (w':={w with heap:=w.heap.push (.cells gC e)}) (z:=n) (cs:=c) (arr:=gC) (e:=e) rfl rfl rfl rfl (by rw [q2.length];simp) (gw q2 q3) (fun e=>T (.inr (.inr e)));refine ⟨_,_,_,rfl,R',G,.inl ⟨_,rfl,?_⟩⟩;have:=V.sl (φ:=φ.add H.nx ⟨w.heap.size,0,gC.size,n⟩) (o:=0) (n:=len) (aF.eP φ H.nx ⟨w.heap.size,0,gC.size,n⟩) (OL len) id (.inl rfl)
       simpa using this
   ·cases q
  ·cases q
 case load t x=>
  split at q
  ·rename_i y xU A
   cases D:bp P t with
   |none=>simp [D]at q
   |some n=>
    simp [D]at q;subst q;have B:=bc F A;simp only [aB]at h;cases u:y.ev fr<;>simp [u]at h;rename_i p;cases p<;>simp at h;rename_i ad
    cases fI:H.ldn ad n with
    |none=>simp [fI]at h
    |some vs=>
     simp [fI]at h;obtain ⟨rfl,rfl⟩:=h;rw [u]at B;obtain ⟨a',dX,J,M,e3,e4,e5⟩:=rb R B fI;refine .pure R (.agg (a':=dX.toArray) (by simpa using e3) (by simpa using e4)) ?_;have:=run_loadCells_list (P:=P) w a' dX e5;rw [M]at this;simp [Instr.loadAt,J,Instr.sureAddr,loadVar,dY xU,aQ D,this]
  ·rename_i y xU A
   cases q;have B:=bc F A;simp only [aB]at h;cases u:y.ev fr<;>simp [u]at h;rename_i p;cases p<;>simp at h;rename_i ad
   cases fI:H.ld ad with
   |none=>simp [fI]at h
   |some v=>
    simp [fI]at h;obtain ⟨rfl,rfl⟩:=h;rw [u]at B;obtain ⟨a',v',J,M,e3⟩:=wk R B fI;refine .pure R e3 ?_;simp [Instr.loadAt,J,Instr.sureAddr,loadVar,dY xU,M]
  ·cases q
 case store t x v=>
  split at q
  ·rename_i y z A B
   cases D:bp P t with
   |none=>simp [D]at q
   |some n=>
    simp [D]at q;subst q;have I:=bc F A;have h2:=bc F B;simp only [aB]at h;cases u:y.ev fr<;>simp [u]at h;rename_i p;cases p<;>simp at h;rename_i ad;rw [u]at I
    cases E:(Nat.beq (aE (z.ev fr)).length n&& !bu (z.ev fr))with
    |false=>simp [E]at h
    |true=>
     simp only [E,cond_true]at h;simp [nb]at E
     cases hC:H.st ad (aE (z.ev fr))with
     |none=>simp [hC]at h
     |some H1=>
      simp [hC]at h;obtain ⟨rfl,rfl⟩:=h;obtain ⟨a',w',J,M,R',G⟩:=oC (P:=P) R I hC h2.cells (fT h2 E.2);refine ⟨φ,w',_,?_,R',G,.inr ⟨rfl,rfl⟩⟩;have T:(a.eval v).cells.size=n:=by rw [←E.1,h2.cells.length];simp
      simp [Instr.storeAt,J,Instr.sureAddr,storeVar,aQ D,T,M]
  ·cases q
 case nilCheck x=>
  cases A:cX x with
  |none=>simp [A]at q
  |some y=>
   simp [A]at q;subst q;have B:=bc F A;simp only [aB]at h;cases u:y.ev fr<;>simp [u]at h;rename_i p;cases p<;>simp at h;obtain ⟨rfl,rfl⟩:=h;rw [u]at B;obtain ⟨l,I,h2,h3⟩:=V.l7 B;refine .pure R B ?_;simp [h3]
 case binOp op t x y ty2=>
  split at q
  ·rename_i x' y' A hy
   have I:=bc F A;have h2:=bc F hy
   have FQ:∀v,ba op (x'.ev fr) (y'.ev fr)=some v→res= .v v∧H'=H→cw w0 φ H w res H' ((do pure (Next.value (←(do eqGuard op t x y (a.eval x) (a.eval y);binOp op t (a.eval x) (a.eval y)))):Sem Next).run P w):=by
    rintro v B ⟨rfl,rfl⟩;refine xG (P:=P) R B I h2 t x y ?_;rw [Sem.run_bind];rfl
   have fE:ao= .bin op x' y'→cw w0 φ H w res H' ((do pure (Next.value (←(do eqGuard op t x y (a.eval x) (a.eval y);binOp op t (a.eval x) (a.eval y)))):Sem Next).run P w):=by
    rintro rfl;simp only [aB]at h
    cases u:ba op (x'.ev fr) (y'.ev fr)with
    |none=>simp [u]at h
    |some v=>simp [u]at h;exact FQ v u ⟨h.1.symm,h.2.symm⟩
   have heq:∀k neg,jg P t=some k→(op=bif neg then .neq else .eql)→ao= .eqk k neg x' y'→cw w0 φ H w res H' ((do pure (Next.value (←(do eqGuard op t x y (a.eval x) (a.eval y);binOp op t (a.eval x) (a.eval y)))):Sem Next).run P w):=by
    rintro k neg hk j3 rfl;simp only [aB]at h
    cases u:cH k (x'.ev fr) (y'.ev fr)with
    |none=>simp [u]at h
    |some b=>
     simp [u]at h;obtain ⟨rfl,rfl⟩:=h;refine xH (P:=P) R hk u I h2 x y j3 ?_;rw [Sem.run_bind];rfl
   have A3:∀W neg,P.underlying t=some (.struct W)→((W.toList.all fun f=>f.name != "_" &&(aL P f.type).isSome)&& !P.stoodInHeld t&& !P.eqGuardType P.depth t)=true→(op=bif neg then .neq else .eql)→ao= .eqs neg (W.toList.map fun f=>(f.offset,(aL P f.type).getD 9)) x' y'→
    cw w0 φ H w res H' ((do pure (Next.value (←(do eqGuard op t x y (a.eval x) (a.eval y);binOp op t (a.eval x) (a.eval y)))):Sem Next).run P w):=by
    rintro W neg C E j3 rfl;simp only [OK,Bool.not_eq_true']at E;simp only [aB]at h
    cases u:x'.ev fr<;>simp only [u]at h<;>first
     |(cases h;done)
     |skip
    rename_i cs
    cases Z:y'.ev fr<;>simp only [Z]at h<;>first
     |(cases h;done)
     |skip
    rename_i ds
    cases xV:bq cs.toList ds.toList (W.toList.map fun f=>(f.offset,(aL P f.type).getD 9))with
    |none=>simp [xV]at h
    |some b=>
     simp only [xV,Option.map_some,OH,OP]at h;obtain ⟨rfl,rfl⟩:=h;rw [u]at I;rw [Z]at h2;refine xS (P:=P) R C E.1.1 E.1.2 E.2 xV I h2 x y j3 ?_;rw [Sem.run_bind];rfl
   split at q
   ·cases q;exact fE rfl
   ·cases q;exact fE rfl
   ·rename_i W C
    split at q
    ·rename_i E
     split at q
     ·cases q;exact A3 W false C E rfl rfl
     ·cases q;exact A3 W true C E rfl rfl
     ·cases q
    ·cases q
   ·split at q
    ·rename_i k hk;cases q;exact heq k false hk rfl rfl
    ·rename_i k hk;cases q;exact heq k true hk rfl rfl
    ·cases q
  ·cases q
 case unOp op t x=>
  cases A:cX x with
  |none=>simp [A]at q
  |some y=>
   simp [A]at q;subst q;have B:=bc F A;simp only [aB]at h
   cases u:wb op (y.ev fr)with
   |none=>simp [u]at h
   |some v=>
    simp [u]at h;obtain ⟨rfl,rfl⟩:=h;unfold wb at u;split at u
    ·rename_i b O
     cases u;rw [O]at B;refine .pure R (.same rfl) ?_;simp [B.bool,Op.unary]
    ·rename_i k n O
     cases u;rw [O]at B;refine .pure R (.same rfl) ?_;simp [B.int,Op.unary,Op.intArith]
    ·cases u
 case convert src dst x=>
  split at q
  ·rename_i k1 k y FR z8 A
   cases q;have B:=bc F A;simp only [aB]at h;cases u:y.ev fr<;>simp [u]at h;obtain ⟨rfl,rfl⟩:=h;rw [u]at B;refine .pure R (.same rfl) ?_;simp [convert,run_underlying FR,run_underlying z8,B.int,Conv.intToInt]
  ·rename_i k1 y FR z8 A
   cases q;have B:=bc F A;simp only [aB]at h;cases u:y.ev fr<;>simp [u]at h;obtain ⟨rfl,rfl⟩:=h;rw [u]at B;refine .pure R (.same rfl) ?_;simp [convert,run_underlying FR,run_underlying z8,B.int,Conv.intToString]
  ·cases q
 case makeFunc fn first cap=>
  cases fn<;>simp only at q
  case func f=>
   split at q
   ·rename_i xs ys A hy
    cases q;simp only [aB,OH,OP]at h;obtain ⟨rfl,rfl⟩:=h;refine .pure R (.fn (a':=first.map a.eval) (b':=cap.map a.eval) (by simpa using fU F A) (by simpa using fU F hy)) ?_;simp [Instr.makeFunc]
   ·cases q
  all_goals cases q
 case makeMap t r=>
  cases r with
  |some r=>cases q
  |none=>
   cases q;simp only [aB,OH,OP]at h;obtain ⟨rfl,rfl⟩:=h;obtain ⟨R',G⟩:=R.xP j5 (w':={w with heap:=w.heap.push (.map #[] 0)}) rfl rfl rfl rfl;refine ⟨_,_,.value (.map (some w.heap.size)),?_,R',G,.inl ⟨_,rfl,.mp (l:=⟨w.heap.size,0,0,0⟩) (aF.eP _ _ _)⟩⟩;simp [Instr.makeMap]
 case makeSlice t l c=>
  split at q
  ·rename_i e C
   split at q
   ·rename_i i z x hi L A
    split at q
    ·rename_i E
     cases q;have B:=bc F A;simp only [aB]at h;cases u:x.ev fr<;>simp [u]at h;rename_i k n;rw [u]at B
     have Dq:a.eval c=a.eval l:=by
      have Y:=E.1;unfold iv at Y;split at Y
      ·simp at Y;rw [Y]
      ·simp at Y;obtain ⟨rfl,rfl⟩:=Y;rfl
      ·cases Y
     cases nr:(decide (0≤n)&&decide (IntKind.i64.wrap n=n)&&decide ((i.bytes:Int)*n≤140737488355328))with
     |false=>rw [nr]at h;simp at h
     |true=>
      rw [nr]at h;simp only [cond_true,OH,OP]at h;obtain ⟨rfl,rfl⟩:=h;simp only [OK,OT]at nr;refine um (P:=P) (k:=k) R j5 C hi L E.2.2.2 rfl rfl nr.1.1 nr.1.2 (by have:=nr.2;omega) ?_;rw [Dq,B.int,Sem.run_bind];rfl
    ·cases q
   ·cases q
  ·cases q
 case slice t x lo hi mx=>
  split at q
  ·rename_i x' nq j4 qb A FT Ln kl
   have key:∀sz,ao= .sl sz x' nq j4 qb→(∀v,a5 sz H (x'.ev fr) (nq.map (X.ev fr)) (j4.map (X.ev fr)) (qb.map (X.ev fr))=some v→(P.underlying t=some .string∧∃s,x'.ev fr= .string s)∨(∃e,P.underlying t=some (.slice e)∧bp P e=some sz∧∃a n c,x'.ev fr= .slice a n c))→
    cw w0 φ H w res H' ((do pure (Next.value (←Instr.sliceAt t (a.eval x) (lo.map a.eval) (hi.map a.eval) (mx.map a.eval))):Sem Next).run P w):=by
    rintro sz rfl Lo;simp only [aB]at h
    cases u:a5 sz H (x'.ev fr) (nq.map (X.ev fr)) (j4.map (X.ev fr)) (qb.map (X.ev fr))with
    |none=>simp [u]at h
    |some v=>
     simp [u]at h;obtain ⟨rfl,rfl⟩:=h;obtain ⟨v',J,M⟩:=qc (P:=P) (t:=t) R (Lo v u) u (bc F A) (nA F FT) (nA F Ln) (nA F kl);refine .pure R M ?_;simp [J]
   split at q
   ·rename_i C
    cases q;refine key 0 rfl (fun v B=>.inl ⟨C,?_⟩);unfold a5 at B;split at B
    ·split at B
     ·cases B
     ·obtain ⟨O,_⟩:=ai B
      simp [nb]at O
    ·exact ⟨_,by assumption⟩
    ·cases B
   ·rename_i e C
    cases D:bp P e with
    |none=>simp [D]at q
    |some n=>
     simp only [D]at q;split at q
     ·cases q
     ·rename_i gl
      cases q;refine key n rfl (fun v B=>.inr ⟨e,C,D,?_⟩);unfold a5 at B;split at B
      ·exact ⟨_,_,_,by assumption⟩
      ·split at B
       ·cases B
       ·split at B
        ·cases B
        ·obtain ⟨O,_⟩:=ai B
         simp [nb]at O;exact absurd O gl
      ·cases B
   ·cases q
  ·cases q
 case fieldAddr s x f=>
  split at q
  ·rename_i W y C A
   split at q
   ·rename_i g hg
    split at q
    ·rename_i n D
     split at q
     ·cases q
     ·rename_i gl
      cases q;have B:=bc F A;simp only [aB]at h;cases u:y.ev fr<;>simp [u]at h;rename_i p;cases p<;>simp at h;rename_i ad;obtain ⟨dU,h⟩:=ai h;simp only [OH,OP]at h;obtain ⟨rfl,rfl⟩:=h;rw [u]at B;obtain ⟨l,I,h2,h3⟩:=V.l7 B;refine .pure R (.ptr h2) ?_;simp [Instr.fieldAt,run_underlying C,hg,h3,Instr.sureAddr,fieldPlace,aQ D,gl,add_lit,Nat.add_assoc,Nat.add_comm,Nat.add_left_comm]
    ·cases q
   ·cases q
  ·cases q
 case indexAddr t x i=>
  split at q
  ·rename_i e y z C A hi
   cases D:bp P e with
   |none=>simp [D]at q
   |some n=>
    simp [D]at q;subst q;have I:=bc F A;have h2:=bc F hi;simp only [aB]at h;split at h
    case h_2=>cases h
    rename_i ad len cap k j u Z;split at h
    case isFalse=>cases h
    rename_i hj;obtain ⟨dU,h⟩:=ai h;simp only [OH,OP]at h;obtain ⟨rfl,rfl⟩:=h;rw [u]at I;rw [Z]at h2;rcases V.qG I with⟨l,c',_,K,_,_,_,J⟩|⟨Y,_⟩
    ·refine .pure R (.ptr K) ?_
     simp [Instr.indexAt,h2.int,asIntOf,run_underlying C,J,hj,aQ D,add_lit,Nat.add_assoc,Nat.add_comm,Nat.add_left_comm]
    ·rw [Y]at dU;simp at dU
  ·rename_i len e y z C A hi
   cases D:bp P e with
   |none=>simp [D]at q
   |some n=>
    simp [D]at q;subst q;have I:=bc F A;have h2:=bc F hi;simp only [aB]at h;split at h
    case h_2=>cases h
    rename_i ad k j u Z;split at h
    case isFalse=>cases h
    rename_i hj;obtain ⟨dU,h⟩:=ai h;simp only [OH,OP]at h;obtain ⟨rfl,rfl⟩:=h;rw [u]at I;rw [Z]at h2;obtain ⟨l,_,K,J⟩:=V.l7 I;refine .pure R (.ptr K) ?_;simp [Instr.indexAt,h2.int,asIntOf,run_underlying C,J,Instr.sureAddr,hj,aQ D,add_lit,Nat.add_assoc,Nat.add_comm,Nat.add_left_comm]
  ·cases q
 case index t x i=>
  split at q
  ·rename_i y z C A hi
   cases q;have I:=bc F A;have h2:=bc F hi;simp only [aB]at h;cases u:y.ev fr<;>simp [u]at h;rename_i s;cases Z:z.ev fr<;>simp [Z]at h;rename_i k j;obtain ⟨hj,h⟩:=h
   cases O:s[j.toNat]? with
   |none=>simp [O]at h
   |some b=>
    simp [O]at h;obtain ⟨rfl,rfl⟩:=h;rw [u]at I;rw [Z]at h2;refine .pure R (.same rfl) ?_;simp [Instr.index,I.string,h2.int,asIntOf,run_underlying C,hj,O]
  ·cases q
 case makeInterface t x=>
  split at q
  ·cases q
  ·rename_i d y Lp C A
   cases q;simp only [aB,OH,OP]at h;obtain ⟨rfl,rfl⟩:=h;refine .pure R (.iface (bc F A)) ?_
   cases d<;>first
    |(simp [Instr.makeInterface,run_underlying C];done)
    |exact absurd rfl (Lp _)
  ·cases q
 case extract x i=>
  cases A:cX x with
  |none=>simp [A]at q
  |some y=>
   simp [A]at q;subst q;have B:=bc F A;simp only [aB]at h;cases u:y.ev fr<;>simp [u]at h;rename_i vs
   cases hj:vs[i]? with
   |none=>simp [hj]at h
   |some v=>
    simp [hj]at h;obtain ⟨rfl,rfl⟩:=h;rw [u]at B;obtain ⟨dX,J,M⟩:=V.Fv B;obtain ⟨v',e3,e4⟩:=M.get i v (by simpa using hj);refine .pure R e4 ?_;have Lq:dX[i]?=some v':=by simpa using e3
    simp [Instr.extract,J,Lq]
 case call c=>exact uq F R j5 q h hf ty
 case lookup t x k ok=>
  split at q
  ·rename_i kt e x' k' C A hk
   split at q
   ·rename_i z L
    split at q
    ·rename_i kk qK
     split at q
     ·rename_i cR
      cases q;have I:=bc F A;have h2:=bc F hk
      have FM:∃d,P.underlying kt=some d:=by
       unfold aL at qK
       cases hd:P.underlying kt with
       |none=>simp [hd]at qK
       |some d=>exact ⟨d,rfl⟩
      obtain ⟨d,hd⟩:=FM
      have S:(zeroValue e).run P w= .ok z w:=by
       cases hi:P.info? e with
       |none=>simp [hi]at L
       |some i=>simp [hi]at L;simp [zeroValue,typeInfo,hi,L]
      simp only [aB]at h;split at h
      ·rename_i u
       obtain ⟨Od,h⟩:=ai h;simp only [OH,OP]at h;obtain ⟨rfl,rfl⟩:=h;rw [u]at I;have qL:=run_checkKey (P:=P) hd qK true 9999 (a.eval k) w
       have fW:(Instr.lookup t (a.eval x) (a.eval k) ok).run P w= .ok (if ok then .tuple #[z,.bool false]else z) w:=by
        rw [I.K5];simp [Instr.lookup,run_underlying C,qL,Instr.findKey,run_underlying hd,Instr.findNow,S]
       refine .pure (x':=if ok then .tuple #[z,.bool false]else z) R ?_ (by simp [fW]);cases ok
       ·exact V.l6 cR
       ·exact .tuple (.cons (V.l6 cR) (.cons (.same rfl) .nil))
      ·rename_i r u
       split at h
       case h_2=>cases h
       rename_i es hg;obtain ⟨E,h⟩:=ai h;simp only [OK,OT]at E;rw [u]at I;obtain ⟨l,K,J⟩:=V.Fu I;obtain ⟨_,es',ck,hw,nu⟩:=R.maps r l es (by rw [←R.n0];exact E.2) K (AH.cL hg)
       have rv:a.eval k=k'.ev fr:=by
        have hf:=jn E.1
        cases uo:k'.ev fr<;>rw [uo]at hf h2 E<;>simp [flat]at hf<;>first
         |exact h2.int
         |exact h2.string
         |exact h2.bool
         |(rcases kk with _|_|_|kk<;>simp [bf]at E)
       have qL:=run_checkKey (P:=P) hd qK es'.isEmpty 9999 (a.eval k) w
       cases Dr:dW (k'.ev fr) es with
       |none=>simp [Dr]at h
       |some ro=>
        have rz:(getObj l.c).run P w= .ok (.map es' ck) w:=by simp [getObj,Sem.run,hw]
        have ur:(Instr.checkKey es'.isEmpty 10000 kt (a.eval k)).run P w= .ok () w:=qL;rcases oD (P:=P) hd qK E.1 0 nu Dr with⟨rfl,xT⟩|⟨v,v',j,en,rfl,xT,IS,_,_⟩
        ·simp only [Dr,OH,OP]at h
         obtain ⟨rfl,rfl⟩:=h
         have fW:(Instr.lookup t (a.eval x) (a.eval k) ok).run P w= .ok (if ok then .tuple #[z,.bool false]else z) w:=by
          rw [J];rw [rv]at ur⊢;simp [Instr.lookup,run_underlying C,rz,ur,Instr.findKey,run_underlying hd,xT,S]
         refine .pure (x':=if ok then .tuple #[z,.bool false]else z) R ?_ (by simp [fW]);cases ok
         ·exact V.l6 cR
         ·exact .tuple (.cons (V.l6 cR) (.cons (.same rfl) .nil))
        ·simp only [Dr,OH,OP]at h
         obtain ⟨rfl,rfl⟩:=h
         have fW:(Instr.lookup t (a.eval x) (a.eval k) ok).run P w= .ok (if ok then .tuple #[v',.bool true]else v') w:=by
          rw [J];rw [rv]at ur⊢;simp [Instr.lookup,run_underlying C,rz,ur,Instr.findKey,run_underlying hd,xT]
         refine .pure (x':=if ok then .tuple #[v',.bool true]else v') R ?_ (by simp [fW]);cases ok
         ·exact IS
         ·exact .tuple (.cons IS (.cons (.same rfl) .nil))
      ·cases h
     ·cases q
    ·cases q
   ·cases q
  ·cases q
 case mapUpdate t m k x=>exact ru F R q h
 case insert t m k x=>exact ru F R q h
 all_goals cases q
end
end
end Go.Proofs.Ytediokhgklkhnaa.A
