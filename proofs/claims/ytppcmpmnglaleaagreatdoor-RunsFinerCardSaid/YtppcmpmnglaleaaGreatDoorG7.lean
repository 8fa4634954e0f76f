/- Texts that stand one behind the other: Abs7, Abs8, Abs9, AbsA. -/
import Derived.Test.YtppcmpmnglaleaaGreatDoorG6
import Derived.Deep.Upon
set_option linter.unusedVariables false
set_option linter.unusedSimpArgs false
namespace Go.Proofs.YtppcmpmnglaleaaGreatDoor.A
section
open Go Go.RowKit
section
variable{P:Program} {w0 w:World} {φ:bD} {H:AH}
theorem rC {φ:bD}:∀(l:List UInt8),VL φ (l.map fun b=>.int .u8 b.toNat) (l.map fun b=>.int .u8 b.toNat)
 |[]=>.nil
 |b::l=>.cons (.same rfl) (rC l)
theorem O5 {sz n:Nat} {x x':Value} {new:List Value} {tx:TypeId} (R:Rel w0 φ H w) (i:V φ x x') (b:mA x=some n) (h:pq H sz x=some new)
 (e:(∃v,P.underlying tx=some (.slice v))∨P.underlying tx=some .string):
 ∃news,Src P sz tx x' n news w∧VL φ new news∧new.all one=true:=by
 unfold pq at h;split at h
 ·rename_i a d c
  simp [mA]at b;subst b;simp only [nb,Bool.cond_decide]at h;rcases V.EY i with⟨l,o,r,t,_,_,_,rfl⟩|⟨r,rfl,_,y,o,rfl⟩
  ·split at h
   ·rename_i m
    cases h;subst m;refine ⟨[],⟨e,fun _=>rfl,?_,?_,by simp,fun _ h=>by cases h⟩,.nil,rfl⟩
    ·simp [Builtin.firstCells,loadCells,loadCellsFrom]
    ·simp [Builtin.firstCells,loadCells,loadCellsFrom]
   ·obtain ⟨_,f,h2,g,k,q,p⟩:=R.ldn h t
    refine ⟨g,⟨e,fun _=>rfl,?_,?_,k,q.one f⟩,q,f⟩
    ·exact run_firstCells_some w sz d _ d o g k p
    ·exact run_firstCells_some w.drew sz d _ d o g k (by simpa using p)
  ·simp at h
   subst h;refine ⟨[],⟨e,fun _=>rfl,?_,?_,by simp,fun _ h=>by cases h⟩,.nil,rfl⟩
   ·simp [Builtin.firstCells,loadCells,loadCellsFrom]
   ·simp [Builtin.firstCells,loadCells,loadCellsFrom]
 ·rename_i d c
  simp [mA]at b;subst b;simp only [nb,Bool.cond_decide]at h;split at h
  ·rename_i m
   cases h;subst m;rw [i.SN];refine ⟨[],⟨e,fun _=>rfl,?_,?_,by simp,fun _ h=>by cases h⟩,.nil,rfl⟩
   ·simp [Builtin.firstCells]
   ·simp [Builtin.firstCells]
  ·cases h
 ·rename_i s
  simp [mA]at b;subst b;simp only [nb,Bool.cond_decide]at h;split at h
  ·rename_i f
   cases h;subst f;rw [i.string];refine ⟨byteCells s,⟨e,fun _=>rfl,firstCells_string s w,firstCells_string s w.drew,by rw [byteCells_length,Nat.mul_one],fun u j=>?_⟩,rC _,?_⟩
   ·obtain ⟨_,_,rfl⟩:=aru.1 j
    rfl
   ·rw [ara]
    intro u j;obtain ⟨_,_,rfl⟩:=aru.1 j;rfl
  ·cases h
 ·cases h
theorem mH (t tx ty e:TypeId) (i:TypeInfo) (g:P.underlying t=some (.slice e)) (hi:P.info? e=some i) (b off a c:Nat) (x:Value) (n:Nat) (news:List Value) (d:Src P i.size tx x n news w) {w':World}
 (j:a+n≤c) (h:(storeCells ⟨b,off+a*i.size,none⟩ news).run P w= .ok () w'):
 (Builtin.append_ #[t,tx] ty #[.slice (some ⟨b,off,none⟩) a c,x]).run P w= .ok (.slice (some ⟨b,off,none⟩) (a+n) c) w':=by
 rcases d.kind with⟨k,f⟩|f<;>simp [Builtin.append_,run_underlying g,run_underlying f,sizeOf,typeInfo,hi,d.len,j,d.cells,add_lit,h]
theorem grownCap_ge (w:World) (a old:Nat) (e:TypeId) (h:a<2^63):a≤grownCap w a old e:=by
 unfold grownCap;simp [Question.cut]
theorem rD (cs:List Value) (z:Array Value) (a cap sz:Nat) (b:z.size=sz) (c:cs.length=a*sz) (d:a≤cap):(cs.toArray++Builtin.zeroCells z (cap- a)).size=cap*sz:=by
 simp [size_zeroCells,b,c];rw [←Nat.add_mul];congr 1;omega
theorem wM {φ:bD} {cs a:List Value} (z:Array Value) (n:Nat) (h:VL φ cs a) (o:cs.all one=true):CR φ 0 cs (a.toArray++Builtin.zeroCells z n):=by
 intro j v b;obtain ⟨c,e,d⟩:=h.get j v b;refine ⟨ara.1 o v (aqZ b),c,?_,d⟩;have:j<a.length:=(aq0.1 e).1;rw [Nat.zero_add,Array.getElem?_append_left (by simpa using this)]
 simpa using e
theorem O7 {sz bytes:Nat} {s x s' x' v:Value} {H':AH} {t tx ty e:TypeId} {i:TypeInfo} {z:Value} (R:Rel w0 φ H w) (tn:φ.m H.nx=none) (N:P.underlying t=some (.slice e)) (hi:P.info? e=some i) (hz:i.zero=some z) (Yu:z.cells.size=i.size)
 (Yv:e≠BY) (jF:i.size=sz) (O8:sz≠0) (Fb:i.bytes=bytes) (S:(∃e',P.underlying tx=some (.slice e'))∨P.underlying tx=some .string)
 (B:V φ s s') (hx:V φ x x') (h:bc sz bytes H s x=some (v,H')) {r:Result Next} (q:r=((Builtin.append_ #[t,tx] ty #[s',x']).run P w).andThen fun v w=>.ok (.value v) w):
 fZ w0 φ H w (.v v) H' r:=by
 subst jF Fb;unfold bc at h;split at h
 case h_2=>cases h
 rename_i base sl sc n u;split at h
 ·rename_i h0
  subst h0;simp only [Bool.cond_decide]at h;split at h
  case isFalse=>cases h
  rename_i hle;cases h;obtain ⟨F,sc',rfl,hb⟩:=V.SO B
  have abv:sl≤sc':=by
   cases base with
   |none=>have he:=B.SN;simp at he;omega
   |some a=>
    rcases V.EY B with⟨l,d,_,_,wo,_,_,he⟩|⟨_,rfl,_,_⟩
    ·simp at he;omega
    ·omega
  have k8:Src P i.size tx x' 0 [] w:=by
   unfold mA at u;split at u
   ·simp at u
    subst u;obtain ⟨a',d,rfl,_⟩:=V.SO hx;refine ⟨S,fun _=>rfl,?_,?_,by simp,fun _ h=>by cases h⟩<;>cases a'<;>simp [Builtin.firstCells,loadCells,loadCellsFrom]
   ·rename_i s
    simp at u;rw [hx.string];refine ⟨S,fun _=>?_,?_,?_,by simp,fun _ h=>by cases h⟩
    ·simp [Builtin.lenOf,u]
    ·simp [Builtin.firstCells]
    ·simp [Builtin.firstCells]
   ·cases u
  rw [run_append_nothing w t tx ty e i N hi F sl sc' abv x' k8]at q;exact .pure R B q
 ·rename_i h0
  cases hq:pq H i.size x with
  |none=>simp [hq]at h
  |some new=>
   simp only [hq]at h;obtain ⟨news,y,M,Y⟩:=O5 (P:=P) R hx u hq S
   cases fI:(decide ((sl+n)*i.bytes≤2^47)&&decide (sl+n<2^62))with
   |false=>simp [fI]at h
   |true=>
    simp only [fI,cond_true]at h;simp at fI;obtain ⟨Ub,akL⟩:=fI;have SP:new.length=n*i.size:=by rw [M.length];exact y.newsLen
    split at h
    ·rename_i Fa
     cases base with
     |none=>cases h
     |some a=>
      simp only at h
      cases f:(H.j9 a.block i.size&&a.spot.isNone)with
      |false=>simp [f]at h
      |true=>
       simp only [f,cond_true]at h
       cases J:H.st ⟨a.block,a.off+sl*i.size,none⟩ new with
       |none=>simp [J]at h
       |some H1=>
        simp [J]at h;obtain ⟨rfl,rfl⟩:=h;simp at f;rcases V.EY B with⟨l,d,g,C,wo,qd,O4,rfl⟩|⟨g,_⟩
        ·have hp:V φ (.pointer (some ⟨a.block,a.off+sl*i.size,none⟩)) (.pointer (some ⟨l.c,a.off+sl*i.size+l.s,none⟩)):=.ptr C
         obtain ⟨a',w',W,e2,I,G⟩:=E6 (P:=P) R hp J M Y;simp at W;subst W;rw [show a.off+sl*i.size+l.s=a.off+l.s+sl*i.size by omega]at e2;rw [mH t tx ty e i N hi l.c (a.off+l.s) sl d x' n news y (by omega) e2]at q;refine ⟨φ,w',_,q,I,G,.inl ⟨_,rfl,?_⟩⟩;obtain ⟨b,o,sp⟩:=a;dsimp only at g⊢;subst g;exact .sl C wo qd O4
        ·rw [g]at f;simp at f
    ·rename_i Fa
     split at h
     ·rename_i Uc
      subst Uc;obtain ⟨D,h⟩:=aw h;simp only [aqV,aq2]at h;obtain ⟨rfl,rfl⟩:=h;simp only [nb,aqX,aq6]at D;obtain ⟨rfl,g⟩:=D
      have wv:∃F,s'= .slice F 0 0:=by
       cases base with
       |none=>exact ⟨none,B.SN⟩
       |some a=>
        rcases V.EY B with⟨l,d,_,C,wo,qd,O4,rfl⟩|⟨O,_⟩
        ·exact ⟨_,by rw [qd rfl]⟩
        ·dsimp only at g;rw [O]at g;simp at g
      obtain ⟨F,rfl⟩:=wv
      have p:(Builtin.firstCells i.size 0 (.slice F 0 0)).run P w.drew= .ok ([]:List Value).toArray w.drew:=by
       cases F<;>simp [Builtin.firstCells,loadCells,loadCellsFrom]
      have mY:=run_append_grow_src w t tx ty e i z N hi hz F 0 0 [] p x' n news y (by omega) (by omega) (by
       rw [Nat.zero_add]at*
       exact growslice_fits (by omega) (by simpa using Ub))
      rw [mY]at q;simp only [Nat.zero_add,List.nil_append]at q;have E:n≤grownCap w n 0 e:=grownCap_ge w n 0 e (by omega);have U:=rD news z.cells n (grownCap w n 0 e) i.size Yu y.newsLen E;obtain ⟨I,G⟩:=R.new tn (w':=w.drew.alloc (.cells (news.toArray++Builtin.zeroCells z.cells (grownCap w n 0 e- n)) e)) (z:=i.size) (cs:=new) rfl rfl rfl rfl (by rw [U,SP];exact Nat.mul_le_mul_right _ E) (wM _ _ M Y) Yv;refine ⟨_,_,_,q,I,G,.inl ⟨_,rfl,?_⟩⟩;refine .sl (bD.kX _ _ _) E (by omega) (.inr ?_);show 0+0+grownCap w n 0 e*i.size≤_;rw [U];simp
     ·rename_i Uc
      cases base with
      |none=>cases h
      |some a=>
       simp only at h
       cases D:(decide (H.n0≤a.block)&&a.spot.isNone&&H.j9 a.block i.size)with
       |false=>simp [D]at h
       |true=>
        simp only [D,cond_true]at h
        cases A:H.ldn a (sl*i.size)with
        |none=>simp [A]at h
        |some old=>
         simp [A]at h;obtain ⟨rfl,rfl⟩:=h;simp at D;obtain ⟨⟨Z,g⟩,f⟩:=D;rw [R.n0]at Z;rcases V.EY B with⟨l,d,O,C,wo,qd,O4,rfl⟩|⟨O,_⟩
         case inr=>rw [O]at g;simp at g
         obtain ⟨b,o,sp⟩:=a;dsimp only at*;subst O;unfold AH.j9 at f
         cases L:H.get b with
         |none=>simp [L]at f
         |some aS=>
          cases aS with
          |map es=>simp [L]at f
          |cells zb cb=>
           simp [L]at f;obtain ⟨g1,g2,g3,arr,e0,g4,g5,g6,g7⟩:=R.cells b l zb cb Z C (AH.gV L);obtain ⟨_,hoo,Q,olds,h3,h4,h5⟩:=R.ldn A C
           have abw:old=(cb.drop o).take (sl*i.size)∧o+sl*i.size≤cb.length:=by
            unfold AH.ldn at A;simp only [L,Bool.cond_decide,R.n0]at A;split at A
            ·rename_i u
             rw [if_neg (by omega)]at A;cases A;exact ⟨rfl,u⟩
            ·cases A
           have aH:(old++new).all one=true:=by simp only [List.all_append,hoo,Y];rfl
           by_cases hc:sl+n≤d
           ·
            have hbound:o+l.s+d*l.z≤l.n:=by
             rcases O4 with W|W
             ·omega
             ·exact W
            rw [g2]at hbound
            have JL:o+l.s+sl*i.size+news.length≤arr.size:=by
             rw [g5,y.newsLen,show o+l.s+sl*i.size+n*i.size=o+l.s+(sl+n)*i.size by rw [Nat.add_mul];omega];have:(sl+n)*i.size≤d*zb:=Nat.mul_le_mul hc f;omega
            have J:=run_storeCells_at P l.c (o+l.s+sl*i.size) e0 news 0 arr w g4 (by omega) y.one;simp only [Nat.add_zero]at J;rw [mH t tx ty e i N hi l.c (o+l.s) sl d x' n news y hc J]at q
            have hCR:CR φ (l.s+o) (old++new) (arr.toList.take (o+l.s+sl*i.size)++news++arr.toList.drop (o+l.s+sl*i.size+news.length)).toArray:=by
             intro j v K;by_cases hjo:j<old.length
             ·rw [aq7 hjo]at K
              have Yw:cb[o+j]?=some v:=by
               rw [abw.1]at K;have:j<sl*i.size:=by omega
               simpa [arw,this,arB]using K
              obtain ⟨q1,v',X,q3⟩:=g6 (o+j) v Yw;refine ⟨q1,v',?_,q3⟩;rw [List.getElem?_toArray,ark,aq7 (by simp;omega),arw,if_pos (by omega)];have:arr.toList[l.s+(o+j)]?=some v':=by simpa using X
              rw [←this];congr 1;omega
             ·rw [arb (by omega)]at K
              obtain ⟨v',X,q3⟩:=M.get _ v K;refine ⟨ara.1 Y v (aqZ K),v',?_,q3⟩;have tk:j- old.length<news.length:=(aq0.1 X).1;rw [List.getElem?_toArray,ark,arb (by simp;omega),aq7 (by simp;omega),←X];congr 1;simp;omega
            obtain ⟨I,G⟩:=R.move tn (s2:=l.s+o) (z2:=i.size) (c2:=old++new) (w':=w.setRow l.c (arr.toList.take (o+l.s+sl*i.size)++news++arr.toList.drop (o+l.s+sl*i.size+news.length)).toArray) Z C L (setRow_heap w l.c arr _ e0 (0,0) g4) (fun k S=>setRow_other w l.c k _ S) (setRow_size _ _ _) rfl rfl rfl (by simp;omega)
             (by rw [aq3,Q,SP];rw [y.newsLen,g5]at JL;omega) hCR g7
            refine ⟨_,_,_,q,I,G,.inl ⟨_,rfl,?_⟩⟩
            have T:V (φ.add H.nx ⟨l.c,l.s+o,l.n,i.size⟩) (.slice (some ⟨H.nx,0,none⟩) (sl+n) (sl+n)) (.slice (some ⟨l.c,0+(l.s+o),none⟩) (sl+n) d):=by
             refine .sl (l:=⟨l.c,l.s+o,l.n,i.size⟩) (by simp [bD.add]) hc (by omega) (.inr ?_);show 0+(l.s+o)+d*i.size≤l.n;have:d*i.size≤d*zb:=Nat.mul_le_mul_left _ f;omega
            rw [show 0+(l.s+o)=o+l.s by omega]at T;exact T
           ·
            have p:(Builtin.firstCells i.size sl (.slice (some ⟨l.c,o+l.s,none⟩) sl d)).run P w.drew= .ok olds.toArray w.drew:=run_firstCells_some w.drew i.size sl _ sl d olds h3 (by simpa using h5);have mY:=run_append_grow_src w t tx ty e i z N hi hz (some ⟨l.c,o+l.s,none⟩) sl d olds p x' n news y (by omega) (by omega) (growslice_fits (by omega) (by simpa using Ub));rw [mY]at q;have E:sl+n≤grownCap w (sl+n) d e:=grownCap_ge w (sl+n) d e (by omega);have U:=rD (olds++news) z.cells (sl+n) (grownCap w (sl+n) d e) i.size Yu (by rw [aq3,h3,y.newsLen,Nat.add_mul]) E;have Rk:=R.kill (b:=b) Z
            obtain ⟨I,G⟩:=Rk.new (show φ.m (H.put b none).nx=none from tn) (w':=w.drew.alloc (.cells ((olds++news).toArray++Builtin.zeroCells z.cells (grownCap w (sl+n) d e- (sl+n))) e)) (z:=i.size) (cs:=old++new) rfl rfl rfl rfl
             (by rw [U,aq3,Q,SP,←Nat.add_mul];exact Nat.mul_le_mul_right _ E) (wM _ _ (h4.append M) aH) Yv
            refine ⟨_,_,_,q,I,G.same (by rfl) (by rfl),.inl ⟨_,rfl,?_⟩⟩;refine .sl (bD.kX _ _ _) E (by omega) (.inr ?_);show 0+0+grownCap w (sl+n) d e*i.size≤_;rw [U];simp
end
end
section
open Go Go.RowKit
section
variable{P:Program} {w0 w:World} {φ:bD} {H:AH}
theorem Ff {sz n:Nat} {x x':Value} {c:List Value} (R:Rel w0 φ H w) (d:V φ x x') (h:jv H sz n x=some c):
 ∃e,(Builtin.firstCells sz n x').run P w= .ok e.toArray w∧VL φ c e∧c.all one=true:=by
 unfold jv at h;split at h
 ·rename_i a j A
  simp only [nb,Bool.cond_decide]at h;obtain ⟨y,e,rfl,z⟩:=V.SO d;split at h
  ·rename_i v
   cases h;refine ⟨[],?_,.nil,rfl⟩;cases y<;>simp [Builtin.firstCells,loadCells,loadCellsFrom,v]
  ·rcases V.EY d with⟨l,B,f,m,_,_,_,i⟩|⟨f,_⟩
   ·simp at i
    obtain ⟨rfl,rfl⟩:=i;obtain ⟨_,t,h2,g,r,q,p⟩:=R.ldn h m;exact ⟨g,run_firstCells_some w sz n _ j e g r p,q,t⟩
   ·exfalso
    obtain ⟨b,o,sp⟩:=a;dsimp only at f;subst f;simp [AH.ldn]at h
 ·cases h
  rw [d.SN];exact ⟨[],by simp [Builtin.firstCells],.nil,rfl⟩
 ·rename_i s
  cases h;rw [d.string];refine ⟨_,?_,rC _,?_⟩
  ·simp [Builtin.firstCells]
   apply Array.ext';simp
  ·rw [ara]
   intro u k;obtain ⟨_,_,rfl⟩:=aru.1 k;rfl
 ·cases h
theorem JM {sz:Nat} {d s J k v:Value} {H':AH} {t tx ty e:TypeId} (R:Rel w0 φ H w) (B:P.underlying t=some (.slice e)) (C:dI P e=some sz) (E:V φ d J) (x:V φ s k) (h:jH sz H d s=some (v,H')) {r:Result Next}
 (i:r=((Builtin.copy_ #[t,tx] ty #[J,k]).run P w).andThen fun v w=>.ok (.value v) w):fZ w0 φ H w (.v v) H' r:=by
 unfold jH at h;split at h
 case h_2=>cases h
 rename_i base dl U m g;dsimp only at h
 cases y:jv H sz (Nat.min m dl) s with
 |none=>simp [y]at h
 |some c=>
  simp only [y,Option.bind_some]at h;obtain ⟨K,F,j,z⟩:=Ff (P:=P) R x y;obtain ⟨u,A,rfl,M⟩:=V.SO E
  have f:(Builtin.lenOf k).run P w= .ok m w:=by
   unfold mA at g;split at g
   ·simp at g;subst g
    obtain ⟨S,K,rfl,_⟩:=V.SO x;rfl
   ·simp at g;subst g
    rw [x.string];rfl
   ·cases g
  have run:∀{w':World},(match u with|some a=>(storeCells a K).run P w|none=>.ok () w)= .ok () w'→(Builtin.copy_ #[t,tx] ty #[.slice u dl A,k]).run P w= .ok (goInt (Nat.min m dl:Nat)) w':=by
   intro w' n
   cases u with
   |none=>simp at n;subst n;simp [Builtin.copy_,run_underlying B,f,cv C,F]
   |some a=>simp only at n;simp [Builtin.copy_,run_underlying B,f,cv C,F,n]
  cases base with
  |none=>
   obtain rfl:=M.2 rfl;simp at h;obtain ⟨rfl,rfl⟩:=h;rw [run (w':=w) rfl]at i;exact .pure R (.same rfl) i
  |some a=>
   simp only at h
   cases c with
   |nil=>
    simp at h;obtain ⟨rfl,rfl⟩:=h;cases j;rw [run (w':=w) (by cases u<;>simp [storeCells])]at i;exact .pure R (.same rfl) i
   |cons Q O=>
    simp only [List.isEmpty_cons,cond_false]at h
    cases p:H.st a (Q::O)with
    |none=>simp [p]at h
    |some X=>
     simp [p]at h;obtain ⟨rfl,rfl⟩:=h;rcases V.EY E with⟨l,W,q,L,_,_,_,D⟩|⟨q,_⟩
     ·simp at D
      obtain ⟨rfl,rfl⟩:=D;obtain ⟨b,o,sp⟩:=a;dsimp only at*;subst q;obtain ⟨S,w',I,N,T,G⟩:=E6 (P:=P) R (.ptr L) p j z;simp at I;subst I;rw [run (w':=w') N]at i;exact ⟨φ,w',_,i,T,G,.inl ⟨_,rfl,.same rfl⟩⟩
     ·exfalso
      obtain ⟨b,o,sp⟩:=a;dsimp only at q;subst q;simp [AH.st]at p
theorem uF (z:Array Value) (m:Nat) (a:z.size=m):∀n,(madeCells z (n*m)).toList=(List.replicate n z.toList).flatten
 |0=>by simp [madeCells]
 |n+1=>by
  have ih:=uF z m a n;simp only [madeCells,Array.toList_map,Array.toList_range]at ih⊢;rw [show(n+1)*m=n*m+m by rw [Nat.succ_mul],List.range_add,List.map_append,ih,List.replicate_succ',List.flatten_append];congr 1;simp only [List.map_map,List.flatten_cons,List.flatten_nil,List.append_nil];apply List.ext_getElem?;intro j;by_cases b:j<m
  ·have:j<z.size:=by omega
   simp [b,a,Nat.mod_eq_of_lt b,Nat.add_comm,this,getElem!_pos]
  ·rw [arC (by simp;omega),arC (by simp;omega)]
theorem all_replicate {z:List Value} (h:z.all flat=true):∀n,((List.replicate n z).flatten).all flat=true
 |0=>rfl
 |n+1=>by simp only [List.replicate_succ,List.flatten_cons,List.all_append,h,all_replicate h n];rfl
theorem JN {sz bytes:Nat} {z:List Value} {k:IntKind} {n:Int} {t e:TypeId} {i:TypeInfo} (R:Rel w0 φ H w) (C:φ.m H.nx=none) (x:P.underlying t=some (.slice e)) (hi:P.info? e=some i) (s:gG P e=some z) (A:e≠BY) (y:i.size=sz) (B:i.bytes=bytes)
 (D:0≤n) (u:IntKind.i64.wrap n=n) (I:(bytes:Int)*n≤2^47) {r:Result Next} (h:r=((Instr.makeSlice t (.int k n) (.int k n)).run P w).andThen fun v w=>.ok (.value v) w):
 fZ w0 φ H w (.v (.slice (some ⟨H.nx,0,none⟩) n.toNat n.toNat)) (H.alloc (.cells sz (List.replicate n.toNat z).flatten)) r:=by
 obtain ⟨F,a,f,j,d,q,p⟩:=iB s;rw [hi]at f;cases f;subst y B;have c:n≤9223372036854775807:=by rw [IntKind.wrap_i64]at u;omega
 have l:a.cells.size=i.size:=by rw [←p,←d];simp
 rw [run_make w t e i a x hi j k k n n D (Int.le_refl _) (by omega) c]at h;have b:=uF a.cells i.size l n.toNat;rw [d]at b;have g:=all_replicate q n.toNat;obtain ⟨E,G⟩:=R.new C (w':=w.alloc (.cells (madeCells a.cells (n.toNat*i.size)) e)) (z:=i.size) (cs:=(List.replicate n.toNat z).flatten) rfl rfl rfl rfl (by rw [←b];simp) (nS (by rw [b];exact VL.same g) (eN g)) A;refine ⟨_,_,_,h,E,G,.inl ⟨_,rfl,?_⟩⟩;have:=V.sl (φ:=φ.add H.nx ⟨w.heap.size,0,(madeCells a.cells (n.toNat*i.size)).size,i.size⟩) (o:=0) (n:=n.toNat) (bD.kX φ H.nx ⟨w.heap.size,0,(madeCells a.cells (n.toNat*i.size)).size,i.size⟩) (aqY n.toNat) id (.inl rfl)
 simpa using this
theorem nT:∀(l:List Value) (k off:Nat) (arr:Array Value),off+k+l.length≤arr.size→
 ((l.zipIdx k).foldl (fun(cs:Array Value) (x:Value×Nat)=>cs.setIfInBounds (off+x.2) x.1) arr).toList=aI arr.toList (off+k) l
 |[],k,off,arr,h=>by
  rw [gg _ _ _ (by simpa using h)];simp
 |v::l,k,off,arr,h=>by
  simp only [List.zipIdx_cons,List.foldl_cons];rw [nT l (k+1) off _ (by simp at h⊢;omega)];rw [gg _ _ _ (by simp at h⊢;omega),gg _ _ _ (by simp at h⊢;omega)];apply List.ext_getElem?;intro j;simp only [Array.toList_setIfInBounds,List.length_cons]at*;by_cases a:j<off+k
  ·rw [ark,ark,aq7 (by simp;omega),aq7 (by simp;omega),arw,arw,if_pos (by omega),if_pos a,arj (by omega)]
  ·by_cases h2:j=off+k
   ·subst h2
    rw [ark,aq7 (by simp;omega),arw,if_pos (by omega),ary (by simp;omega)];rw [ark,arb (by simp;omega),List.cons_append];simp;rw [show off+k- min (off+k) arr.size=0 by omega];rfl
   ·by_cases b:j<off+k+1+l.length
    ·rw [ark,arb (by simp;omega),aq7 (by simp;omega)]
     rw [ark,arb (by simp;omega),aq7 (by simp;omega)];simp;rw [show j- min (off+k) arr.size=(j- min (off+(k+1)) arr.size)+1 by omega];simp
    ·rw [arb (by simp;omega),arb (by simp;omega),arB,arB]
     rw [arj (by simp;omega)];congr 1;simp;omega
theorem uG:∀{ps:List (Nat×Nat×Value)} {ps':List (Nat×Value)} {c c2:List Value} {arr:Array Value} {place:Nat→Option (Nat×Nat)},
 ps.length=ps'.length→(∀(j:Nat) (p:Nat×Nat×Value),ps[j]?=some p→∃d:Nat×Value,ps'[j]?=some d∧place d.1=some (p.1,p.2.1)∧V φ p.2.2 d.2)→
 iG c ps=some c2→VL φ c arr.toList→c.all one=true→∃f,Instr.fill place arr ps'=some f∧VL φ c2 f.toList∧c2.all one=true
 |[],[],c,c2,arr,place,_,_,h,e,b=>by simp [iG]at h;subst h;exact ⟨arr,rfl,e,b⟩
 |[],_::_,_,_,_,_,h,_,_,_,_=>by simp at h
 |_::_,[],_,_,_,_,h,_,_,_,_=>by simp at h
 |(off,n,v)::ps,(F,a)::ps',c,c2,arr,place,C,o,h,e,b=>by
  obtain ⟨d,t,s,m⟩:=o 0 (off,n,v) (by simp);simp at t;subst t;dsimp only at s m;unfold iG at h;obtain ⟨r,h⟩:=aw h;simp only [nb,aqX,aq6,Bool.not_eq_true']at r;obtain ⟨⟨B,G⟩,i⟩:=r;have q:=m.cells;have A:a.cells.size=n:=by rw [←B,q.length];simp
  have I:arr.size=c.length:=by rw [e.length];simp
  have k:VL φ (aI c off (aR v)) (aI arr.toList off a.cells.toList):=VL.aI off e q;have E:=nT a.cells.toList 0 off arr (by simp;omega)
  have l:(a.cells.zipIdx.foldl (fun cs (x:Value×Nat)=>cs.setIfInBounds (off+x.2) x.1) arr).toList=aI arr.toList off a.cells.toList:=by
   rw [←Array.foldl_toList,Array.toList_zipIdx]
   simpa using E
  obtain ⟨f,z,y,u⟩:=uG (ps:=ps) (ps':=ps') (arr:=a.cells.zipIdx.foldl (fun cs (x:Value×Nat)=>cs.setIfInBounds (off+x.2) x.1) arr) (place:=place) (by simpa using C) (fun j p D=>by simpa using o (j+1) p (by simpa using D)) h (by rw [l];exact k) (by
   rw [gg _ _ _ (by omega)];simp only [List.all_append,mW m i,Bool.and_true,aqX];rw [ara]at b
   exact ⟨ara.2 fun x g=>b x (List.mem_of_mem_take g),ara.2 fun x g=>b x (List.mem_of_mem_drop g)⟩)
  refine ⟨f,?_,y,u⟩;unfold Instr.fill;rw [s];simp only;rw [if_neg (by simp;omega)];exact z
theorem Rel.Pa {w0 w w':World} {φ:bD} {H:AH} (R:Rel w0 φ H w) (M:φ.m H.nx=none) (z:w'.heap=w.heap.push (.map #[] 0)) (U:w'.os=w.os) (O:w'.tape=w.tape) (T:w'.output=w.output):
 Rel w0 (φ.add H.nx ⟨w.heap.size,0,0,0⟩) (H.alloc (.map [])) w'∧Grow φ H w (φ.add H.nx ⟨w.heap.size,0,0,0⟩) (H.alloc (.map [])) w':=by
 have i:φ.le (φ.add H.nx ⟨w.heap.size,0,0,0⟩):=bD.uD M;have Q:w0.heap.size≤w.heap.size:=R.below.size;have p:∀k,k<w.heap.size→w'.heap[k]?=w.heap[k]?:=fun k y=>by rw [z,Array.getElem?_push,if_neg (by omega)]
 have old:∀b l,φ.n0≤b→φ.m b=some l→(H.raw b).isSome=true→l.c<w.heap.size:=by
  intro b l e g S
  cases d:H.raw b with
  |none=>simp [d]at S
  |some aS=>
   cases aS with
   |cells o c=>
    obtain ⟨_,_,_,a,n,j,_⟩:=R.cells b l o c e g d;exact (aq8.1 j).1
   |map es=>
    obtain ⟨_,a,n,j,_⟩:=R.maps b l es e g d;exact (aq8.1 j).1
 refine ⟨?_,?_⟩
 ·refine ⟨R.n0,R.pr,by rw [AH.dH];have:=R.qa;exact Nat.le_succ_of_le this,R.c0,?_,?_,?_,?_,?_,?_,?_,R.uE⟩
  ·refine ⟨U.trans R.below.os,O.trans R.below.tape,T.trans R.below.output,?_,fun k y=>?_⟩
   ·rw [z,Array.size_push];omega
   ·rw [p k (by omega)];exact R.below.block k y
  ·intro b e
   exact i _ _ (R.ig b e)
  ·intro b o c e d
   have D:b<φ.n0:=e;rw [AH.cq,if_neg (by have:=R.qa;omega)]at d;obtain ⟨n,Y,N⟩:=R.jK b o c e d;exact ⟨n,Y,by rw [p b (by have:=R.pr;have:=R.c0;omega)];exact N⟩
  ·intro b l o c e g d
   rw [AH.cq]at d;simp only [bD.add]at g;by_cases q:b=H.nx
   ·rw [if_pos q]at d
    cases d
   ·rw [if_neg q]at d g
    obtain ⟨f,h2,t,a,n,j,r,X,W⟩:=R.cells b l o c e g d;exact ⟨f,h2,t,a,n,by rw [p _ (aq8.1 j).1];exact j,r,X.mono i,W⟩
  ·intro b l es e g d
   rw [AH.cq]at d;simp only [bD.add]at g;by_cases q:b=H.nx
   ·rw [if_pos q]at d g
    cases d;cases g;exact ⟨by show φ.c0≤w.heap.size;rw [R.c0];exact Q,#[],0,by rw [z];simp,.nil⟩
   ·rw [if_neg q]at d g
    obtain ⟨f,a,n,j,r⟩:=R.maps b l es e g d;exact ⟨f,a,n,by rw [p _ (aq8.1 j).1];exact j,r.mono i⟩
  ·intro F E J I L K f h2 v u C
   rw [AH.cq]at v u;simp only [bD.add]at f h2;by_cases B:F=H.nx<;>by_cases A:E=H.nx
   ·rw [B,A]
   ·rw [if_pos B]at f
    rw [if_neg A]at h2 u;cases f;have:=old E I K h2 u;simp at C;omega
   ·rw [if_neg B]at f v
    rw [if_pos A]at h2;cases h2;have:=old F J L f v;simp at C;omega
   ·rw [if_neg B]at f v
    rw [if_neg A]at h2 u;exact R.inj F E J I L K f h2 v u C
  ·intro b s Z
   obtain ⟨f,h2,l,t,j,r⟩:=R.nM b s Z;have V:b≠H.nx:=by rintro rfl;rw [M]at t;cases t
   refine ⟨f,by rw [AH.cq,if_neg V];exact h2,l,i _ _ t,j,r.rv rfl (fun k y _=>p k y) fun b' l' a1 x G=>?_⟩;rw [AH.cq]at G;simp only [bD.add]at x;by_cases D:b'=H.nx
   ·rw [if_pos D]at x
    cases x;exact .inr (.inl (aqY _))
   ·rw [if_neg D]at x G
    exact .inl ⟨a1,x,G⟩
 ·refine ⟨i,rfl,rfl,by rw [AH.dH];exact arn _,?_,by rw [z,Array.size_push];exact arn _⟩
  ·intro b l h k
   simp only [bD.add]at k;split at k
   ·rename_i e;subst e;exact ⟨aqY _,by rw [AH.dH];exact aq9 _⟩
   ·rw [h]at k;cases k
theorem Rel.Fg {w0 w w':World} {φ:bD} {H:AH} (R:Rel w0 φ H w) {b ck:Nat} {c B:List (Value×Value)} {l:Loc} {es':Array MapEntry} (A:φ.n0≤b) (r:φ.m b=some l) (j:H.get b=some (.map c))
 (N:w'.heap[l.c]?=some (.map es' ck)) (t:∀k,k≠l.c→w'.heap[k]?=w.heap[k]?) (F:w'.heap.size=w.heap.size) (U:w'.os=w.os) (S:w'.tape=w.tape) (T:w'.output=w.output)
 (u:ML φ B es'.toList):
 Rel w0 φ (H.put b (some (.map B))) w'∧Grow φ H w φ (H.put b (some (.map B))) w':=by
 have j:=AH.gV j;obtain ⟨g1,a0,e0,g4,g5⟩:=R.maps b l c A r j;refine ⟨⟨R.n0,R.pr,R.qa,R.c0,?_,R.ig,?_,?_,?_,?_,?_,R.uE⟩,?_⟩
 ·refine ⟨U.trans R.below.os,S.trans R.below.tape,T.trans R.below.output,by rw [F];exact R.below.size,fun k h=>?_⟩
  rw [t k (by have:=R.c0;omega)];exact R.below.block k h
 ·intro x C d i f
  rw [AH.cy,if_neg (by omega)]at f;obtain ⟨z,fz,X⟩:=R.jK x C d i f;refine ⟨z,fz,?_⟩;rw [t x (by have:=R.pr;omega)];exact X
 ·intro x n C d i o f
  rw [AH.cy]at f;by_cases g:x=b
  ·rw [if_pos g]at f;cases f
  ·rw [if_neg g]at f
   obtain ⟨p,h2,D,a,z,y,q,h6,h7⟩:=R.cells x n C d i o f;refine ⟨p,h2,D,a,z,?_,q,h6,h7⟩;rw [t]
   ·exact y
   ·intro u
    exact g (R.inj x b n l i A o r (by simp [f]) (by simp [j]) u)
 ·intro x n es i o f
  rw [AH.cy]at f;by_cases g:x=b
  ·subst g
   rw [if_pos rfl]at f;cases f;rw [r]at o;cases o;exact ⟨g1,es',ck,N,u⟩
  ·rw [if_neg g]at f
   obtain ⟨p,a,z,y,q⟩:=R.maps x n es i o f;refine ⟨p,a,z,?_,q⟩;rw [t]
   ·exact y
   ·intro u
    exact g (R.inj x b n l i A o r (by simp [f]) (by simp [j]) u)
 ·intro b1 b2 K J kb Z p h2 I G Y
  have live:∀x,((H.put b (some (.map B))).raw x).isSome=true→(H.raw x).isSome=true:=by
   intro x i;rw [AH.cy]at i;by_cases g:x=b
   ·subst g;simp [j]
   ·rw [if_neg g]at i;exact i
  exact R.inj b1 b2 K J kb Z p h2 (live _ I) (live _ G) Y
 ·intro x s eb
  obtain ⟨p,h2,n,D,y,q⟩:=R.nM x s eb;have V:x≠b:=by rintro rfl;rw [j]at h2;cases h2
  obtain ⟨M,L⟩:=q.apart b l A r (by simp [j]);refine ⟨p,by rw [AH.cy,if_neg V];exact h2,n,D,y,q.rv rfl (fun k _ W=>t k ?_) fun b' l' a1 a2 E=>.inl ⟨a1,a2,?_⟩⟩
  ·rcases W with rfl|⟨v,Q,O⟩
   ·exact fun e=>M e.symm
   ·exact fun e=>L v Q (e▸O)
  ·rw [AH.cy]at E
   by_cases g:b'=b
   ·subst g;simp [j]
   ·rw [if_neg g]at E;exact E
 ·exact ⟨bD.le_refl _,rfl,rfl,aqY _,fun _ _ h k=>(by rw [h]at k;cases k),by rw [F];exact aqY _⟩
theorem rE {kk:Nat} {k:Value} (h:cj kk k=true):flat k=true:=by
 rcases kk with _|_|_|kk<;>cases k<;>first|rfl|(simp [cj]at h)
theorem rF {kk:Nat} {kt:TypeId} {d:TypeDesc} {k e:Value} {b:Bool} (j:P.underlying kt=some d) (f:bR P kt=some kk) (g:cj kk k=true) (h:gX k e=some b):Instr.sameNow d k e=some b∧cj kk e=true∧(b=true→k=e):=by
 unfold bR at f;rw [j]at f;cases d<;>simp at f<;>subst f
 case int=>
  cases k<;>simp [cj]at g;cases e<;>simp [gX]at h;rename_i m a l c;obtain ⟨rfl,rfl⟩:=h;exact ⟨by simp [Instr.sameNow],rfl,by simp⟩
 case string=>
  cases k<;>simp [cj]at g;cases e<;>simp [gX]at h;rename_i a c;subst h;refine ⟨?_,rfl,?_⟩
  ·simp [Instr.sameNow,beq_toListBytes,ByteArray.toList_eq]
  ·intro i
   simp at i
   have:a=c:=by
    obtain ⟨⟨a⟩⟩:=a;obtain ⟨⟨c⟩⟩:=c;simp at i;rw [i]
   rw [this]
 case bool=>
  cases k<;>simp [cj]at g;cases e<;>simp [gX]at h;subst h;exact ⟨by simp [Instr.sameNow],rfl,by simp⟩
theorem AY {kk:Nat} {kt:TypeId} {d:TypeDesc} {k:Value} (p:P.underlying kt=some d) (o:bR P kt=some kk) (m:cj kk k=true):
 ∀{es:List (Value×Value)} {l:List MapEntry} {r:Option Value} (i:Nat),ML φ es l→fG k es=some r→
  (r=none∧Instr.findNow d k l i=some none)∨∃v v' j e,r=some v∧Instr.findNow d k l i=some (some (i+j,v'))∧V φ v v'∧l[j]?=some e∧e.key=k
 |_,_,r,i,.nil,h=>by simp [fG]at h;subst h;exact .inl ⟨rfl,rfl⟩
 |_,_,r,i,.cons (k:=t) (v:=v) (v':=v') (n:=n) x y,h=>by
  simp only [fG]at h
  cases a:gX k t with
  |none=>simp [a]at h
  |some b=>
   obtain ⟨c,C,B⟩:=rF p o m a
   cases b with
   |true=>
    simp [a]at h;subst h;refine .inr ⟨v,v',0,_,rfl,?_,x,rfl,(B rfl).symm⟩;simp [Instr.findNow,c]
   |false=>
    simp only [a]at h;rcases AY p o m (i+1) y h with⟨f,g⟩|⟨s,q,j,e,f,g,u,z,A⟩
    ·exact .inl ⟨f,by simp [Instr.findNow,c,g]⟩
    ·refine .inr ⟨s,q,j+1,e,f,?_,u,by simpa using z,A⟩
     simp [Instr.findNow,c,g];omega
theorem Fh {kk:Nat} {kt:TypeId} {d:TypeDesc} {k u c:Value} (y:P.underlying kt=some d) (x:bR P kt=some kk) (s:cj kk k=true) (f:V φ u c):
 ∀{es q:List (Value×Value)} {l:List MapEntry} (i:Nat),ML φ es l→kW k u es=some q→
  (Instr.findNow d k l i=some none∧∀n,ML φ q (l++[⟨k,c,n⟩]))∨∃v' j e,Instr.findNow d k l i=some (some (i+j,v'))∧l[j]?=some e∧e.key=k∧ML φ q (l.modify j fun e=>{e with key:=k,val:=c})
 |_,_,_,i,.nil,h=>by
  simp [kW]at h;subst h;exact .inl ⟨rfl,fun n=>.cons f .nil⟩
 |_,_,_,i,.cons (k:=A) (v:=v) (v':=v') (n:=n) (l:=es) (l':=l) r t,h=>by
  simp only [kW]at h
  cases a:gX k A with
  |none=>simp [a]at h
  |some b=>
   obtain ⟨g,F,D⟩:=rF y x s a
   cases b with
   |true=>
    simp [a]at h;subst h;refine .inr ⟨v',0,_,?_,rfl,(D rfl).symm,?_⟩
    ·simp [Instr.findNow,g]
    ·simpa using ML.cons f t
   |false=>
    simp only [a]at h
    cases m:kW k u es with
    |none=>simp [m]at h
    |some E=>
     simp [m]at h;subst h;rcases Fh y x s f (i+1) t m with⟨p,o⟩|⟨z,j,e,p,B,C,o⟩
     ·exact .inl ⟨by simp [Instr.findNow,g,p],fun n=>.cons r (o n)⟩
     ·refine .inr ⟨z,j+1,e,?_,by simpa using B,C,?_⟩
      ·simp [Instr.findNow,g,p]
       omega
      ·simpa using ML.cons r o
theorem run_checkKey {kk:Nat} {kt:TypeId} {d:TypeDesc} (c:P.underlying kt=some d) (a:bR P kt=some kk) (b:Bool) (n:Nat) (k:Value) (w:World):(Instr.checkKey b (n+1) kt k).run P w= .ok () w:=by
 unfold bR at a;rw [c]at a;cases d<;>simp at a<;>simp [Instr.checkKey,run_underlying c]
theorem tw {kk:Nat} {k:Value} (h:cj kk k=true) (n:Nat):Instr.sameBits n k k=true:=by
 rcases kk with _|_|_|kk<;>cases k<;>simp [cj]at h<;>simp [Instr.sameBits,beq_toListBytes]
end
end
section
open Go Go.RowKit
section
variable{P:Program} {w0 w:World} {φ:bD} {H:AH}
def C6 (P:Program) (f:Nat):Prop:=∃fn,P.funcs[f]?=some fn∧fn.body.isNone=false∧(fn.name== "runtime.NumGoroutine")=false
theorem nV {f:Nat} (h:C6 P f) (as:Array Value) (w:World):(callFunc f as).run P w= .ok (.enter f as) w:=by
 obtain ⟨fn,d,h2,b⟩:=h;have a:¬ fn.name= "runtime.NumGoroutine":=by simpa using b
 have c:fn.body≠none:=by intro e;rw [e]at h2;cases h2
 simp [callFunc,d,c,a]
theorem fZ.enter {f:Nat} {as:List Value} {as':Array Value} {r:Result Next} (R:Rel w0 φ H w) (h:VL φ as as'.toList) (a:r= .ok (.enter f as') w):fZ w0 φ H w (.enter f as) H r:=
 ⟨φ,w,_,a,R,Grow.refl _ _ _,as',rfl,h⟩
theorem zn {φ:bD} {c:Fr} {a:Act} (F:kZ φ c a) {x:Option Operand} {y:Option X} (h:SM x=some y):VO φ (y.map (X.ev c)) (x.map a.eval):=by
 cases x with
 |none=>simp [SM]at h;subst h;exact .none
 |some x=>
  simp only [SM]at h
  cases b:cX x with
  |none=>simp [b]at h
  |some z=>simp [b]at h;subst h;exact .some (da F b)
theorem Ns:∀{l l':List Value} {v v' r:Value},VL φ l l'→V φ v v'→Eu v l=some r→∃r',(l'.foldlM Builtin.max2 v').run P w= .ok r' w∧V φ r r'
 |_,_,v,v',r,.nil,c,h=>by
  simp [Eu]at h;subst h;exact ⟨v',by simp,c⟩
 |_,_,v,v',r,.cons (v:=u) a b,c,h=>by
  cases v<;>cases u<;>simp [Eu]at h;rw [c.int,a.int];obtain ⟨r',d,h2⟩:=Ns b (.same rfl) h;refine ⟨r',?_,h2⟩
  simpa [Builtin.max2]using d
theorem Nt:∀{l l':List Value} {v v' r:Value},VL φ l l'→V φ v v'→Jk v l=some r→∃r',(l'.foldlM Builtin.min2 v').run P w= .ok r' w∧V φ r r'
 |_,_,v,v',r,.nil,c,h=>by
  simp [Jk]at h;subst h;exact ⟨v',by simp,c⟩
 |_,_,v,v',r,.cons (v:=u) a b,c,h=>by
  cases v<;>cases u<;>simp [Jk]at h;rw [c.int,a.int];obtain ⟨r',d,h2⟩:=Nt b (.same rfl) h;refine ⟨r',?_,h2⟩
  simpa [Builtin.min2]using d
theorem Fi {a b a' b':Value} {r:Bool} (h:gX a b=some r) (d:V φ a a') (c:V φ b b'):a'=a∧b'=b:=by
 unfold gX at h;split at h
 ·exact ⟨d.int,c.int⟩
 ·exact ⟨d.string,c.string⟩
 ·exact ⟨d.bool,c.bool⟩
 ·cases h
theorem AZ {e:TypeId} {kk:Nat} (f:bR P e=some kk) {x y:Value} {r:Bool} (j:cj kk x=true) (h:gX x y=some r) (d:Nat) (w:World) {cs ds:Array Value} {o:Nat} (i:cs[o]?=some x) (g:ds[o]?=some y):
 (part e cs o).run P w= .ok x w∧(part e ds o).run P w= .ok y w∧(Op.equalIn (d+1) e x y).run P w= .ok r w:=by
 unfold bR at f
 cases c:P.underlying e with
 |none=>simp [c]at f
 |some ty=>
  cases ty<;>simp [c]at f<;>subst f
  case int q=>
   cases x<;>simp [cj]at j;cases y<;>simp [gX]at h;rename_i k a l b;obtain ⟨rfl,rfl⟩:=h;refine ⟨?_,?_,run_equalIn_int w d e k q a b c⟩<;>simp [part,isAgg,run_underlying c,i,g]
  case string=>
   cases x<;>simp [cj]at j;cases y<;>simp [gX]at h;rename_i a b;subst h;refine ⟨?_,?_,?_⟩
   ·simp [part,isAgg,run_underlying c,i]
   ·simp [part,isAgg,run_underlying c,g]
   ·rw [run_equalIn_string w d e a b c];simp [ByteArray.toList_eq]
  case bool=>
   cases x<;>simp [cj]at j;cases y<;>simp [gX]at h;rename_i a b;subst h;refine ⟨?_,?_,run_equalIn_bool' w d e a b c⟩<;>simp [part,isAgg,run_underlying c,i,g]
theorem qe {cs ds k j:Array Value} (n:VL φ cs.toList k.toList) (m:VL φ ds.toList j.toList) (d:Nat) (w:World):∀(fs:List Field) (b:Bool),(fs.all fun f=>f.name != "_" &&(bR P f.type).isSome)=true→
 dF cs.toList ds.toList (fs.map fun f=>(f.offset,(bR P f.type).getD 9))=some b→(Op.eqFields (d+1) k j fs).run P w= .ok b w
 |[],b,_,h=>by simp [dF]at h;subst h;simp [Op.eqFields]
 |f::fs,b,l,h=>by
  simp only [List.all_cons,aqX]at l;obtain ⟨⟨C,D⟩,z⟩:=l
  cases i:bR P f.type with
  |none=>simp [i]at D
  |some kk=>
   simp only [List.map_cons,i,Option.getD_some,dF]at h
   cases c:cs.toList[f.offset]? with
   |none=>simp [c]at h
   |some x=>
    cases g:ds.toList[f.offset]? with
    |none=>simp [c,g]at h
    |some y=>
     simp only [c,g]at h;obtain ⟨A,h⟩:=aw h
     cases a:gX x y with
     |none=>simp [a]at h
     |some r=>
      obtain ⟨F,v,u⟩:=n.get _ _ c;obtain ⟨E,e,t⟩:=m.get _ _ g;obtain ⟨rfl,rfl⟩:=Fi a u t;obtain ⟨s,q,p⟩:=AZ (P:=P) i A a d w (cs:=k) (ds:=j) (o:=f.offset) (by simpa using v) (by simpa using e);have B:f.name≠ "_":=by simpa using C
      simp only [Op.eqFields,if_pos B,Sem.run_bind,s,q,p,Result.andThen_ok]
      cases r with
      |true=>
       simp only [a]at h
       simpa using qe n m d w fs b z h
      |false=>
       simp only [a]at h;cases h;simp
theorem Pc {neg:Bool} {cs ds:Array Value} {x' i:Value} {b:Bool} {t:TypeId} {fs:Array Field} (R:Rel w0 φ H w) (l:P.underlying t=some (.struct fs)) (u:(fs.toList.all fun f=>f.name != "_" &&(bR P f.type).isSome)=true) (p:P.stoodInHeld t=false) (s:P.eqGuardType P.depth t=false)
 (h:dF cs.toList ds.toList (fs.toList.map fun f=>(f.offset,(bR P f.type).getD 9))=some b) (n:V φ (.agg cs) x') (m:V φ (.agg ds) i) (k j:Operand) {r:Result Next} {op:BinOp} (q:op=bif neg then .neq else .eql)
 (e:r=((do eqGuard op t k j x' i;binOp op t x' i:Sem Value).run P w).andThen fun v w=>.ok (.value v) w):fZ w0 φ H w (.v (.bool (bif neg then !b else b))) H r:=by
 obtain ⟨g,rfl,y,_⟩:=n.CZ;obtain ⟨d,rfl,x,_⟩:=m.CZ;have a:P.fieldsOf t=fs:=by simp [Program.fieldsOf,l]
 have o:P.underlying t=some (.struct (P.fieldsOf t)):=by rw [a];exact l
 have c:(Op.equalIn 10000 t (.agg g) (.agg d)).run P w= .ok b w:=by
  rw [run_equalIn_struct w 9999 t g d o p,a];exact qe y x 9998 w fs.toList b u h
 refine .pure R (.same rfl) ?_;rw [e,Sem.run_bind,run_eqGuard_agg w op t k j g d s];simp only [Result.andThen_ok];subst q;cases neg
 ·show((binOp .eql t (.agg g) (.agg d)).run P w).andThen _=_
  rw [run_eql_struct,c];rfl
 ·show((binOp .neq t (.agg g) (.agg d)).run P w).andThen _=_
  rw [run_neq_struct,c];rfl
theorem pv {g:Fr} {a:Act} (F:kZ φ g a) {place:Nat→Option (Nat×Nat)}:∀{ps:List (Nat×Operand)} {l:List (Nat×Nat×X)},gY place ps=some l→
 (l.map fun p=>(p.1,p.2.1,p.2.2.ev g)).length=(ps.map fun p=>(p.1,a.eval p.2)).length∧
 ∀(j:Nat) (p:Nat×Nat×Value),(l.map fun p=>(p.1,p.2.1,p.2.2.ev g))[j]?=some p→∃d:Nat×Value,(ps.map fun p=>(p.1,a.eval p.2))[j]?=some d∧place d.1=some (p.1,p.2.1)∧V φ p.2.2 d.2
 |[],l,h=>by simp [gY]at h;subst h;exact ⟨rfl,fun j p h=>by simp at h⟩
 |(i,x)::ps,l,h=>by
  simp only [gY]at h
  cases b:place i with
  |none=>simp [b]at h
  |some on=>
   cases c:cX x with
   |none=>simp [b,c]at h
   |some y=>
    cases e:gY place ps with
    |none=>simp [b,c,e]at h
    |some m=>
     simp [b,c,e]at h;subst h;obtain ⟨k,h2⟩:=pv F e;refine ⟨by simpa using k,fun j p f=>?_⟩
     cases j with
     |zero=>simp at f;subst f;exact ⟨(i,a.eval x),by simp,b,da F c⟩
     |succ j=>simpa using h2 j p (by simpa using f)
end
end
section
open Go Go.RowKit
section
variable{P:Program} {w0 w:World} {φ:bD} {H:AH}
theorem rG {t:TypeId} {n:Nat} (h:dI P t=some n):∃i,P.info? t=some i∧i.size=n:=by
 unfold dI at h
 cases hi:P.info? t with
 |none=>simp [hi]at h
 |some i=>simp [hi]at h;exact ⟨i,rfl,h⟩
theorem JP {A:Fr} {a:Act} (F:kZ φ A a) (R:Rel w0 φ H w) (tn:φ.m H.nx=none) {c:Call} {W:cl} (j:EU P c=some W) {res:iH} {H':AH} (h:ar W (X.ev A) H=some (res,H')) (Z:∀f as,res= .enter f as→C6 P f) (ty:TypeId):
 fZ w0 φ H w res H' ((do let d←resolve a.eval c ty;invoke d.target d.args:Sem Next).run P w):=by
 obtain ⟨callee,args,argTypes⟩:=c;unfold EU at j;dsimp only at j
 cases callee with
 |invoke x m=>cases j
 |value x=>
  cases x with
  |func f=>
   simp only at j
   cases p:CY args.toList with
   |none=>simp [p]at j
   |some as=>
    simp [p]at j;subst j;simp only [ar,aqV,aq2]at h;obtain ⟨rfl,rfl⟩:=h;refine .enter R (as':=args.map a.eval) (by simpa using mX F p) ?_;have:=nV (Z f _ rfl) (args.map a.eval) w;simp [resolve,Act.eval,Deferred.ofValue,invoke,this]
  |tmp t=>
   simp only [cX]at j
   cases p:CY args.toList with
   |none=>simp [p]at j
   |some as=>
    simp [p]at j;subst j;simp only [ar]at h;have D:=F t;simp only [X.ev]at h;cases k:A.get t<;>simp [k]at h;rename_i fn first cap
    cases fn<;>simp at h;obtain ⟨rfl,rfl⟩:=h;rename_i f;rw [k]at D;obtain ⟨N,b',e,M,h2⟩:=V.fn1 D;have J:a.eval (.tmp t)= .func (.func f) N b':=e;refine .enter R (as':=N++args.map a.eval++b') (by simpa using M.append ((mX F p).append h2)) ?_;have:=nV (Z f _ rfl) (N++args.map a.eval++b') w;simp [resolve,J,Deferred.ofValue,invoke]
    simpa using this
  |const v=>
   simp only [cX]at j;split at j
   ·rename_i y as o p
    cases j;split at o
    ·rename_i fh
     cases o;simp only [ar,X.ev]at h;cases v<;>simp at h;simp [wF,flat]at fh
    ·cases o
   ·cases j
  |global g=>simp [cX]at j
 |builtin b=>
  simp only at j;split at j
  ·
   rename_i x t rest B K;have C:args= #[x]:=Array.ext' (by simpa using B);have I:argTypes[0]?=some t:=by rw [←Array.getElem?_toList,K];rfl
   subst C;split at j
   ·rename_i y q o
    cases j;have D:=da F o;simp only [ar]at h;cases k:y.ev A<;>simp [k]at h;obtain ⟨rfl,rfl⟩:=h;rw [k]at D;refine .pure R (.same rfl) ?_;simp [resolve,invoke,builtin,Builtin.len_,I,run_underlying q,D.string];rfl
   ·rename_i e y q o
    cases j;have D:=da F o;simp only [ar]at h;cases k:y.ev A<;>simp [k]at h;obtain ⟨rfl,rfl⟩:=h;rw [k]at D;obtain ⟨N,c',J,_⟩:=V.SO D;refine .pure R (.same rfl) ?_;simp [resolve,invoke,builtin,Builtin.len_,I,run_underlying q,J];rfl
   ·rename_i n e y q o
    cases j;simp only [ar,aqV,aq2]at h;obtain ⟨rfl,rfl⟩:=h;refine .pure R (.same rfl) ?_;simp [resolve,invoke,builtin,Builtin.len_,I,run_underlying q];rfl
   ·cases j
  ·
   rename_i s x t u B K;have C:args= #[s,x]:=Array.ext' (by simpa using B);have G:argTypes= #[t,u]:=Array.ext' (by simpa using K);subst C G
   have key:∀{e:TypeId} {y z:X},P.underlying t=some (.slice e)→((∃J,P.underlying u=some (.slice J))∨P.underlying u=some .string)→cX s=some y→cX x=some z→
    (match P.info? e with|some i=>if i.size=0∨i.bytes=0∨(gG P e).isNone∨e=BY then none else some (cl.app i.size i.bytes y z)|none=>none)=some W→fZ w0 φ H w res H' ((do let d←resolve a.eval {callee:=.builtin .append,args:=#[s,x],argTypes:=#[t,u]} ty;invoke d.target d.args:Sem Next).run P w):=by
    intro e y z q L o E j
    cases hi:P.info? e with
    |none=>simp [hi]at j
    |some i=>
     simp only [hi]at j;split at j
     ·cases j
     ·rename_i T
      cases j
      have Q:(gG P e).isSome=true:=by
       cases ht:gG P e with
       |none=>exact absurd (.inr (.inr (.inl (by simp [ht])))) T
       |some l=>rfl
      obtain ⟨l,hl⟩:=arz.1 Q;obtain ⟨i',zv,Y,zm,JO,_,SR⟩:=iB hl;rw [hi]at Y;cases Y;simp only [ar]at h
      cases k:bc i.size i.bytes H (y.ev A) (z.ev A)with
      |none=>simp [k]at h
      |some r=>
       obtain ⟨v,H1⟩:=r;simp [k]at h;obtain ⟨rfl,rfl⟩:=h;refine O7 (P:=P) (t:=t) (tx:=u) (ty:=ty) (e:=e) (i:=i) (z:=zv) R tn q hi zm (by rw [←SR,←JO];simp) (fun e=>T (.inr (.inr (.inr e)))) rfl (fun e=>T (.inl e)) rfl L (da F o) (da F E) k ?_;simp [resolve,invoke,builtin]
   split at j
   ·rename_i e J y z q L o E;exact key q (.inl ⟨J,L⟩) o E j
   ·rename_i e y z q L o E;exact key q (.inr L) o E j
   ·cases j
  ·
   rename_i s x t u B K;have C:args= #[s,x]:=Array.ext' (by simpa using B);have G:argTypes= #[t,u]:=Array.ext' (by simpa using K);subst C G;split at j
   ·rename_i e y z q o E
    cases U:dI P e with
    |none=>simp [U]at j
    |some n=>
     simp [U]at j;subst j;simp only [ar]at h
     cases k:jH n H (y.ev A) (z.ev A)with
     |none=>simp [k]at h
     |some r=>
      obtain ⟨v,H1⟩:=r;simp [k]at h;obtain ⟨rfl,rfl⟩:=h;refine JM (P:=P) (t:=t) (tx:=u) (ty:=ty) (e:=e) R q U (da F o) (da F E) k ?_;simp [resolve,invoke,builtin]
   ·cases j
  ·
   rename_i x l B;have C:args.toList=x::l:=B;split at j
   ·rename_i y O o S
    cases j;simp only [ar]at h
    cases k:Eu (y.ev A) (O.map (X.ev A))with
    |none=>simp [k]at h
    |some v=>
     simp [k]at h;obtain ⟨rfl,rfl⟩:=h;obtain ⟨r',M,h2⟩:=Ns (P:=P) (w:=w) (mX F S) (da F o) k;refine .pure R h2 ?_;simp [resolve,invoke,builtin,Builtin.max_,C,M]
   ·cases j
  ·
   rename_i x l B;have C:args.toList=x::l:=B;split at j
   ·rename_i y O o S
    cases j;simp only [ar]at h
    cases k:Jk (y.ev A) (O.map (X.ev A))with
    |none=>simp [k]at h
    |some v=>
     simp [k]at h;obtain ⟨rfl,rfl⟩:=h;obtain ⟨r',M,h2⟩:=Nt (P:=P) (w:=w) (mX F S) (da F o) k;refine .pure R h2 ?_;simp [resolve,invoke,builtin,Builtin.min_,C,M]
   ·cases j
  ·cases j
theorem Fk {fr:Fr} {a:Act} (F:kZ φ fr a) (R:Rel w0 φ H w) {t:TypeId} {m k x:Operand} {Y:cl} {res:iH} {H':AH}
 (s:(match P.underlying t,cX m,cX k,cX x with|some (.map kt _),some a,some b,some c=>(bR P kt).map fun kk=>cl.mU kk a b c|_,_,_,_=>none)=some Y) (h:ar Y (X.ev fr) H=some (res,H')):
 fZ w0 φ H w res H' ((do Instr.mapUpdate t (a.eval m) (a.eval k) (a.eval x);pure .skip:Sem Next).run P w):=by
 split at s
 case h_2=>cases s
 rename_i kt e m' i Z I hm hk hx
 cases n:bR P kt with
 |none=>simp [n]at s
 |some kk=>
  simp [n]at s;subst s;have T:=da F hm;have h2:=da F hk;have h3:=da F hx
  have D:∃d,P.underlying kt=some d:=by
   unfold bR at n
   cases o:P.underlying kt with
   |none=>simp [o]at n
   |some d=>exact ⟨d,rfl⟩
  obtain ⟨d,o⟩:=D;simp only [ar]at h;split at h
  case h_2=>cases h
  rename_i r B;split at h
  case h_2=>cases h
  rename_i es N;obtain ⟨p,h⟩:=aw h;simp only [aqX,aq6]at p;rw [B]at T;obtain ⟨l,L,W⟩:=V.mp1 T;have K:φ.n0≤r:=by rw [←R.n0];exact p.1.2
  obtain ⟨_,es',ck,A,yS⟩:=R.maps r l es K L (AH.gV N)
  have M:a.eval k=i.ev fr:=by
   have O:=rE p.1.1;have S:=p.1.1
   cases wN:i.ev fr<;>rw [wN]at O h2 S<;>simp [flat]at O<;>first
    |exact h2.int
    |exact h2.string
    |exact h2.bool
    |(rcases kk with _|_|_|kk<;>simp [cj]at S)
  have Q:(Instr.checkKey false 10000 kt (i.ev fr)).run P w= .ok () w:=run_checkKey (P:=P) o n false 9999 _ w;have J:(getObj l.c).run P w= .ok (.map es' ck) w:=by simp [getObj,Sem.run,A]
  have db:l.c<w.heap.size:=(aq8.1 A).1;have set:∀z:Obj,(setObj l.c z).run P w= .ok () {w with heap:=w.heap.setIfInBounds l.c z}:=by intro z;simp [setObj,Sem.run,A]
  cases f:kW (i.ev fr) (Z.ev fr) es with
  |none=>simp [f]at h
  |some U=>
   simp only [f,Option.map_some,aqV,aq2]at h;obtain ⟨rfl,rfl⟩:=h
   have done:∀(u:Array MapEntry) (y:Nat),ML φ U u.toList→(Instr.mapUpdate t (a.eval m) (a.eval k) (a.eval x)).run P w= .ok () {w with heap:=w.heap.setIfInBounds l.c (.map u y)}→
    fZ w0 φ H w (.v undef) (H.put r (some (.map U))) ((do Instr.mapUpdate t (a.eval m) (a.eval k) (a.eval x);pure .skip:Sem Next).run P w):=by
    intro u y C mY;obtain ⟨R',G⟩:=R.Fg (w':={w with heap:=w.heap.setIfInBounds l.c (.map u y)}) (es':=u) (ck:=y) K L N (by simp [db]) (fun q B=>by simp [Array.getElem?_setIfInBounds_ne (Ne.symm B)]) (by simp) rfl rfl rfl C;exact ⟨φ,_,_,by rw [Sem.run_bind,mY];rfl,R',G,.inr ⟨rfl,rfl⟩⟩
   rcases Fh (P:=P) o n p.1.1 h3 0 yS f with⟨E,g⟩|⟨v',j,en,E,hj,Ue,g⟩
   ·refine done (es'.push ⟨i.ev fr,a.eval x,ck⟩) (ck+1) (by simpa using g ck) ?_
    rw [W,M];simp [Instr.mapUpdate,run_underlying I,J,Q,Instr.findKey,run_underlying o,E,set]
   ·refine done (es'.modify j fun e=>{e with key:=i.ev fr,val:=a.eval x}) ck (by simpa using g) ?_
    rw [W,M];have Ez:es'[j]?=some en:=by simpa using hj
    simp [Instr.mapUpdate,run_underlying I,J,Q,Instr.findKey,run_underlying o,E,set,Ez,Ue,Instr.keyThatStays,tw p.1.1]
theorem Uh {fr:Fr} {a:Act} (F:kZ φ fr a) (R:Rel w0 φ H w) (tn:φ.m H.nx=none) {o:Oper} {ao:cl} (q:Ys P o=some ao) {res:iH} {H':AH} (h:ar ao (X.ev fr) H=some (res,H')) (hf:∀f as,res= .enter f as→C6 P f):
 fZ w0 φ H w res H' ((execOp a.eval o).run P w):=by
 obtain ⟨dst,op,ty,pos,after,guard⟩:=o;unfold Ys at q;unfold execOp;dsimp only at q⊢;cases op<;>simp only at q⊢
 case move x=>
  cases A:cX x with
  |none=>simp [A]at q
  |some y=>simp [A]at q;subst q;exact AX F R A h (by simp)
 case assign x=>
  cases A:cX x with
  |none=>simp [A]at q
  |some y=>simp [A]at q;subst q;exact AX F R A h (by simp)
 case pick c x y=>
  split at q
  ·rename_i c' x' y' O9 A hy
   cases q;simp only [ar]at h;have B:=da F O9;cases u:c'.ev fr<;>simp [u]at h;rename_i b;obtain ⟨rfl,rfl⟩:=h;rw [u]at B;cases b
   ·exact .pure R (da F hy) (by simp [B.bool,asBool])
   ·exact .pure R (da F A) (by simp [B.bool,asBool])
  ·cases q
 case alloc e=>
  split at q
  ·cases q
  rename_i fm
  cases L:gG P e with
  |none=>simp [L]at q
  |some z=>
   simp [L]at q;subst q;simp only [ar,aqV,aq2]at h;obtain ⟨rfl,rfl⟩:=h;obtain ⟨i,v,hi,B,qg⟩:=E4 L R tn (fun e=>fm (.inl e))
   have:((do pure (Next.value (←Instr.alloc e true (.tuple #[]))):Sem Next)).run P w= .ok (.value (.pointer (some ⟨w.heap.size,0,none⟩))) {w with heap:=w.heap.push (.cells v.cells e)}:=by
    simp [Instr.alloc,zeroValue,typeInfo,hi,B,newVar,newRow]
   rw [this];exact qg
 case box e x=>
  split at q
  ·cases q
  rename_i fm
  cases A:cX x with
  |none=>simp [A]at q
  |some y=>
   simp [A]at q;subst q;simp only [ar]at h
   cases ht:cw (y.ev fr)with
   |true=>simp [ht]at h
   |false=>
    simp [ht]at h;obtain ⟨rfl,rfl⟩:=h;have:=O0 R tn (da F A) ht e fm
    have hr:((do pure (Next.value (←Instr.box e (a.eval x))):Sem Next)).run P w= .ok (.value (.pointer (some ⟨w.heap.size,0,none⟩))) {w with heap:=w.heap.push (.cells (a.eval x).cells e)}:=by
     simp [Instr.box,newVar,newRow]
    rw [hr];exact this
 case build t ps=>
  have key:∀{place:Nat→Option (Nat×Nat)} {z:List Value} {l:List (Nat×Nat×X)},gG P t=some z→gY place ps.toList=some l→cl.build z l=ao→
   (∀N,(P.info? t).bind (·.zero)=some N→∀cells,Instr.fill place N.cells (ps.map fun p=>(p.1,a.eval p.2)).toList=some cells→(Instr.build t (ps.map fun p=>(p.1,a.eval p.2))).run P w= .ok (.agg cells) w)→
   fZ w0 φ H w res H' ((do pure (Next.value (←Instr.build t (ps.map fun p=>(p.1,a.eval p.2)))):Sem Next).run P w):=by
   intro place z l L K hao mY;subst hao;obtain ⟨i,N,hi,Q,JO,SQ,SR⟩:=iB L;obtain ⟨J,M⟩:=pv F K;simp only [ar,List.map_map]at h
   cases u:iG z (l.map fun p=>(p.1,p.2.1,p.2.2.ev fr))with
   |none=>simp [u]at h
   |some c=>
    simp [u]at h;obtain ⟨rfl,rfl⟩:=h;obtain ⟨nU,q1,q2,q3⟩:=uG (φ:=φ) (ps:=l.map fun p=>(p.1,p.2.1,p.2.2.ev fr)) (ps':=ps.toList.map fun p=>(p.1,a.eval p.2)) (place:=place) (arr:=N.cells) J M u (by rw [JO];exact VL.same SQ) (eN SQ);have:=mY N (by simp [hi,Q]) nU (by simpa using q1);refine .pure R (.agg (a':=nU) (by simpa using q3) (by simpa using q2)) ?_;simp [this]
  split at q
  ·rename_i W z C L
   split at q
   ·rename_i pl hpl
    cases K:gY (fun i=>pl[i]?) ps.toList with
    |none=>simp [K]at q
    |some l=>
     simp [K]at q;refine key L K q ?_;intro N Q cells A8
     cases hi:P.info? t with
     |none=>simp [hi]at Q
     |some i=>
      simp [hi]at Q;refine run_build w t _ cells ?_;unfold Program.built;simp [hi,C,Q,hpl]
      simpa using A8
   ·cases q
  ·rename_i n e z C L
   split at q
   ·rename_i n D
    cases K:gY (fun i=>some (i*n,n)) ps.toList with
    |none=>simp [K]at q
    |some l=>
     simp [K]at q;refine key L K q ?_;intro N Q cells A8
     cases hi:P.info? t with
     |none=>simp [hi]at Q
     |some i=>
      simp [hi]at Q;simp [Instr.build,zeroValue,typeInfo,hi,Q,run_underlying C,cv D];simp at A8;simp [A8]
   ·cases q
  ·cases q
 case buildSlice t len ps=>
  split at q
  ·rename_i e C
   split at q
   ·rename_i n z D L
    split at q
    ·cases q
    ·rename_i T
     cases K:gY (fun i=>some (i*n,n)) ps.toList with
     |none=>simp [K]at q
     |some l=>
      simp [K]at q;subst q;obtain ⟨i,N,hi,Q,JO,SQ,SR⟩:=iB L;obtain ⟨i',qE,Ui⟩:=rG D;rw [hi]at qE;cases qE;obtain ⟨J,M⟩:=pv F K;simp only [ar,List.map_map]at h;have fh:=all_replicate SQ len;have Nu:=uF N.cells n (by rw [←Ui,←SR,←JO];simp) len;rw [JO]at Nu
      cases u:iG (List.replicate len z).flatten (l.map fun p=>(p.1,p.2.1,p.2.2.ev fr))with
      |none=>simp [u]at h
      |some c=>
       simp [u]at h;obtain ⟨rfl,rfl⟩:=h;obtain ⟨nU,q1,q2,q3⟩:=uG (φ:=φ) (ps:=l.map fun p=>(p.1,p.2.1,p.2.2.ev fr)) (ps':=ps.toList.map fun p=>(p.1,a.eval p.2)) (place:=fun i=>some (i*n,n)) (arr:=madeCells N.cells (len*n)) J M u (by rw [Nu];exact VL.same fh) (eN fh)
       have hr:((do pure (Next.value (←Instr.buildSlice t len (ps.map fun p=>(p.1,a.eval p.2)))):Sem Next)).run P w= .ok (.value (.slice (some ⟨w.heap.size,0,none⟩) len len)) {w with heap:=w.heap.push (.cells nU e)}:=by
        have h24:¬ (2^24<len*n):=by omega
        have kc:(Instr.fill (fun i=>some (i*n,n)) (madeCells (if len*n=0 then #[]else N.cells) (len*n)) (ps.toList.map fun p=>(p.1,a.eval p.2)))=some nU:=by
         by_cases U:len*n=0
         ·rw [if_pos U,U]
          rw [U]at q1;have:madeCells (#[]:Array Value) 0=madeCells N.cells 0:=by simp [madeCells]
          rw [this];exact q1
         ·rw [if_neg U];exact q1
        by_cases U:len*n=0
        ·rw [if_pos U]at kc
         simp only [madeCells]at kc;simp [Instr.buildSlice,run_underlying C,cv D,U];rw [U]at kc;simp at kc;simp [kc,newRow]
        ·rw [if_neg U]at kc
         simp only [madeCells]at kc;simp [Instr.buildSlice,run_underlying C,cv D,U,h24,zeroValue,typeInfo,hi,Q];simp [kc,newRow]
       rw [hr];obtain ⟨R',G⟩:=R.new tn (w':={w with heap:=w.heap.push (.cells nU e)}) (z:=n) (cs:=c) (arr:=nU) (e:=e) rfl rfl rfl rfl (by rw [q2.length];simp) (nS q2 q3) (fun e=>T (.inr (.inr e)));refine ⟨_,_,_,rfl,R',G,.inl ⟨_,rfl,?_⟩⟩;have:=V.sl (φ:=φ.add H.nx ⟨w.heap.size,0,nU.size,n⟩) (o:=0) (n:=len) (bD.kX φ H.nx ⟨w.heap.size,0,nU.size,n⟩) (aqY len) id (.inl rfl)
       simpa using this
   ·cases q
  ·cases q
 case load t x=>
  split at q
  ·rename_i y Pd A
   cases D:dI P t with
   |none=>simp [D]at q
   |some n=>
    simp [D]at q;subst q;have B:=da F A;simp only [ar]at h;cases u:y.ev fr<;>simp [u]at h;rename_i p;cases p<;>simp at h;rename_i ad
    cases fg:H.ldn ad n with
    |none=>simp [fg]at h
    |some vs=>
     simp [fg]at h;obtain ⟨rfl,rfl⟩:=h;rw [u]at B;obtain ⟨a',jL,J,M,e3,e4,e5⟩:=E5 R B fg;refine .pure R (.agg (a':=jL.toArray) (by simpa using e3) (by simpa using e4)) ?_;have:=run_loadCells_list (P:=P) w a' jL e5;rw [M]at this;simp [Instr.loadAt,J,Instr.sureAddr,loadVar,jM Pd,cv D,this]
  ·rename_i y Pd A
   cases q;have B:=da F A;simp only [ar]at h;cases u:y.ev fr<;>simp [u]at h;rename_i p;cases p<;>simp at h;rename_i ad
   cases fg:H.ld ad with
   |none=>simp [fg]at h
   |some v=>
    simp [fg]at h;obtain ⟨rfl,rfl⟩:=h;rw [u]at B;obtain ⟨a',v',J,M,e3⟩:=No R B fg;refine .pure R e3 ?_;simp [Instr.loadAt,J,Instr.sureAddr,loadVar,jM Pd,M]
  ·cases q
 case store t x v=>
  split at q
  ·rename_i y z A B
   cases D:dI P t with
   |none=>simp [D]at q
   |some n=>
    simp [D]at q;subst q;have I:=da F A;have h2:=da F B;simp only [ar]at h;cases u:y.ev fr<;>simp [u]at h;rename_i p;cases p<;>simp at h;rename_i ad;rw [u]at I
    cases E:(Nat.beq (aR (z.ev fr)).length n&& !cw (z.ev fr))with
    |false=>simp [E]at h
    |true=>
     simp only [E,cond_true]at h;simp [nb]at E
     cases fy:H.st ad (aR (z.ev fr))with
     |none=>simp [fy]at h
     |some H1=>
      simp [fy]at h;obtain ⟨rfl,rfl⟩:=h;obtain ⟨a',w',J,M,R',G⟩:=E6 (P:=P) R I fy h2.cells (mW h2 E.2);refine ⟨φ,w',_,?_,R',G,.inr ⟨rfl,rfl⟩⟩;have T:(a.eval v).cells.size=n:=by rw [←E.1,h2.cells.length];simp
      simp [Instr.storeAt,J,Instr.sureAddr,storeVar,cv D,T,M]
  ·cases q
 case nilCheck x=>
  cases A:cX x with
  |none=>simp [A]at q
  |some y=>
   simp [A]at q;subst q;have B:=da F A;simp only [ar]at h;cases u:y.ev fr<;>simp [u]at h;rename_i p;cases p<;>simp at h;obtain ⟨rfl,rfl⟩:=h;rw [u]at B;obtain ⟨l,I,h2,h3⟩:=V.wL B;refine .pure R B ?_;simp [h3]
 case binOp op t x y ty2=>
  split at q
  ·rename_i x' y' A hy
   have I:=da F A;have h2:=da F hy
   have abI:∀v,bX op (x'.ev fr) (y'.ev fr)=some v→res= .v v∧H'=H→fZ w0 φ H w res H' ((do pure (Next.value (←(do eqGuard op t x y (a.eval x) (a.eval y);binOp op t (a.eval x) (a.eval y)))):Sem Next).run P w):=by
    rintro v B ⟨rfl,rfl⟩;refine O2 (P:=P) R B I h2 t x y ?_;rw [Sem.run_bind];rfl
   have gT:ao= .bin op x' y'→fZ w0 φ H w res H' ((do pure (Next.value (←(do eqGuard op t x y (a.eval x) (a.eval y);binOp op t (a.eval x) (a.eval y)))):Sem Next).run P w):=by
    rintro rfl;simp only [ar]at h
    cases u:bX op (x'.ev fr) (y'.ev fr)with
    |none=>simp [u]at h
    |some v=>simp [u]at h;exact abI v u ⟨h.1.symm,h.2.symm⟩
   have heq:∀k neg,ru P t=some k→(op=bif neg then .neq else .eql)→ao= .eqk k neg x' y'→fZ w0 φ H w res H' ((do pure (Next.value (←(do eqGuard op t x y (a.eval x) (a.eval y);binOp op t (a.eval x) (a.eval y)))):Sem Next).run P w):=by
    rintro k neg hk qc rfl;simp only [ar]at h
    cases u:gD k (x'.ev fr) (y'.ev fr)with
    |none=>simp [u]at h
    |some b=>
     simp [u]at h;obtain ⟨rfl,rfl⟩:=h;refine O3 (P:=P) R hk u I h2 x y qc ?_;rw [Sem.run_bind];rfl
   have Uj:∀W neg,P.underlying t=some (.struct W)→((W.toList.all fun f=>f.name != "_" &&(bR P f.type).isSome)&& !P.stoodInHeld t&& !P.eqGuardType P.depth t)=true→(op=bif neg then .neq else .eql)→ao= .eqs neg (W.toList.map fun f=>(f.offset,(bR P f.type).getD 9)) x' y'→
    fZ w0 φ H w res H' ((do pure (Next.value (←(do eqGuard op t x y (a.eval x) (a.eval y);binOp op t (a.eval x) (a.eval y)))):Sem Next).run P w):=by
    rintro W neg C E qc rfl;simp only [aqX,Bool.not_eq_true']at E;simp only [ar]at h
    cases u:x'.ev fr<;>simp only [u]at h<;>first
     |(cases h;done)
     |skip
    rename_i cs
    cases Z:y'.ev fr<;>simp only [Z]at h<;>first
     |(cases h;done)
     |skip
    rename_i ds
    cases Pe:dF cs.toList ds.toList (W.toList.map fun f=>(f.offset,(bR P f.type).getD 9))with
    |none=>simp [Pe]at h
    |some b=>
     simp only [Pe,Option.map_some,aqV,aq2]at h;obtain ⟨rfl,rfl⟩:=h;rw [u]at I;rw [Z]at h2;refine Pc (P:=P) R C E.1.1 E.1.2 E.2 Pe I h2 x y qc ?_;rw [Sem.run_bind];rfl
   split at q
   ·cases q;exact gT rfl
   ·cases q;exact gT rfl
   ·rename_i W C
    split at q
    ·rename_i E
     split at q
     ·cases q;exact Uj W false C E rfl rfl
     ·cases q;exact Uj W true C E rfl rfl
     ·cases q
    ·cases q
   ·split at q
    ·rename_i k hk;cases q;exact heq k false hk rfl rfl
    ·rename_i k hk;cases q;exact heq k true hk rfl rfl
    ·cases q
  ·cases q
 case unOp op t x=>
  cases A:cX x with
  |none=>simp [A]at q
  |some y=>
   simp [A]at q;subst q;have B:=da F A;simp only [ar]at h
   cases u:ES op (y.ev fr)with
   |none=>simp [u]at h
   |some v=>
    simp [u]at h;obtain ⟨rfl,rfl⟩:=h;unfold ES at u;split at u
    ·rename_i b O
     cases u;rw [O]at B;refine .pure R (.same rfl) ?_;simp [B.bool,Op.unary]
    ·rename_i k n O
     cases u;rw [O]at B;refine .pure R (.same rfl) ?_;simp [B.int,Op.unary,Op.intArith]
    ·cases u
 case convert src dst x=>
  split at q
  ·rename_i k1 k y hu1 hu2 A
   cases q;have B:=da F A;simp only [ar]at h;cases u:y.ev fr<;>simp [u]at h;obtain ⟨rfl,rfl⟩:=h;rw [u]at B;refine .pure R (.same rfl) ?_;simp [convert,run_underlying hu1,run_underlying hu2,B.int,Conv.intToInt]
  ·rename_i k1 y hu1 hu2 A
   cases q;have B:=da F A;simp only [ar]at h;cases u:y.ev fr<;>simp [u]at h;obtain ⟨rfl,rfl⟩:=h;rw [u]at B;refine .pure R (.same rfl) ?_;simp [convert,run_underlying hu1,run_underlying hu2,B.int,Conv.intToString]
  ·cases q
 case makeFunc fn first cap=>
  cases fn<;>simp only at q
  case func f=>
   split at q
   ·rename_i xs ys A hy
    cases q;simp only [ar,aqV,aq2]at h;obtain ⟨rfl,rfl⟩:=h;refine .pure R (.fn (a':=first.map a.eval) (b':=cap.map a.eval) (by simpa using mX F A) (by simpa using mX F hy)) ?_;simp [Instr.makeFunc]
   ·cases q
  all_goals cases q
 case makeMap t r=>
  cases r with
  |some r=>cases q
  |none=>
   cases q;simp only [ar,aqV,aq2]at h;obtain ⟨rfl,rfl⟩:=h;obtain ⟨R',G⟩:=R.Pa tn (w':={w with heap:=w.heap.push (.map #[] 0)}) rfl rfl rfl rfl;refine ⟨_,_,.value (.map (some w.heap.size)),?_,R',G,.inl ⟨_,rfl,.mp (l:=⟨w.heap.size,0,0,0⟩) (bD.kX _ _ _)⟩⟩;simp [Instr.makeMap]
 case makeSlice t l c=>
  split at q
  ·rename_i e C
   split at q
   ·rename_i i z x hi L A
    split at q
    ·rename_i E
     cases q;have B:=da F A;simp only [ar]at h;cases u:x.ev fr<;>simp [u]at h;rename_i k n;rw [u]at B
     have Yy:a.eval c=a.eval l:=by
      have Y:=E.1;unfold p9 at Y;split at Y
      ·simp at Y;rw [Y]
      ·simp at Y;obtain ⟨rfl,rfl⟩:=Y;rfl
      ·cases Y
     cases wo:(decide (0≤n)&&decide (IntKind.i64.wrap n=n)&&decide ((i.bytes:Int)*n≤140737488355328))with
     |false=>rw [wo]at h;simp at h
     |true=>
      rw [wo]at h;simp only [cond_true,aqV,aq2]at h;obtain ⟨rfl,rfl⟩:=h;simp only [aqX,aq6]at wo;refine JN (P:=P) (k:=k) R tn C hi L E.2.2.2 rfl rfl wo.1.1 wo.1.2 (by have:=wo.2;omega) ?_;rw [Yy,B.int,Sem.run_bind];rfl
    ·cases q
   ·cases q
  ·cases q
 case slice t x lo hi mx=>
  split at q
  ·rename_i x' zi qE C4 A Yz hhi Jp
   have key:∀sz,ao= .sl sz x' zi qE C4→(∀v,bL sz H (x'.ev fr) (zi.map (X.ev fr)) (qE.map (X.ev fr)) (C4.map (X.ev fr))=some v→(P.underlying t=some .string∧∃s,x'.ev fr= .string s)∨(∃e,P.underlying t=some (.slice e)∧dI P e=some sz∧∃a n c,x'.ev fr= .slice a n c))→
    fZ w0 φ H w res H' ((do pure (Next.value (←Instr.sliceAt t (a.eval x) (lo.map a.eval) (hi.map a.eval) (mx.map a.eval))):Sem Next).run P w):=by
    rintro sz rfl hty;simp only [ar]at h
    cases u:bL sz H (x'.ev fr) (zi.map (X.ev fr)) (qE.map (X.ev fr)) (C4.map (X.ev fr))with
    |none=>simp [u]at h
    |some v=>
     simp [u]at h;obtain ⟨rfl,rfl⟩:=h;obtain ⟨v',J,M⟩:=C5 (P:=P) (t:=t) R (hty v u) u (da F A) (zn F Yz) (zn F hhi) (zn F Jp);refine .pure R M ?_;simp [J]
   split at q
   ·rename_i C
    cases q;refine key 0 rfl (fun v B=>.inl ⟨C,?_⟩);unfold bL at B;split at B
    ·split at B
     ·cases B
     ·obtain ⟨O,_⟩:=aw B
      simp [nb]at O
    ·exact ⟨_,by assumption⟩
    ·cases B
   ·rename_i e C
    cases D:dI P e with
    |none=>simp [D]at q
    |some n=>
     simp only [D]at q;split at q
     ·cases q
     ·rename_i kT
      cases q;refine key n rfl (fun v B=>.inr ⟨e,C,D,?_⟩);unfold bL at B;split at B
      ·exact ⟨_,_,_,by assumption⟩
      ·split at B
       ·cases B
       ·split at B
        ·cases B
        ·obtain ⟨O,_⟩:=aw B
         simp [nb]at O;exact absurd O kT
      ·cases B
   ·cases q
  ·cases q
 case fieldAddr s x f=>
  split at q
  ·rename_i W y C A
   split at q
   ·rename_i g hg
    split at q
    ·rename_i n D
     split at q
     ·cases q
     ·rename_i kT
      cases q;have B:=da F A;simp only [ar]at h;cases u:y.ev fr<;>simp [u]at h;rename_i p;cases p<;>simp at h;rename_i ad;obtain ⟨gU,h⟩:=aw h;simp only [aqV,aq2]at h;obtain ⟨rfl,rfl⟩:=h;rw [u]at B;obtain ⟨l,I,h2,h3⟩:=V.wL B;refine .pure R (.ptr h2) ?_;simp [Instr.fieldAt,run_underlying C,hg,h3,Instr.sureAddr,fieldPlace,cv D,kT,add_lit,Nat.add_assoc,Nat.add_comm,Nat.add_left_comm]
    ·cases q
   ·cases q
  ·cases q
 case indexAddr t x i=>
  split at q
  ·rename_i e y z C A hi
   cases D:dI P e with
   |none=>simp [D]at q
   |some n=>
    simp [D]at q;subst q;have I:=da F A;have h2:=da F hi;simp only [ar]at h;split at h
    case h_2=>cases h
    rename_i ad len cap k j u Z;split at h
    case isFalse=>cases h
    rename_i hj;obtain ⟨gU,h⟩:=aw h;simp only [aqV,aq2]at h;obtain ⟨rfl,rfl⟩:=h;rw [u]at I;rw [Z]at h2;rcases V.EY I with⟨l,c',_,K,_,_,_,J⟩|⟨Y,_⟩
    ·refine .pure R (.ptr K) ?_
     simp [Instr.indexAt,h2.int,asIntOf,run_underlying C,J,hj,cv D,add_lit,Nat.add_assoc,Nat.add_comm,Nat.add_left_comm]
    ·rw [Y]at gU;simp at gU
  ·rename_i len e y z C A hi
   cases D:dI P e with
   |none=>simp [D]at q
   |some n=>
    simp [D]at q;subst q;have I:=da F A;have h2:=da F hi;simp only [ar]at h;split at h
    case h_2=>cases h
    rename_i ad k j u Z;split at h
    case isFalse=>cases h
    rename_i hj;obtain ⟨gU,h⟩:=aw h;simp only [aqV,aq2]at h;obtain ⟨rfl,rfl⟩:=h;rw [u]at I;rw [Z]at h2;obtain ⟨l,_,K,J⟩:=V.wL I;refine .pure R (.ptr K) ?_;simp [Instr.indexAt,h2.int,asIntOf,run_underlying C,J,Instr.sureAddr,hj,cv D,add_lit,Nat.add_assoc,Nat.add_comm,Nat.add_left_comm]
  ·cases q
 case index t x i=>
  split at q
  ·rename_i y z C A hi
   cases q;have I:=da F A;have h2:=da F hi;simp only [ar]at h;cases u:y.ev fr<;>simp [u]at h;rename_i s;cases Z:z.ev fr<;>simp [Z]at h;rename_i k j;obtain ⟨hj,h⟩:=h
   cases O:s[j.toNat]? with
   |none=>simp [O]at h
   |some b=>
    simp [O]at h;obtain ⟨rfl,rfl⟩:=h;rw [u]at I;rw [Z]at h2;refine .pure R (.same rfl) ?_;simp [Instr.index,I.string,h2.int,asIntOf,run_underlying C,hj,O]
  ·cases q
 case makeInterface t x=>
  split at q
  ·cases q
  ·rename_i d y hni C A
   cases q;simp only [ar,aqV,aq2]at h;obtain ⟨rfl,rfl⟩:=h;refine .pure R (.iface (da F A)) ?_
   cases d<;>first
    |(simp [Instr.makeInterface,run_underlying C];done)
    |exact absurd rfl (hni _)
  ·cases q
 case extract x i=>
  cases A:cX x with
  |none=>simp [A]at q
  |some y=>
   simp [A]at q;subst q;have B:=da F A;simp only [ar]at h;cases u:y.ev fr<;>simp [u]at h;rename_i vs
   cases hj:vs[i]? with
   |none=>simp [hj]at h
   |some v=>
    simp [hj]at h;obtain ⟨rfl,rfl⟩:=h;rw [u]at B;obtain ⟨jL,J,M⟩:=V.abp B;obtain ⟨v',e3,e4⟩:=M.get i v (by simpa using hj);refine .pure R e4 ?_;have SU:jL[i]?=some v':=by simpa using e3
    simp [Instr.extract,J,SU]
 case call c=>exact JP F R tn q h hf ty
 case lookup t x k ok=>
  split at q
  ·rename_i kt e x' k' C A hk
   split at q
   ·rename_i z L
    split at q
    ·rename_i kk A0
     split at q
     ·rename_i fh
      cases q;have I:=da F A;have h2:=da F hk
      have hkd:∃d,P.underlying kt=some d:=by
       unfold bR at A0
       cases hd:P.underlying kt with
       |none=>simp [hd]at A0
       |some d=>exact ⟨d,rfl⟩
      obtain ⟨d,hd⟩:=hkd
      have S:(zeroValue e).run P w= .ok z w:=by
       cases hi:P.info? e with
       |none=>simp [hi]at L
       |some i=>simp [hi]at L;simp [zeroValue,typeInfo,hi,L]
      simp only [ar]at h;split at h
      ·rename_i u
       obtain ⟨hko,h⟩:=aw h;simp only [aqV,aq2]at h;obtain ⟨rfl,rfl⟩:=h;rw [u]at I;have A7:=run_checkKey (P:=P) hd A0 true 9999 (a.eval k) w
       have mY:(Instr.lookup t (a.eval x) (a.eval k) ok).run P w= .ok (if ok then .tuple #[z,.bool false]else z) w:=by
        rw [I.mp0];simp [Instr.lookup,run_underlying C,A7,Instr.findKey,run_underlying hd,Instr.findNow,S]
       refine .pure (x':=if ok then .tuple #[z,.bool false]else z) R ?_ (by simp [mY]);cases ok
       ·exact V.wK fh
       ·exact .tuple (.cons (V.wK fh) (.cons (.same rfl) .nil))
      ·rename_i r u
       split at h
       case h_2=>cases h
       rename_i es hg;obtain ⟨E,h⟩:=aw h;simp only [aqX,aq6]at E;rw [u]at I;obtain ⟨l,K,J⟩:=V.mp1 I;obtain ⟨_,es',ck,hw,yS⟩:=R.maps r l es (by rw [←R.n0];exact E.2) K (AH.gV hg)
       have Fl:a.eval k=k'.ev fr:=by
        have hf:=rE E.1
        cases wN:k'.ev fr<;>rw [wN]at hf h2 E<;>simp [flat]at hf<;>first
         |exact h2.int
         |exact h2.string
         |exact h2.bool
         |(rcases kk with _|_|_|kk<;>simp [cj]at E)
       have A7:=run_checkKey (P:=P) hd A0 es'.isEmpty 9999 (a.eval k) w
       cases YA:fG (k'.ev fr) es with
       |none=>simp [YA]at h
       |some ro=>
        have Fm:(getObj l.c).run P w= .ok (.map es' ck) w:=by simp [getObj,Sem.run,hw]
        have JR:(Instr.checkKey es'.isEmpty 10000 kt (a.eval k)).run P w= .ok () w:=A7;rcases AY (P:=P) hd A0 E.1 0 yS YA with⟨rfl,JQ⟩|⟨v,v',j,en,rfl,JQ,kU,_,_⟩
        ·simp only [YA,aqV,aq2]at h
         obtain ⟨rfl,rfl⟩:=h
         have mY:(Instr.lookup t (a.eval x) (a.eval k) ok).run P w= .ok (if ok then .tuple #[z,.bool false]else z) w:=by
          rw [J];rw [Fl]at JR⊢;simp [Instr.lookup,run_underlying C,Fm,JR,Instr.findKey,run_underlying hd,JQ,S]
         refine .pure (x':=if ok then .tuple #[z,.bool false]else z) R ?_ (by simp [mY]);cases ok
         ·exact V.wK fh
         ·exact .tuple (.cons (V.wK fh) (.cons (.same rfl) .nil))
        ·simp only [YA,aqV,aq2]at h
         obtain ⟨rfl,rfl⟩:=h
         have mY:(Instr.lookup t (a.eval x) (a.eval k) ok).run P w= .ok (if ok then .tuple #[v',.bool true]else v') w:=by
          rw [J];rw [Fl]at JR⊢;simp [Instr.lookup,run_underlying C,Fm,JR,Instr.findKey,run_underlying hd,JQ]
         refine .pure (x':=if ok then .tuple #[v',.bool true]else v') R ?_ (by simp [mY]);cases ok
         ·exact kU
         ·exact .tuple (.cons kU (.cons (.same rfl) .nil))
      ·cases h
     ·cases q
    ·cases q
   ·cases q
  ·cases q
 case mapUpdate t m k x=>exact Fk F R q h
 case insert t m k x=>exact Fk F R q h
 all_goals cases q
end
end
end Go.Proofs.YtppcmpmnglaleaaGreatDoor.A
