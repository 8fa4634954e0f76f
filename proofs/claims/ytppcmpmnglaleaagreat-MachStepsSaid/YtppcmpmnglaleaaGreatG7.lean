/- Texts that stand one behind the other: Abs7, Abs8, Abs9, AbsA. -/
import Derived.Test.YtppcmpmnglaleaaGreatG6
import Derived.Deep.Upon
set_option linter.unusedVariables false
set_option linter.unusedSimpArgs false
namespace Go.Proofs.YtppcmpmnglaleaaGreat.A
section
open Go Go.RowKit
section
variable{P:Program} {w0 w:World} {φ:bS} {H:AH}
theorem rK {φ:bS}:∀(l:List UInt8),VL φ (l.map fun b=>.int .u8 b.toNat) (l.map fun b=>.int .u8 b.toNat)
 |[]=>.nil
 |b::l=>.cons (.same rfl) (rK l)
theorem Nc {sz n:Nat} {x x':Value} {new:List Value} {tx:TypeId} (R:Rel w0 φ H w) (i:V φ x x') (b:mW x=some n) (h:pJ H sz x=some new)
 (e:(∃v,P.underlying tx=some (.slice v))∨P.underlying tx=some .string):
 ∃news,Src P sz tx x' n news w∧VL φ new news∧new.all one=true:=by
 unfold pJ at h;split at h
 ·rename_i a d c
  simp [mW]at b;subst b;simp only [nb,Bool.cond_decide]at h;rcases V.DZ i with⟨l,o,r,t,_,_,_,rfl⟩|⟨r,rfl,_,y,o,rfl⟩
  ·split at h
   ·rename_i m
    cases h;subst m;refine ⟨[],⟨e,fun _=>rfl,?_,?_,by simp,fun _ h=>by cases h⟩,.nil,rfl⟩
    ·simp [Builtin.firstCells,loadCells,loadCellsFrom]
    ·simp [Builtin.firstCells,loadCells,loadCellsFrom]
   ·obtain ⟨_,f,h2,g,k,q,p⟩:=R.ldn h t
    refine ⟨g,⟨e,fun _=>rfl,?_,?_,k,q.one f⟩,q,f⟩
    ·exact run_firstCells_some w sz d _ d o g k p
    ·exact run_firstCells_some w.drew sz d _ d o g k (by simpa using p)
  ·simp at h
   subst h;refine ⟨[],⟨e,fun _=>rfl,?_,?_,by simp,fun _ h=>by cases h⟩,.nil,rfl⟩
   ·simp [Builtin.firstCells,loadCells,loadCellsFrom]
   ·simp [Builtin.firstCells,loadCells,loadCellsFrom]
 ·rename_i d c
  simp [mW]at b;subst b;simp only [nb,Bool.cond_decide]at h;split at h
  ·rename_i m
   cases h;subst m;rw [i.QL];refine ⟨[],⟨e,fun _=>rfl,?_,?_,by simp,fun _ h=>by cases h⟩,.nil,rfl⟩
   ·simp [Builtin.firstCells]
   ·simp [Builtin.firstCells]
  ·cases h
 ·rename_i s
  simp [mW]at b;subst b;simp only [nb,Bool.cond_decide]at h;split at h
  ·rename_i f
   cases h;subst f;rw [i.string];refine ⟨byteCells s,⟨e,fun _=>rfl,firstCells_string s w,firstCells_string s w.drew,by rw [byteCells_length,Nat.mul_one],fun u j=>?_⟩,rK _,?_⟩
   ·obtain ⟨_,_,rfl⟩:=aqd.1 j
    rfl
   ·rw [apW]
    intro u j;obtain ⟨_,_,rfl⟩:=aqd.1 j;rfl
  ·cases h
 ·cases h
theorem ng (t tx ty e:TypeId) (i:TypeInfo) (f:P.underlying t=some (.slice e)) (hi:P.info? e=some i) (b off a c:Nat) (x:Value) (n:Nat) (news:List Value) (hs:Src P i.size tx x n news w) {w':World}
 (h:a+n≤c) (g:(storeCells ⟨b,off+a*i.size,none⟩ news).run P w= .ok () w'):
 (Builtin.append_ #[t,tx] ty #[.slice (some ⟨b,off,none⟩) a c,x]).run P w= .ok (.slice (some ⟨b,off,none⟩) (a+n) c) w':=by
 rcases hs.kind with⟨j,d⟩|d<;>simp [Builtin.append_,run_underlying f,run_underlying d,sizeOf,typeInfo,hi,hs.len,h,hs.cells,add_lit,g]
theorem grownCap_ge (w:World) (a old:Nat) (e:TypeId) (h:a<2^63):a≤grownCap w a old e:=by
 unfold grownCap;simp [Question.cut]
theorem rL (cs:List Value) (z:Array Value) (a cap sz:Nat) (b:z.size=sz) (c:cs.length=a*sz) (d:a≤cap):(cs.toArray++Builtin.zeroCells z (cap- a)).size=cap*sz:=by
 simp [size_zeroCells,b,c];rw [←Nat.add_mul];congr 1;omega
theorem wE {φ:bS} {cs a:List Value} (z:Array Value) (n:Nat) (h:VL φ cs a) (o:cs.all one=true):CR φ 0 cs (a.toArray++Builtin.zeroCells z n):=by
 intro j v b;obtain ⟨c,e,d⟩:=h.get j v b;refine ⟨apW.1 o v (apL b),c,?_,d⟩;have:j<a.length:=(apM.1 e).1;rw [Nat.zero_add,Array.getElem?_append_left (by simpa using this)]
 simpa using e
theorem Nf {sz bytes:Nat} {s x s' x' v:Value} {H':AH} {t tx ty e:TypeId} {i:TypeInfo} {z:Value} (R:Rel w0 φ H w) (tp:φ.m H.nx=none) (M:P.underlying t=some (.slice e)) (hi:P.info? e=some i) (hz:i.zero=some z) (WC:z.cells.size=i.size)
 (WD:e≠BY) (jG:i.size=sz) (Ng:sz≠0) (ZZ:i.bytes=bytes) (Q:(∃e',P.underlying tx=some (.slice e'))∨P.underlying tx=some .string)
 (hs:V φ s s') (hx:V φ x x') (h:bL sz bytes H s x=some (v,H')) {r:Result Next} (q:r=((Builtin.append_ #[t,tx] ty #[s',x']).run P w).andThen fun v w=>.ok (.value v) w):
 gP w0 φ H w (.v v) H' r:=by
 subst jG ZZ;unfold bL at h;split at h
 case h_2=>cases h
 rename_i base sl sc n u;split at h
 ·rename_i h0
  subst h0;simp only [Bool.cond_decide]at h;split at h
  case isFalse=>cases h
  rename_i hle;cases h;obtain ⟨E,sc',rfl,hb⟩:=V.QM hs
  have Z0:sl≤sc':=by
   cases base with
   |none=>have he:=hs.QL;simp at he;omega
   |some a=>
    rcases V.DZ hs with⟨l,d,_,_,yR,_,_,he⟩|⟨_,rfl,_,_⟩
    ·simp at he;omega
    ·omega
  have lZ:Src P i.size tx x' 0 [] w:=by
   unfold mW at u;split at u
   ·simp at u
    subst u;obtain ⟨a',d,rfl,_⟩:=V.QM hx;refine ⟨Q,fun _=>rfl,?_,?_,by simp,fun _ h=>by cases h⟩<;>cases a'<;>simp [Builtin.firstCells,loadCells,loadCellsFrom]
   ·rename_i s
    simp at u;rw [hx.string];refine ⟨Q,fun _=>?_,?_,?_,by simp,fun _ h=>by cases h⟩
    ·simp [Builtin.lenOf,u]
    ·simp [Builtin.firstCells]
    ·simp [Builtin.firstCells]
   ·cases u
  rw [run_append_nothing w t tx ty e i M hi E sl sc' Z0 x' lZ]at q;exact .pure R hs q
 ·rename_i h0
  cases hq:pJ H i.size x with
  |none=>simp [hq]at h
  |some new=>
   simp only [hq]at h;obtain ⟨news,y,L,X⟩:=Nc (P:=P) R hx u hq Q
   cases Z:(decide ((sl+n)*i.bytes≤2^47)&&decide (sl+n<2^62))with
   |false=>simp [Z]at h
   |true=>
    simp only [Z,cond_true]at h;simp at Z;obtain ⟨Sw,aiO⟩:=Z;have It:new.length=n*i.size:=by rw [L.length];exact y.newsLen
    split at h
    ·rename_i Ef
     cases base with
     |none=>cases h
     |some a=>
      simp only at h
      cases f:(H.lz a.block i.size&&a.spot.isNone)with
      |false=>simp [f]at h
      |true=>
       simp only [f,cond_true]at h
       cases I:H.st ⟨a.block,a.off+sl*i.size,none⟩ new with
       |none=>simp [I]at h
       |some H1=>
        simp [I]at h;obtain ⟨rfl,rfl⟩:=h;simp at f;rcases V.DZ hs with⟨l,d,g,B,yR,qT,Lu,rfl⟩|⟨g,_⟩
        ·have hp:V φ (.pointer (some ⟨a.block,a.off+sl*i.size,none⟩)) (.pointer (some ⟨l.c,a.off+sl*i.size+l.s,none⟩)):=.ptr B
         obtain ⟨a',w',U,e2,F,G⟩:=Eb (P:=P) R hp I L X;simp at U;subst U;rw [show a.off+sl*i.size+l.s=a.off+l.s+sl*i.size by omega]at e2;rw [ng t tx ty e i M hi l.c (a.off+l.s) sl d x' n news y (by omega) e2]at q;refine ⟨φ,w',_,q,F,G,.inl ⟨_,rfl,?_⟩⟩;obtain ⟨b,o,sp⟩:=a;dsimp only at g⊢;subst g;exact .sl B yR qT Lu
        ·rw [g]at f;simp at f
    ·rename_i Ef
     split at h
     ·rename_i Sx
      subst Sx;obtain ⟨C,h⟩:=aP h;simp only [apH,apO]at h;obtain ⟨rfl,rfl⟩:=h;simp only [nb,apJ,apS]at C;obtain ⟨rfl,g⟩:=C
      have fS:∃E,s'= .slice E 0 0:=by
       cases base with
       |none=>exact ⟨none,hs.QL⟩
       |some a=>
        rcases V.DZ hs with⟨l,d,_,B,yR,qT,Lu,rfl⟩|⟨N,_⟩
        ·exact ⟨_,by rw [qT rfl]⟩
        ·dsimp only at g;rw [N]at g;simp at g
      obtain ⟨E,rfl⟩:=fS
      have p:(Builtin.firstCells i.size 0 (.slice E 0 0)).run P w.drew= .ok ([]:List Value).toArray w.drew:=by
       cases E<;>simp [Builtin.firstCells,loadCells,loadCellsFrom]
      have nD:=run_append_grow_src w t tx ty e i z M hi hz E 0 0 [] p x' n news y (by omega) (by omega) (by
       rw [Nat.zero_add]at*
       exact growslice_fits (by omega) (by simpa using Sw))
      rw [nD]at q;simp only [Nat.zero_add,List.nil_append]at q;have D:n≤grownCap w n 0 e:=grownCap_ge w n 0 e (by omega);have T:=rL news z.cells n (grownCap w n 0 e) i.size WC y.newsLen D;obtain ⟨F,G⟩:=R.new tp (w':=w.drew.alloc (.cells (news.toArray++Builtin.zeroCells z.cells (grownCap w n 0 e- n)) e)) (z:=i.size) (cs:=new) rfl rfl rfl rfl (by rw [T,It];exact Nat.mul_le_mul_right _ D) (wE _ _ L X) WD;refine ⟨_,_,_,q,F,G,.inl ⟨_,rfl,?_⟩⟩;refine .sl (bS.lW _ _ _) D (by omega) (.inr ?_);show 0+0+grownCap w n 0 e*i.size≤_;rw [T];simp
     ·rename_i Sx
      cases base with
      |none=>cases h
      |some a=>
       simp only at h
       cases C:(decide (H.n0≤a.block)&&a.spot.isNone&&H.lz a.block i.size)with
       |false=>simp [C]at h
       |true=>
        simp only [C,cond_true]at h
        cases A:H.ldn a (sl*i.size)with
        |none=>simp [A]at h
        |some old=>
         simp [A]at h;obtain ⟨rfl,rfl⟩:=h;simp at C;obtain ⟨⟨Y,g⟩,f⟩:=C;rw [R.n0]at Y;rcases V.DZ hs with⟨l,d,N,B,yR,qT,Lu,rfl⟩|⟨N,_⟩
         case inr=>rw [N]at g;simp at g
         obtain ⟨b,o,sp⟩:=a;dsimp only at*;subst N;unfold AH.lz at f
         cases K:H.get b with
         |none=>simp [K]at f
         |some aU=>
          cases aU with
          |map es=>simp [K]at f
          |cells zb cb=>
           simp [K]at f;obtain ⟨g1,g2,g3,arr,e0,g4,g5,g6,g7⟩:=R.cells b l zb cb Y B (AH.iG K);obtain ⟨_,hoo,O,olds,h3,h4,h5⟩:=R.ldn A B
           have Z1:old=(cb.drop o).take (sl*i.size)∧o+sl*i.size≤cb.length:=by
            unfold AH.ldn at A;simp only [K,Bool.cond_decide,R.n0]at A;split at A
            ·rename_i u
             rw [if_neg (by omega)]at A;cases A;exact ⟨rfl,u⟩
            ·cases A
           have aH:(old++new).all one=true:=by simp only [List.all_append,hoo,X];rfl
           by_cases hc:sl+n≤d
           ·
            have hbound:o+l.s+d*l.z≤l.n:=by
             rcases Lu with U|U
             ·omega
             ·exact U
            rw [g2]at hbound
            have Ei:o+l.s+sl*i.size+news.length≤arr.size:=by
             rw [g5,y.newsLen,show o+l.s+sl*i.size+n*i.size=o+l.s+(sl+n)*i.size by rw [Nat.add_mul];omega];have:(sl+n)*i.size≤d*zb:=Nat.mul_le_mul hc f;omega
            have I:=run_storeCells_at P l.c (o+l.s+sl*i.size) e0 news 0 arr w g4 (by omega) y.one;simp only [Nat.add_zero]at I;rw [ng t tx ty e i M hi l.c (o+l.s) sl d x' n news y hc I]at q
            have hCR:CR φ (l.s+o) (old++new) (arr.toList.take (o+l.s+sl*i.size)++news++arr.toList.drop (o+l.s+sl*i.size+news.length)).toArray:=by
             intro j v J;by_cases hjo:j<old.length
             ·rw [apT hjo]at J
              have hjc:cb[o+j]?=some v:=by
               rw [Z1.1]at J;have:j<sl*i.size:=by omega
               simpa [aqf,this,aqk]using J
              obtain ⟨q1,v',W,q3⟩:=g6 (o+j) v hjc;refine ⟨q1,v',?_,q3⟩;rw [List.getElem?_toArray,ap5,apT (by simp;omega),aqf,if_pos (by omega)];have:arr.toList[l.s+(o+j)]?=some v':=by simpa using W
              rw [←this];congr 1;omega
             ·rw [apX (by omega)]at J
              obtain ⟨v',W,q3⟩:=L.get _ v J;refine ⟨apW.1 X v (apL J),v',?_,q3⟩;have D6:j- old.length<news.length:=(apM.1 W).1;rw [List.getElem?_toArray,ap5,apX (by simp;omega),apT (by simp;omega),←W];congr 1;simp;omega
            obtain ⟨F,G⟩:=R.move tp (s2:=l.s+o) (z2:=i.size) (c2:=old++new) (w':=w.setRow l.c (arr.toList.take (o+l.s+sl*i.size)++news++arr.toList.drop (o+l.s+sl*i.size+news.length)).toArray) Y B K (setRow_heap w l.c arr _ e0 (0,0) g4) (fun k Q=>setRow_other w l.c k _ Q) (setRow_size _ _ _) rfl rfl rfl (by simp;omega)
             (by rw [apP,O,It];rw [y.newsLen,g5]at Ei;omega) hCR g7
            refine ⟨_,_,_,q,F,G,.inl ⟨_,rfl,?_⟩⟩
            have S:V (φ.add H.nx ⟨l.c,l.s+o,l.n,i.size⟩) (.slice (some ⟨H.nx,0,none⟩) (sl+n) (sl+n)) (.slice (some ⟨l.c,0+(l.s+o),none⟩) (sl+n) d):=by
             refine .sl (l:=⟨l.c,l.s+o,l.n,i.size⟩) (by simp [bS.add]) hc (by omega) (.inr ?_);show 0+(l.s+o)+d*i.size≤l.n;have:d*i.size≤d*zb:=Nat.mul_le_mul_left _ f;omega
            rw [show 0+(l.s+o)=o+l.s by omega]at S;exact S
           ·
            have p:(Builtin.firstCells i.size sl (.slice (some ⟨l.c,o+l.s,none⟩) sl d)).run P w.drew= .ok olds.toArray w.drew:=run_firstCells_some w.drew i.size sl _ sl d olds h3 (by simpa using h5);have nD:=run_append_grow_src w t tx ty e i z M hi hz (some ⟨l.c,o+l.s,none⟩) sl d olds p x' n news y (by omega) (by omega) (growslice_fits (by omega) (by simpa using Sw));rw [nD]at q;have D:sl+n≤grownCap w (sl+n) d e:=grownCap_ge w (sl+n) d e (by omega);have T:=rL (olds++news) z.cells (sl+n) (grownCap w (sl+n) d e) i.size WC (by rw [apP,h3,y.newsLen,Nat.add_mul]) D;have Rk:=R.kill (b:=b) Y
            obtain ⟨F,G⟩:=Rk.new (show φ.m (H.put b none).nx=none from tp) (w':=w.drew.alloc (.cells ((olds++news).toArray++Builtin.zeroCells z.cells (grownCap w (sl+n) d e- (sl+n))) e)) (z:=i.size) (cs:=old++new) rfl rfl rfl rfl
             (by rw [T,apP,O,It,←Nat.add_mul];exact Nat.mul_le_mul_right _ D) (wE _ _ (h4.append L) aH) WD
            refine ⟨_,_,_,q,F,G.same (by rfl) (by rfl),.inl ⟨_,rfl,?_⟩⟩;refine .sl (bS.lW _ _ _) D (by omega) (.inr ?_);show 0+0+grownCap w (sl+n) d e*i.size≤_;rw [T];simp
end
end
section
open Go Go.RowKit
section
variable{P:Program} {w0 w:World} {φ:bS} {H:AH}
theorem Ej {sz n:Nat} {x x':Value} {c:List Value} (R:Rel w0 φ H w) (d:V φ x x') (h:j0 H sz n x=some c):
 ∃e,(Builtin.firstCells sz n x').run P w= .ok e.toArray w∧VL φ c e∧c.all one=true:=by
 unfold j0 at h;split at h
 ·rename_i a j A
  simp only [nb,Bool.cond_decide]at h;obtain ⟨y,e,rfl,z⟩:=V.QM d;split at h
  ·rename_i v
   cases h;refine ⟨[],?_,.nil,rfl⟩;cases y<;>simp [Builtin.firstCells,loadCells,loadCellsFrom,v]
  ·rcases V.DZ d with⟨l,B,f,m,_,_,_,i⟩|⟨f,_⟩
   ·simp at i
    obtain ⟨rfl,rfl⟩:=i;obtain ⟨_,t,h2,g,r,q,p⟩:=R.ldn h m;exact ⟨g,run_firstCells_some w sz n _ j e g r p,q,t⟩
   ·exfalso
    obtain ⟨b,o,sp⟩:=a;dsimp only at f;subst f;simp [AH.ldn]at h
 ·cases h
  rw [d.QL];exact ⟨[],by simp [Builtin.firstCells],.nil,rfl⟩
 ·rename_i s
  cases h;rw [d.string];refine ⟨_,?_,rK _,?_⟩
  ·simp [Builtin.firstCells]
   apply Array.ext';simp
  ·rw [apW]
   intro u k;obtain ⟨_,_,rfl⟩:=aqd.1 k;rfl
 ·cases h
theorem Iu {sz:Nat} {d s I j v:Value} {H':AH} {t tx ty e:TypeId} (R:Rel w0 φ H w) (z:P.underlying t=some (.slice e)) (A:eA P e=some sz) (C:V φ d I) (hs:V φ s j) (h:lU sz H d s=some (v,H')) {r:Result Next}
 (i:r=((Builtin.copy_ #[t,tx] ty #[I,j]).run P w).andThen fun v w=>.ok (.value v) w):gP w0 φ H w (.v v) H' r:=by
 unfold lU at h;split at h
 case h_2=>cases h
 rename_i base dl T m g;dsimp only at h
 cases u:j0 H sz (Nat.min m dl) s with
 |none=>simp [u]at h
 |some c=>
  simp only [u,Option.bind_some]at h;obtain ⟨J,E,D,x⟩:=Ej (P:=P) R hs u;obtain ⟨q,y,rfl,L⟩:=V.QM C
  have f:(Builtin.lenOf j).run P w= .ok m w:=by
   unfold mW at g;split at g
   ·simp at g;subst g
    obtain ⟨Q,J,rfl,_⟩:=V.QM hs;rfl
   ·simp at g;subst g
    rw [hs.string];rfl
   ·cases g
  have run:∀{w':World},(match q with|some a=>(storeCells a J).run P w|none=>.ok () w)= .ok () w'→(Builtin.copy_ #[t,tx] ty #[.slice q dl y,j]).run P w= .ok (goInt (Nat.min m dl:Nat)) w':=by
   intro w' k
   cases q with
   |none=>simp at k;subst k;simp [Builtin.copy_,run_underlying z,f,c8 A,E]
   |some a=>simp only at k;simp [Builtin.copy_,run_underlying z,f,c8 A,E,k]
  cases base with
  |none=>
   obtain rfl:=L.2 rfl;simp at h;obtain ⟨rfl,rfl⟩:=h;rw [run (w':=w) rfl]at i;exact .pure R (.same rfl) i
  |some a=>
   simp only at h
   cases c with
   |nil=>
    simp at h;obtain ⟨rfl,rfl⟩:=h;cases D;rw [run (w':=w) (by cases q<;>simp [storeCells])]at i;exact .pure R (.same rfl) i
   |cons O N=>
    simp only [List.isEmpty_cons,cond_false]at h
    cases n:H.st a (O::N)with
    |none=>simp [n]at h
    |some W=>
     simp [n]at h;obtain ⟨rfl,rfl⟩:=h;rcases V.DZ C with⟨l,U,p,K,_,_,_,B⟩|⟨p,_⟩
     ·simp at B
      obtain ⟨rfl,rfl⟩:=B;obtain ⟨b,o,sp⟩:=a;dsimp only at*;subst p;obtain ⟨Q,w',F,M,S,G⟩:=Eb (P:=P) R (.ptr K) n D x;simp at F;subst F;rw [run (w':=w') M]at i;exact ⟨φ,w',_,i,S,G,.inl ⟨_,rfl,.same rfl⟩⟩
     ·exfalso
      obtain ⟨b,o,sp⟩:=a;dsimp only at p;subst p;simp [AH.st]at n
theorem uI (z:Array Value) (m:Nat) (a:z.size=m):∀n,(madeCells z (n*m)).toList=(List.replicate n z.toList).flatten
 |0=>by simp [madeCells]
 |n+1=>by
  have ih:=uI z m a n;simp only [madeCells,Array.toList_map,Array.toList_range]at ih⊢;rw [show(n+1)*m=n*m+m by rw [Nat.succ_mul],List.range_add,List.map_append,ih,List.replicate_succ',List.flatten_append];congr 1;simp only [List.map_map,List.flatten_cons,List.flatten_nil,List.append_nil];apply List.ext_getElem?;intro j;by_cases b:j<m
  ·have:j<z.size:=by omega
   simp [b,a,Nat.mod_eq_of_lt b,Nat.add_comm,this,getElem!_pos]
  ·rw [aql (by simp;omega),aql (by simp;omega)]
theorem all_replicate {z:List Value} (h:z.all flat=true):∀n,((List.replicate n z).flatten).all flat=true
 |0=>rfl
 |n+1=>by simp only [List.replicate_succ,List.flatten_cons,List.all_append,h,all_replicate h n];rfl
theorem Iv {sz bytes:Nat} {z:List Value} {k:IntKind} {n:Int} {t e:TypeId} {i:TypeInfo} (R:Rel w0 φ H w) (C:φ.m H.nx=none) (x:P.underlying t=some (.slice e)) (hi:P.info? e=some i) (s:ij P e=some z) (A:e≠BY) (y:i.size=sz) (B:i.bytes=bytes)
 (D:0≤n) (u:IntKind.i64.wrap n=n) (I:(bytes:Int)*n≤2^47) {r:Result Next} (h:r=((Instr.makeSlice t (.int k n) (.int k n)).run P w).andThen fun v w=>.ok (.value v) w):
 gP w0 φ H w (.v (.slice (some ⟨H.nx,0,none⟩) n.toNat n.toNat)) (H.alloc (.cells sz (List.replicate n.toNat z).flatten)) r:=by
 obtain ⟨F,a,f,j,d,q,p⟩:=ji s;rw [hi]at f;cases f;subst y B;have c:n≤9223372036854775807:=by rw [IntKind.wrap_i64]at u;omega
 have l:a.cells.size=i.size:=by rw [←p,←d];simp
 rw [run_make w t e i a x hi j k k n n D (Int.le_refl _) (by omega) c]at h;have b:=uI a.cells i.size l n.toNat;rw [d]at b;have g:=all_replicate q n.toNat;obtain ⟨E,G⟩:=R.new C (w':=w.alloc (.cells (madeCells a.cells (n.toNat*i.size)) e)) (z:=i.size) (cs:=(List.replicate n.toNat z).flatten) rfl rfl rfl rfl (by rw [←b];simp) (oA (by rw [b];exact VL.same g) (fB g)) A;refine ⟨_,_,_,h,E,G,.inl ⟨_,rfl,?_⟩⟩;have:=V.sl (φ:=φ.add H.nx ⟨w.heap.size,0,(madeCells a.cells (n.toNat*i.size)).size,i.size⟩) (o:=0) (n:=n.toNat) (bS.lW φ H.nx ⟨w.heap.size,0,(madeCells a.cells (n.toNat*i.size)).size,i.size⟩) (apK n.toNat) id (.inl rfl)
 simpa using this
theorem oB:∀(l:List Value) (k off:Nat) (arr:Array Value),off+k+l.length≤arr.size→
 ((l.zipIdx k).foldl (fun(cs:Array Value) (x:Value×Nat)=>cs.setIfInBounds (off+x.2) x.1) arr).toList=aM arr.toList (off+k) l
 |[],k,off,arr,h=>by
  rw [gQ _ _ _ (by simpa using h)];simp
 |v::l,k,off,arr,h=>by
  simp only [List.zipIdx_cons,List.foldl_cons];rw [oB l (k+1) off _ (by simp at h⊢;omega)];rw [gQ _ _ _ (by simp at h⊢;omega),gQ _ _ _ (by simp at h⊢;omega)];apply List.ext_getElem?;intro j;simp only [Array.toList_setIfInBounds,List.length_cons]at*;by_cases a:j<off+k
  ·rw [ap5,ap5,apT (by simp;omega),apT (by simp;omega),aqf,aqf,if_pos (by omega),if_pos a,ap4 (by omega)]
  ·by_cases h2:j=off+k
   ·subst h2
    rw [ap5,apT (by simp;omega),aqf,if_pos (by omega),aqh (by simp;omega)];rw [ap5,apX (by simp;omega),List.cons_append];simp;rw [show off+k- min (off+k) arr.size=0 by omega];rfl
   ·by_cases b:j<off+k+1+l.length
    ·rw [ap5,apX (by simp;omega),apT (by simp;omega)]
     rw [ap5,apX (by simp;omega),apT (by simp;omega)];simp;rw [show j- min (off+k) arr.size=(j- min (off+(k+1)) arr.size)+1 by omega];simp
    ·rw [apX (by simp;omega),apX (by simp;omega),aqk,aqk]
     rw [ap4 (by simp;omega)];congr 1;simp;omega
theorem uJ:∀{ps:List (Nat×Nat×Value)} {ps':List (Nat×Value)} {c c2:List Value} {arr:Array Value} {place:Nat→Option (Nat×Nat)},
 ps.length=ps'.length→(∀(j:Nat) (p:Nat×Nat×Value),ps[j]?=some p→∃d:Nat×Value,ps'[j]?=some d∧place d.1=some (p.1,p.2.1)∧V φ p.2.2 d.2)→
 jo c ps=some c2→VL φ c arr.toList→c.all one=true→∃f,Instr.fill place arr ps'=some f∧VL φ c2 f.toList∧c2.all one=true
 |[],[],c,c2,arr,place,_,_,h,e,b=>by simp [jo]at h;subst h;exact ⟨arr,rfl,e,b⟩
 |[],_::_,_,_,_,_,h,_,_,_,_=>by simp at h
 |_::_,[],_,_,_,_,h,_,_,_,_=>by simp at h
 |(off,n,v)::ps,(G,a)::ps',c,c2,arr,place,B,k,h,e,b=>by
  obtain ⟨d,q,o,i⟩:=k 0 (off,n,v) (by simp);simp at q;subst q;dsimp only at o i;unfold jo at h;obtain ⟨m,h⟩:=aP h;simp only [nb,apJ,apS,Bool.not_eq_true']at m;obtain ⟨⟨A,I⟩,u⟩:=m;have l:=i.cells;have z:a.cells.size=n:=by rw [←A,l.length];simp
  have F:arr.size=c.length:=by rw [e.length];simp
  have y:VL φ (aM c off (aW v)) (aM arr.toList off a.cells.toList):=VL.aM off e l;have D:=oB a.cells.toList 0 off arr (by simp;omega)
  have E:(a.cells.zipIdx.foldl (fun cs (x:Value×Nat)=>cs.setIfInBounds (off+x.2) x.1) arr).toList=aM arr.toList off a.cells.toList:=by
   rw [←Array.foldl_toList,Array.toList_zipIdx]
   simpa using D
  obtain ⟨f,t,s,r⟩:=uJ (ps:=ps) (ps':=ps') (arr:=a.cells.zipIdx.foldl (fun cs (x:Value×Nat)=>cs.setIfInBounds (off+x.2) x.1) arr) (place:=place) (by simpa using B) (fun j p C=>by simpa using k (j+1) p (by simpa using C)) h (by rw [E];exact y) (by
   rw [gQ _ _ _ (by omega)];simp only [List.all_append,nA i u,Bool.and_true,apJ];rw [apW]at b
   exact ⟨apW.2 fun x g=>b x (List.mem_of_mem_take g),apW.2 fun x g=>b x (List.mem_of_mem_drop g)⟩)
  refine ⟨f,?_,s,r⟩;unfold Instr.fill;rw [o];simp only;rw [if_neg (by simp;omega)];exact t
theorem Rel.Ni {w0 w w':World} {φ:bS} {H:AH} (R:Rel w0 φ H w) (M:φ.m H.nx=none) (z:w'.heap=w.heap.push (.map #[] 0)) (U:w'.os=w.os) (O:w'.tape=w.tape) (T:w'.output=w.output):
 Rel w0 (φ.add H.nx ⟨w.heap.size,0,0,0⟩) (H.alloc (.map [])) w'∧eB φ H w (φ.add H.nx ⟨w.heap.size,0,0,0⟩) (H.alloc (.map [])) w':=by
 have i:φ.le (φ.add H.nx ⟨w.heap.size,0,0,0⟩):=bS.uE M;have Q:w0.heap.size≤w.heap.size:=R.below.size;have p:∀k,k<w.heap.size→w'.heap[k]?=w.heap[k]?:=fun k y=>by rw [z,Array.getElem?_push,if_neg (by omega)]
 have old:∀b l,φ.n0≤b→φ.m b=some l→(H.raw b).isSome=true→l.c<w.heap.size:=by
  intro b l e g S
  cases d:H.raw b with
  |none=>simp [d]at S
  |some aU=>
   cases aU with
   |cells o c=>
    obtain ⟨_,_,_,a,n,j,_⟩:=R.cells b l o c e g d;exact (apU.1 j).1
   |map es=>
    obtain ⟨_,a,n,j,_⟩:=R.maps b l es e g d;exact (apU.1 j).1
 refine ⟨?_,?_⟩
 ·refine ⟨R.n0,R.qQ,by rw [AH.ez];have:=R.qR;exact Nat.le_succ_of_le this,R.c0,?_,?_,?_,?_,?_,?_,?_,R.wD⟩
  ·refine ⟨U.trans R.below.os,O.trans R.below.tape,T.trans R.below.output,?_,fun k y=>?_⟩
   ·rw [z,Array.size_push];omega
   ·rw [p k (by omega)];exact R.below.block k y
  ·intro b e
   exact i _ _ (R.jJ b e)
  ·intro b o c e d
   have D:b<φ.n0:=e;rw [AH.cY,if_neg (by have:=R.qR;omega)]at d;obtain ⟨n,Y,N⟩:=R.lJ b o c e d;exact ⟨n,Y,by rw [p b (by have:=R.qQ;have:=R.c0;omega)];exact N⟩
  ·intro b l o c e g d
   rw [AH.cY]at d;simp only [bS.add]at g;by_cases q:b=H.nx
   ·rw [if_pos q]at d
    cases d
   ·rw [if_neg q]at d g
    obtain ⟨f,h2,t,a,n,j,r,X,W⟩:=R.cells b l o c e g d;exact ⟨f,h2,t,a,n,by rw [p _ (apU.1 j).1];exact j,r,X.mono i,W⟩
  ·intro b l es e g d
   rw [AH.cY]at d;simp only [bS.add]at g;by_cases q:b=H.nx
   ·rw [if_pos q]at d g
    cases d;cases g;exact ⟨by show φ.c0≤w.heap.size;rw [R.c0];exact Q,#[],0,by rw [z];simp,.nil⟩
   ·rw [if_neg q]at d g
    obtain ⟨f,a,n,j,r⟩:=R.maps b l es e g d;exact ⟨f,a,n,by rw [p _ (apU.1 j).1];exact j,r.mono i⟩
  ·intro F E J I L K f h2 v u C
   rw [AH.cY]at v u;simp only [bS.add]at f h2;by_cases B:F=H.nx<;>by_cases A:E=H.nx
   ·rw [B,A]
   ·rw [if_pos B]at f
    rw [if_neg A]at h2 u;cases f;have:=old E I K h2 u;simp at C;omega
   ·rw [if_neg B]at f v
    rw [if_pos A]at h2;cases h2;have:=old F J L f v;simp at C;omega
   ·rw [if_neg B]at f v
    rw [if_neg A]at h2 u;exact R.inj F E J I L K f h2 v u C
  ·intro b s Z
   obtain ⟨f,h2,l,t,j,r⟩:=R.tD b s Z;have V:b≠H.nx:=by rintro rfl;rw [M]at t;cases t
   refine ⟨f,by rw [AH.cY,if_neg V];exact h2,l,i _ _ t,j,r.uF rfl (fun k y _=>p k y) fun b' l' a1 x G=>?_⟩;rw [AH.cY]at G;simp only [bS.add]at x;by_cases D:b'=H.nx
   ·rw [if_pos D]at x
    cases x;exact .inr (.inl (apK _))
   ·rw [if_neg D]at x G
    exact .inl ⟨a1,x,G⟩
 ·refine ⟨i,rfl,rfl,by rw [AH.ez];exact ap7 _,?_,by rw [z,Array.size_push];exact ap7 _⟩
  ·intro b l h k
   simp only [bS.add]at k;split at k
   ·rename_i e;subst e;exact ⟨apK _,by rw [AH.ez];exact apV _⟩
   ·rw [h]at k;cases k
theorem Rel.Ek {w0 w w':World} {φ:bS} {H:AH} (R:Rel w0 φ H w) {b ck:Nat} {c B:List (Value×Value)} {l:Loc} {es':Array MapEntry} (A:φ.n0≤b) (r:φ.m b=some l) (j:H.get b=some (.map c))
 (M:w'.heap[l.c]?=some (.map es' ck)) (t:∀k,k≠l.c→w'.heap[k]?=w.heap[k]?) (hs:w'.heap.size=w.heap.size) (T:w'.os=w.os) (Q:w'.tape=w.tape) (S:w'.output=w.output)
 (u:ML φ B es'.toList):
 Rel w0 φ (H.put b (some (.map B))) w'∧eB φ H w φ (H.put b (some (.map B))) w':=by
 have j:=AH.iG j;obtain ⟨g1,a0,e0,g4,g5⟩:=R.maps b l c A r j;refine ⟨⟨R.n0,R.qQ,R.qR,R.c0,?_,R.jJ,?_,?_,?_,?_,?_,R.wD⟩,?_⟩
 ·refine ⟨T.trans R.below.os,Q.trans R.below.tape,S.trans R.below.output,by rw [hs];exact R.below.size,fun k h=>?_⟩
  rw [t k (by have:=R.c0;omega)];exact R.below.block k h
 ·intro x C d i f
  rw [AH.dg,if_neg (by omega)]at f;obtain ⟨z,fz,W⟩:=R.lJ x C d i f;refine ⟨z,fz,?_⟩;rw [t x (by have:=R.qQ;omega)];exact W
 ·intro x n C d i o f
  rw [AH.dg]at f;by_cases g:x=b
  ·rw [if_pos g]at f;cases f
  ·rw [if_neg g]at f
   obtain ⟨p,h2,D,a,z,y,q,h6,h7⟩:=R.cells x n C d i o f;refine ⟨p,h2,D,a,z,?_,q,h6,h7⟩;rw [t]
   ·exact y
   ·intro u
    exact g (R.inj x b n l i A o r (by simp [f]) (by simp [j]) u)
 ·intro x n es i o f
  rw [AH.dg]at f;by_cases g:x=b
  ·subst g
   rw [if_pos rfl]at f;cases f;rw [r]at o;cases o;exact ⟨g1,es',ck,M,u⟩
  ·rw [if_neg g]at f
   obtain ⟨p,a,z,y,q⟩:=R.maps x n es i o f;refine ⟨p,a,z,?_,q⟩;rw [t]
   ·exact y
   ·intro u
    exact g (R.inj x b n l i A o r (by simp [f]) (by simp [j]) u)
 ·intro b1 b2 J I Z Y p h2 G F X
  have live:∀x,((H.put b (some (.map B))).raw x).isSome=true→(H.raw x).isSome=true:=by
   intro x i;rw [AH.dg]at i;by_cases g:x=b
   ·subst g;simp [j]
   ·rw [if_neg g]at i;exact i
  exact R.inj b1 b2 J I Z Y p h2 (live _ G) (live _ F) X
 ·intro x s eb
  obtain ⟨p,h2,n,D,y,q⟩:=R.tD x s eb;have U:x≠b:=by rintro rfl;rw [j]at h2;cases h2
  obtain ⟨L,K⟩:=q.apart b l A r (by simp [j]);refine ⟨p,by rw [AH.dg,if_neg U];exact h2,n,D,y,q.uF rfl (fun k _ V=>t k ?_) fun b' l' a1 a2 E=>.inl ⟨a1,a2,?_⟩⟩
  ·rcases V with rfl|⟨v,O,N⟩
   ·exact fun e=>L e.symm
   ·exact fun e=>K v O (e▸N)
  ·rw [AH.dg]at E
   by_cases g:b'=b
   ·subst g;simp [j]
   ·rw [if_neg g]at E;exact E
 ·exact ⟨bS.le_refl _,rfl,rfl,apK _,fun _ _ h k=>(by rw [h]at k;cases k),by rw [hs];exact apK _⟩
theorem rM {kk:Nat} {k:Value} (h:cO kk k=true):flat k=true:=by
 rcases kk with _|_|_|kk<;>cases k<;>first|rfl|(simp [cO]at h)
theorem rN {kk:Nat} {kt:TypeId} {d:TypeDesc} {k e:Value} {b:Bool} (j:P.underlying kt=some d) (f:cq P kt=some kk) (g:cO kk k=true) (h:iI k e=some b):Instr.sameNow d k e=some b∧cO kk e=true∧(b=true→k=e):=by
 unfold cq at f;rw [j]at f;cases d<;>simp at f<;>subst f
 case int=>
  cases k<;>simp [cO]at g;cases e<;>simp [iI]at h;rename_i m a l c;obtain ⟨rfl,rfl⟩:=h;exact ⟨by simp [Instr.sameNow],rfl,by simp⟩
 case string=>
  cases k<;>simp [cO]at g;cases e<;>simp [iI]at h;rename_i a c;subst h;refine ⟨?_,rfl,?_⟩
  ·simp [Instr.sameNow,beq_toListBytes,ByteArray.toList_eq]
  ·intro i
   simp at i
   have:a=c:=by
    obtain ⟨⟨a⟩⟩:=a;obtain ⟨⟨c⟩⟩:=c;simp at i;rw [i]
   rw [this]
 case bool=>
  cases k<;>simp [cO]at g;cases e<;>simp [iI]at h;subst h;exact ⟨by simp [Instr.sameNow],rfl,by simp⟩
theorem Au {kk:Nat} {kt:TypeId} {d:TypeDesc} {k:Value} (p:P.underlying kt=some d) (o:cq P kt=some kk) (m:cO kk k=true):
 ∀{es:List (Value×Value)} {l:List MapEntry} {r:Option Value} (i:Nat),ML φ es l→gk k es=some r→
  (r=none∧Instr.findNow d k l i=some none)∨∃v v' j e,r=some v∧Instr.findNow d k l i=some (some (i+j,v'))∧V φ v v'∧l[j]?=some e∧e.key=k
 |_,_,r,i,.nil,h=>by simp [gk]at h;subst h;exact .inl ⟨rfl,rfl⟩
 |_,_,r,i,.cons (k:=t) (v:=v) (v':=v') (n:=n) x y,h=>by
  simp only [gk]at h
  cases a:iI k t with
  |none=>simp [a]at h
  |some b=>
   obtain ⟨c,C,B⟩:=rN p o m a
   cases b with
   |true=>
    simp [a]at h;subst h;refine .inr ⟨v,v',0,_,rfl,?_,x,rfl,(B rfl).symm⟩;simp [Instr.findNow,c]
   |false=>
    simp only [a]at h;rcases Au p o m (i+1) y h with⟨f,g⟩|⟨s,q,j,e,f,g,u,z,A⟩
    ·exact .inl ⟨f,by simp [Instr.findNow,c,g]⟩
    ·refine .inr ⟨s,q,j+1,e,f,?_,u,by simpa using z,A⟩
     simp [Instr.findNow,c,g];omega
theorem El {kk:Nat} {kt:TypeId} {d:TypeDesc} {k u c:Value} (y:P.underlying kt=some d) (x:cq P kt=some kk) (s:cO kk k=true) (f:V φ u c):
 ∀{es q:List (Value×Value)} {l:List MapEntry} (i:Nat),ML φ es l→lV k u es=some q→
  (Instr.findNow d k l i=some none∧∀n,ML φ q (l++[⟨k,c,n⟩]))∨∃v' j e,Instr.findNow d k l i=some (some (i+j,v'))∧l[j]?=some e∧e.key=k∧ML φ q (l.modify j fun e=>{e with key:=k,val:=c})
 |_,_,_,i,.nil,h=>by
  simp [lV]at h;subst h;exact .inl ⟨rfl,fun n=>.cons f .nil⟩
 |_,_,_,i,.cons (k:=A) (v:=v) (v':=v') (n:=n) (l:=es) (l':=l) r t,h=>by
  simp only [lV]at h
  cases a:iI k A with
  |none=>simp [a]at h
  |some b=>
   obtain ⟨g,F,D⟩:=rN y x s a
   cases b with
   |true=>
    simp [a]at h;subst h;refine .inr ⟨v',0,_,?_,rfl,(D rfl).symm,?_⟩
    ·simp [Instr.findNow,g]
    ·simpa using ML.cons f t
   |false=>
    simp only [a]at h
    cases m:lV k u es with
    |none=>simp [m]at h
    |some E=>
     simp [m]at h;subst h;rcases El y x s f (i+1) t m with⟨p,o⟩|⟨z,j,e,p,B,C,o⟩
     ·exact .inl ⟨by simp [Instr.findNow,g,p],fun n=>.cons r (o n)⟩
     ·refine .inr ⟨z,j+1,e,?_,by simpa using B,C,?_⟩
      ·simp [Instr.findNow,g,p]
       omega
      ·simpa using ML.cons r o
theorem run_checkKey {kk:Nat} {kt:TypeId} {d:TypeDesc} (c:P.underlying kt=some d) (a:cq P kt=some kk) (b:Bool) (n:Nat) (k:Value) (w:World):(Instr.checkKey b (n+1) kt k).run P w= .ok () w:=by
 unfold cq at a;rw [c]at a;cases d<;>simp at a<;>simp [Instr.checkKey,run_underlying c]
theorem tw {kk:Nat} {k:Value} (h:cO kk k=true) (n:Nat):Instr.sameBits n k k=true:=by
 rcases kk with _|_|_|kk<;>cases k<;>simp [cO]at h<;>simp [Instr.sameBits,beq_toListBytes]
end
end
section
open Go Go.RowKit
section
variable{P:Program} {w0 w:World} {φ:bS} {H:AH}
def yW (P:Program) (f:Nat):Prop:=∃fn,P.funcs[f]?=some fn∧fn.body.isNone=false∧(fn.name== "runtime.NumGoroutine")=false
theorem oD {f:Nat} (h:yW P f) (as:Array Value) (w:World):(callFunc f as).run P w= .ok (.enter f as) w:=by
 obtain ⟨fn,d,h2,b⟩:=h;have a:¬ fn.name= "runtime.NumGoroutine":=by simpa using b
 have c:fn.body≠none:=by intro e;rw [e]at h2;cases h2
 simp [callFunc,d,c,a]
theorem gP.enter {f:Nat} {as:List Value} {as':Array Value} {r:Result Next} (R:Rel w0 φ H w) (h:VL φ as as'.toList) (a:r= .ok (.enter f as') w):gP w0 φ H w (.enter f as) H r:=
 ⟨φ,w,_,a,R,eB.refl _ _ _,as',rfl,h⟩
theorem yX {φ:bS} {c:Fr} {a:Act} (F:lY φ c a) {x:Option Operand} {y:Option X} (h:QK x=some y):VO φ (y.map (X.ev c)) (x.map a.eval):=by
 cases x with
 |none=>simp [QK]at h;subst h;exact .none
 |some x=>
  simp only [QK]at h
  cases b:cX x with
  |none=>simp [b]at h
  |some z=>simp [b]at h;subst h;exact .some (dK F b)
theorem Lw:∀{l l':List Value} {v v' r:Value},VL φ l l'→V φ v v'→HQ v l=some r→∃r',(l'.foldlM Builtin.max2 v').run P w= .ok r' w∧V φ r r'
 |_,_,v,v',r,.nil,c,h=>by
  simp [HQ]at h;subst h;exact ⟨v',by simp,c⟩
 |_,_,v,v',r,.cons (v:=u) a b,c,h=>by
  cases v<;>cases u<;>simp [HQ]at h;rw [c.int,a.int];obtain ⟨r',d,h2⟩:=Lw b (.same rfl) h;refine ⟨r',?_,h2⟩
  simpa [Builtin.max2]using d
theorem Lx:∀{l l':List Value} {v v' r:Value},VL φ l l'→V φ v v'→Lp v l=some r→∃r',(l'.foldlM Builtin.min2 v').run P w= .ok r' w∧V φ r r'
 |_,_,v,v',r,.nil,c,h=>by
  simp [Lp]at h;subst h;exact ⟨v',by simp,c⟩
 |_,_,v,v',r,.cons (v:=u) a b,c,h=>by
  cases v<;>cases u<;>simp [Lp]at h;rw [c.int,a.int];obtain ⟨r',d,h2⟩:=Lx b (.same rfl) h;refine ⟨r',?_,h2⟩
  simpa [Builtin.min2]using d
theorem Em {a b a' b':Value} {r:Bool} (h:iI a b=some r) (d:V φ a a') (c:V φ b b'):a'=a∧b'=b:=by
 unfold iI at h;split at h
 ·exact ⟨d.int,c.int⟩
 ·exact ⟨d.string,c.string⟩
 ·exact ⟨d.bool,c.bool⟩
 ·cases h
theorem Av {e:TypeId} {kk:Nat} (f:cq P e=some kk) {x y:Value} {r:Bool} (j:cO kk x=true) (h:iI x y=some r) (d:Nat) (w:World) {cs ds:Array Value} {o:Nat} (i:cs[o]?=some x) (g:ds[o]?=some y):
 (part e cs o).run P w= .ok x w∧(part e ds o).run P w= .ok y w∧(Op.equalIn (d+1) e x y).run P w= .ok r w:=by
 unfold cq at f
 cases c:P.underlying e with
 |none=>simp [c]at f
 |some ty=>
  cases ty<;>simp [c]at f<;>subst f
  case int q=>
   cases x<;>simp [cO]at j;cases y<;>simp [iI]at h;rename_i k a l b;obtain ⟨rfl,rfl⟩:=h;refine ⟨?_,?_,run_equalIn_int w d e k q a b c⟩<;>simp [part,isAgg,run_underlying c,i,g]
  case string=>
   cases x<;>simp [cO]at j;cases y<;>simp [iI]at h;rename_i a b;subst h;refine ⟨?_,?_,?_⟩
   ·simp [part,isAgg,run_underlying c,i]
   ·simp [part,isAgg,run_underlying c,g]
   ·rw [run_equalIn_string w d e a b c];simp [ByteArray.toList_eq]
  case bool=>
   cases x<;>simp [cO]at j;cases y<;>simp [iI]at h;rename_i a b;subst h;refine ⟨?_,?_,run_equalIn_bool' w d e a b c⟩<;>simp [part,isAgg,run_underlying c,i,g]
theorem qn {cs ds j i:Array Value} (m:VL φ cs.toList j.toList) (l:VL φ ds.toList i.toList) (d:Nat) (w:World):∀(fs:List Field) (b:Bool),(fs.all fun f=>f.name != "_" &&(cq P f.type).isSome)=true→
 du cs.toList ds.toList (fs.map fun f=>(f.offset,(cq P f.type).getD 9))=some b→(Op.eqFields (d+1) j i fs).run P w= .ok b w
 |[],b,_,h=>by simp [du]at h;subst h;simp [Op.eqFields]
 |f::fs,b,k,h=>by
  simp only [List.all_cons,apJ]at k;obtain ⟨⟨C,D⟩,z⟩:=k
  cases g:cq P f.type with
  |none=>simp [g]at D
  |some kk=>
   simp only [List.map_cons,g,Option.getD_some,du]at h
   cases c:cs.toList[f.offset]? with
   |none=>simp [c]at h
   |some x=>
    cases e:ds.toList[f.offset]? with
    |none=>simp [c,e]at h
    |some y=>
     simp only [c,e]at h;obtain ⟨A,h⟩:=aP h
     cases a:iI x y with
     |none=>simp [a]at h
     |some r=>
      obtain ⟨F,v,u⟩:=m.get _ _ c;obtain ⟨E,t,s⟩:=l.get _ _ e;obtain ⟨rfl,rfl⟩:=Em a u s;obtain ⟨q,p,n⟩:=Av (P:=P) g A a d w (cs:=j) (ds:=i) (o:=f.offset) (by simpa using v) (by simpa using t);have B:f.name≠ "_":=by simpa using C
      simp only [Op.eqFields,if_pos B,Sem.run_bind,q,p,n,Result.andThen_ok]
      cases r with
      |true=>
       simp only [a]at h
       simpa using qn m l d w fs b z h
      |false=>
       simp only [a]at h;cases h;simp
theorem Nk {neg:Bool} {cs ds:Array Value} {x' i:Value} {b:Bool} {t:TypeId} {fs:Array Field} (R:Rel w0 φ H w) (l:P.underlying t=some (.struct fs)) (s:(fs.toList.all fun f=>f.name != "_" &&(cq P f.type).isSome)=true) (hs:P.stoodInHeld t=false) (q:P.eqGuardType P.depth t=false)
 (h:du cs.toList ds.toList (fs.toList.map fun f=>(f.offset,(cq P f.type).getD 9))=some b) (n:V φ (.agg cs) x') (m:V φ (.agg ds) i) (k j:Operand) {r:Result Next} {op:BinOp} (p:op=bif neg then .neq else .eql)
 (e:r=((do eqGuard op t k j x' i;binOp op t x' i:Sem Value).run P w).andThen fun v w=>.ok (.value v) w):gP w0 φ H w (.v (.bool (bif neg then !b else b))) H r:=by
 obtain ⟨g,rfl,x,_⟩:=n.Cg;obtain ⟨d,rfl,u,_⟩:=m.Cg;have a:P.fieldsOf t=fs:=by simp [Program.fieldsOf,l]
 have o:P.underlying t=some (.struct (P.fieldsOf t)):=by rw [a];exact l
 have c:(Op.equalIn 10000 t (.agg g) (.agg d)).run P w= .ok b w:=by
  rw [run_equalIn_struct w 9999 t g d o hs,a];exact qn x u 9998 w fs.toList b s h
 refine .pure R (.same rfl) ?_;rw [e,Sem.run_bind,run_eqGuard_agg w op t k j g d q];simp only [Result.andThen_ok];subst p;cases neg
 ·show((binOp .eql t (.agg g) (.agg d)).run P w).andThen _=_
  rw [run_eql_struct,c];rfl
 ·show((binOp .neq t (.agg g) (.agg d)).run P w).andThen _=_
  rw [run_neq_struct,c];rfl
theorem pK {g:Fr} {a:Act} (F:lY φ g a) {place:Nat→Option (Nat×Nat)}:∀{ps:List (Nat×Operand)} {l:List (Nat×Nat×X)},iJ place ps=some l→
 (l.map fun p=>(p.1,p.2.1,p.2.2.ev g)).length=(ps.map fun p=>(p.1,a.eval p.2)).length∧
 ∀(j:Nat) (p:Nat×Nat×Value),(l.map fun p=>(p.1,p.2.1,p.2.2.ev g))[j]?=some p→∃d:Nat×Value,(ps.map fun p=>(p.1,a.eval p.2))[j]?=some d∧place d.1=some (p.1,p.2.1)∧V φ p.2.2 d.2
 |[],l,h=>by simp [iJ]at h;subst h;exact ⟨rfl,fun j p h=>by simp at h⟩
 |(i,x)::ps,l,h=>by
  simp only [iJ]at h
  cases b:place i with
  |none=>simp [b]at h
  |some on=>
   cases c:cX x with
   |none=>simp [b,c]at h
   |some y=>
    cases e:iJ place ps with
    |none=>simp [b,c,e]at h
    |some m=>
     simp [b,c,e]at h;subst h;obtain ⟨k,h2⟩:=pK F e;refine ⟨by simpa using k,fun j p f=>?_⟩
     cases j with
     |zero=>simp at f;subst f;exact ⟨(i,a.eval x),by simp,b,dK F c⟩
     |succ j=>simpa using h2 j p (by simpa using f)
end
end
section
open Go Go.RowKit
section
variable{P:Program} {w0 w:World} {φ:bS} {H:AH}
theorem rO {t:TypeId} {n:Nat} (h:eA P t=some n):∃i,P.info? t=some i∧i.size=n:=by
 unfold eA at h
 cases hi:P.info? t with
 |none=>simp [hi]at h
 |some i=>simp [hi]at h;exact ⟨i,rfl,h⟩
theorem Ix {A:Fr} {a:Act} (F:lY φ A a) (R:Rel w0 φ H w) (tp:φ.m H.nx=none) {c:Call} {W:cQ} (j:DV P c=some W) {res:jI} {H':AH} (h:aA W (X.ev A) H=some (res,H')) (Z:∀f as,res= .enter f as→yW P f) (ty:TypeId):
 gP w0 φ H w res H' ((do let d←resolve a.eval c ty;invoke d.target d.args:Sem Next).run P w):=by
 obtain ⟨callee,args,argTypes⟩:=c;unfold DV at j;dsimp only at j
 cases callee with
 |invoke x m=>cases j
 |value x=>
  cases x with
  |func f=>
   simp only at j
   cases p:Cd args.toList with
   |none=>simp [p]at j
   |some as=>
    simp [p]at j;subst j;simp only [aA,apH,apO]at h;obtain ⟨rfl,rfl⟩:=h;refine .enter R (as':=args.map a.eval) (by simpa using nC F p) ?_;have:=oD (Z f _ rfl) (args.map a.eval) w;simp [resolve,Act.eval,Deferred.ofValue,invoke,this]
  |tmp t=>
   simp only [cX]at j
   cases p:Cd args.toList with
   |none=>simp [p]at j
   |some as=>
    simp [p]at j;subst j;simp only [aA]at h;have D:=F t;simp only [X.ev]at h;cases k:A.get t<;>simp [k]at h;rename_i fn first cap
    cases fn<;>simp at h;obtain ⟨rfl,rfl⟩:=h;rename_i f;rw [k]at D;obtain ⟨L,b',e,K,h2⟩:=V.fn1 D;have G:a.eval (.tmp t)= .func (.func f) L b':=e;refine .enter R (as':=L++args.map a.eval++b') (by simpa using K.append ((nC F p).append h2)) ?_;have:=oD (Z f _ rfl) (L++args.map a.eval++b') w;simp [resolve,G,Deferred.ofValue,invoke]
    simpa using this
  |const v=>
   simp only [cX]at j;split at j
   ·rename_i y as o p
    cases j;split at o
    ·rename_i fJ
     cases o;simp only [aA,X.ev]at h;cases v<;>simp at h;simp [wy,flat]at fJ
    ·cases o
   ·cases j
  |global g=>simp [cX]at j
 |builtin b=>
  simp only at j;split at j
  ·
   rename_i x t rest B I;have C:args= #[x]:=Array.ext' (by simpa using B);have S:argTypes[0]?=some t:=by rw [←Array.getElem?_toList,I];rfl
   subst C;split at j
   ·rename_i y q o
    cases j;have D:=dK F o;simp only [aA]at h;cases k:y.ev A<;>simp [k]at h;obtain ⟨rfl,rfl⟩:=h;rw [k]at D;refine .pure R (.same rfl) ?_;simp [resolve,invoke,builtin,Builtin.len_,S,run_underlying q,D.string];rfl
   ·rename_i e y q o
    cases j;have D:=dK F o;simp only [aA]at h;cases k:y.ev A<;>simp [k]at h;obtain ⟨rfl,rfl⟩:=h;rw [k]at D;obtain ⟨L,c',G,_⟩:=V.QM D;refine .pure R (.same rfl) ?_;simp [resolve,invoke,builtin,Builtin.len_,S,run_underlying q,G];rfl
   ·rename_i n e y q o
    cases j;simp only [aA,apH,apO]at h;obtain ⟨rfl,rfl⟩:=h;refine .pure R (.same rfl) ?_;simp [resolve,invoke,builtin,Builtin.len_,S,run_underlying q];rfl
   ·cases j
  ·
   rename_i s x t u B I;have C:args= #[s,x]:=Array.ext' (by simpa using B);have Q:argTypes= #[t,u]:=Array.ext' (by simpa using I);subst C Q
   have key:∀{e:TypeId} {y z:X},P.underlying t=some (.slice e)→((∃G,P.underlying u=some (.slice G))∨P.underlying u=some .string)→cX s=some y→cX x=some z→
    (match P.info? e with|some i=>if i.size=0∨i.bytes=0∨(ij P e).isNone∨e=BY then none else some (cQ.app i.size i.bytes y z)|none=>none)=some W→gP w0 φ H w res H' ((do let d←resolve a.eval {callee:=.builtin .append,args:=#[s,x],argTypes:=#[t,u]} ty;invoke d.target d.args:Sem Next).run P w):=by
    intro e y z q J o E j
    cases hi:P.info? e with
    |none=>simp [hi]at j
    |some i=>
     simp only [hi]at j;split at j
     ·cases j
     ·rename_i T
      cases j
      have N:(ij P e).isSome=true:=by
       cases ht:ij P e with
       |none=>exact absurd (.inr (.inr (.inl (by simp [ht])))) T
       |some l=>rfl
      obtain ⟨l,hl⟩:=aqi.1 N;obtain ⟨i',zv,Y,yV,Iw,_,QP⟩:=ji hl;rw [hi]at Y;cases Y;simp only [aA]at h
      cases k:bL i.size i.bytes H (y.ev A) (z.ev A)with
      |none=>simp [k]at h
      |some r=>
       obtain ⟨v,H1⟩:=r;simp [k]at h;obtain ⟨rfl,rfl⟩:=h;refine Nf (P:=P) (t:=t) (tx:=u) (ty:=ty) (e:=e) (i:=i) (z:=zv) R tp q hi yV (by rw [←QP,←Iw];simp) (fun e=>T (.inr (.inr (.inr e)))) rfl (fun e=>T (.inl e)) rfl J (dK F o) (dK F E) k ?_;simp [resolve,invoke,builtin]
   split at j
   ·rename_i e G y z q J o E;exact key q (.inl ⟨G,J⟩) o E j
   ·rename_i e y z q J o E;exact key q (.inr J) o E j
   ·cases j
  ·
   rename_i s x t u B I;have C:args= #[s,x]:=Array.ext' (by simpa using B);have Q:argTypes= #[t,u]:=Array.ext' (by simpa using I);subst C Q;split at j
   ·rename_i e y z q o E
    cases U:eA P e with
    |none=>simp [U]at j
    |some n=>
     simp [U]at j;subst j;simp only [aA]at h
     cases k:lU n H (y.ev A) (z.ev A)with
     |none=>simp [k]at h
     |some r=>
      obtain ⟨v,H1⟩:=r;simp [k]at h;obtain ⟨rfl,rfl⟩:=h;refine Iu (P:=P) (t:=t) (tx:=u) (ty:=ty) (e:=e) R q U (dK F o) (dK F E) k ?_;simp [resolve,invoke,builtin]
   ·cases j
  ·
   rename_i x l B;have C:args.toList=x::l:=B;split at j
   ·rename_i y M o O
    cases j;simp only [aA]at h
    cases k:HQ (y.ev A) (M.map (X.ev A))with
    |none=>simp [k]at h
    |some v=>
     simp [k]at h;obtain ⟨rfl,rfl⟩:=h;obtain ⟨r',K,h2⟩:=Lw (P:=P) (w:=w) (nC F O) (dK F o) k;refine .pure R h2 ?_;simp [resolve,invoke,builtin,Builtin.max_,C,K]
   ·cases j
  ·
   rename_i x l B;have C:args.toList=x::l:=B;split at j
   ·rename_i y M o O
    cases j;simp only [aA]at h
    cases k:Lp (y.ev A) (M.map (X.ev A))with
    |none=>simp [k]at h
    |some v=>
     simp [k]at h;obtain ⟨rfl,rfl⟩:=h;obtain ⟨r',K,h2⟩:=Lx (P:=P) (w:=w) (nC F O) (dK F o) k;refine .pure R h2 ?_;simp [resolve,invoke,builtin,Builtin.min_,C,K]
   ·cases j
  ·cases j
theorem Eo {fr:Fr} {a:Act} (F:lY φ fr a) (R:Rel w0 φ H w) {t:TypeId} {m k x:Operand} {W:cQ} {res:jI} {H':AH}
 (s:(match P.underlying t,cX m,cX k,cX x with|some (.map kt _),some a,some b,some c=>(cq P kt).map fun kk=>cQ.qg kk a b c|_,_,_,_=>none)=some W) (h:aA W (X.ev fr) H=some (res,H')):
 gP w0 φ H w res H' ((do Instr.mapUpdate t (a.eval m) (a.eval k) (a.eval x);pure .skip:Sem Next).run P w):=by
 split at s
 case h_2=>cases s
 rename_i kt e m' i Y E hm hk Z
 cases n:cq P kt with
 |none=>simp [n]at s
 |some kk=>
  simp [n]at s;subst s;have S:=dK F hm;have h2:=dK F hk;have h3:=dK F Z
  have Z9:∃d,P.underlying kt=some d:=by
   unfold cq at n
   cases o:P.underlying kt with
   |none=>simp [o]at n
   |some d=>exact ⟨d,rfl⟩
  obtain ⟨d,o⟩:=Z9;simp only [aA]at h;split at h
  case h_2=>cases h
  rename_i r B;split at h
  case h_2=>cases h
  rename_i es M;obtain ⟨p,h⟩:=aP h;simp only [apJ,apS]at p;rw [B]at S;obtain ⟨l,K,U⟩:=V.ZS S;have J:φ.n0≤r:=by rw [←R.n0];exact p.1.2
  obtain ⟨_,es',ck,A,yS⟩:=R.maps r l es J K (AH.iG M)
  have L:a.eval k=i.ev fr:=by
   have N:=rM p.1.1;have Q:=p.1.1
   cases wF:i.ev fr<;>rw [wF]at N h2 Q<;>simp [flat]at N<;>first
    |exact h2.int
    |exact h2.string
    |exact h2.bool
    |(rcases kk with _|_|_|kk<;>simp [cO]at Q)
  have O:(Instr.checkKey false 10000 kt (i.ev fr)).run P w= .ok () w:=run_checkKey (P:=P) o n false 9999 _ w;have I:(getObj l.c).run P w= .ok (.map es' ck) w:=by simp [getObj,Sem.run,A]
  have dh:l.c<w.heap.size:=(apU.1 A).1;have set:∀z:Obj,(setObj l.c z).run P w= .ok () {w with heap:=w.heap.setIfInBounds l.c z}:=by intro z;simp [setObj,Sem.run,A]
  cases f:lV (i.ev fr) (Y.ev fr) es with
  |none=>simp [f]at h
  |some T=>
   simp only [f,Option.map_some,apH,apO]at h;obtain ⟨rfl,rfl⟩:=h
   have done:∀(u:Array MapEntry) (y:Nat),ML φ T u.toList→(Instr.mapUpdate t (a.eval m) (a.eval k) (a.eval x)).run P w= .ok () {w with heap:=w.heap.setIfInBounds l.c (.map u y)}→
    gP w0 φ H w (.v undef) (H.put r (some (.map T))) ((do Instr.mapUpdate t (a.eval m) (a.eval k) (a.eval x);pure .skip:Sem Next).run P w):=by
    intro u y C nD;obtain ⟨R',G⟩:=R.Ek (w':={w with heap:=w.heap.setIfInBounds l.c (.map u y)}) (es':=u) (ck:=y) J K M (by simp [dh]) (fun q B=>by simp [Array.getElem?_setIfInBounds_ne (Ne.symm B)]) (by simp) rfl rfl rfl C;exact ⟨φ,_,_,by rw [Sem.run_bind,nD];rfl,R',G,.inr ⟨rfl,rfl⟩⟩
   rcases El (P:=P) o n p.1.1 h3 0 yS f with⟨D,g⟩|⟨v',j,en,D,hj,Sz,g⟩
   ·refine done (es'.push ⟨i.ev fr,a.eval x,ck⟩) (ck+1) (by simpa using g ck) ?_
    rw [U,L];simp [Instr.mapUpdate,run_underlying E,I,O,Instr.findKey,run_underlying o,D,set]
   ·refine done (es'.modify j fun e=>{e with key:=i.ev fr,val:=a.eval x}) ck (by simpa using g) ?_
    rw [U,L];have Dx:es'[j]?=some en:=by simpa using hj
    simp [Instr.mapUpdate,run_underlying E,I,O,Instr.findKey,run_underlying o,D,set,Dx,Sz,Instr.keyThatStays,tw p.1.1]
theorem SE {fr:Fr} {a:Act} (F:lY φ fr a) (R:Rel w0 φ H w) (tp:φ.m H.nx=none) {o:Oper} {ao:cQ} (q:WB P o=some ao) {res:jI} {H':AH} (h:aA ao (X.ev fr) H=some (res,H')) (hf:∀f as,res= .enter f as→yW P f):
 gP w0 φ H w res H' ((execOp a.eval o).run P w):=by
 obtain ⟨dst,op,ty,pos,after,guard⟩:=o;unfold WB at q;unfold execOp;dsimp only at q⊢;cases op<;>simp only at q⊢
 case move x=>
  cases A:cX x with
  |none=>simp [A]at q
  |some y=>simp [A]at q;subst q;exact As F R A h (by simp)
 case assign x=>
  cases A:cX x with
  |none=>simp [A]at q
  |some y=>simp [A]at q;subst q;exact As F R A h (by simp)
 case pick c x y=>
  split at q
  ·rename_i c' x' y' Nh A hy
   cases q;simp only [aA]at h;have B:=dK F Nh;cases u:c'.ev fr<;>simp [u]at h;rename_i b;obtain ⟨rfl,rfl⟩:=h;rw [u]at B;cases b
   ·exact .pure R (dK F hy) (by simp [B.bool,asBool])
   ·exact .pure R (dK F A) (by simp [B.bool,asBool])
  ·cases q
 case alloc e=>
  split at q
  ·cases q
  rename_i fR
  cases L:ij P e with
  |none=>simp [L]at q
  |some z=>
   simp [L]at q;subst q;simp only [aA,apH,apO]at h;obtain ⟨rfl,rfl⟩:=h;obtain ⟨i,v,hi,B,tH⟩:=D9 L R tp (fun e=>fR (.inl e))
   have:((do pure (Next.value (←Instr.alloc e true (.tuple #[]))):Sem Next)).run P w= .ok (.value (.pointer (some ⟨w.heap.size,0,none⟩))) {w with heap:=w.heap.push (.cells v.cells e)}:=by
    simp [Instr.alloc,zeroValue,typeInfo,hi,B,newVar,newRow]
   rw [this];exact tH
 case box e x=>
  split at q
  ·cases q
  rename_i fR
  cases A:cX x with
  |none=>simp [A]at q
  |some y=>
   simp [A]at q;subst q;simp only [aA]at h
   cases ht:cN (y.ev fr)with
   |true=>simp [ht]at h
   |false=>
    simp [ht]at h;obtain ⟨rfl,rfl⟩:=h;have:=MZ R tp (dK F A) ht e fR
    have hr:((do pure (Next.value (←Instr.box e (a.eval x))):Sem Next)).run P w= .ok (.value (.pointer (some ⟨w.heap.size,0,none⟩))) {w with heap:=w.heap.push (.cells (a.eval x).cells e)}:=by
     simp [Instr.box,newVar,newRow]
    rw [hr];exact this
 case build t ps=>
  have key:∀{place:Nat→Option (Nat×Nat)} {z:List Value} {l:List (Nat×Nat×X)},ij P t=some z→iJ place ps.toList=some l→cQ.build z l=ao→
   (∀N,(P.info? t).bind (·.zero)=some N→∀cells,Instr.fill place N.cells (ps.map fun p=>(p.1,a.eval p.2)).toList=some cells→(Instr.build t (ps.map fun p=>(p.1,a.eval p.2))).run P w= .ok (.agg cells) w)→
   gP w0 φ H w res H' ((do pure (Next.value (←Instr.build t (ps.map fun p=>(p.1,a.eval p.2)))):Sem Next).run P w):=by
   intro place z l L K hao nD;subst hao;obtain ⟨i,N,hi,Q,Iw,QO,QP⟩:=ji L;obtain ⟨J,M⟩:=pK F K;simp only [aA,List.map_map]at h
   cases u:jo z (l.map fun p=>(p.1,p.2.1,p.2.2.ev fr))with
   |none=>simp [u]at h
   |some c=>
    simp [u]at h;obtain ⟨rfl,rfl⟩:=h;obtain ⟨oC,q1,q2,q3⟩:=uJ (φ:=φ) (ps:=l.map fun p=>(p.1,p.2.1,p.2.2.ev fr)) (ps':=ps.toList.map fun p=>(p.1,a.eval p.2)) (place:=place) (arr:=N.cells) J M u (by rw [Iw];exact VL.same QO) (fB QO);have:=nD N (by simp [hi,Q]) oC (by simpa using q1);refine .pure R (.agg (a':=oC) (by simpa using q3) (by simpa using q2)) ?_;simp [this]
  split at q
  ·rename_i W z C L
   split at q
   ·rename_i pl hpl
    cases K:iJ (fun i=>pl[i]?) ps.toList with
    |none=>simp [K]at q
    |some l=>
     simp [K]at q;refine key L K q ?_;intro N Q cells Aw
     cases hi:P.info? t with
     |none=>simp [hi]at Q
     |some i=>
      simp [hi]at Q;refine run_build w t _ cells ?_;unfold Program.built;simp [hi,C,Q,hpl]
      simpa using Aw
   ·cases q
  ·rename_i n e z C L
   split at q
   ·rename_i n D
    cases K:iJ (fun i=>some (i*n,n)) ps.toList with
    |none=>simp [K]at q
    |some l=>
     simp [K]at q;refine key L K q ?_;intro N Q cells Aw
     cases hi:P.info? t with
     |none=>simp [hi]at Q
     |some i=>
      simp [hi]at Q;simp [Instr.build,zeroValue,typeInfo,hi,Q,run_underlying C,c8 D];simp at Aw;simp [Aw]
   ·cases q
  ·cases q
 case buildSlice t len ps=>
  split at q
  ·rename_i e C
   split at q
   ·rename_i n z D L
    split at q
    ·cases q
    ·rename_i T
     cases K:iJ (fun i=>some (i*n,n)) ps.toList with
     |none=>simp [K]at q
     |some l=>
      simp [K]at q;subst q;obtain ⟨i,N,hi,Q,Iw,QO,QP⟩:=ji L;obtain ⟨i',qG,hsn⟩:=rO D;rw [hi]at qG;cases qG;obtain ⟨J,M⟩:=pK F K;simp only [aA,List.map_map]at h;have fJ:=all_replicate QO len;have Ly:=uI N.cells n (by rw [←hsn,←QP,←Iw];simp) len;rw [Iw]at Ly
      cases u:jo (List.replicate len z).flatten (l.map fun p=>(p.1,p.2.1,p.2.2.ev fr))with
      |none=>simp [u]at h
      |some c=>
       simp [u]at h;obtain ⟨rfl,rfl⟩:=h;obtain ⟨oC,q1,q2,q3⟩:=uJ (φ:=φ) (ps:=l.map fun p=>(p.1,p.2.1,p.2.2.ev fr)) (ps':=ps.toList.map fun p=>(p.1,a.eval p.2)) (place:=fun i=>some (i*n,n)) (arr:=madeCells N.cells (len*n)) J M u (by rw [Ly];exact VL.same fJ) (fB fJ)
       have hr:((do pure (Next.value (←Instr.buildSlice t len (ps.map fun p=>(p.1,a.eval p.2)))):Sem Next)).run P w= .ok (.value (.slice (some ⟨w.heap.size,0,none⟩) len len)) {w with heap:=w.heap.push (.cells oC e)}:=by
        have h24:¬ (2^24<len*n):=by omega
        have kR:(Instr.fill (fun i=>some (i*n,n)) (madeCells (if len*n=0 then #[]else N.cells) (len*n)) (ps.toList.map fun p=>(p.1,a.eval p.2)))=some oC:=by
         by_cases U:len*n=0
         ·rw [if_pos U,U]
          rw [U]at q1;have:madeCells (#[]:Array Value) 0=madeCells N.cells 0:=by simp [madeCells]
          rw [this];exact q1
         ·rw [if_neg U];exact q1
        by_cases U:len*n=0
        ·rw [if_pos U]at kR
         simp only [madeCells]at kR;simp [Instr.buildSlice,run_underlying C,c8 D,U];rw [U]at kR;simp at kR;simp [kR,newRow]
        ·rw [if_neg U]at kR
         simp only [madeCells]at kR;simp [Instr.buildSlice,run_underlying C,c8 D,U,h24,zeroValue,typeInfo,hi,Q];simp [kR,newRow]
       rw [hr];obtain ⟨R',G⟩:=R.new tp (w':={w with heap:=w.heap.push (.cells oC e)}) (z:=n) (cs:=c) (arr:=oC) (e:=e) rfl rfl rfl rfl (by rw [q2.length];simp) (oA q2 q3) (fun e=>T (.inr (.inr e)));refine ⟨_,_,_,rfl,R',G,.inl ⟨_,rfl,?_⟩⟩;have:=V.sl (φ:=φ.add H.nx ⟨w.heap.size,0,oC.size,n⟩) (o:=0) (n:=len) (bS.lW φ H.nx ⟨w.heap.size,0,oC.size,n⟩) (apK len) id (.inl rfl)
       simpa using this
   ·cases q
  ·cases q
 case load t x=>
  split at q
  ·rename_i y Nm A
   cases D:eA P t with
   |none=>simp [D]at q
   |some n=>
    simp [D]at q;subst q;have B:=dK F A;simp only [aA]at h;cases u:y.ev fr<;>simp [u]at h;rename_i p;cases p<;>simp at h;rename_i ad
    cases dP:H.ldn ad n with
    |none=>simp [dP]at h
    |some vs=>
     simp [dP]at h;obtain ⟨rfl,rfl⟩:=h;rw [u]at B;obtain ⟨a',jr,J,M,e3,e4,e5⟩:=Ea R B dP;refine .pure R (.agg (a':=jr.toArray) (by simpa using e3) (by simpa using e4)) ?_;have:=run_loadCells_list (P:=P) w a' jr e5;rw [M]at this;simp [Instr.loadAt,J,Instr.sureAddr,loadVar,kr Nm,c8 D,this]
  ·rename_i y Nm A
   cases q;have B:=dK F A;simp only [aA]at h;cases u:y.ev fr<;>simp [u]at h;rename_i p;cases p<;>simp at h;rename_i ad
   cases dP:H.ld ad with
   |none=>simp [dP]at h
   |some v=>
    simp [dP]at h;obtain ⟨rfl,rfl⟩:=h;rw [u]at B;obtain ⟨a',v',J,M,e3⟩:=Lt R B dP;refine .pure R e3 ?_;simp [Instr.loadAt,J,Instr.sureAddr,loadVar,kr Nm,M]
  ·cases q
 case store t x v=>
  split at q
  ·rename_i y z A B
   cases D:eA P t with
   |none=>simp [D]at q
   |some n=>
    simp [D]at q;subst q;have I:=dK F A;have h2:=dK F B;simp only [aA]at h;cases u:y.ev fr<;>simp [u]at h;rename_i p;cases p<;>simp at h;rename_i ad;rw [u]at I
    cases E:(Nat.beq (aW (z.ev fr)).length n&& !cN (z.ev fr))with
    |false=>simp [E]at h
    |true=>
     simp only [E,cond_true]at h;simp [nb]at E
     cases iS:H.st ad (aW (z.ev fr))with
     |none=>simp [iS]at h
     |some H1=>
      simp [iS]at h;obtain ⟨rfl,rfl⟩:=h;obtain ⟨a',w',J,M,R',G⟩:=Eb (P:=P) R I iS h2.cells (nA h2 E.2);refine ⟨φ,w',_,?_,R',G,.inr ⟨rfl,rfl⟩⟩;have T:(a.eval v).cells.size=n:=by rw [←E.1,h2.cells.length];simp
      simp [Instr.storeAt,J,Instr.sureAddr,storeVar,c8 D,T,M]
  ·cases q
 case nilCheck x=>
  cases A:cX x with
  |none=>simp [A]at q
  |some y=>
   simp [A]at q;subst q;have B:=dK F A;simp only [aA]at h;cases u:y.ev fr<;>simp [u]at h;rename_i p;cases p<;>simp at h;obtain ⟨rfl,rfl⟩:=h;rw [u]at B;obtain ⟨l,I,h2,h3⟩:=V.yO B;refine .pure R B ?_;simp [h3]
 case binOp op t x y ty2=>
  split at q
  ·rename_i x' y' A hy
   have I:=dK F A;have h2:=dK F hy
   have aad:∀v,de op (x'.ev fr) (y'.ev fr)=some v→res= .v v∧H'=H→gP w0 φ H w res H' ((do pure (Next.value (←(do eqGuard op t x y (a.eval x) (a.eval y);binOp op t (a.eval x) (a.eval y)))):Sem Next).run P w):=by
    rintro v B ⟨rfl,rfl⟩;refine Na (P:=P) R B I h2 t x y ?_;rw [Sem.run_bind];rfl
   have iK:ao= .bin op x' y'→gP w0 φ H w res H' ((do pure (Next.value (←(do eqGuard op t x y (a.eval x) (a.eval y);binOp op t (a.eval x) (a.eval y)))):Sem Next).run P w):=by
    rintro rfl;simp only [aA]at h
    cases u:de op (x'.ev fr) (y'.ev fr)with
    |none=>simp [u]at h
    |some v=>simp [u]at h;exact aad v u ⟨h.1.symm,h.2.symm⟩
   have heq:∀k neg,rH P t=some k→(op=bif neg then .neq else .eql)→ao= .eqk k neg x' y'→gP w0 φ H w res H' ((do pure (Next.value (←(do eqGuard op t x y (a.eval x) (a.eval y);binOp op t (a.eval x) (a.eval y)))):Sem Next).run P w):=by
    rintro k neg hk qS rfl;simp only [aA]at h
    cases u:hU k (x'.ev fr) (y'.ev fr)with
    |none=>simp [u]at h
    |some b=>
     simp [u]at h;obtain ⟨rfl,rfl⟩:=h;refine Nb (P:=P) R hk u I h2 x y qS ?_;rw [Sem.run_bind];rfl
   have SF:∀W neg,P.underlying t=some (.struct W)→((W.toList.all fun f=>f.name != "_" &&(cq P f.type).isSome)&& !P.stoodInHeld t&& !P.eqGuardType P.depth t)=true→(op=bif neg then .neq else .eql)→ao= .eqs neg (W.toList.map fun f=>(f.offset,(cq P f.type).getD 9)) x' y'→
    gP w0 φ H w res H' ((do pure (Next.value (←(do eqGuard op t x y (a.eval x) (a.eval y);binOp op t (a.eval x) (a.eval y)))):Sem Next).run P w):=by
    rintro W neg C E qS rfl;simp only [apJ,Bool.not_eq_true']at E;simp only [aA]at h
    cases u:x'.ev fr<;>simp only [u]at h<;>first
     |(cases h;done)
     |skip
    rename_i cs
    cases Z:y'.ev fr<;>simp only [Z]at h<;>first
     |(cases h;done)
     |skip
    rename_i ds
    cases Nn:du cs.toList ds.toList (W.toList.map fun f=>(f.offset,(cq P f.type).getD 9))with
    |none=>simp [Nn]at h
    |some b=>
     simp only [Nn,Option.map_some,apH,apO]at h;obtain ⟨rfl,rfl⟩:=h;rw [u]at I;rw [Z]at h2;refine Nk (P:=P) R C E.1.1 E.1.2 E.2 Nn I h2 x y qS ?_;rw [Sem.run_bind];rfl
   split at q
   ·cases q;exact iK rfl
   ·cases q;exact iK rfl
   ·rename_i W C
    split at q
    ·rename_i E
     split at q
     ·cases q;exact SF W false C E rfl rfl
     ·cases q;exact SF W true C E rfl rfl
     ·cases q
    ·cases q
   ·split at q
    ·rename_i k hk;cases q;exact heq k false hk rfl rfl
    ·rename_i k hk;cases q;exact heq k true hk rfl rfl
    ·cases q
  ·cases q
 case unOp op t x=>
  cases A:cX x with
  |none=>simp [A]at q
  |some y=>
   simp [A]at q;subst q;have B:=dK F A;simp only [aA]at h
   cases u:DT op (y.ev fr)with
   |none=>simp [u]at h
   |some v=>
    simp [u]at h;obtain ⟨rfl,rfl⟩:=h;unfold DT at u;split at u
    ·rename_i b O
     cases u;rw [O]at B;refine .pure R (.same rfl) ?_;simp [B.bool,Op.unary]
    ·rename_i k n O
     cases u;rw [O]at B;refine .pure R (.same rfl) ?_;simp [B.int,Op.unary,Op.intArith]
    ·cases u
 case convert src dst x=>
  split at q
  ·rename_i k1 k y Lz hu2 A
   cases q;have B:=dK F A;simp only [aA]at h;cases u:y.ev fr<;>simp [u]at h;obtain ⟨rfl,rfl⟩:=h;rw [u]at B;refine .pure R (.same rfl) ?_;simp [convert,run_underlying Lz,run_underlying hu2,B.int,Conv.intToInt]
  ·rename_i k1 y Lz hu2 A
   cases q;have B:=dK F A;simp only [aA]at h;cases u:y.ev fr<;>simp [u]at h;obtain ⟨rfl,rfl⟩:=h;rw [u]at B;refine .pure R (.same rfl) ?_;simp [convert,run_underlying Lz,run_underlying hu2,B.int,Conv.intToString]
  ·cases q
 case makeFunc fn first cap=>
  cases fn<;>simp only at q
  case func f=>
   split at q
   ·rename_i xs ys A hy
    cases q;simp only [aA,apH,apO]at h;obtain ⟨rfl,rfl⟩:=h;refine .pure R (.fn (a':=first.map a.eval) (b':=cap.map a.eval) (by simpa using nC F A) (by simpa using nC F hy)) ?_;simp [Instr.makeFunc]
   ·cases q
  all_goals cases q
 case makeMap t r=>
  cases r with
  |some r=>cases q
  |none=>
   cases q;simp only [aA,apH,apO]at h;obtain ⟨rfl,rfl⟩:=h;obtain ⟨R',G⟩:=R.Ni tp (w':={w with heap:=w.heap.push (.map #[] 0)}) rfl rfl rfl rfl;refine ⟨_,_,.value (.map (some w.heap.size)),?_,R',G,.inl ⟨_,rfl,.mp (l:=⟨w.heap.size,0,0,0⟩) (bS.lW _ _ _)⟩⟩;simp [Instr.makeMap]
 case makeSlice t l c=>
  split at q
  ·rename_i e C
   split at q
   ·rename_i i z x hi L A
    split at q
    ·rename_i E
     cases q;have B:=dK F A;simp only [aA]at h;cases u:x.ev fr<;>simp [u]at h;rename_i k n;rw [u]at B
     have WG:a.eval c=a.eval l:=by
      have Y:=E.1;unfold qi at Y;split at Y
      ·simp at Y;rw [Y]
      ·simp at Y;obtain ⟨rfl,rfl⟩:=Y;rfl
      ·cases Y
     cases yR:(decide (0≤n)&&decide (IntKind.i64.wrap n=n)&&decide ((i.bytes:Int)*n≤140737488355328))with
     |false=>rw [yR]at h;simp at h
     |true=>
      rw [yR]at h;simp only [cond_true,apH,apO]at h;obtain ⟨rfl,rfl⟩:=h;simp only [apJ,apS]at yR;refine Iv (P:=P) (k:=k) R tp C hi L E.2.2.2 rfl rfl yR.1.1 yR.1.2 (by have:=yR.2;omega) ?_;rw [WG,B.int,Sem.run_bind];rfl
    ·cases q
   ·cases q
  ·cases q
 case slice t x lo hi mx=>
  split at q
  ·rename_i x' yQ qG Cj A hlo hhi SH
   have key:∀sz,ao= .sl sz x' yQ qG Cj→(∀v,cj sz H (x'.ev fr) (yQ.map (X.ev fr)) (qG.map (X.ev fr)) (Cj.map (X.ev fr))=some v→(P.underlying t=some .string∧∃s,x'.ev fr= .string s)∨(∃e,P.underlying t=some (.slice e)∧eA P e=some sz∧∃a n c,x'.ev fr= .slice a n c))→
    gP w0 φ H w res H' ((do pure (Next.value (←Instr.sliceAt t (a.eval x) (lo.map a.eval) (hi.map a.eval) (mx.map a.eval))):Sem Next).run P w):=by
    rintro sz rfl hty;simp only [aA]at h
    cases u:cj sz H (x'.ev fr) (yQ.map (X.ev fr)) (qG.map (X.ev fr)) (Cj.map (X.ev fr))with
    |none=>simp [u]at h
    |some v=>
     simp [u]at h;obtain ⟨rfl,rfl⟩:=h;obtain ⟨v',J,M⟩:=Ck (P:=P) (t:=t) R (hty v u) u (dK F A) (yX F hlo) (yX F hhi) (yX F SH);refine .pure R M ?_;simp [J]
   split at q
   ·rename_i C
    cases q;refine key 0 rfl (fun v B=>.inl ⟨C,?_⟩);unfold cj at B;split at B
    ·split at B
     ·cases B
     ·obtain ⟨O,_⟩:=aP B
      simp [nb]at O
    ·exact ⟨_,by assumption⟩
    ·cases B
   ·rename_i e C
    cases D:eA P e with
    |none=>simp [D]at q
    |some n=>
     simp only [D]at q;split at q
     ·cases q
     ·rename_i nE
      cases q;refine key n rfl (fun v B=>.inr ⟨e,C,D,?_⟩);unfold cj at B;split at B
      ·exact ⟨_,_,_,by assumption⟩
      ·split at B
       ·cases B
       ·split at B
        ·cases B
        ·obtain ⟨O,_⟩:=aP B
         simp [nb]at O;exact absurd O nE
      ·cases B
   ·cases q
  ·cases q
 case fieldAddr s x f=>
  split at q
  ·rename_i W y C A
   split at q
   ·rename_i g hg
    split at q
    ·rename_i n D
     split at q
     ·cases q
     ·rename_i nE
      cases q;have B:=dK F A;simp only [aA]at h;cases u:y.ev fr<;>simp [u]at h;rename_i p;cases p<;>simp at h;rename_i ad;obtain ⟨iL,h⟩:=aP h;simp only [apH,apO]at h;obtain ⟨rfl,rfl⟩:=h;rw [u]at B;obtain ⟨l,I,h2,h3⟩:=V.yO B;refine .pure R (.ptr h2) ?_;simp [Instr.fieldAt,run_underlying C,hg,h3,Instr.sureAddr,fieldPlace,c8 D,nE,add_lit,Nat.add_assoc,Nat.add_comm,Nat.add_left_comm]
    ·cases q
   ·cases q
  ·cases q
 case indexAddr t x i=>
  split at q
  ·rename_i e y z C A hi
   cases D:eA P e with
   |none=>simp [D]at q
   |some n=>
    simp [D]at q;subst q;have I:=dK F A;have h2:=dK F hi;simp only [aA]at h;split at h
    case h_2=>cases h
    rename_i ad len cap k j u Z;split at h
    case isFalse=>cases h
    rename_i hj;obtain ⟨iL,h⟩:=aP h;simp only [apH,apO]at h;obtain ⟨rfl,rfl⟩:=h;rw [u]at I;rw [Z]at h2;rcases V.DZ I with⟨l,c',_,K,_,_,_,J⟩|⟨Y,_⟩
    ·refine .pure R (.ptr K) ?_
     simp [Instr.indexAt,h2.int,asIntOf,run_underlying C,J,hj,c8 D,add_lit,Nat.add_assoc,Nat.add_comm,Nat.add_left_comm]
    ·rw [Y]at iL;simp at iL
  ·rename_i len e y z C A hi
   cases D:eA P e with
   |none=>simp [D]at q
   |some n=>
    simp [D]at q;subst q;have I:=dK F A;have h2:=dK F hi;simp only [aA]at h;split at h
    case h_2=>cases h
    rename_i ad k j u Z;split at h
    case isFalse=>cases h
    rename_i hj;obtain ⟨iL,h⟩:=aP h;simp only [apH,apO]at h;obtain ⟨rfl,rfl⟩:=h;rw [u]at I;rw [Z]at h2;obtain ⟨l,_,K,J⟩:=V.yO I;refine .pure R (.ptr K) ?_;simp [Instr.indexAt,h2.int,asIntOf,run_underlying C,J,Instr.sureAddr,hj,c8 D,add_lit,Nat.add_assoc,Nat.add_comm,Nat.add_left_comm]
  ·cases q
 case index t x i=>
  split at q
  ·rename_i y z C A hi
   cases q;have I:=dK F A;have h2:=dK F hi;simp only [aA]at h;cases u:y.ev fr<;>simp [u]at h;rename_i s;cases Z:z.ev fr<;>simp [Z]at h;rename_i k j;obtain ⟨hj,h⟩:=h
   cases O:s[j.toNat]? with
   |none=>simp [O]at h
   |some b=>
    simp [O]at h;obtain ⟨rfl,rfl⟩:=h;rw [u]at I;rw [Z]at h2;refine .pure R (.same rfl) ?_;simp [Instr.index,I.string,h2.int,asIntOf,run_underlying C,hj,O]
  ·cases q
 case makeInterface t x=>
  split at q
  ·cases q
  ·rename_i d y hni C A
   cases q;simp only [aA,apH,apO]at h;obtain ⟨rfl,rfl⟩:=h;refine .pure R (.iface (dK F A)) ?_
   cases d<;>first
    |(simp [Instr.makeInterface,run_underlying C];done)
    |exact absurd rfl (hni _)
  ·cases q
 case extract x i=>
  cases A:cX x with
  |none=>simp [A]at q
  |some y=>
   simp [A]at q;subst q;have B:=dK F A;simp only [aA]at h;cases u:y.ev fr<;>simp [u]at h;rename_i vs
   cases hj:vs[i]? with
   |none=>simp [hj]at h
   |some v=>
    simp [hj]at h;obtain ⟨rfl,rfl⟩:=h;rw [u]at B;obtain ⟨jr,J,M⟩:=V.ZT B;obtain ⟨v',e3,e4⟩:=M.get i v (by simpa using hj);refine .pure R e4 ?_;have QR:jr[i]?=some v':=by simpa using e3
    simp [Instr.extract,J,QR]
 case call c=>exact Ix F R tp q h hf ty
 case lookup t x k ok=>
  split at q
  ·rename_i kt e x' k' C A hk
   split at q
   ·rename_i z L
    split at q
    ·rename_i kk Dv
     split at q
     ·rename_i fJ
      cases q;have I:=dK F A;have h2:=dK F hk
      have Z9:∃d,P.underlying kt=some d:=by
       unfold cq at Dv
       cases hd:P.underlying kt with
       |none=>simp [hd]at Dv
       |some d=>exact ⟨d,rfl⟩
      obtain ⟨d,hd⟩:=Z9
      have S:(zeroValue e).run P w= .ok z w:=by
       cases hi:P.info? e with
       |none=>simp [hi]at L
       |some i=>simp [hi]at L;simp [zeroValue,typeInfo,hi,L]
      simp only [aA]at h;split at h
      ·rename_i u
       obtain ⟨hko,h⟩:=aP h;simp only [apH,apO]at h;obtain ⟨rfl,rfl⟩:=h;rw [u]at I;have Dw:=run_checkKey (P:=P) hd Dv true 9999 (a.eval k) w
       have nD:(Instr.lookup t (a.eval x) (a.eval k) ok).run P w= .ok (if ok then .tuple #[z,.bool false]else z) w:=by
        rw [I.mp0];simp [Instr.lookup,run_underlying C,Dw,Instr.findKey,run_underlying hd,Instr.findNow,S]
       refine .pure (x':=if ok then .tuple #[z,.bool false]else z) R ?_ (by simp [nD]);cases ok
       ·exact V.wC fJ
       ·exact .tuple (.cons (V.wC fJ) (.cons (.same rfl) .nil))
      ·rename_i r u
       split at h
       case h_2=>cases h
       rename_i es hg;obtain ⟨E,h⟩:=aP h;simp only [apJ,apS]at E;rw [u]at I;obtain ⟨l,K,J⟩:=V.ZS I;obtain ⟨_,es',ck,hw,yS⟩:=R.maps r l es (by rw [←R.n0];exact E.2) K (AH.iG hg)
       have Ep:a.eval k=k'.ev fr:=by
        have hf:=rM E.1
        cases wF:k'.ev fr<;>rw [wF]at hf h2 E<;>simp [flat]at hf<;>first
         |exact h2.int
         |exact h2.string
         |exact h2.bool
         |(rcases kk with _|_|_|kk<;>simp [cO]at E)
       have Dw:=run_checkKey (P:=P) hd Dv es'.isEmpty 9999 (a.eval k) w
       cases WH:gk (k'.ev fr) es with
       |none=>simp [WH]at h
       |some ro=>
        have Er:(getObj l.c).run P w= .ok (.map es' ck) w:=by simp [getObj,Sem.run,hw]
        have Iy:(Instr.checkKey es'.isEmpty 10000 kt (a.eval k)).run P w= .ok () w:=Dw;rcases Au (P:=P) hd Dv E.1 0 yS WH with⟨rfl,Nl⟩|⟨v,v',j,en,rfl,Nl,lD,_,_⟩
        ·simp only [WH,apH,apO]at h
         obtain ⟨rfl,rfl⟩:=h
         have nD:(Instr.lookup t (a.eval x) (a.eval k) ok).run P w= .ok (if ok then .tuple #[z,.bool false]else z) w:=by
          rw [J];rw [Ep]at Iy⊢;simp [Instr.lookup,run_underlying C,Er,Iy,Instr.findKey,run_underlying hd,Nl,S]
         refine .pure (x':=if ok then .tuple #[z,.bool false]else z) R ?_ (by simp [nD]);cases ok
         ·exact V.wC fJ
         ·exact .tuple (.cons (V.wC fJ) (.cons (.same rfl) .nil))
        ·simp only [WH,apH,apO]at h
         obtain ⟨rfl,rfl⟩:=h
         have nD:(Instr.lookup t (a.eval x) (a.eval k) ok).run P w= .ok (if ok then .tuple #[v',.bool true]else v') w:=by
          rw [J];rw [Ep]at Iy⊢;simp [Instr.lookup,run_underlying C,Er,Iy,Instr.findKey,run_underlying hd,Nl]
         refine .pure (x':=if ok then .tuple #[v',.bool true]else v') R ?_ (by simp [nD]);cases ok
         ·exact lD
         ·exact .tuple (.cons lD (.cons (.same rfl) .nil))
      ·cases h
     ·cases q
    ·cases q
   ·cases q
  ·cases q
 case mapUpdate t m k x=>exact Eo F R q h
 case insert t m k x=>exact Eo F R q h
 all_goals cases q
end
end
end Go.Proofs.YtppcmpmnglaleaaGreat.A
