/- Texts that stand one behind the other: Abs6. -/
import Derived.Test.YtppcmpmnglaleaaGreatG5
import Derived.Laws.Slices
set_option linter.unusedVariables false
set_option linter.unusedSimpArgs false
namespace Go.Proofs.YtppcmpmnglaleaaGreat.A
open Go Go.RowKit
section
variable{P:Program} {w0 w:World} {φ:bS} {H:AH}
theorem js {v v':Value} {y a n:Nat} (h:iH v y=some n) (b:V φ v v') (c:y≤a) (code:BoundsCode) (w:World):(Instr.sliceBound v' a code).run P w= .ok n w∧n≤y:=by
 unfold iH at h;split at h
 ·rename_i k i
  split at h
  ·rename_i hi
   cases h;rw [b.int];refine ⟨run_sliceBound w k i a code hi.1 (by omega),by omega⟩
  ·cases h
 ·cases h
def ik (mx:Option Value) (m c:Nat):Nat:=match mx with|some _=>m|none=>c
inductive VO (φ:bS):Option Value→Option Value→Prop where
 |none:VO φ none none
 |some {v v':Value}:V φ v v'→VO φ (some v) (some v')
theorem jN {len cap cap' l h m:Nat} {lo hi mx u x t:Option Value} (e:bQ len cap lo hi mx=some (l,h,m)) (p:VO φ lo u) (h2:VO φ hi x) (G:VO φ mx t) (y:cap≤cap') (b:Bool) (w:World):
 (Instr.sliceBounds b len cap' u x t).run P w= .ok (l,h,ik mx m cap') w∧l≤h∧(mx=none→m=cap):=by
 unfold bQ at e;unfold Instr.sliceBounds
 cases G with
 |none=>
  simp only [Option.bind_some]at e
  cases h2 with
  |none=>
   simp only [Option.bind_some]at e
   cases p with
   |none=>simp at e;obtain ⟨rfl,rfl,rfl⟩:=e;simp [ik]
   | @some v q g=>
    cases c:iH v len with
    |none=>simp [c]at e
    |some n=>
     simp [c]at e;obtain ⟨rfl,rfl,rfl⟩:=e;obtain ⟨r,a⟩:=js (P:=P) c g (apK _) .sliceB w;simp [r,a,ik]
  | @some i B k=>
   cases d:iH i cap with
   |none=>simp [d]at e
   |some j=>
    simp [d]at e;obtain ⟨f,F⟩:=js (P:=P) d k y (if b then .sliceAcap else .sliceAlen) w
    cases p with
    |none=>simp at e;obtain ⟨rfl,rfl,rfl⟩:=e;simp [f,ik]
    | @some v q g=>
     cases c:iH v j with
     |none=>simp [c]at e
     |some n=>
      simp [c]at e;obtain ⟨rfl,rfl,rfl⟩:=e;obtain ⟨r,a⟩:=js (P:=P) c g (apK _) .sliceB w;simp [f,r,a,ik]
 | @some A z D=>
  cases o:iH A cap with
  |none=>simp [o]at e
  |some C=>
   simp only [o,Option.bind_some]at e;obtain ⟨s,E⟩:=js (P:=P) o D y (if b then .slice3Acap else .slice3Alen) w
   cases h2 with
   |none=>simp at e
   | @some i B k=>
    cases d:iH i C with
    |none=>simp [d]at e
    |some j=>
     simp only [d,Option.bind_some]at e;obtain ⟨f,F⟩:=js (P:=P) d k (apK _) .slice3B w
     cases p with
     |none=>simp at e;obtain ⟨rfl,rfl,rfl⟩:=e;simp [s,f,ik]
     | @some v q g=>
      cases c:iH v j with
      |none=>simp [c]at e
      |some n=>
       simp [c]at e;obtain ⟨rfl,rfl,rfl⟩:=e;obtain ⟨r,a⟩:=js (P:=P) c g (apK _) .slice3C w;simp [s,f,r,a,ik]
theorem Ck {sz:Nat} {x x' v:Value} {lo hi mx I N G:Option Value} {t:TypeId} (R:Rel w0 φ H w)
 (j:(P.underlying t=some .string∧∃s,x= .string s)∨(∃e,P.underlying t=some (.slice e)∧eA P e=some sz∧∃a n c,x= .slice a n c)) (h:cj sz H x lo hi mx=some v) (J:V φ x x') (F:VO φ lo I) (h2:VO φ hi N) (E:VO φ mx G):
 ∃v',(Instr.sliceAt t x' I N G).run P w= .ok v' w∧V φ v v':=by
 rcases j with⟨j,s,rfl⟩|⟨e,j,K,a,n,c,rfl⟩
 ·rw [J.string]
  simp only [cj]at h
  cases E with
  |some _=>cases h
  |none=>
   simp only at h
   cases d:bQ s.size s.size lo hi none with
   |none=>simp [d]at h
   |some p=>
    obtain ⟨l,k,m⟩:=p;simp only [d]at h;obtain ⟨_,h⟩:=aP h;simp at h;subst h;obtain ⟨r,_,_⟩:=jN (P:=P) d F h2 .none (apK _) false w;refine ⟨.string (s.extract l k),?_,.same rfl⟩;simp [Instr.sliceAt,Instr.slice,run_underlying j,r]
 ·simp only [cj]at h
  cases d:bQ n c lo hi mx with
  |none=>simp [d]at h
  |some p=>
   obtain ⟨l,k,m⟩:=p;simp only [d]at h;obtain ⟨M,h⟩:=aP h;simp only [apJ,apS,Bool.not_eq_true']at M;obtain ⟨M,_⟩:=M
   cases a with
   |none=>
    rw [J.QL];obtain ⟨r,C,i⟩:=jN (P:=P) d F h2 E (apK _) true w;simp at h;subst h
    have L:ik mx m c=m:=by
     cases mx with
     |none=>exact (i rfl).symm
     |some _=>rfl
    rw [L]at r;refine ⟨_,?_,.same (v:=.slice none (k- l) (m- l)) rfl⟩;simp [Instr.sliceAt,Instr.slice,run_underlying j,r,c8 K]
   |some a=>
    rcases V.DZ J with⟨lc,f,B,A,yR,qT,W,rfl⟩|⟨B,rfl,rfl,a',f,rfl⟩
    ·obtain ⟨b,o,sp⟩:=a
     dsimp only at B A W⊢;subst B;obtain ⟨r,C,i⟩:=jN (P:=P) d F h2 E yR true w
     have run:(Instr.sliceAt t (.slice (some ⟨lc.c,o+lc.s,none⟩) n f) I N G).run P w= .ok (.slice (if(ik mx m f)=l then some ⟨lc.c,o+lc.s,none⟩else some ⟨lc.c,o+lc.s+l*sz,none⟩) (k- l) ((ik mx m f)- l)) w:=by
      simp [Instr.sliceAt,Instr.slice,run_underlying j,r,c8 K,add_lit]
     refine ⟨_,run,?_⟩;simp only at h;by_cases D:m=l
     ·rw [if_pos D]at h
      split at h
      ·rename_i U
       cases h;have:k- l=0:=by omega
       rw [this];split<;>exact .dead
      ·rename_i U
       cases h
       have:(ik mx m f)=l:=by
        cases mx with
        |some _=>exact D
        |none=>
         simp at U;have:=i rfl;simp only [ik];rw [qT (by omega)];omega
       rw [this];simp;exact .sl A (apK _) id (.inl rfl)
     ·rw [if_neg D]at h
      simp only [Option.isNone_none,Bool.true_and,nb]at h
      cases g:(decide (l=0)||H.lz b sz)with
      |false=>simp [g]at h
      |true=>
       simp only [g,cond_true,apH]at h;subst h
       have Z:¬ (ik mx m f)=l:=by
        cases mx with
        |some _=>exact D
        |none=>have:=i rfl;simp only [ik];omega
       rw [if_neg Z,show o+lc.s+l*sz=o+l*sz+lc.s by omega];refine .sl A ?_ ?_ ?_
       ·cases mx with
        |some _=>exact apK _
        |none=>have:=i rfl;simp only [ik];omega
       ·omega
       ·cases mx with
        |some _=>exact .inl rfl
        |none=>
         have hmc:=i rfl;simp only [ik];rcases W with Q|Q
         ·left;omega
         ·simp at g
          rcases g with rfl|g
          ·right;simpa using Q
          ·by_cases O:b<φ.n0
           ·rw [R.jJ b O]at A
            cases A;left;simp at Q;omega
           ·unfold AH.lz at g
            split at g
            ·rename_i z cs hg
             have Y:sz≤lc.z:=by
              rw [(R.cells b lc z cs (by omega) A (AH.iG hg)).2.1]
              simpa using g
             right;have:l*sz≤l*lc.z:=Nat.mul_le_mul_left _ Y;have:(f- l)*lc.z=f*lc.z- l*lc.z:=Nat.sub_mul _ _ _;have:l*lc.z≤f*lc.z:=Nat.mul_le_mul_right _ (by omega);omega
            ·cases g
    ·obtain ⟨r,C,i⟩:=jN (P:=P) d F h2 E (cap':=f) (by omega) true w
     have ZX:m=0:=by
      unfold bQ at d
      cases mx with
      |none=>exact i rfl
      |some v=>
       simp only at d
       cases y:iH v 0 with
       |none=>simp [y]at d
       |some q=>
        have:=(js (P:=P) (φ:=φ) (v':=v) y (by unfold iH at y;split at y;exact .same rfl;cases y) (apK _) .slice3B w).2;simp only [y,Option.bind_some]at d;have:q=0:=by omega
        subst this
        cases hi with
        |none=>simp at d
        |some u=>
         simp only at d
         cases T:iH u 0 with
         |none=>simp [T]at d
         |some X=>
          simp only [T,Option.bind_some]at d
          cases lo with
          |none=>simp at d;omega
          |some x=>
           simp only at d
           cases S:iH x X with
           |none=>simp [S]at d
           |some q3=>simp [S]at d;omega
     have ZY:k=0:=by omega
     have qH:l=0:=by omega
     subst ZX ZY qH;simp at h;subst h;obtain ⟨b,o,sp⟩:=a;dsimp only at B;subst B;refine ⟨.slice (some a') 0 (ik mx 0 f),?_,.dead⟩;simp [Instr.sliceAt,Instr.slice,run_underlying j,r,c8 K];intro _;unfold Addr.add;simp
end
end Go.Proofs.YtppcmpmnglaleaaGreat.A
