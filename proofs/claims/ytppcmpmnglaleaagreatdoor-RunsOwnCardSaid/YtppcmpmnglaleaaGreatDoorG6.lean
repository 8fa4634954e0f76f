/- Texts that stand one behind the other: Abs6. -/
import Derived.Test.YtppcmpmnglaleaaGreatDoorG5
import Derived.Laws.Slices
set_option linter.unusedVariables false
set_option linter.unusedSimpArgs false
namespace Go.Proofs.YtppcmpmnglaleaaGreatDoor.A
open Go Go.RowKit
section
variable{P:Program} {w0 w:World} {φ:bM} {H:AH}
theorem iZ {v v':Value} {y a n:Nat} (h:ij v y=some n) (b:V φ v v') (c:y≤a) (code:BoundsCode) (w:World):(Instr.sliceBound v' a code).run P w= .ok n w∧n≤y:=by
 unfold ij at h;split at h
 ·rename_i k i
  split at h
  ·rename_i hi
   cases h;rw [b.int];refine ⟨run_sliceBound w k i a code hi.1 (by omega),by omega⟩
  ·cases h
 ·cases h
def gT (mx:Option Value) (m c:Nat):Nat:=match mx with|some _=>m|none=>c
inductive VO (φ:bM):Option Value→Option Value→Prop where
 |none:VO φ none none
 |some {v v':Value}:V φ v v'→VO φ (some v) (some v')
theorem jB {len cap cap' l h m:Nat} {lo hi mx u x t:Option Value} (e:bz len cap lo hi mx=some (l,h,m)) (p:VO φ lo u) (h2:VO φ hi x) (G:VO φ mx t) (y:cap≤cap') (b:Bool) (w:World):
 (Instr.sliceBounds b len cap' u x t).run P w= .ok (l,h,gT mx m cap') w∧l≤h∧(mx=none→m=cap):=by
 unfold bz at e;unfold Instr.sliceBounds
 cases G with
 |none=>
  simp only [Option.bind_some]at e
  cases h2 with
  |none=>
   simp only [Option.bind_some]at e
   cases p with
   |none=>simp at e;obtain ⟨rfl,rfl,rfl⟩:=e;simp [gT]
   | @some v q g=>
    cases c:ij v len with
    |none=>simp [c]at e
    |some n=>
     simp [c]at e;obtain ⟨rfl,rfl,rfl⟩:=e;obtain ⟨r,a⟩:=iZ (P:=P) c g (aqK _) .sliceB w;simp [r,a,gT]
  | @some i B k=>
   cases d:ij i cap with
   |none=>simp [d]at e
   |some j=>
    simp [d]at e;obtain ⟨f,F⟩:=iZ (P:=P) d k y (if b then .sliceAcap else .sliceAlen) w
    cases p with
    |none=>simp at e;obtain ⟨rfl,rfl,rfl⟩:=e;simp [f,gT]
    | @some v q g=>
     cases c:ij v j with
     |none=>simp [c]at e
     |some n=>
      simp [c]at e;obtain ⟨rfl,rfl,rfl⟩:=e;obtain ⟨r,a⟩:=iZ (P:=P) c g (aqK _) .sliceB w;simp [f,r,a,gT]
 | @some A z D=>
  cases o:ij A cap with
  |none=>simp [o]at e
  |some C=>
   simp only [o,Option.bind_some]at e;obtain ⟨s,E⟩:=iZ (P:=P) o D y (if b then .slice3Acap else .slice3Alen) w
   cases h2 with
   |none=>simp at e
   | @some i B k=>
    cases d:ij i C with
    |none=>simp [d]at e
    |some j=>
     simp only [d,Option.bind_some]at e;obtain ⟨f,F⟩:=iZ (P:=P) d k (aqK _) .slice3B w
     cases p with
     |none=>simp at e;obtain ⟨rfl,rfl,rfl⟩:=e;simp [s,f,gT]
     | @some v q g=>
      cases c:ij v j with
      |none=>simp [c]at e
      |some n=>
       simp [c]at e;obtain ⟨rfl,rfl,rfl⟩:=e;obtain ⟨r,a⟩:=iZ (P:=P) c g (aqK _) .slice3C w;simp [s,f,r,a,gT]
theorem Db {sz:Nat} {x x' v:Value} {lo hi mx J S I:Option Value} {t:TypeId} (R:Rel w0 φ H w)
 (j:(P.underlying t=some .string∧∃s,x= .string s)∨(∃e,P.underlying t=some (.slice e)∧dS P e=some sz∧∃a n c,x= .slice a n c)) (h:bS sz H x lo hi mx=some v) (L:V φ x x') (G:VO φ lo J) (h2:VO φ hi S) (F:VO φ mx I):
 ∃v',(Instr.sliceAt t x' J S I).run P w= .ok v' w∧V φ v v':=by
 rcases j with⟨j,s,rfl⟩|⟨e,j,M,a,n,c,rfl⟩
 ·rw [L.string]
  simp only [bS]at h
  cases F with
  |some _=>cases h
  |none=>
   simp only at h
   cases d:bz s.size s.size lo hi none with
   |none=>simp [d]at h
   |some p=>
    obtain ⟨l,k,m⟩:=p;simp only [d]at h;obtain ⟨_,h⟩:=aw h;simp at h;subst h;obtain ⟨r,_,_⟩:=jB (P:=P) d G h2 .none (aqK _) false w;refine ⟨.string (s.extract l k),?_,.same rfl⟩;simp [Instr.sliceAt,Instr.slice,run_underlying j,r]
 ·simp only [bS]at h
  cases d:bz n c lo hi mx with
  |none=>simp [d]at h
  |some p=>
   obtain ⟨l,k,m⟩:=p;simp only [d]at h;obtain ⟨y,h⟩:=aw h;simp only [aqJ,aqS,Bool.not_eq_true']at y;obtain ⟨y,_⟩:=y
   cases a with
   |none=>
    rw [L.SP];obtain ⟨r,D,i⟩:=jB (P:=P) d G h2 F (aqK _) true w;simp at h;subst h
    have N:gT mx m c=m:=by
     cases mx with
     |none=>exact (i rfl).symm
     |some _=>rfl
    rw [N]at r;refine ⟨_,?_,.same (v:=.slice none (k- l) (m- l)) rfl⟩;simp [Instr.sliceAt,Instr.slice,run_underlying j,r,cB M]
   |some a=>
    rcases V.ES L with⟨lc,f,C,B,tO,rm,Z,rfl⟩|⟨C,rfl,rfl,a',f,rfl⟩
    ·obtain ⟨b,o,sp⟩:=a
     dsimp only at C B Z⊢;subst C;obtain ⟨r,D,i⟩:=jB (P:=P) d G h2 F tO true w
     have run:(Instr.sliceAt t (.slice (some ⟨lc.c,o+lc.s,none⟩) n f) J S I).run P w= .ok (.slice (if(gT mx m f)=l then some ⟨lc.c,o+lc.s,none⟩else some ⟨lc.c,o+lc.s+l*sz,none⟩) (k- l) ((gT mx m f)- l)) w:=by
      simp [Instr.sliceAt,Instr.slice,run_underlying j,r,cB M,add_lit]
     refine ⟨_,run,?_⟩;simp only at h;by_cases E:m=l
     ·rw [if_pos E]at h
      split at h
      ·rename_i Y
       cases h;have:k- l=0:=by omega
       rw [this];split<;>exact .dead
      ·rename_i Y
       cases h
       have:(gT mx m f)=l:=by
        cases mx with
        |some _=>exact E
        |none=>
         simp at Y;have:=i rfl;simp only [gT];rw [rm (by omega)];omega
       rw [this];simp;exact .sl B (aqK _) id (.inl rfl)
     ·rw [if_neg E]at h
      simp only [Option.isNone_none,Bool.true_and,nb]at h
      cases g:(decide (l=0)||H.kD b sz)with
      |false=>simp [g]at h
      |true=>
       simp only [g,cond_true,aqH]at h;subst h
       have fW:¬ (gT mx m f)=l:=by
        cases mx with
        |some _=>exact E
        |none=>have:=i rfl;simp only [gT];omega
       rw [if_neg fW,show o+lc.s+l*sz=o+l*sz+lc.s by omega];refine .sl B ?_ ?_ ?_
       ·cases mx with
        |some _=>exact aqK _
        |none=>have:=i rfl;simp only [gT];omega
       ·omega
       ·cases mx with
        |some _=>exact .inl rfl
        |none=>
         have hmc:=i rfl;simp only [gT];rcases Z with U|U
         ·left;omega
         ·simp at g
          rcases g with rfl|g
          ·right;simpa using U
          ·by_cases T:b<φ.n0
           ·rw [R.iG b T]at B
            cases B;left;simp at U;omega
           ·unfold AH.kD at g
            split at g
            ·rename_i z cs hg
             have K:sz≤lc.z:=by
              rw [(R.cells b lc z cs (by omega) B (AH.ig hg)).2.1]
              simpa using g
             right;have:l*sz≤l*lc.z:=Nat.mul_le_mul_left _ K;have:(f- l)*lc.z=f*lc.z- l*lc.z:=Nat.sub_mul _ _ _;have:l*lc.z≤f*lc.z:=Nat.mul_le_mul_right _ (by omega);omega
            ·cases g
    ·obtain ⟨r,D,i⟩:=jB (P:=P) d G h2 F (cap':=f) (by omega) true w
     have Q:m=0:=by
      unfold bz at d
      cases mx with
      |none=>exact i rfl
      |some v=>
       simp only at d
       cases A:ij v 0 with
       |none=>simp [A]at d
       |some q=>
        have:=(iZ (P:=P) (φ:=φ) (v':=v) A (by unfold ij at A;split at A;exact .same rfl;cases A) (aqK _) .slice3B w).2;simp only [A,Option.bind_some]at d;have:q=0:=by omega
        subst this
        cases hi with
        |none=>simp at d
        |some u=>
         simp only at d
         cases X:ij u 0 with
         |none=>simp [X]at d
         |some q2=>
          simp only [X,Option.bind_some]at d
          cases lo with
          |none=>simp at d;omega
          |some x=>
           simp only at d
           cases W:ij x q2 with
           |none=>simp [W]at d
           |some q3=>simp [W]at d;omega
     have O:k=0:=by omega
     have Bb:l=0:=by omega
     subst Q O Bb;simp at h;subst h;obtain ⟨b,o,sp⟩:=a;dsimp only at C;subst C;refine ⟨.slice (some a') 0 (gT mx 0 f),?_,.dead⟩;simp [Instr.sliceAt,Instr.slice,run_underlying j,r,cB M];intro _;unfold Addr.add;simp
end
end Go.Proofs.YtppcmpmnglaleaaGreatDoor.A
