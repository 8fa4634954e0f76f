/- Texts that stand one behind the other: Abs6. -/
import Derived.Test.YtediokhgklkhnaaG5
import Derived.Laws.Slices
set_option linter.unusedVariables false
set_option linter.unusedSimpArgs false
namespace Go.Proofs.Ytediokhgklkhnaa.A
open Go Go.RowKit
section
variable{P:Program} {w0 w:World} {φ:aw} {H:AH}
theorem cP {v v':Value} {y a n:Nat} (h:dm v y=some n) (b:V φ v v') (c:y≤a) (code:BoundsCode) (w:World):(Instr.sliceBound v' a code).run P w= .ok n w∧n≤y:=by
 unfold dm at h;split at h
 ·rename_i k i
  split at h
  ·rename_i hi
   cases h;rw [b.int];refine ⟨run_sliceBound w k i a code hi.1 (by omega),by omega⟩
  ·cases h
 ·cases h
def cq (mx:Option Value) (m c:Nat):Nat:=match mx with|some _=>m|none=>c
inductive VO (φ:aw):Option Value→Option Value→Prop where
 |none:VO φ none none
 |some {v v':Value}:V φ v v'→VO φ (some v) (some v')
theorem df {len cap cap' l h m:Nat} {lo hi mx u x t:Option Value} (e:aC len cap lo hi mx=some (l,h,m)) (p:VO φ lo u) (h2:VO φ hi x) (E:VO φ mx t) (y:cap≤cap') (b:Bool) (w:World):
 (Instr.sliceBounds b len cap' u x t).run P w= .ok (l,h,cq mx m cap') w∧l≤h∧(mx=none→m=cap):=by
 unfold aC at e;unfold Instr.sliceBounds
 cases E with
 |none=>
  simp only [Option.bind_some]at e
  cases h2 with
  |none=>
   simp only [Option.bind_some]at e
   cases p with
   |none=>simp at e;obtain ⟨rfl,rfl,rfl⟩:=e;simp [cq]
   | @some v q g=>
    cases c:dm v len with
    |none=>simp [c]at e
    |some n=>
     simp [c]at e;obtain ⟨rfl,rfl,rfl⟩:=e;obtain ⟨r,a⟩:=cP (P:=P) c g (MM _) .sliceB w;simp [r,a,cq]
  | @some i A k=>
   cases d:dm i cap with
   |none=>simp [d]at e
   |some j=>
    simp [d]at e;obtain ⟨f,D⟩:=cP (P:=P) d k y (if b then .sliceAcap else .sliceAlen) w
    cases p with
    |none=>simp at e;obtain ⟨rfl,rfl,rfl⟩:=e;simp [f,cq]
    | @some v q g=>
     cases c:dm v j with
     |none=>simp [c]at e
     |some n=>
      simp [c]at e;obtain ⟨rfl,rfl,rfl⟩:=e;obtain ⟨r,a⟩:=cP (P:=P) c g (MM _) .sliceB w;simp [f,r,a,cq]
 | @some z F C=>
  cases o:dm z cap with
  |none=>simp [o]at e
  |some B=>
   simp only [o,Option.bind_some]at e;obtain ⟨s,G⟩:=cP (P:=P) o C y (if b then .slice3Acap else .slice3Alen) w
   cases h2 with
   |none=>simp at e
   | @some i A k=>
    cases d:dm i B with
    |none=>simp [d]at e
    |some j=>
     simp only [d,Option.bind_some]at e;obtain ⟨f,D⟩:=cP (P:=P) d k (MM _) .slice3B w
     cases p with
     |none=>simp at e;obtain ⟨rfl,rfl,rfl⟩:=e;simp [s,f,cq]
     | @some v q g=>
      cases c:dm v j with
      |none=>simp [c]at e
      |some n=>
       simp [c]at e;obtain ⟨rfl,rfl,rfl⟩:=e;obtain ⟨r,a⟩:=cP (P:=P) c g (MM _) .slice3C w;simp [s,f,r,a,cq]
theorem oX {sz:Nat} {x x' v:Value} {lo hi mx G L F:Option Value} {t:TypeId} (R:Rel w0 φ H w)
 (j:(P.underlying t=some .string∧∃s,x= .string s)∨(∃e,P.underlying t=some (.slice e)∧bc P e=some sz∧∃a n c,x= .slice a n c)) (h:aU sz H x lo hi mx=some v) (I:V φ x x') (E:VO φ lo G) (h2:VO φ hi L) (D:VO φ mx F):
 ∃v',(Instr.sliceAt t x' G L F).run P w= .ok v' w∧V φ v v':=by
 rcases j with⟨j,s,rfl⟩|⟨e,j,J,a,n,c,rfl⟩
 ·rw [I.string]
  simp only [aU]at h
  cases D with
  |some _=>cases h
  |none=>
   simp only at h
   cases d:aC s.size s.size lo hi none with
   |none=>simp [d]at h
   |some p=>
    obtain ⟨l,k,m⟩:=p;simp only [d]at h;obtain ⟨_,h⟩:=ae h;simp at h;subst h;obtain ⟨r,_,_⟩:=df (P:=P) d E h2 .none (MM _) false w;refine ⟨.string (s.extract l k),?_,.same rfl⟩;simp [Instr.sliceAt,Instr.slice,run_underlying j,r]
 ·simp only [aU]at h
  cases d:aC n c lo hi mx with
  |none=>simp [d]at h
  |some p=>
   obtain ⟨l,k,m⟩:=p;simp only [d]at h;obtain ⟨K,h⟩:=ae h;simp only [MK,MU,Bool.not_eq_true']at K;obtain ⟨K,_⟩:=K
   cases a with
   |none=>
    rw [I.yv];obtain ⟨r,Q,i⟩:=df (P:=P) d E h2 D (MM _) true w;simp at h;subst h
    have Y:cq mx m c=m:=by
     cases mx with
     |none=>exact (i rfl).symm
     |some _=>rfl
    rw [Y]at r;refine ⟨_,?_,.same (v:=.slice none (k- l) (m- l)) rfl⟩;simp [Instr.sliceAt,Instr.slice,run_underlying j,r,aI J]
   |some a=>
    rcases V.pv I with⟨lc,f,B,A,my,j3,T,rfl⟩|⟨B,rfl,rfl,a',f,rfl⟩
    ·obtain ⟨b,o,sp⟩:=a
     dsimp only at B A T⊢;subst B;obtain ⟨r,Q,i⟩:=df (P:=P) d E h2 D my true w
     have run:(Instr.sliceAt t (.slice (some ⟨lc.c,o+lc.s,none⟩) n f) G L F).run P w= .ok (.slice (if(cq mx m f)=l then some ⟨lc.c,o+lc.s,none⟩else some ⟨lc.c,o+lc.s+l*sz,none⟩) (k- l) ((cq mx m f)- l)) w:=by
      simp [Instr.sliceAt,Instr.slice,run_underlying j,r,aI J,add_lit]
     refine ⟨_,run,?_⟩;simp only at h;by_cases C:m=l
     ·rw [if_pos C]at h
      split at h
      ·rename_i S
       cases h;have:k- l=0:=by omega
       rw [this];split<;>exact .dead
      ·rename_i S
       cases h
       have:(cq mx m f)=l:=by
        cases mx with
        |some _=>exact C
        |none=>
         simp at S;have:=i rfl;simp only [cq];rw [j3 (by omega)];omega
       rw [this];simp;exact .sl A (MM _) id (.inl rfl)
     ·rw [if_neg C]at h
      simp only [Option.isNone_none,Bool.true_and,nb]at h
      cases g:(decide (l=0)||H.fE b sz)with
      |false=>simp [g]at h
      |true=>
       simp only [g,cond_true,MH]at h;subst h
       have X:¬ (cq mx m f)=l:=by
        cases mx with
        |some _=>exact C
        |none=>have:=i rfl;simp only [cq];omega
       rw [if_neg X,show o+lc.s+l*sz=o+l*sz+lc.s by omega];refine .sl A ?_ ?_ ?_
       ·cases mx with
        |some _=>exact MM _
        |none=>have:=i rfl;simp only [cq];omega
       ·omega
       ·cases mx with
        |some _=>exact .inl rfl
        |none=>
         have GL:=i rfl;simp only [cq];rcases T with M|M
         ·left;omega
         ·simp at g
          rcases g with rfl|g
          ·right;simpa using M
          ·by_cases Jp:b<φ.n0
           ·rw [R.dd b Jp]at A
            cases A;left;simp at M;omega
           ·unfold AH.fE at g
            split at g
            ·rename_i z cs hg
             have W:sz≤lc.z:=by
              rw [(R.cells b lc z cs (by omega) A (AH.cu hg)).2.1]
              simpa using g
             right;have:l*sz≤l*lc.z:=Nat.mul_le_mul_left _ W;have:(f- l)*lc.z=f*lc.z- l*lc.z:=Nat.sub_mul _ _ _;have:l*lc.z≤f*lc.z:=Nat.mul_le_mul_right _ (by omega);omega
            ·cases g
    ·obtain ⟨r,Q,i⟩:=df (P:=P) d E h2 D (cap':=f) (by omega) true w
     have DH:m=0:=by
      unfold aC at d
      cases mx with
      |none=>exact i rfl
      |some v=>
       simp only at d
       cases y:dm v 0 with
       |none=>simp [y]at d
       |some q=>
        have:=(cP (P:=P) (φ:=φ) (v':=v) y (by unfold dm at y;split at y;exact .same rfl;cases y) (MM _) .slice3B w).2;simp only [y,Option.bind_some]at d;have:q=0:=by omega
        subst this
        cases hi with
        |none=>simp at d
        |some u=>
         simp only at d
         cases O:dm u 0 with
         |none=>simp [O]at d
         |some U=>
          simp only [O,Option.bind_some]at d
          cases lo with
          |none=>simp at d;omega
          |some x=>
           simp only at d
           cases N:dm x U with
           |none=>simp [N]at d
           |some q3=>simp [N]at d;omega
     have DI:k=0:=by omega
     have Z:l=0:=by omega
     subst DH DI Z;simp at h;subst h;obtain ⟨b,o,sp⟩:=a;dsimp only at B;subst B;refine ⟨.slice (some a') 0 (cq mx 0 f),?_,.dead⟩;simp [Instr.sliceAt,Instr.slice,run_underlying j,r,aI J];intro _;unfold Addr.add;simp
end
end Go.Proofs.Ytediokhgklkhnaa.A
