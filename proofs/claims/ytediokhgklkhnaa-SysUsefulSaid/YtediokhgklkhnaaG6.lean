/- Texts that stand one behind the other: Abs6. -/
import Derived.Test.YtediokhgklkhnaaG5
import Derived.Laws.Slices
set_option linter.unusedVariables false
set_option linter.unusedSimpArgs false
namespace Go.Proofs.Ytediokhgklkhnaa.A
open Go Go.RowKit
section
variable{P:Program} {w0 w:World} {φ:aF} {H:AH}
theorem df {v v':Value} {y a n:Nat} (h:dL v y=some n) (b:V φ v v') (c:y≤a) (code:BoundsCode) (w:World):(Instr.sliceBound v' a code).run P w= .ok n w∧n≤y:=by
 unfold dL at h;split at h
 ·rename_i k i
  split at h
  ·rename_i hi
   cases h;rw [b.int];refine ⟨run_sliceBound w k i a code hi.1 (by omega),by omega⟩
  ·cases h
 ·cases h
def cJ (mx:Option Value) (m c:Nat):Nat:=match mx with|some _=>m|none=>c
inductive VO (φ:aF):Option Value→Option Value→Prop where
 |none:VO φ none none
 |some {v v':Value}:V φ v v'→VO φ (some v) (some v')
theorem dD {len cap cap' l h m:Nat} {lo hi mx u x t:Option Value} (e:aJ len cap lo hi mx=some (l,h,m)) (p:VO φ lo u) (h2:VO φ hi x) (E:VO φ mx t) (y:cap≤cap') (b:Bool) (w:World):
 (Instr.sliceBounds b len cap' u x t).run P w= .ok (l,h,cJ mx m cap') w∧l≤h∧(mx=none→m=cap):=by
 unfold aJ at e;unfold Instr.sliceBounds
 cases E with
 |none=>
  simp only [Option.bind_some]at e
  cases h2 with
  |none=>
   simp only [Option.bind_some]at e
   cases p with
   |none=>simp at e;obtain ⟨rfl,rfl,rfl⟩:=e;simp [cJ]
   | @some v q g=>
    cases c:dL v len with
    |none=>simp [c]at e
    |some n=>
     simp [c]at e;obtain ⟨rfl,rfl,rfl⟩:=e;obtain ⟨r,a⟩:=df (P:=P) c g (OL _) .sliceB w;simp [r,a,cJ]
  | @some i A k=>
   cases d:dL i cap with
   |none=>simp [d]at e
   |some j=>
    simp [d]at e;obtain ⟨f,D⟩:=df (P:=P) d k y (if b then .sliceAcap else .sliceAlen) w
    cases p with
    |none=>simp at e;obtain ⟨rfl,rfl,rfl⟩:=e;simp [f,cJ]
    | @some v q g=>
     cases c:dL v j with
     |none=>simp [c]at e
     |some n=>
      simp [c]at e;obtain ⟨rfl,rfl,rfl⟩:=e;obtain ⟨r,a⟩:=df (P:=P) c g (OL _) .sliceB w;simp [f,r,a,cJ]
 | @some z F C=>
  cases o:dL z cap with
  |none=>simp [o]at e
  |some B=>
   simp only [o,Option.bind_some]at e;obtain ⟨s,G⟩:=df (P:=P) o C y (if b then .slice3Acap else .slice3Alen) w
   cases h2 with
   |none=>simp at e
   | @some i A k=>
    cases d:dL i B with
    |none=>simp [d]at e
    |some j=>
     simp only [d,Option.bind_some]at e;obtain ⟨f,D⟩:=df (P:=P) d k (OL _) .slice3B w
     cases p with
     |none=>simp at e;obtain ⟨rfl,rfl,rfl⟩:=e;simp [s,f,cJ]
     | @some v q g=>
      cases c:dL v j with
      |none=>simp [c]at e
      |some n=>
       simp [c]at e;obtain ⟨rfl,rfl,rfl⟩:=e;obtain ⟨r,a⟩:=df (P:=P) c g (OL _) .slice3C w;simp [s,f,r,a,cJ]
theorem qc {sz:Nat} {x x' v:Value} {lo hi mx G L F:Option Value} {t:TypeId} (R:Rel w0 φ H w)
 (j:(P.underlying t=some .string∧∃s,x= .string s)∨(∃e,P.underlying t=some (.slice e)∧bp P e=some sz∧∃a n c,x= .slice a n c)) (h:a5 sz H x lo hi mx=some v) (I:V φ x x') (E:VO φ lo G) (h2:VO φ hi L) (D:VO φ mx F):
 ∃v',(Instr.sliceAt t x' G L F).run P w= .ok v' w∧V φ v v':=by
 rcases j with⟨j,s,rfl⟩|⟨e,j,J,a,n,c,rfl⟩
 ·rw [I.string]
  simp only [a5]at h
  cases D with
  |some _=>cases h
  |none=>
   simp only at h
   cases d:aJ s.size s.size lo hi none with
   |none=>simp [d]at h
   |some p=>
    obtain ⟨l,k,m⟩:=p;simp only [d]at h;obtain ⟨_,h⟩:=ai h;simp at h;subst h;obtain ⟨r,_,_⟩:=dD (P:=P) d E h2 .none (OL _) false w;refine ⟨.string (s.extract l k),?_,.same rfl⟩;simp [Instr.sliceAt,Instr.slice,run_underlying j,r]
 ·simp only [a5]at h
  cases d:aJ n c lo hi mx with
  |none=>simp [d]at h
  |some p=>
   obtain ⟨l,k,m⟩:=p;simp only [d]at h;obtain ⟨K,h⟩:=ai h;simp only [OK,OT,Bool.not_eq_true']at K;obtain ⟨K,_⟩:=K
   cases a with
   |none=>
    rw [I.z4];obtain ⟨r,Q,i⟩:=dD (P:=P) d E h2 D (OL _) true w;simp at h;subst h
    have Y:cJ mx m c=m:=by
     cases mx with
     |none=>exact (i rfl).symm
     |some _=>rfl
    rw [Y]at r;refine ⟨_,?_,.same (v:=.slice none (k- l) (m- l)) rfl⟩;simp [Instr.sliceAt,Instr.slice,run_underlying j,r,aQ J]
   |some a=>
    rcases V.qG I with⟨lc,f,B,A,nr,kO,T,rfl⟩|⟨B,rfl,rfl,a',f,rfl⟩
    ·obtain ⟨b,o,sp⟩:=a
     dsimp only at B A T⊢;subst B;obtain ⟨r,Q,i⟩:=dD (P:=P) d E h2 D nr true w
     have run:(Instr.sliceAt t (.slice (some ⟨lc.c,o+lc.s,none⟩) n f) G L F).run P w= .ok (.slice (if(cJ mx m f)=l then some ⟨lc.c,o+lc.s,none⟩else some ⟨lc.c,o+lc.s+l*sz,none⟩) (k- l) ((cJ mx m f)- l)) w:=by
      simp [Instr.sliceAt,Instr.slice,run_underlying j,r,aQ J,add_lit]
     refine ⟨_,run,?_⟩;simp only at h;by_cases C:m=l
     ·rw [if_pos C]at h
      split at h
      ·rename_i S
       cases h;have:k- l=0:=by omega
       rw [this];split<;>exact .dead
      ·rename_i S
       cases h
       have:(cJ mx m f)=l:=by
        cases mx with
        |some _=>exact C
        |none=>
         simp at S;have:=i rfl;simp only [cJ];rw [kO (by omega)];omega
       rw [this];simp;exact .sl A (OL _) id (.inl rfl)
     ·rw [if_neg C]at h
      simp only [Option.isNone_none,Bool.true_and,nb]at h
      cases g:(decide (l=0)||H.gj b sz)with
      |false=>simp [g]at h
      |true=>
       simp only [g,cond_true,OH]at h;subst h
       have X:¬ (cJ mx m f)=l:=by
        cases mx with
        |some _=>exact C
        |none=>have:=i rfl;simp only [cJ];omega
       rw [if_neg X,show o+lc.s+l*sz=o+l*sz+lc.s by omega];refine .sl A ?_ ?_ ?_
       ·cases mx with
        |some _=>exact OL _
        |none=>have:=i rfl;simp only [cJ];omega
       ·omega
       ·cases mx with
        |some _=>exact .inl rfl
        |none=>
         have IH:=i rfl;simp only [cJ];rcases T with M|M
         ·left;omega
         ·simp at g
          rcases g with rfl|g
          ·right;simpa using M
          ·by_cases La:b<φ.n0
           ·rw [R.dz b La]at A
            cases A;left;simp at M;omega
           ·unfold AH.gj at g
            split at g
            ·rename_i z cs hg
             have W:sz≤lc.z:=by
              rw [(R.cells b lc z cs (by omega) A (AH.cL hg)).2.1]
              simpa using g
             right;have:l*sz≤l*lc.z:=Nat.mul_le_mul_left _ W;have:(f- l)*lc.z=f*lc.z- l*lc.z:=Nat.sub_mul _ _ _;have:l*lc.z≤f*lc.z:=Nat.mul_le_mul_right _ (by omega);omega
            ·cases g
    ·obtain ⟨r,Q,i⟩:=dD (P:=P) d E h2 D (cap':=f) (by omega) true w
     have FC:m=0:=by
      unfold aJ at d
      cases mx with
      |none=>exact i rfl
      |some v=>
       simp only at d
       cases y:dL v 0 with
       |none=>simp [y]at d
       |some q=>
        have:=(df (P:=P) (φ:=φ) (v':=v) y (by unfold dL at y;split at y;exact .same rfl;cases y) (OL _) .slice3B w).2;simp only [y,Option.bind_some]at d;have:q=0:=by omega
        subst this
        cases hi with
        |none=>simp at d
        |some u=>
         simp only at d
         cases O:dL u 0 with
         |none=>simp [O]at d
         |some U=>
          simp only [O,Option.bind_some]at d
          cases lo with
          |none=>simp at d;omega
          |some x=>
           simp only at d
           cases N:dL x U with
           |none=>simp [N]at d
           |some q3=>simp [N]at d;omega
     have FD:k=0:=by omega
     have Z:l=0:=by omega
     subst FC FD Z;simp at h;subst h;obtain ⟨b,o,sp⟩:=a;dsimp only at B;subst B;refine ⟨.slice (some a') 0 (cJ mx 0 f),?_,.dead⟩;simp [Instr.sliceAt,Instr.slice,run_underlying j,r,aQ J];intro _;unfold Addr.add;simp
end
end Go.Proofs.Ytediokhgklkhnaa.A
