/- Texts that stand one behind the other: Abs6. -/
import Derived.Test.YtppcmpmnglaleaaGreatDoorG5
import Derived.Laws.Slices
set_option linter.unusedVariables false
set_option linter.unusedSimpArgs false
namespace Go.Proofs.YtppcmpmnglaleaaGreatDoor.A
open Go Go.RowKit
section
variable{P:Program} {w0 w:World} {φ:bl} {H:AH}
theorem gN {v v':Value} {y y' n:Nat} (h:fP v y=some n) (hv:V φ v v') (hy:y≤y') (code:BoundsCode) (w:World):(Instr.sliceBound v' y' code).run P w= .ok n w∧n≤y:=by
 unfold fP at h
 split at h
 ·rename_i k i
  split at h
  ·rename_i hi
   cases h
   rw [hv.int]
   refine ⟨run_sliceBound w k i y' code hi.1 (by omega),by omega⟩
  ·cases h
 ·cases h
def fC (mx:Option Value) (m c:Nat):Nat:=match mx with|some _=>m|none=>c
inductive VO (φ:bl):Option Value→Option Value→Prop where
 |none:VO φ none none
 |some {v v':Value}:V φ v v'→VO φ (some v) (some v')
theorem iv {len cap cap' l h m:Nat} {lo hi mx xj pd AM:Option Value} (e:a7 len cap lo hi mx=some (l,h,m)) (h1:VO φ lo xj) (h2:VO φ hi pd) (h3:VO φ mx AM) (hc:cap≤cap') (b:Bool) (w:World):
 (Instr.sliceBounds b len cap' xj pd AM).run P w= .ok (l,h,fC mx m cap') w∧l≤h∧(mx=none→m=cap):=by
 unfold a7 at e
 unfold Instr.sliceBounds
 cases h3 with
 |none=>
  simp only [Option.bind_some]at e
  cases h2 with
  |none=>
   simp only [Option.bind_some]at e
   cases h1 with
   |none=>simp at e;obtain ⟨rfl,rfl,rfl⟩:=e;simp [fC]
   | @some v v' hv=>
    cases hb:fP v len with
    |none=>simp [hb]at e
    |some n=>
     simp [hb]at e
     obtain ⟨rfl,rfl,rfl⟩:=e
     obtain ⟨r,hle⟩:=gN (P:=P) hb hv (alR _) .sliceB w
     simp [r,hle,fC]
  | @some v2 Qe Kd=>
   cases gC:fP v2 cap with
   |none=>simp [gC]at e
   |some n2=>
    simp [gC]at e
    obtain ⟨r2,Qf⟩:=gN (P:=P) gC Kd hc (if b then .sliceAcap else .sliceAlen) w
    cases h1 with
    |none=>simp at e;obtain ⟨rfl,rfl,rfl⟩:=e;simp [r2,fC]
    | @some v v' hv=>
     cases hb:fP v n2 with
     |none=>simp [hb]at e
     |some n=>
      simp [hb]at e
      obtain ⟨rfl,rfl,rfl⟩:=e
      obtain ⟨r,hle⟩:=gN (P:=P) hb hv (alR _) .sliceB w
      simp [r2,r,hle,fC]
 | @some v3 v3' Ke=>
  cases rD:fP v3 cap with
  |none=>simp [rD]at e
  |some n3=>
   simp only [rD,Option.bind_some]at e
   obtain ⟨r3,agd⟩:=gN (P:=P) rD Ke hc (if b then .slice3Acap else .slice3Alen) w
   cases h2 with
   |none=>simp at e
   | @some v2 Qe Kd=>
    cases gC:fP v2 n3 with
    |none=>simp [gC]at e
    |some n2=>
     simp only [gC,Option.bind_some]at e
     obtain ⟨r2,Qf⟩:=gN (P:=P) gC Kd (alR _) .slice3B w
     cases h1 with
     |none=>simp at e;obtain ⟨rfl,rfl,rfl⟩:=e;simp [r3,r2,fC]
     | @some v v' hv=>
      cases hb:fP v n2 with
      |none=>simp [hb]at e
      |some n=>
       simp [hb]at e
       obtain ⟨rfl,rfl,rfl⟩:=e
       obtain ⟨r,hle⟩:=gN (P:=P) hb hv (alR _) .slice3C w
       simp [r3,r2,r,hle,fC]
theorem AN {sz:Nat} {x x' v:Value} {lo hi mx xj pd AM:Option Value} {t:TypeId} (R:Rel w0 φ H w)
 (ht:(P.underlying t=some .string∧∃s,x= .string s)∨(∃e,P.underlying t=some (.slice e)∧dk P e=some sz∧∃a n c,x= .slice a n c)) (h:bC sz H x lo hi mx=some v) (hx:V φ x x') (h1:VO φ lo xj) (h2:VO φ hi pd) (h3:VO φ mx AM):
 ∃v',(Instr.sliceAt t x' xj pd AM).run P w= .ok v' w∧V φ v v':=by
 rcases ht with⟨ht,s,rfl⟩|⟨e,ht,hs,a,n,c,rfl⟩
 ·rw [hx.string]
  simp only [bC]at h
  cases h3 with
  |some _=>cases h
  |none=>
   simp only at h
   cases hb:a7 s.size s.size lo hi none with
   |none=>simp [hb]at h
   |some p=>
    obtain ⟨l,k,m⟩:=p
    simp only [hb]at h
    obtain ⟨_,h⟩:=au h
    simp at h
    subst h
    obtain ⟨r,_,_⟩:=iv (P:=P) hb h1 h2 .none (alR _) false w
    refine ⟨.string (s.extract l k),?_,.same rfl⟩
    simp [Instr.sliceAt,Instr.slice,run_underlying ht,r]
 ·simp only [bC]at h
  cases hb:a7 n c lo hi mx with
  |none=>simp [hb]at h
  |some p=>
   obtain ⟨l,k,m⟩:=p
   simp only [hb]at h
   obtain ⟨Xp,h⟩:=au h
   simp only [alQ,alZ,Bool.not_eq_true']at Xp
   obtain ⟨Xp,_⟩:=Xp
   cases a with
   |none=>
    rw [hx.OX]
    obtain ⟨r,hlk,hm⟩:=iv (P:=P) hb h1 h2 h3 (alR _) true w
    simp at h
    subst h
    have hmm:fC mx m c=m:=by
     cases mx with
     |none=>exact (hm rfl).symm
     |some _=>rfl
    rw [hmm]at r
    refine ⟨_,?_,.same (v:=.slice none (k- l) (m- l)) rfl⟩
    simp [Instr.sliceAt,Instr.slice,run_underlying ht,r,cm hs]
   |some a=>
    rcases V.Cu hx with⟨lc,c',fM,hl,uw,xl,LF,rfl⟩|⟨fM,rfl,rfl,a',c',rfl⟩
    ·obtain ⟨b,o,sp⟩:=a
     dsimp only at fM hl LF⊢
     subst fM
     obtain ⟨r,hlk,hm⟩:=iv (P:=P) hb h1 h2 h3 uw true w
     have run:(Instr.sliceAt t (.slice (some ⟨lc.c,o+lc.s,none⟩) n c') xj pd AM).run P w= .ok (.slice (if(fC mx m c')=l then some ⟨lc.c,o+lc.s,none⟩else some ⟨lc.c,o+lc.s+l*sz,none⟩) (k- l) ((fC mx m c')- l)) w:=by
      simp [Instr.sliceAt,Instr.slice,run_underlying ht,r,cm hs,add_lit]
     refine ⟨_,run,?_⟩
     simp only at h
     by_cases wR:m=l
     ·rw [if_pos wR]at h
      split at h
      ·rename_i hd
       cases h
       have:k- l=0:=by omega
       rw [this]
       split<;>exact .dead
      ·rename_i hd
       cases h
       have:(fC mx m c')=l:=by
        cases mx with
        |some _=>exact wR
        |none=>
         simp at hd
         have:=hm rfl
         simp only [fC]
         rw [xl (by omega)]
         omega
       rw [this]
       simp
       exact .sl hl (alR _) id (.inl rfl)
     ·rw [if_neg wR]at h
      simp only [Option.isNone_none,Bool.true_and,nb]at h
      cases hz:(decide (l=0)||H.jm b sz)with
      |false=>simp [hz]at h
      |true=>
       simp only [hz,cond_true,alO]at h
       subst h
       have fw:¬ (fC mx m c')=l:=by
        cases mx with
        |some _=>exact wR
        |none=>have:=hm rfl;simp only [fC];omega
       rw [if_neg fw,show o+lc.s+l*sz=o+l*sz+lc.s by omega]
       refine .sl hl ?_ ?_ ?_
       ·cases mx with
        |some _=>exact alR _
        |none=>have:=hm rfl;simp only [fC];omega
       ·omega
       ·cases mx with
        |some _=>exact .inl rfl
        |none=>
         have hmc:=hm rfl
         simp only [fC]
         rcases LF with e1|e1
         ·left;omega
         ·simp at hz
          rcases hz with rfl|hz
          ·right;simpa using e1
          ·by_cases hbo:b<φ.n0
           ·rw [R.gg b hbo]at hl
            cases hl
            left
            simp at e1
            omega
           ·unfold AH.jm at hz
            split at hz
            ·rename_i z cs hg
             have Xq:sz≤lc.z:=by
              rw [(R.cells b lc z cs (by omega) hl (AH.fO hg)).2.1]
              simpa using hz
             right
             have:l*sz≤l*lc.z:=Nat.mul_le_mul_left _ Xq
             have:(c'- l)*lc.z=c'*lc.z- l*lc.z:=Nat.sub_mul _ _ _
             have:l*lc.z≤c'*lc.z:=Nat.mul_le_mul_right _ (by omega)
             omega
            ·cases hz
    ·obtain ⟨r,hlk,hm⟩:=iv (P:=P) hb h1 h2 h3 (cap':=c') (by omega) true w
     have Qg:m=0:=by
      unfold a7 at hb
      cases mx with
      |none=>exact hm rfl
      |some v=>
       simp only at hb
       cases hv:fP v 0 with
       |none=>simp [hv]at hb
       |some q=>
        have:=(gN (P:=P) (φ:=φ) (v':=v) hv (by unfold fP at hv;split at hv;exact .same rfl;cases hv) (alR _) .slice3B w).2
        simp only [hv,Option.bind_some]at hb
        have:q=0:=by omega
        subst this
        cases hi with
        |none=>simp at hb
        |some u=>
         simp only at hb
         cases hu:fP u 0 with
         |none=>simp [hu]at hb
         |some q2=>
          simp only [hu,Option.bind_some]at hb
          cases lo with
          |none=>simp at hb;omega
          |some x=>
           simp only at hb
           cases BX:fP x q2 with
           |none=>simp [BX]at hb
           |some q3=>simp [BX]at hb;omega
     have Xr:k=0:=by omega
     have BZ:l=0:=by omega
     subst Qg Xr BZ
     simp at h
     subst h
     obtain ⟨b,o,sp⟩:=a
     dsimp only at fM
     subst fM
     refine ⟨.slice (some a') 0 (fC mx 0 c'),?_,.dead⟩
     simp [Instr.sliceAt,Instr.slice,run_underlying ht,r,cm hs]
     intro _
     unfold Addr.add
     simp
end
end Go.Proofs.YtppcmpmnglaleaaGreatDoor.A
