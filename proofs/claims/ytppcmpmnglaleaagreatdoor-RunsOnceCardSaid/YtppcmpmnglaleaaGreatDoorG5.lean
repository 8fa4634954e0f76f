/- Texts that stand one behind the other: Abs6. -/
import Derived.Test.YtppcmpmnglaleaaGreatDoorG4
import Derived.Laws.Slices
set_option linter.unusedVariables false
set_option linter.unusedSimpArgs false
namespace Go.Proofs.YtppcmpmnglaleaaGreatDoor.A
open Go Go.RowKit
section
variable{P:Program} {w0 w:World} {φ:bZ} {H:AH}
theorem jO {v v':Value} {y y' n:Nat} (h:iS v y=some n) (hv:V φ v v') (hy:y≤y') (code:BoundsCode) (w:World):(Instr.sliceBound v' y' code).run P w= .ok n w∧n≤y:=by
 unfold iS at h
 split at h
 ·rename_i k i
  split at h
  ·rename_i hi
   cases h
   rw [hv.int]
   refine ⟨run_sliceBound w k i y' code hi.1 (by omega),by omega⟩
  ·cases h
 ·cases h
def iU (mx:Option Value) (m c:Nat):Nat:=match mx with|some _=>m|none=>c
inductive VO (φ:bZ):Option Value→Option Value→Prop where
 |none:VO φ none none
 |some {v v':Value}:V φ v v'→VO φ (some v) (some v')
theorem km {len cap cap' l h m:Nat} {lo hi mx Ag rS DX:Option Value} (e:bH len cap lo hi mx=some (l,h,m)) (h1:VO φ lo Ag) (h2:VO φ hi rS) (h3:VO φ mx DX) (hc:cap≤cap') (b:Bool) (w:World):
 (Instr.sliceBounds b len cap' Ag rS DX).run P w= .ok (l,h,iU mx m cap') w∧l≤h∧(mx=none→m=cap):=by
 unfold bH at e
 unfold Instr.sliceBounds
 cases h3 with
 |none=>
  simp only [Option.bind_some]at e
  cases h2 with
  |none=>
   simp only [Option.bind_some]at e
   cases h1 with
   |none=>simp at e;obtain ⟨rfl,rfl,rfl⟩:=e;simp [iU]
   | @some v v' hv=>
    cases hb:iS v len with
    |none=>simp [hb]at e
    |some n=>
     simp [hb]at e
     obtain ⟨rfl,rfl,rfl⟩:=e
     obtain ⟨r,hle⟩:=jO (P:=P) hb hv (asp _) .sliceB w
     simp [r,hle,iU]
  | @some v2 VN xB=>
   cases iL:iS v2 cap with
   |none=>simp [iL]at e
   |some n2=>
    simp [iL]at e
    obtain ⟨r2,VP⟩:=jO (P:=P) iL xB hc (if b then .sliceAcap else .sliceAlen) w
    cases h1 with
    |none=>simp at e;obtain ⟨rfl,rfl,rfl⟩:=e;simp [r2,iU]
    | @some v v' hv=>
     cases hb:iS v n2 with
     |none=>simp [hb]at e
     |some n=>
      simp [hb]at e
      obtain ⟨rfl,rfl,rfl⟩:=e
      obtain ⟨r,hle⟩:=jO (P:=P) hb hv (asp _) .sliceB w
      simp [r2,r,hle,iU]
 | @some v3 v3' FD=>
  cases uF:iS v3 cap with
  |none=>simp [uF]at e
  |some n3=>
   simp only [uF,Option.bind_some]at e
   obtain ⟨r3,amb⟩:=jO (P:=P) uF FD hc (if b then .slice3Acap else .slice3Alen) w
   cases h2 with
   |none=>simp at e
   | @some v2 VN xB=>
    cases iL:iS v2 n3 with
    |none=>simp [iL]at e
    |some n2=>
     simp only [iL,Option.bind_some]at e
     obtain ⟨r2,VP⟩:=jO (P:=P) iL xB (asp _) .slice3B w
     cases h1 with
     |none=>simp at e;obtain ⟨rfl,rfl,rfl⟩:=e;simp [r3,r2,iU]
     | @some v v' hv=>
      cases hb:iS v n2 with
      |none=>simp [hb]at e
      |some n=>
       simp [hb]at e
       obtain ⟨rfl,rfl,rfl⟩:=e
       obtain ⟨r,hle⟩:=jO (P:=P) hb hv (asp _) .slice3C w
       simp [r3,r2,r,hle,iU]
theorem DY {sz:Nat} {x x' v:Value} {lo hi mx Ag rS DX:Option Value} {t:TypeId} (R:Rel w0 φ H w)
 (ht:(P.underlying t=some .string∧∃s,x= .string s)∨(∃e,P.underlying t=some (.slice e)∧ew P e=some sz∧∃a n c,x= .slice a n c)) (h:cl sz H x lo hi mx=some v) (hx:V φ x x') (h1:VO φ lo Ag) (h2:VO φ hi rS) (h3:VO φ mx DX):
 ∃v',(Instr.sliceAt t x' Ag rS DX).run P w= .ok v' w∧V φ v v':=by
 rcases ht with⟨ht,s,rfl⟩|⟨e,ht,hs,a,n,c,rfl⟩
 ·rw [hx.string]
  simp only [cl]at h
  cases h3 with
  |some _=>cases h
  |none=>
   simp only at h
   cases hb:bH s.size s.size lo hi none with
   |none=>simp [hb]at h
   |some p=>
    obtain ⟨l,k,m⟩:=p
    simp only [hb]at h
    obtain ⟨_,h⟩:=aD h
    simp at h
    subst h
    obtain ⟨r,_,_⟩:=km (P:=P) hb h1 h2 .none (asp _) false w
    refine ⟨.string (s.extract l k),?_,.same rfl⟩
    simp [Instr.sliceAt,Instr.slice,run_underlying ht,r]
 ·simp only [cl]at h
  cases hb:bH n c lo hi mx with
  |none=>simp [hb]at h
  |some p=>
   obtain ⟨l,k,m⟩:=p
   simp only [hb]at h
   obtain ⟨hkm,h⟩:=aD h
   simp only [aso,asx,Bool.not_eq_true']at hkm
   obtain ⟨hkm,_⟩:=hkm
   cases a with
   |none=>
    rw [hx.Uq]
    obtain ⟨r,hlk,hm⟩:=km (P:=P) hb h1 h2 h3 (asp _) true w
    simp at h
    subst h
    have hmm:iU mx m c=m:=by
     cases mx with
     |none=>exact (hm rfl).symm
     |some _=>rfl
    rw [hmm]at r
    refine ⟨_,?_,.same (v:=.slice none (k- l) (m- l)) rfl⟩
    simp [Instr.sliceAt,Instr.slice,run_underlying ht,r,cW hs]
   |some a=>
    rcases V.Gf hx with⟨lc,c',ji,hl,uO,rT,OW,rfl⟩|⟨ji,rfl,rfl,a',c',rfl⟩
    ·obtain ⟨b,o,sp⟩:=a
     dsimp only at ji hl OW⊢
     subst ji
     obtain ⟨r,hlk,hm⟩:=km (P:=P) hb h1 h2 h3 uO true w
     have run:(Instr.sliceAt t (.slice (some ⟨lc.c,o+lc.s,none⟩) n c') Ag rS DX).run P w= .ok (.slice (if(iU mx m c')=l then some ⟨lc.c,o+lc.s,none⟩else some ⟨lc.c,o+lc.s+l*sz,none⟩) (k- l) ((iU mx m c')- l)) w:=by
      simp [Instr.sliceAt,Instr.slice,run_underlying ht,r,cW hs,add_lit]
     refine ⟨_,run,?_⟩
     simp only at h
     by_cases xP:m=l
     ·rw [if_pos xP]at h
      split at h
      ·rename_i hd
       cases h
       have:k- l=0:=by omega
       rw [this]
       split<;>exact .dead
      ·rename_i hd
       cases h
       have:(iU mx m c')=l:=by
        cases mx with
        |some _=>exact xP
        |none=>
         simp at hd
         have:=hm rfl
         simp only [iU]
         rw [rT (by omega)]
         omega
       rw [this]
       simp
       exact .sl hl (asp _) id (.inl rfl)
     ·rw [if_neg xP]at h
      simp only [Option.isNone_none,Bool.true_and,nb]at h
      cases hz:(decide (l=0)||H.lE b sz)with
      |false=>simp [hz]at h
      |true=>
       simp only [hz,cond_true,asm]at h
       subst h
       have gF:¬ (iU mx m c')=l:=by
        cases mx with
        |some _=>exact xP
        |none=>have:=hm rfl;simp only [iU];omega
       rw [if_neg gF,show o+lc.s+l*sz=o+l*sz+lc.s by omega]
       refine .sl hl ?_ ?_ ?_
       ·cases mx with
        |some _=>exact asp _
        |none=>have:=hm rfl;simp only [iU];omega
       ·omega
       ·cases mx with
        |some _=>exact .inl rfl
        |none=>
         have hmc:=hm rfl
         simp only [iU]
         rcases OW with e1|e1
         ·left;omega
         ·simp at hz
          rcases hz with rfl|hz
          ·right;simpa using e1
          ·by_cases hbo:b<φ.n0
           ·rw [R.kh b hbo]at hl
            cases hl
            left
            simp at e1
            omega
           ·unfold AH.lE at hz
            split at hz
            ·rename_i z cs hg
             have hz':sz≤lc.z:=by
              rw [(R.cells b lc z cs (by omega) hl (AH.jj hg)).2.1]
              simpa using hz
             right
             have:l*sz≤l*lc.z:=Nat.mul_le_mul_left _ hz'
             have:(c'- l)*lc.z=c'*lc.z- l*lc.z:=Nat.sub_mul _ _ _
             have:l*lc.z≤c'*lc.z:=Nat.mul_le_mul_right _ (by omega)
             omega
            ·cases hz
    ·obtain ⟨r,hlk,hm⟩:=km (P:=P) hb h1 h2 h3 (cap':=c') (by omega) true w
     have hk0:m=0:=by
      unfold bH at hb
      cases mx with
      |none=>exact hm rfl
      |some v=>
       simp only at hb
       cases hv:iS v 0 with
       |none=>simp [hv]at hb
       |some q=>
        have:=(jO (P:=P) (φ:=φ) (v':=v) hv (by unfold iS at hv;split at hv;exact .same rfl;cases hv) (asp _) .slice3B w).2
        simp only [hv,Option.bind_some]at hb
        have:q=0:=by omega
        subst this
        cases hi with
        |none=>simp at hb
        |some u=>
         simp only at hb
         cases hu:iS u 0 with
         |none=>simp [hu]at hb
         |some q2=>
          simp only [hu,Option.bind_some]at hb
          cases lo with
          |none=>simp at hb;omega
          |some x=>
           simp only at hb
           cases zL:iS x q2 with
           |none=>simp [zL]at hb
           |some q3=>simp [zL]at hb;omega
     have adb:k=0:=by omega
     have FF:l=0:=by omega
     subst hk0 adb FF
     simp at h
     subst h
     obtain ⟨b,o,sp⟩:=a
     dsimp only at ji
     subst ji
     refine ⟨.slice (some a') 0 (iU mx 0 c'),?_,.dead⟩
     simp [Instr.sliceAt,Instr.slice,run_underlying ht,r,cW hs]
     intro _
     unfold Addr.add
     simp
end
end Go.Proofs.YtppcmpmnglaleaaGreatDoor.A
