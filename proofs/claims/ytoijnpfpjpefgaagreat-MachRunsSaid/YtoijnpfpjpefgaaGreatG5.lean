/- Texts that stand one behind the other: Abs6. -/
import Derived.Test.YtoijnpfpjpefgaaGreatG4
import Derived.Laws.Slices
/- A text without what this claim does not need: Abs6. -/
set_option linter.unusedVariables false
set_option linter.unusedSimpArgs false
namespace Go.Proofs.YtoijnpfpjpefgaaGreat.A
open Go Go.RowKit
section
variable {P:Program} {w0 w:World} {φ:Phi} {H:AH}
theorem run_abnd {v v':Value} {y y' n:Nat} (h:abnd v y = some n) (hv:V φ v v') (hy:y ≤ y') (code:BoundsCode) (w:World):(Instr.sliceBound v' y' code).run P w = .ok n w ∧ n ≤ y:=by
 unfold abnd at h
 split at h
 ·rename_i k i
  split at h
  ·rename_i hi
   cases h
   rw [hv.int]
   refine ⟨run_sliceBound w k i y' code hi.1 (by omega),by omega⟩
  ·cases h
 ·cases h
def capOf (mx:Option Value) (m c:Nat):Nat:=match mx with | some _=>m | none=>c
inductive VO (φ:Phi):Option Value → Option Value → Prop where
 | none:VO φ none none
 | some {v v':Value}:V φ v v' → VO φ (some v) (some v')
theorem run_abounds {len cap cap' l h m:Nat} {lo hi mx lo' hi' mx':Option Value} (e:abounds len cap lo hi mx = some (l,h,m)) (h1:VO φ lo lo') (h2:VO φ hi hi') (h3:VO φ mx mx') (hc:cap ≤ cap') (b:Bool) (w:World) :
  (Instr.sliceBounds b len cap' lo' hi' mx').run P w = .ok (l,h,capOf mx m cap') w ∧ l ≤ h ∧ (mx = none → m = cap):=by
 unfold abounds at e
 unfold Instr.sliceBounds
 cases h3 with
 | none =>
  simp only [Option.bind_some] at e
  cases h2 with
  | none =>
   simp only [Option.bind_some] at e
   cases h1 with
   | none=>simp at e; obtain ⟨rfl,rfl,rfl⟩:=e; simp [capOf]
   | @some v v' hv =>
    cases hb:abnd v len with
    | none=>simp [hb] at e
    | some n =>
     simp [hb] at e
     obtain ⟨rfl,rfl,rfl⟩:=e
     obtain ⟨r,hle⟩:=run_abnd (P:=P) hb hv (Nat.le_refl _) .sliceB w
     simp [r,hle,capOf]
  | @some v2 v2' hv2 =>
   cases hb2:abnd v2 cap with
   | none=>simp [hb2] at e
   | some n2 =>
    simp [hb2] at e
    obtain ⟨r2,hle2⟩:=run_abnd (P:=P) hb2 hv2 hc (if b then .sliceAcap else .sliceAlen) w
    cases h1 with
    | none=>simp at e; obtain ⟨rfl,rfl,rfl⟩:=e; simp [r2,capOf]
    | @some v v' hv =>
     cases hb:abnd v n2 with
     | none=>simp [hb] at e
     | some n =>
      simp [hb] at e
      obtain ⟨rfl,rfl,rfl⟩:=e
      obtain ⟨r,hle⟩:=run_abnd (P:=P) hb hv (Nat.le_refl _) .sliceB w
      simp [r2,r,hle,capOf]
 | @some v3 v3' hv3 =>
  cases hb3:abnd v3 cap with
  | none=>simp [hb3] at e
  | some n3 =>
   simp only [hb3,Option.bind_some] at e
   obtain ⟨r3,hle3⟩:=run_abnd (P:=P) hb3 hv3 hc (if b then .slice3Acap else .slice3Alen) w
   cases h2 with
   | none=>simp at e
   | @some v2 v2' hv2 =>
    cases hb2:abnd v2 n3 with
    | none=>simp [hb2] at e
    | some n2 =>
     simp only [hb2,Option.bind_some] at e
     obtain ⟨r2,hle2⟩:=run_abnd (P:=P) hb2 hv2 (Nat.le_refl _) .slice3B w
     cases h1 with
     | none=>simp at e; obtain ⟨rfl,rfl,rfl⟩:=e; simp [r3,r2,capOf]
     | @some v v' hv =>
      cases hb:abnd v n2 with
      | none=>simp [hb] at e
      | some n =>
       simp [hb] at e
       obtain ⟨rfl,rfl,rfl⟩:=e
       obtain ⟨r,hle⟩:=run_abnd (P:=P) hb hv (Nat.le_refl _) .slice3C w
       simp [r3,r2,r,hle,capOf]
theorem ok_aslice {sz:Nat} {x x' v:Value} {lo hi mx lo' hi' mx':Option Value} {t:TypeId} (R:Rel w0 φ H w)
  (ht:(P.underlying t = some .string ∧ ∃ s,x = .string s) ∨ (∃ e,P.underlying t = some (.slice e) ∧ tsize P e = some sz ∧ ∃ a n c,x = .slice a n c)) (h:aslice sz H x lo hi mx = some v) (hx:V φ x x') (h1:VO φ lo lo') (h2:VO φ hi hi') (h3:VO φ mx mx') :
  ∃ v',(Instr.sliceAt t x' lo' hi' mx').run P w = .ok v' w ∧ V φ v v':=by
 rcases ht with ⟨ht,s,rfl⟩ | ⟨e,ht,hs,a,n,c,rfl⟩
 ·rw [hx.string]
  simp only [aslice] at h
  cases h3 with
  | some _=>cases h
  | none =>
   simp only at h
   cases hb:abounds s.size s.size lo hi none with
   | none=>simp [hb] at h
   | some p =>
    obtain ⟨l,k,m⟩:=p
    simp only [hb] at h
    obtain ⟨_,h⟩:=bif_some h
    simp at h
    subst h
    obtain ⟨r,_,_⟩:=run_abounds (P:=P) hb h1 h2 .none (Nat.le_refl _) false w
    refine ⟨.string (s.extract l k),?_,.same rfl⟩
    simp [Instr.sliceAt,Instr.slice,run_underlying ht,r]
 ·simp only [aslice] at h
  cases hb:abounds n c lo hi mx with
  | none=>simp [hb] at h
  | some p =>
   obtain ⟨l,k,m⟩:=p
   simp only [hb] at h
   obtain ⟨hkm,h⟩:=bif_some h
   simp only [Bool.and_eq_true,decide_eq_true_eq,Bool.not_eq_true'] at hkm
   obtain ⟨hkm,_⟩:=hkm
   cases a with
   | none =>
    rw [hx.sl0]
    obtain ⟨r,hlk,hm⟩:=run_abounds (P:=P) hb h1 h2 h3 (Nat.le_refl _) true w
    simp at h
    subst h
    have hmm:capOf mx m c = m:=by
     cases mx with
     | none=>exact (hm rfl).symm
     | some _=>rfl
    rw [hmm] at r
    refine ⟨_,?_,.same (v:=.slice none (k - l) (m - l)) rfl⟩
    simp [Instr.sliceAt,Instr.slice,run_underlying ht,r,run_tsize hs]
   | some a =>
    rcases V.sl1 hx with ⟨lc,c',hsp,hl,hcc,hc0,hcb,rfl⟩ | ⟨hsp,rfl,rfl,a',c',rfl⟩
    ·obtain ⟨b,o,sp⟩:=a
     dsimp only at hsp hl hcb ⊢
     subst hsp
     obtain ⟨r,hlk,hm⟩:=run_abounds (P:=P) hb h1 h2 h3 hcc true w
     have run:(Instr.sliceAt t (.slice (some ⟨lc.c,o + lc.s,none⟩) n c') lo' hi' mx').run P w = .ok (.slice (if (capOf mx m c') = l then some ⟨lc.c,o + lc.s,none⟩ else some ⟨lc.c,o + lc.s + l * sz,none⟩) (k - l) ((capOf mx m c') - l)) w:=by
      simp [Instr.sliceAt,Instr.slice,run_underlying ht,r,run_tsize hs,add_lit]
     refine ⟨_,run,?_⟩
     simp only at h
     by_cases hml:m = l
     ·rw [if_pos hml] at h
      split at h
      ·rename_i hd
       cases h
       have:k - l = 0:=by omega
       rw [this]
       split <;> exact .dead
      ·rename_i hd
       cases h
       have:(capOf mx m c') = l:=by
        cases mx with
        | some _=>exact hml
        | none =>
         simp at hd
         have:=hm rfl
         simp only [capOf]
         rw [hc0 (by omega)]
         omega
       rw [this]
       simp
       exact .sl hl (Nat.le_refl _) id (.inl rfl)
     ·rw [if_neg hml] at h
      simp only [Option.isNone_none,Bool.true_and,nb] at h
      cases hz:(decide (l = 0) || H.zok b sz) with
      | false=>simp [hz] at h
      | true =>
       simp only [hz,cond_true,Option.some.injEq] at h
       subst h
       have hne:¬ (capOf mx m c') = l:=by
        cases mx with
        | some _=>exact hml
        | none=>have:=hm rfl; simp only [capOf]; omega
       rw [if_neg hne,show o + lc.s + l * sz = o + l * sz + lc.s by omega]
       refine .sl hl ?_ ?_ ?_
       ·cases mx with
        | some _=>exact Nat.le_refl _
        | none=>have:=hm rfl; simp only [capOf]; omega
       ·omega
       ·cases mx with
        | some _=>exact .inl rfl
        | none =>
         have hmc:=hm rfl
         simp only [capOf]
         rcases hcb with e1 | e1
         ·left; omega
         ·simp at hz
          rcases hz with rfl | hz
          ·right; simpa using e1
          ·by_cases hbo:b < φ.n0
           ·rw [R.oldm b hbo] at hl
            cases hl
            left
            simp at e1
            omega
           ·unfold AH.zok at hz
            split at hz
            ·rename_i z cs hg
             have hz':sz ≤ lc.z:=by
              rw [(R.cells b lc z cs (by omega) hl (AH.raw_of hg)).2.1]
              simpa using hz
             right
             have:l * sz ≤ l * lc.z:=Nat.mul_le_mul_left _ hz'
             have:(c' - l) * lc.z = c' * lc.z - l * lc.z:=Nat.sub_mul _ _ _
             have:l * lc.z ≤ c' * lc.z:=Nat.mul_le_mul_right _ (by omega)
             omega
            ·cases hz
    ·obtain ⟨r,hlk,hm⟩:=run_abounds (P:=P) hb h1 h2 h3 (cap':=c') (by omega) true w
     have hk0:m = 0:=by
      unfold abounds at hb
      cases mx with
      | none=>exact hm rfl
      | some v =>
       simp only at hb
       cases hv:abnd v 0 with
       | none=>simp [hv] at hb
       | some q =>
        have:=(run_abnd (P:=P) (φ:=φ) (v':=v) hv (by unfold abnd at hv; split at hv; exact .same rfl; cases hv) (Nat.le_refl _) .slice3B w).2
        simp only [hv,Option.bind_some] at hb
        have:q = 0:=by omega
        subst this
        cases hi with
        | none=>simp at hb
        | some u =>
         simp only at hb
         cases hu:abnd u 0 with
         | none=>simp [hu] at hb
         | some q2 =>
          simp only [hu,Option.bind_some] at hb
          cases lo with
          | none=>simp at hb; omega
          | some x =>
           simp only at hb
           cases hx2:abnd x q2 with
           | none=>simp [hx2] at hb
           | some q3=>simp [hx2] at hb; omega
     have hk00:k = 0:=by omega
     have hl0:l = 0:=by omega
     subst hk0 hk00 hl0
     simp at h
     subst h
     obtain ⟨b,o,sp⟩:=a
     dsimp only at hsp
     subst hsp
     refine ⟨.slice (some a') 0 (capOf mx 0 c'),?_,.dead⟩
     simp [Instr.sliceAt,Instr.slice,run_underlying ht,r,run_tsize hs]
     intro _
     unfold Addr.add
     simp
end
end Go.Proofs.YtoijnpfpjpefgaaGreat.A
