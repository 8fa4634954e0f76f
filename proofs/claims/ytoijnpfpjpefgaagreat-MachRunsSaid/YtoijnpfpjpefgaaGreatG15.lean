/- Texts that stand one behind the other: Pm6, Pm7, Pm8, Pm9, Pm10, Pm11, Pm12, Pm13, Pm14. -/
import Derived.Test.YtoijnpfpjpefgaaGreatG14
/- A text without what this claim does not need: Pm6. -/
set_option linter.unusedVariables false
set_option linter.unusedSimpArgs false
namespace Go.Proofs.YtoijnpfpjpefgaaGreat.A.P
open Go Go.RowKit
variable {C:Cx} {W:Nat → Prop}
theorem find_ok {k:Value}:∀ {es:List (Value × PV)} {ys:List (Value × Value)} {r:Option PV},es.map (·.1) = ys.map (·.1) → RVs C (es.map (·.2)) (ys.map (·.2)) → pfind k es = some r → (r = none ∧ findA k ys = some none) ∨ ∃ p v,r = some p ∧ findA k ys = some (some v) ∧ RV C p v
 | [],ys,r,h,_,e=>by
  cases ys with
  | nil=>cases e; exact .inl ⟨rfl,rfl⟩
  | cons=>simp at h
 | (k',p) :: es,ys,r,h,g,e=>by
  cases ys with
  | nil=>simp at h
  | cons y ys =>
   obtain ⟨k2,v⟩:=y
   simp only [List.map_cons,List.cons.injEq] at h
   obtain ⟨rfl,h⟩:=h
   simp only [List.map_cons] at g
   cases g with | cons g1 g2 =>
   simp only [pfind] at e
   split at e
   ·rename_i hv
    cases e
    exact .inr ⟨p,v,rfl,by simp [findA,hv],g1⟩
   ·rename_i hv
    rcases find_ok h g2 e with ⟨a,b⟩ | ⟨p',v',a,b,c⟩
    ·exact .inl ⟨a,by simp [findA,hv,b]⟩
    ·exact .inr ⟨p',v',a,by simp [findA,hv,b],c⟩
   ·cases e
theorem upd_ok {k:Value} {p:PV} {v:Value} (hp:RV C p v):∀ {es fs:List (Value × PV)} {ys:List (Value × Value)},es.map (·.1) = ys.map (·.1) → RVs C (es.map (·.2)) (ys.map (·.2)) → pupd k p es = some fs → ∃ zs,updA k v ys = some zs ∧ fs.map (·.1) = zs.map (·.1) ∧ RVs C (fs.map (·.2)) (zs.map (·.2))
 | [],fs,ys,h,_,e=>by
  cases ys with
  | nil=>cases e; exact ⟨[(k,v)],rfl,rfl,.cons hp .nil⟩
  | cons=>simp at h
 | (k',p') :: es,fs,ys,h,g,e=>by
  cases ys with
  | nil=>simp at h
  | cons y ys =>
   obtain ⟨k2,v'⟩:=y
   simp only [List.map_cons,List.cons.injEq] at h
   obtain ⟨rfl,h⟩:=h
   simp only [List.map_cons] at g
   cases g with | cons g1 g2 =>
   simp only [pupd] at e
   split at e
   ·rename_i hv
    cases e
    exact ⟨(k,v) :: ys,by simp [updA,hv],by simp [h],.cons hp g2⟩
   ·rename_i hv
    cases hf:pupd k p es with
    | none=>simp [hf] at e
    | some fs' =>
     simp only [hf,Option.map_some,Option.some.injEq] at e
     subst e
     obtain ⟨zs,a,b,c⟩:=upd_ok hp h g2 hf
     exact ⟨(k',v') :: zs,by simp [updA,hv,a],by simp [b],.cons g1 c⟩
   ·cases e
theorem mp_is {b:Nat} {x:Value} {es:List (Value × PV)} (h:RV C (.mp b) x) (e:C.h[b]? = some (.map es)):x = .map (some (C.φ b)):=by
 cases h with | mp _ hb ha=>exact ha ⟨es,e⟩
theorem look_ok (S:StH C) {kk:Nat} {z:Value} {p q r:PV} {x y:Value} {ok:Bool} (h:RV C p x) (g:RV C q y) (k:plook kk z C.h p q ok = some r):∃ w,lookV kk z C.H x y ok = some w ∧ RV C r w:=by
 have zer:∃ w,(bif ok then Value.tuple #[z,.bool false] else z) = w ∧ RV C (bif ok then .tup [ofV z,.v (.bool false)] else ofV z) w:=by
  refine ⟨_,rfl,?_⟩
  cases ok
  ·exact rv_ofV z
  ·exact .tup (xs:=[z,.bool false]) (.cons (rv_ofV z) (.cons (.v _) .nil))
 obtain ⟨w0,hw0,hr0⟩:=zer
 unfold plook at k
 split at k
 ·cases h; cases g
  split at k
  case isFalse=>cases k
  rename_i hk
  cases k
  exact ⟨w0,by simp [lookV,hk,← hw0],hr0⟩
 ·rename_i b kx
  cases g
  split at k
  case h_2=>cases k
  rename_i es hh
  split at k
  case isFalse=>cases k
  rename_i hk
  rw [mp_is h hh]
  obtain ⟨ys,hg,hk1,hv,hn0,_⟩:=S.mpb _ _ hh
  have d:decide (C.H.n0 ≤ C.φ b) = true:=by simp [hn0]
  cases hf:pfind y es with
  | none=>simp [hf] at k
  | some q =>
   rcases find_ok hk1 hv hf with ⟨rfl,e⟩ | ⟨p,v,rfl,e,hpv⟩
   ·simp only [hf,Option.some.injEq] at k
    subst k
    exact ⟨w0,by simp [lookV,hg,hk,hn0,e,← hw0],hr0⟩
   ·simp only [hf,Option.some.injEq] at k
    subst k
    refine ⟨(bif ok then Value.tuple #[v,.bool true] else v),by simp [lookV,hg,hk,hn0,e],?_⟩
    cases ok
    ·exact hpv
    ·exact .tup (xs:=[v,.bool true]) (.cons hpv (.cons (.v _) .nil))
 ·cases k
theorem mup_ok (S:StH C) {kk:Nat} {p q r:PV} {x y z:Value} {h':PH} (h:RV C p x) (g:RV C q y) (f:RV C r z) (k:pmup kk C.h p q r = some h') (hW:∀ b,p = .mp b → W b):∃ H',mupV kk C.H x y z = some H' ∧ StH ⟨C.F,H',C.φ,h'⟩ ∧ Stp C.h.length W C ⟨C.F,H',C.φ,h'⟩:=by
 unfold pmup at k
 split at k
 ·rename_i b kx
  cases g
  split at k
  case h_2=>cases k
  rename_i es hh
  split at k
  case isFalse=>cases k
  rename_i hk
  rw [mp_is h hh]
  obtain ⟨ys,hg,hk1,hv,hn0,_⟩:=S.mpb _ _ hh
  cases hf:pupd y r es with
  | none=>simp [hf] at k
  | some fs =>
   simp only [hf,Option.map_some,Option.some.injEq] at k
   subst k
   obtain ⟨zs,a,b',c⟩:=upd_ok f hk1 hv hf
   obtain ⟨A,B⟩:=S.putm (hW _ rfl) hh b' c
   refine ⟨_,?_,A,B⟩
   obtain ⟨cs,hcs⟩:=Option.isSome_iff_exists.1 hk.2
   simp [mupV,hg,hk.1,hn0,a,(rvs_cells f hcs).2]
 ·cases k
theorem new_ok (S:StH C) (W:Nat → Prop) {z:Nat} {cs:List PV} {vs:List Value} (h:RVs C cs vs):Sim C W (some (.pointer (some ⟨C.H.nx,0,none⟩),C.H.alloc (.cells z vs))) (.ref C.h.length 0 cs.length) (C.h ++ [.cells z cs]):=by
 obtain ⟨A,B⟩:=S.new (P:=.cells z cs) (B:=.cells z vs) W (.inl ⟨_,_,_,rfl,rfl,h⟩)
 refine ⟨_,_,_,rfl,.ref rfl (by simp) ?_ (fun _=>by simp [fup_eq]),A,B⟩
 intro z9 cs9 e9
 rw [show (C.h ++ [PB.cells z cs])[C.h.length]? = _ from app_eq _ _] at e9
 cases e9
 exact Nat.le_refl _
theorem news_ok (S:StH C) (W:Nat → Prop) {sz len:Nat} {cs:List PV} {vs:List Value} (h:RVs C cs vs) (hl:cs.length = len * sz) (hz:0 < sz):Sim C W (some (.slice (some ⟨C.H.nx,0,none⟩) len len,C.H.alloc (.cells sz vs))) (.sl sz C.h.length 0 len len) (C.h ++ [.cells sz cs]):=by
 obtain ⟨A,B⟩:=S.new (P:=.cells sz cs) (B:=.cells sz vs) W (.inl ⟨_,_,_,rfl,rfl,h⟩)
 refine ⟨_,_,_,rfl,.sl rfl (by simp) ?_ (fun _=>?_),A,B⟩
 ·intro z9 cs9 e9
  rw [show (C.h ++ [PB.cells sz cs])[C.h.length]? = _ from app_eq _ _] at e9
  cases e9
  simp [hl]
 ·by_cases h0:len = 0
  ·subst h0; exact .inl ⟨rfl,rfl,_,rfl,by rintro e ⟨⟩; rfl⟩
  ·exact .inr ⟨by omega,by simp [fup_eq]⟩
theorem pvs_ok:∀ {ps:List PV} {l xs:List Value},pvs ps = some l → RVs C ps xs → xs = l
 | [],l,xs,h,g=>by cases g; cases h; rfl
 | p :: ps,l,xs,h,g=>by
  cases g with | cons g1 g2 =>
  cases p with
  | v x =>
   cases g1
   simp only [pvs] at h
   cases h2:pvs ps with
   | none=>simp [h2] at h
   | some m =>
    simp only [h2,Option.map_some,Option.some.injEq] at h
    rw [← h,pvs_ok h2 g2]
  | _=>simp [pvs] at h
theorem peqC_ok {cs ds:List PV} {xs ys:List Value} (h:RVs C cs xs) (g:RVs C ds ys):∀ {offs:List (Nat × Nat)} {b:Bool},peqC cs ds offs = some b → eqCells xs ys offs = some b
 | [],b,e=>e
 | (o,kk) :: l,b,e=>by
  simp only [peqC] at e
  split at e
  case h_2=>cases e
  rename_i a a' h1 h2
  obtain ⟨x,hx,rx⟩:=h.get h1
  obtain ⟨y,hy,ry⟩:=g.get h2
  cases rx; cases ry
  split at e
  case isFalse=>cases e
  rename_i hk
  simp only [eqCells,hx,hy,hk,cond_true]
  split at e
  ·rename_i hv; rw [hv]; exact peqC_ok h g e
  ·rename_i hv; rw [hv]; exact e
  ·cases e
theorem mx_ok {f:Value → List Value → Option Value} {p r:PV} {x:Value} {ps:List PV} {xs:List Value} (h:RV C p x) (g:RVs C ps xs) (k:pmx f p ps = some r):∃ y,f x xs = some y ∧ RV C r y:=by
 unfold pmx at k
 split at k
 ·rename_i x' l' e
  cases h
  rw [pvs_ok e g]
  cases hf:f x l' with
  | none=>simp [hf] at k
  | some y=>simp only [hf,Option.map_some,Option.some.injEq] at k; subst k; exact ⟨y,rfl,.v _⟩
 ·cases k
def up (r:Option (Value × AH)):Option (ARes × AH):=r.map fun q=>(.v q.1,q.2)
theorem up_val {C:Cx} (S:StH C) {p:PV} {h':PH} {r:Option PV} {r':Option Value} {a:Option (ARes × AH)} (ha:a = r'.map fun v=>(.v v,C.H)) (k:(r.map fun v=>(v,C.h)) = some (p,h')) (hr:∀ q,r = some q → ∃ y,r' = some y ∧ RV C q y):∃ b,a = up b ∧ Sim C W b p h':=by
 cases hq:r with
 | none=>simp [hq] at k
 | some q =>
  simp only [hq,Option.map_some,Option.some.injEq,Prod.mk.injEq] at k
  obtain ⟨rfl,rfl⟩:=k
  obtain ⟨y,hy,g⟩:=hr q hq
  refine ⟨some (y,C.H),by rw [ha,hy]; rfl,Sim.val S g rfl⟩
theorem aop_ia {H:AH} {ρ:X → Value} {sz:Nat} {x i:X}:aop (.ia sz x i) ρ H = (iaV sz (ρ x) (ρ i)).map fun v=>(.v v,H):=by
 simp only [aop]
 cases ρ x with
 | slice a len c =>
  cases a with
  | none=>rfl
  | some a =>
   cases ρ i <;> first
    | rfl
    | (simp only [iaV]; split <;> first | rfl | (cases a.spot.isNone <;> rfl))
 | _=>rfl
theorem aop_iaa {H:AH} {ρ:X → Value} {len sz:Nat} {x i:X}:aop (.iaa len sz x i) ρ H = (iaaV len sz (ρ x) (ρ i)).map fun v=>(.v v,H):=by
 simp only [aop]
 cases ρ x with
 | pointer a =>
  cases a with
  | none=>rfl
  | some a =>
   cases ρ i <;> first
    | rfl
    | (simp only [iaaV]; split <;> first | rfl | (cases a.spot.isNone <;> rfl))
 | _=>rfl
theorem aop_ix {H:AH} {ρ:X → Value} {x i:X}:aop (.ix x i) ρ H = (ixV (ρ x) (ρ i)).map fun v=>(.v v,H):=by
 simp only [aop]
 cases ρ x with
 | string s =>
  cases ρ i <;> first
   | rfl
   | (simp only [ixV]; rename_i n; cases s[n.toNat]? <;> (split <;> rfl))
 | _=>rfl
theorem aop_look {H:AH} {ρ:X → Value} {kk:Nat} {z:Value} {x ky:X} {ok:Bool}:aop (.look kk z x ky ok) ρ H = (lookV kk z H (ρ x) (ρ ky) ok).map fun v=>(.v v,H):=by
 simp only [aop,lookV]
 cases ρ x with
 | map r =>
  cases r with
  | none=>dsimp only; cases keyOk kk (ρ ky) <;> rfl
  | some r =>
   dsimp only
   cases H.get r with
   | none=>rfl
   | some b =>
    cases b with
    | cells=>rfl
    | map es =>
     dsimp only
     cases keyOk kk (ρ ky) && decide (H.n0 ≤ r)
     ·rfl
     ·cases findA (ρ ky) es with
      | none=>rfl
      | some q=>cases q <;> rfl
 | _=>rfl
theorem aop_eqs {H:AH} {ρ:X → Value} {neg:Bool} {offs:List (Nat × Nat)} {x y:X}:aop (.eqs neg offs x y) ρ H = (eqsV neg offs (ρ x) (ρ y)).map fun v=>(.v v,H):=by
 simp only [aop]
 cases ρ x <;> cases ρ y <;> first
  | rfl
  | (simp only [eqsV]; rename_i a b; cases eqCells a.toList b.toList offs <;> rfl)
theorem pop_ok {C : Cx} (S : StH C) {o : AOp} {ρp : X → PV} {ρ : X → Value} {p : PV} {h' : PH} (h : ∀ x, RV C (ρp x) (ρ x)) (k : pop o ρp C.h = some (p, h')) : ∃ b, aop o ρ C.H = up b ∧ Sim C (· ∈ pwr o ρp) b p h' := by
  cases o with
  | mv x => cases k; exact ⟨some (ρ x, C.H), rfl, Sim.val S (h x) rfl⟩
  | pick c a b =>
    refine up_val S (r' := pickV (ρ c) (ρ a) (ρ b)) (by simp only [aop]; cases ρ c <;> rfl) k fun q hq => ?_
    have hc := h c
    revert hq hc
    generalize ρp c = pc
    intro hq hc
    cases pc <;> first
      | (cases hq; done)
      | skip
    rename_i w
    cases w <;> first
      | (cases hq; done)
      | skip
    rename_i t
    cases hq
    rw [hc.toV]
    refine ⟨_, rfl, ?_⟩
    cases t
    · exact h b
    · exact h a
  | alloc z =>
    cases k
    refine ⟨some (.pointer (some ⟨C.H.nx, 0, none⟩), C.H.alloc (.cells z.length z)), rfl, ?_⟩
    have := new_ok S (· ∈ pwr (.alloc z) ρp) (z := z.length) (RVs.lits z)
    rw [List.length_map] at this
    exact this
  | box x =>
    simp only [pop, pbox] at k
    split at k
    case h_2 => cases k
    rename_i cs hc
    cases k
    obtain ⟨a, b⟩ := rvs_cells (h x) hc
    refine ⟨some (.pointer (some ⟨C.H.nx, 0, none⟩), C.H.alloc (.cells (vcells (ρ x)).length (vcells (ρ x)))), by simp [aop, b, up], ?_⟩
    rw [← a.length]
    exact new_ok S _ a
  | build z ps =>
    cases hf : fillP (z.map .v) (ps.map fun p => (p.1, p.2.1, ρp p.2.2)) with
    | none => simp [pop, hf] at k
    | some d =>
      simp only [pop, hf, Option.map_some, Option.some.injEq, Prod.mk.injEq] at k
      obtain ⟨rfl, rfl⟩ := k
      obtain ⟨ys, e, g⟩ := fill_ok (RPs.of h ps) (RVs.lits z) hf
      exact ⟨some (.agg ys.toArray, C.H), by simp [aop, e, up], Sim.val S (.agg g) rfl⟩
  | bsl len sz z ps =>
    simp only [pop, pbsl] at k
    split at k
    case h_2 => cases k
    rename_i d hf
    split at k
    case isFalse => cases k
    rename_i hc
    cases k
    obtain ⟨ys, e, g⟩ := fill_ok (RPs.of h ps) (RVs.lits z) hf
    exact ⟨some (.slice (some ⟨C.H.nx, 0, none⟩) len len, C.H.alloc (.cells sz ys)), by simp [aop, e, up], news_ok S _ g hc.1 hc.2⟩
  | ld x => exact up_val S (r' := ldV C.H (ρ x)) (by
      simp only [aop]
      cases ρ x with
      | pointer a => cases a <;> rfl
      | _ => rfl) k fun q hq => ld_ok S (h x) hq
  | ldn n x => exact up_val S (r' := ldnV n C.H (ρ x)) (by
      simp only [aop]
      cases ρ x with
      | pointer a =>
        cases a with
        | none => rfl
        | some a => simp only [ldnV]; cases C.H.ldn a n <;> rfl
      | _ => rfl) k fun q hq => ldn_ok S (h x) hq
  | st n x v =>
    cases hs : pst n C.h (ρp x) (ρp v) with
    | none => simp [pop, hs] at k
    | some h2 =>
      simp only [pop, hs, Option.map_some, Option.some.injEq, Prod.mk.injEq] at k
      obtain ⟨rfl, rfl⟩ := k
      obtain ⟨H', e, A, B⟩ := st_ok (W := (· ∈ pwr (.st n x v) ρp)) S (h x) (h v) hs (fun b o t e => by simp [pwr, e])
      refine ⟨some (undef, H'), ?_, undef, H', C.φ, rfl, .v _, A, B⟩
      have : aop (.st n x v) ρ C.H = (stV n C.H (ρ x) (ρ v)).map fun H' => (.v undef, H') := by
        simp only [aop]
        cases ρ x with
        | pointer a =>
          cases a with
          | none => rfl
          | some a => simp only [stV]; cases (Nat.beq (vcells (ρ v)).length n && !isTup (ρ v)) <;> simp
        | _ => rfl
      rw [this, e]; rfl
  | nilc x =>
    refine up_val S (r' := nilcV (ρ x)) (by
      simp only [aop]
      cases ρ x with
      | pointer a => cases a <;> rfl
      | _ => rfl) k fun q hq => ?_
    obtain ⟨a, b⟩ := nilc_ok (h x) hq
    exact ⟨_, a, b⟩
  | bin op x y =>
    refine up_val S (r' := abin op (ρ x) (ρ y)) rfl k fun q hq => ?_
    have hx := h x
    have hy := h y
    unfold pbin at hq
    split at hq
    · rename_i a b e1 e2
      rw [e1] at hx; rw [e2] at hy
      rw [hx.toV, hy.toV]
      cases he : abin op a b with
      | none => simp [he] at hq
      | some w => simp only [he, Option.map_some, Option.some.injEq] at hq; subst hq; exact ⟨w, rfl, .v _⟩
    · cases hq
  | eqk kk neg x y =>
    cases hs : peqb C.h kk (ρp x) (ρp y) with
    | none => simp [pop, hs] at k
    | some b =>
      simp only [pop, hs, Option.map_some, Option.some.injEq, Prod.mk.injEq] at k
      obtain ⟨rfl, rfl⟩ := k
      exact ⟨some (.bool (bif neg then !b else b), C.H), by simp only [aop]; rw [peqb_ok (h x) (h y) hs]; rfl, Sim.val S (.v _) rfl⟩
  | un op x =>
    refine up_val S (r' := aun op (ρ x)) rfl k fun q hq => ?_
    have hx := h x
    unfold pun at hq
    split at hq
    · rename_i a e1
      rw [e1] at hx
      rw [hx.toV]
      cases he : aun op a with
      | none => simp [he] at hq
      | some w => simp only [he, Option.map_some, Option.some.injEq] at hq; subst hq; exact ⟨w, rfl, .v _⟩
    · cases hq
  | cvi kk x =>
    refine up_val S (r' := cviV kk (ρ x)) (by simp only [aop]; cases ρ x <;> rfl) k fun q hq => ?_
    have hx := h x
    unfold pcvi at hq
    split at hq
    · rename_i k' n e1
      rw [e1] at hx
      rw [hx.toV]
      cases hq
      exact ⟨_, rfl, .v _⟩
    · cases hq
  | cvs x =>
    refine up_val S (r' := cvsV (ρ x)) (by simp only [aop]; cases ρ x <;> rfl) k fun q hq => ?_
    have hx := h x
    unfold pcvs at hq
    split at hq
    · rename_i k' n e1
      rw [e1] at hx
      rw [hx.toV]
      cases hq
      exact ⟨_, rfl, .v _⟩
    · cases hq
  | mkf f first cap => cases k; exact ⟨some (.func (.func f) (first.map ρ).toArray (cap.map ρ).toArray, C.H), rfl, Sim.val S (.fn (RVs.of h first) (RVs.of h cap)) rfl⟩
  | mkmap =>
    cases k
    obtain ⟨A, B⟩ := S.new (P := .map []) (B := .map []) (· ∈ pwr .mkmap ρp) (.inr ⟨[], [], rfl, rfl, rfl, .nil⟩)
    exact ⟨some (.map (some C.H.nx), C.H.alloc (.map [])), rfl, _, _, _, rfl, .mp rfl (by simp) (fun _ => by simp [fup_eq]), A, B⟩
  | mksl sz bytes z x =>
    have hx := h x
    simp only [pop] at k
    unfold pmksl at k
    split at k
    · rename_i k' n e1
      rw [e1] at hx
      split at k
      case isFalse => cases k
      rename_i hc
      cases k
      refine ⟨some (.slice (some ⟨C.H.nx, 0, none⟩) n.toNat n.toNat, C.H.alloc (.cells sz (List.replicate n.toNat z).flatten)), ?_, news_ok S _ ((RVs.lits z).repl _) ?_ hc.2.2.2.2⟩
      · have d3 : decide ((bytes : Int) * n ≤ 2 ^ 47) = true := decide_eq_true hc.2.2.1
        simp only [aop, hx.toV, decide_eq_true hc.1, decide_eq_true hc.2.1, d3, Bool.and_self, cond_true]
        rfl
      · have hz := hc.2.2.2.1
        clear hc hx e1
        induction n.toNat with
        | zero => simp
        | succ m ih => simp only [List.replicate_succ, List.flatten_cons, List.length_append, List.length_map, ih, Nat.succ_mul]; omega
    · cases k
  | sl sz x lo hi mx => exact ⟨_, by simp only [aop, up, Option.map_map]; rfl, sl_ok S h (h x) k⟩
  | fa off x => exact up_val S (r' := faV off (ρ x)) (by
      simp only [aop]
      cases ρ x with
      | pointer a =>
        cases a with
        | none => rfl
        | some a => simp only [faV]; cases a.spot.isNone <;> rfl
      | _ => rfl) k fun q hq => fa_ok (h x) hq
  | ia sz x i => exact up_val S aop_ia k fun q hq => ia_ok (h x) (h i) hq
  | iaa len sz x i => exact up_val S aop_iaa k fun q hq => iaa_ok (h x) (h i) hq
  | ix x i =>
    refine up_val S aop_ix k fun q hq => ?_
    have hx := h x
    have hy := h i
    unfold pix at hq
    split at hq
    · rename_i a b e1 e2
      rw [e1] at hx; rw [e2] at hy
      rw [hx.toV, hy.toV]
      cases he : ixV a b with
      | none => simp [he] at hq
      | some w => simp only [he, Option.map_some, Option.some.injEq] at hq; subst hq; exact ⟨w, rfl, .v _⟩
    · cases hq
  | look kk z x ky ok => exact up_val S aop_look k fun q hq => look_ok S (h x) (h ky) hq
  | mup kk x ky v =>
    cases hs : pmup kk C.h (ρp x) (ρp ky) (ρp v) with
    | none => simp [pop, hs] at k
    | some h2 =>
      simp only [pop, hs, Option.map_some, Option.some.injEq, Prod.mk.injEq] at k
      obtain ⟨rfl, rfl⟩ := k
      obtain ⟨H', e, A, B⟩ := mup_ok (W := (· ∈ pwr (.mup kk x ky v) ρp)) S (h x) (h ky) (h v) hs (fun b e => by simp [pwr, e])
      refine ⟨some (undef, H'), ?_, undef, H', C.φ, rfl, .v _, A, B⟩
      have : aop (.mup kk x ky v) ρ C.H = (mupV kk C.H (ρ x) (ρ ky) (ρ v)).map fun H' => (.v undef, H') := by
        simp only [aop, mupV]
        cases ρ x with
        | map r =>
          cases r with
          | none => rfl
          | some r =>
            dsimp only
            cases C.H.get r with
            | none => rfl
            | some b =>
              cases b with
              | cells => rfl
              | map es =>
                dsimp only
                cases (keyOk kk (ρ ky) && decide (C.H.n0 ≤ r) && !isTup (ρ v))
                · rfl
                · simp only [cond_true]
                  cases updA (ρ ky) (ρ v) es <;> rfl
        | _ => rfl
      rw [this, e]; rfl
  | ext x i =>
    refine up_val S (r' := extV (ρ x) i) (by
      simp only [aop]
      cases ρ x with
      | tuple vs => simp only [extV]; cases vs.toList[i]? <;> rfl
      | _ => rfl) k fun q hq => ?_
    have hx := h x
    unfold pext at hq
    split at hq
    · rename_i ps i' e1
      rw [e1] at hx
      revert hx
      generalize ρ x = y
      intro hx
      cases hx with | tup g =>
      obtain ⟨z, hz, gz⟩ := g.get hq
      exact ⟨z, by simpa [extV] using hz, gz⟩
    · cases hq
  | call f «as» => cases k
  | callv x «as» => cases k
  | app sz bytes s x => exact ⟨_, rfl, app_ok S (h s) (h x) k (fun sz b o n c e => by simp [pwr, e])⟩
  | copy sz d s => exact ⟨_, rfl, copy_ok S (h d) (h s) k (fun sz b o n c e => by simp [pwr, e])⟩
  | lens x =>
    refine up_val S (r' := lensV (ρ x)) (by simp only [aop]; cases ρ x <;> rfl) k fun q hq => ?_
    have hx := h x
    unfold plens at hq
    split at hq
    · rename_i a e1
      rw [e1] at hx
      rw [hx.toV]
      cases he : lensV a with
      | none => simp [he] at hq
      | some w => simp only [he, Option.map_some, Option.some.injEq] at hq; subst hq; exact ⟨w, rfl, .v _⟩
    · cases hq
  | lenl x =>
    refine up_val S (r' := lenlV (ρ x)) (by simp only [aop]; cases ρ x <;> rfl) k fun q hq => ?_
    have hx := h x
    unfold plenl at hq
    split at hq
    · rename_i a e1
      rw [e1] at hx
      rw [hx.toV]
      cases he : lenlV a with
      | none => simp [he] at hq
      | some w => simp only [he, Option.map_some, Option.some.injEq] at hq; subst hq; exact ⟨w, rfl, .v _⟩
    · rename_i sz b o n c e1
      rw [e1] at hx
      split at hq
      case h_2 => cases hq
      rename_i z cs hh
      split at hq
      case isFalse => cases hq
      rename_i hc
      cases hq
      rcases sl_at hx hh hc with ⟨_, rfl, d, e, _⟩ | ⟨_, e⟩ <;> rw [e] <;> exact ⟨_, rfl, .v _⟩
    · rename_i sz rows e1
      rw [e1] at hx
      cases hq
      revert hx
      generalize ρ x = y
      intro hx
      cases hx with | fs g =>
      cases g
      exact ⟨_, rfl, .v _⟩
    · cases hq
  | mki t x => cases k; exact ⟨some (.iface t (ρ x), C.H), rfl, Sim.val S (.ifc (h x)) rfl⟩
  | mxl x l => exact up_val S (r' := mxA (ρ x) (l.map ρ)) rfl k fun q hq => mx_ok (h x) (RVs.of h l) hq
  | mnl x l => exact up_val S (r' := mnA (ρ x) (l.map ρ)) rfl k fun q hq => mx_ok (h x) (RVs.of h l) hq
  | eqs neg offs x y =>
    refine up_val S aop_eqs k fun q hq => ?_
    have hx := h x
    have hy := h y
    unfold peqs at hq
    split at hq
    · rename_i cs ds e1 e2
      rw [e1] at hx; rw [e2] at hy
      revert hx hy
      generalize ρ x = a
      generalize ρ y = b
      intro hx hy
      cases hx with | agg gx =>
      cases hy with | agg gy =>
      cases he : peqC cs ds offs with
      | none => simp [he] at hq
      | some w =>
        simp only [he, Option.map_some, Option.some.injEq] at hq
        subst hq
        exact ⟨_, by simp only [eqsV, List.toList_toArray]; rw [peqC_ok gx gy he]; rfl, .v _⟩
    · cases hq
end Go.Proofs.YtoijnpfpjpefgaaGreat.A.P
/- A text without what this claim does not need: Pm7. -/
set_option linter.unusedVariables false
set_option linter.unusedSimpArgs false
namespace Go.Proofs.YtoijnpfpjpefgaaGreat.A.P
open Go Go.RowKit
structure PF where
 g:Nat → PV
def PF.get (f:PF) (n:Nat):PV:=f.g n
def PF.put (f:PF) (n:Nat) (p:PV):PF:=⟨fun m=>if m = n then p else f.g m⟩
def PF.putO (f:PF) (d:Option Nat) (p:PV):PF:=match d with | some n=>f.put n p | none=>f
def PF.of (l:List PV):PF:=⟨fun n=>l.getD n .any⟩
theorem PF.get_put (f:PF) (n m:Nat) (p:PV):(f.put n p).get m = if m = n then p else f.get m:=rfl
theorem PF.get_of (l:List PV) (n:Nat):(PF.of l).get n = l.getD n .any:=rfl
def pev (f:PF):X → PV
 | .t n=>f.get n
 | .k v=>ofV v
 | .f n=>.fn n [] []
def RFr (C:Cx) (fr:PF) (af:Fr):Prop:=∀ t,RV C (fr.get t) (af.get t)
theorem RFr.ev {C:Cx} {fr:PF} {af:Fr} (h:RFr C fr af):∀ x,RV C (pev fr x) (X.ev af x)
 | .t n=>h n
 | .k v=>rv_ofV v
 | .f n=>.fn (xs:=[]) (ys:=[]) .nil .nil
theorem RFr.put {C:Cx} {fr:PF} {af:Fr} (h:RFr C fr af) {p:PV} {x:Value} (k:RV C p x) (n:Nat):RFr C (fr.put n p) (af.put n x):=by
 intro t
 rw [PF.get_put,Fr.get_put]
 split
 ·exact k
 ·exact h t
theorem RFr.putO {C:Cx} {fr:PF} {af:Fr} (h:RFr C fr af) {p:PV} {x:Value} (k:RV C p x) (d:Option Nat):RFr C (fr.putO d p) (af.putO d x):=by
 cases d with
 | none=>exact h
 | some n=>exact h.put k n
theorem RFr.step {W:Nat → Prop} {C D:Cx} {fr:PF} {af:Fr} (h:RFr C fr af) (T:Stp C.h.length W C D):RFr D fr af:=fun t=>(h t).step T
theorem RFr.of {C:Cx} {ps:List PV} {xs:List Value} (h:RVs C ps xs):RFr C (PF.of ps) (Fr.of xs):=by
 intro t
 rw [PF.get_of,Fr.get_of]
 rw [List.getD_eq_getElem?_getD,List.getD_eq_getElem?_getD]
 cases e:ps[t]? with
 | none=>exact .any _
 | some p =>
  obtain ⟨x,hx,r⟩:=h.get e
  rw [hx]
  exact r
def smb:PV → Bool
 | .v x=>smV x
 | .ref _ _ _ | .sl _ _ _ _ _ | .mp _ | .fs _ _ | .fp _=>true
 | _=>false
def wanp (o:AO) (fr:PF):Bool:=match o.g with
 | none=>true
 | some (t,b)=>match fr.get t with | .v x=>wantV b x | _=>true
def pldc (n : Nat) (p : PV) (h : PH) (W : List Nat) : Bool := match p with
  | .ref b o t => match h[b]? with
    | some (.cells _ cs) => decide (cs.length = t) && decide (o + n ≤ t) && decide (0 < t) && !W.contains b && ((cs.drop o).take n).all smb
    | _ => false
  | .fp cells => decide (n ≤ cells.length) && (cells.take n).all smb
  | _ => false
def pldo (o:AOp) (fr:PF) (h:PH) (W:List Nat):Bool:=match o with
 | .ld x=>pldc 1 (pev fr x) h W
 | .ldn n x=>pldc n (pev fr x) h W
 | _=>false
def pnew (b:Nat) (h:PH) (W:List Nat):Bool:=!W.contains b && (match h[b]? with
 | some (.cells _ (c :: cs))=>smb c && cs.all smb
 | some (.map [])=>true
 | _=>false)
def padr (o : AOp) (fr : PF) (h : PH) : Option (Option Nat) := match o with
  | .st _ x _ | .ld x | .ldn _ x => match pev fr x with
    | .ref b _ t => if ptot h b = some t ∧ 0 < t then some (some b) else none
    | .fp _ => some none
    | _ => none
  | .look _ _ x _ _ => match pev fr x with
    | .mp b => match h[b]? with | some (.map _) => some (some b) | _ => none
    | _ => none
  | .sl _ x _ _ _ => match pev fr x with
    | .sl sz b o n c => if pvalid h (.sl sz b o n c) = true ∧ 0 < c ∧ 0 < sz then some (some b) else none
    | _ => none
  | _ => none
def papart:Option (Option Nat) → Option (Option Nat) → Bool
 | some (some b),some (some c)=>!Nat.beq b c
 | some none,some (some _)=>true
 | _,_=>false
def pck (k p q:Nat):Option AO → Option (PF × PH × List Nat) → Option (PF × PH × List Nat) → Option AO → Option (PF × PH × List Nat) → Option (PF × PH × List Nat) → Bool
 | some op,some (fp,hp,_),some (_,hp',_),some oq,some (fq,hq,_),some (_,_,W) =>
  decide (p < q) && (!wanp op fp || !wanp oq fq || (match k with
   | 0=>pldo op.o fp hp W
   | 1=>!op.o.isCall && pnew hp.length hp' W
   | _=>papart (padr op.o fp hp) (padr oq.o fq hq)))
 | _,_,_,_,_,_=>false
def okP (l:List AO) (ck:List (Nat × Nat × Nat)) (acc:List (PF × PH × List Nat)):Bool :=
 ck.all fun c=>pck c.1 c.2.1 c.2.2 (nth l c.2.1) (nth acc.reverse c.2.1) (nth acc.reverse (c.2.1 + 1)) (nth l c.2.2) (nth acc.reverse c.2.2) (nth acc.reverse (c.2.2 + 1))
inductive Hist (l0:List AO):List (PF × PH × List Nat) → List (Fr × AH) → Cx → List Nat → Prop
 | one {C:Cx} {fr:PF} {af:Fr}:StH C → RFr C fr af → Hist l0 [(fr,C.h,[])] [(af,C.H)] C []
 | cons {C D:Cx} {acc:List (PF × PH × List Nat)} {acc':List (Fr × AH)} {fr:PF} {af:Fr} {V W:List Nat}:Hist l0 acc acc' C W → Stp 0 (· ∈ V) C D → StH D → RFr D fr af → (∀ o,nth l0 (acc.length - 1) = some o → o.o.isCall = false → D.H.nx ≤ C.H.nx + 1) → Hist l0 ((fr,D.h,V ++ W) :: acc) ((af,D.H) :: acc') D (V ++ W)
theorem Hist.length {l0:List AO} {W:List Nat} {acc:List (PF × PH × List Nat)} {acc':List (Fr × AH)} {C:Cx} (h:Hist l0 acc acc' C W):acc.length = acc'.length ∧ 0 < acc.length:=by
 induction h with
 | one a b=>exact ⟨rfl,Nat.one_pos⟩
 | cons _ T S R nx ih=>simp [ih.1]
theorem nth_snoc {α:Type} (l:List α) (x:α) (i:Nat):nth (l ++ [x]) i = if i < l.length then nth l i else if i = l.length then some x else none:=by
 rw [nth_l,nth_l]
 split
 ·rw [List.getElem?_append_left (by assumption)]
 ·rw [List.getElem?_append_right (by omega)]
  split
  ·rename_i h; subst h; simp
  ·rw [List.getElem?_eq_none (by simp; omega)]
theorem Hist.fam {l0:List AO} {W:List Nat} {acc:List (PF × PH × List Nat)} {acc':List (Fr × AH)} {D:Cx} (h:Hist l0 acc acc' D W):∃ (cs:Nat → Cx) («as»:Nat → Fr),
  (∀ i s,nth acc.reverse i = some s → (cs i).h = s.2.1 ∧ nth acc'.reverse i = some («as» i,(cs i).H) ∧ StH (cs i) ∧ RFr (cs i) s.1 («as» i)) ∧
  (∀ i j s,i ≤ j → nth acc.reverse j = some s → Stp 0 (· ∈ s.2.2) (cs i) (cs j)) ∧
  (∀ i o,i + 1 < acc.length → nth l0 i = some o → o.o.isCall = false → (cs (i + 1)).H.nx ≤ (cs i).H.nx + 1) ∧ cs (acc.length - 1) = D ∧ ∀ i,i < acc.length → Stp 0 (· ∈ W) (cs i) D:=by
 induction h with
 | @one C fr af a b =>
  refine ⟨fun _=>C,fun _=>af,fun i s e=>?_,fun _ _ _ _ _=>Stp.refl _ _ _,fun i o hi=>by simp at hi,rfl,fun _ _=>Stp.refl _ _ _⟩
  cases i with
  | zero=>simp only [List.reverse_singleton,nth_z,Option.some.injEq] at e; subst e; exact ⟨rfl,rfl,a,b⟩
  | succ i=>simp [nth] at e
 | @cons C D acc acc' fr af V W H0 T S R nx ih =>
  obtain ⟨cs,«as»,h1,h2,h3,h4,h5⟩:=ih
  have hl:=H0.length
  have hlast:∀ i,i < acc.length → Stp 0 (· ∈ V ++ W) (cs i) D:=fun i hi=>(h5 i hi).trans T (Nat.zero_le _) (fun _ q=>List.mem_append_right _ q) (fun _ q=>List.mem_append_left _ q)
  refine ⟨fun i=>if i < acc.length then cs i else D,fun i=>if i < acc.length then «as» i else af,fun i s e=>?_,fun i j s hij e=>?_,fun i o hi ho hc=>?_,by simp,fun i hi=>?_⟩
  ·rw [List.reverse_cons,nth_snoc,List.length_reverse] at e
   rw [List.reverse_cons,nth_snoc,List.length_reverse,← hl.1]
   split at e
   ·rename_i hi
    simp only [if_pos hi]
    exact h1 i s e
   ·rename_i hi
    split at e
    case isFalse=>cases e
    rename_i hi2
    cases e
    simp only [if_neg hi,if_pos hi2]
    exact ⟨trivial,trivial,S,R⟩
  ·rw [List.reverse_cons,nth_snoc,List.length_reverse] at e
   split at e
   ·rename_i hj2
    simp only [if_pos hj2,if_pos (show i < acc.length by omega)]
    exact h2 i j s hij e
   ·rename_i hj2
    split at e
    case isFalse=>cases e
    cases e
    simp only [if_neg hj2]
    by_cases hi:i < acc.length
    ·simp only [if_pos hi]; exact hlast i hi
    ·simp only [if_neg hi]; exact Stp.refl _ _ _
  ·simp only [List.length_cons] at hi
   by_cases hi2:i + 1 < acc.length
   ·simp only [if_pos hi2,if_pos (show i < acc.length by omega)]
    exact h3 i o hi2 ho hc
   ·simp only [if_neg hi2,if_pos (show i < acc.length by omega)]
    have e:i = acc.length - 1:=by omega
    have:=nx o (by rw [← e]; exact ho) hc
    rw [e,h4]
    exact this
  ·by_cases hi2:i < acc.length
   ·simp only [if_pos hi2]; exact hlast i hi2
   ·simp only [if_neg hi2]; exact Stp.refl _ _ _
theorem nth_lt {α:Type} {l:List α} {i:Nat} {x:α} (h:nth l i = some x):i < l.length:=by
 rw [nth_l] at h
 exact (List.getElem?_eq_some_iff.1 h).1
theorem same1_sm {x:Value} (h:smV x = true):same1 x x = true:=by
 cases x <;> first
  | (simp [smV] at h; done)
  | simp [same1]
theorem smb_ok {C:Cx} {p:PV} {x:Value} (h:RV C p x) (k:smb p = true):same1 x x = true:=by
 apply same1_sm
 cases p with
 | v y=>cases h; exact k
 | ref=>cases h; assumption
 | sl=>cases h; assumption
 | mp=>cases h; assumption
 | fs=>cases h with | fs q=>cases q; rfl
 | fp=>cases h; rfl
 | _=>cases k
theorem smL_ok {C:Cx}:∀ {ps:List PV} {xs:List Value},RVs C ps xs → ps.all smb = true → sameL xs xs = true
 | _,_,.nil,_=>rfl
 | _,_,.cons a b,h=>by
  simp only [List.all_cons,Bool.and_eq_true] at h
  simp only [sameL,Bool.and_eq_true]
  exact ⟨smb_ok a h.1,smL_ok b h.2⟩
theorem wan_ok {C:Cx} {fr:PF} {af:Fr} (h:RFr C fr af) {o:AO} (k:o.wanted af = true):wanp o fr = true:=by
 obtain ⟨g,d,p⟩:=o
 cases g with
 | none=>rfl
 | some q =>
  obtain ⟨t,b⟩:=q
  simp only [wanp]
  have:=h t
  split
  ·rename_i x e
   rw [e] at this
   rw [wanted_eq,this.toV] at k
   exact k
  ·rfl
theorem not_im {C:Cx} (S:StH C) {W:List Nat} {b:Nat} (hs:solid C.h b) (hb:b ∉ W):¬ im C (· ∈ W) (C.φ b):=by
 rintro ⟨b',hb',hs',e⟩
 exact hb (S.inj _ _ hs' hs e ▸ hb')
theorem ldc_ok {C D:Cx} {W:List Nat} (S:StH C) (T:Stp 0 (· ∈ W) C D) {n:Nat} {p:PV} {x:Value} (h:RV C p x) (k:pldc n p C.h W = true) :
  ∃ a l,x = .pointer (some a) ∧ C.H.ldn a n = some l ∧ sameAt D.H (a,l) = true:=by
 cases p with
 | ref b o t =>
  simp only [pldc] at k
  split at k
  case h_2=>cases k
  rename_i z cs hh
  simp only [Bool.and_eq_true,decide_eq_true_eq,Bool.not_eq_true',List.contains_eq_mem,decide_eq_false_iff_not] at k
  obtain ⟨⟨⟨⟨k1,k2⟩,k3⟩,k4⟩,k5⟩:=k
  obtain ⟨vs,hg,hv,h0⟩:=S.cells (t:=t) hh (by omega)
  have hvl:=hv.length
  have hx:=ref_at h (t:=t) (by unfold ptot; rw [hh]; simp [k1])
  have hl:C.H.ldn ⟨C.φ b,o,none⟩ n = some ((vs.drop o).take n):=ldn_get hg h0 (by omega)
  have hs:=solid_cells hh (by intro e; subst e; simp at k1; omega)
  have hD:=T.out _ (S.lt hs) (not_im S hs k4)
  refine ⟨_,_,hx,hl,?_⟩
  rw [sameAt_p,ldn_same hD T.n0,show ((vs.drop o).take n).length = n by simp; omega,hl]
  exact smL_ok ((hv.drop o).take n) k5
 | fp cells =>
  simp only [pldc,Bool.and_eq_true,decide_eq_true_eq] at k
  have h':=h
  cases h with | @fp _ b o vs hf hl hc =>
  have hl2:C.H.ldn ⟨b,o,none⟩ n = some (vs.take n):=by
   have:=ldn_ok S h' (n:=n) (q:=.agg (cells.take n)) (by simp [pldn,k.1])
   obtain ⟨y,hy,hr⟩:=this
   simp only [ldnV_p] at hy
   cases hq:C.H.ldn ⟨b,o,none⟩ n with
   | none=>rw [hq] at hy; cases hy
   | some l =>
    have e1:l = vs.take n:=by
     have e0:∀ (j:Nat) (v:Value),l[j]? = some v → (vs.take n)[j]? = some v:=by
      intro j v hj
      have hjn:=(ldn_some hq).2
      have hjl:=(List.getElem?_eq_some_iff.1 hj).1
      have a1:=ld_of_ldn hq hj
      have hv:j < vs.length:=by have:=(ldn_some hl).2; omega
      have a2:=ld_of_ldn hl (j:=j) (List.getElem?_eq_getElem hv)
      rw [a1] at a2
      rw [List.getElem?_take,if_pos (by omega),List.getElem?_eq_getElem hv]
      exact a2.symm
     have hlen:l.length = (vs.take n).length:=by
      have:=(ldn_some hq).2
      have:=(ldn_some hl).2
      simp; omega
     apply List.ext_getElem?
     intro j
     by_cases hj:j < l.length
     ·rw [e0 j _ (List.getElem?_eq_getElem hj),List.getElem?_eq_getElem hj]
     ·rw [List.getElem?_eq_none (by omega),List.getElem?_eq_none (by omega)]
    rw [e1]
  refine ⟨⟨b,o,none⟩,vs.take n,rfl,hl2,?_⟩
  rw [sameAt_p,ldn_same (T.fz _ hf).2 T.n0,show (vs.take n).length = n by have:=(ldn_some hl).2; simp; omega,hl2]
  exact smL_ok (hc.take n).toV k.2
 | _=>cases k
theorem ldo_ok {C D:Cx} {W:List Nat} (S:StH C) (T:Stp 0 (· ∈ W) C D) {o:AO} {fr:PF} {af:Fr} (h:RFr C fr af) (k:pldo o.o fr C.h W = true):∃ x,loadOf o af C.H = some x ∧ sameAt D.H x = true:=by
 obtain ⟨g,d,p⟩:=o
 cases p <;> first
  | (cases k; done)
  | skip
 ·obtain ⟨a,l,e1,e2,e3⟩:=ldc_ok S T (h.ev _) k
  exact ⟨(a,l),by simp only [loadOf,e1,e2]; rfl,e3⟩
 ·obtain ⟨a,l,e1,e2,e3⟩:=ldc_ok S T (h.ev _) k
  exact ⟨(a,l),by simp only [loadOf,e1,e2]; rfl,e3⟩
theorem sameB_sm {z:Nat} {vs:List Value} (h:sameL vs vs = true):sameB (some (.cells z vs)) (some (.cells z vs)) = true:=by simp [sameB,h,nb]
theorem new_same {C X D:Cx} {V W:List Nat} (S:StH C) (SX:StH X) (T:Stp 0 (· ∈ V) C X) (TD:Stp 0 (· ∈ W) X D) (hnx:X.H.nx ≤ C.H.nx + 1) (k:pnew C.h.length X.h W = true):sameB (X.H.get C.H.nx) (D.H.get C.H.nx) = true:=by
 simp only [pnew,Bool.and_eq_true,Bool.not_eq_true',List.contains_eq_mem,decide_eq_false_iff_not] at k
 obtain ⟨k1,k2⟩:=k
 have key:∀ (hs:solid X.h C.h.length),X.φ C.h.length = C.H.nx ∧ D.H.get C.H.nx = X.H.get C.H.nx:=by
  intro hs
  have e:X.φ C.h.length = C.H.nx:=by
   rcases T.loc _ hs with q | ⟨q,_⟩
   ·have:=SX.lt hs; omega
   ·exact absurd (solid_lt q) (Nat.lt_irrefl _)
  refine ⟨e,?_⟩
  have:=TD.out _ (SX.lt hs) (not_im SX hs k1)
  rwa [e] at this
 split at k2
 ·rename_i z c cs hh
  obtain ⟨a,b⟩:=key (solid_cells hh (by simp))
  obtain ⟨vs,hg,hv,_⟩:=SX.cells (t:=0) hh (by simp)
  rw [b,← a,hg]
  exact sameB_sm (smL_ok hv (by simpa using k2))
 ·rename_i hh
  obtain ⟨a,b⟩:=key (solid_map hh)
  obtain ⟨ys,hg,h1,_⟩:=SX.mpb _ _ hh
  rw [b,← a,hg]
  cases ys with
  | nil=>rfl
  | cons=>simp at h1
 ·cases k2
theorem padr_ok {C:Cx} (S:StH C) {o:AO} {fr:PF} {af:Fr} (h:RFr C fr af) {r:Option Nat} (k:padr o.o fr C.h = some r):∃ a,adrOf o af = some a ∧ ((∃ b,r = some b ∧ solid C.h b ∧ a = C.φ b) ∨ (r = none ∧ C.F a)):=by
 have go:∀ x:X,(match pev fr x with | .ref b _ t=>if ptot C.h b = some t ∧ 0 < t then some (some b) else none | .fp _=>some none | _=>none) = some r →
   ∃ a,(match x.ev af with | .pointer (some a)=>some a.block | _=>none) = some a ∧ ((∃ b,r = some b ∧ solid C.h b ∧ a = C.φ b) ∨ (r = none ∧ C.F a)):=by
  intro x k
  have hx:=h.ev x
  split at k
  ·rename_i b o t e
   rw [e] at hx
   split at k
   case isFalse=>cases k
   rename_i ht
   cases k
   rw [ref_at hx ht.1]
   refine ⟨_,rfl,.inl ⟨b,rfl,?_,rfl⟩⟩
   have:=ht.1
   unfold ptot at this
   split at this
   ·rename_i z cs hh
    cases this
    exact solid_cells hh (List.length_pos_iff.1 ht.2)
   ·cases this
  ·rename_i c e
   rw [e] at hx
   cases k
   revert hx
   generalize x.ev af = y
   intro hx
   cases hx with | fp hf _ _=>exact ⟨_,rfl,.inr ⟨rfl,hf⟩⟩
  ·cases k
 obtain ⟨g,d,p⟩:=o
 cases p <;> first
  | (cases k; done)
  | exact go _ k
  | skip
 ·rename_i sz x lo hi mx
  simp only [padr] at k
  have hx:=h.ev x
  split at k
  case h_2=>cases k
  rename_i sz' b o n c e
  rw [e] at hx
  split at k
  case isFalse=>cases k
  rename_i hc
  cases k
  obtain ⟨z,cs,hh,ht⟩:=at_valid hc.1
  rcases sl_at hx hh ht.symm with ⟨q,_⟩ | ⟨_,q⟩
  ·omega
  ·refine ⟨C.φ b,by simp only [adrOf,q]; rfl,.inl ⟨b,rfl,solid_cells hh ?_,rfl⟩⟩
   intro e
   subst e
   have:=Nat.mul_pos (show 0 < o + c by omega) hc.2.2
   simp at ht
   omega
 ·rename_i kk z x ky ok
  simp only [padr] at k
  have hx:=h.ev x
  split at k
  case h_2=>cases k
  rename_i b e
  rw [e] at hx
  split at k
  case h_2=>cases k
  rename_i es hh
  cases k
  exact ⟨C.φ b,by simp only [adrOf,mp_is hx hh],.inl ⟨b,rfl,solid_map hh,rfl⟩⟩
theorem apart_ok {C D:Cx} {W:Nat → Prop} (S:StH C) (SD:StH D) (T:Stp 0 W C D) {o q:AO} {fr gr:PF} {af ag:Fr} (h:RFr C fr af) (g:RFr D gr ag) (k:papart (padr o.o fr C.h) (padr q.o gr D.h) = true) :
  (match adrOf o af,adrOf q ag with | some b,some b'=>!Nat.beq b b' | _,_=>true) = true:=by
 unfold papart at k
 split at k
 ·rename_i b c e1 e2
  obtain ⟨x,hx,hx'⟩:=padr_ok S h e1
  obtain ⟨y,hy,hy'⟩:=padr_ok SD g e2
  rcases hx' with ⟨b1,e,s1,rfl⟩ | ⟨e,_⟩ <;> cases e
  rcases hy' with ⟨c1,e,s2,rfl⟩ | ⟨e,_⟩ <;> cases e
  rw [hx,hy]
  simp only [nb,Bool.not_eq_true',decide_eq_false_iff_not] at k ⊢
  intro e
  rcases T.loc _ s2 with q | ⟨q,e'⟩
  ·have:=S.lt s1; omega
  ·exact k (S.inj _ _ s1 q (e.trans e'))
 ·rename_i c e1 e2
  obtain ⟨x,hx,hx'⟩:=padr_ok S h e1
  obtain ⟨y,hy,hy'⟩:=padr_ok SD g e2
  rcases hx' with ⟨b1,e,s1,rfl⟩ | ⟨e,hf⟩ <;> cases e
  rcases hy' with ⟨c1,e,s2,rfl⟩ | ⟨e,_⟩ <;> cases e
  rw [hx,hy]
  simp only [nb,Bool.not_eq_true',decide_eq_false_iff_not]
  intro e
  exact (SD.old s2).2 (e ▸ (T.fz _ hf).1)
 ·cases k
theorem pck_ok {l0:List AO} {W:List Nat} {acc:List (PF × PH × List Nat)} {acc':List (Fr × AH)} {D:Cx} (h:Hist l0 acc acc' D W) {k p q:Nat}
  (e:pck k p q (nth l0 p) (nth acc.reverse p) (nth acc.reverse (p + 1)) (nth l0 q) (nth acc.reverse q) (nth acc.reverse (q + 1)) = true):chk1 l0 acc'.reverse (k,p,q) = true:=by
 unfold pck at e
 split at e
 case h_2=>cases e
 rename_i op fp hp Wp fp' hp' Wp' oq fq hq Wq fq' hq' W' e1 e2 e3 e4 e5 e6
 simp only [Bool.and_eq_true,decide_eq_true_eq] at e
 obtain ⟨hpq,e⟩:=e
 obtain ⟨cs,«as»,h1,h2,h3,_⟩:=h.fam
 obtain ⟨p1,p2,p3,p4⟩:=h1 _ _ e2
 obtain ⟨r1,r2,r3,r4⟩:=h1 _ _ e3
 obtain ⟨q1,q2,q3,q4⟩:=h1 _ _ e5
 obtain ⟨t1,t2,t3,t4⟩:=h1 _ _ e6
 have l1:=nth_lt e6
 rw [List.length_reverse] at l1
 simp only [chk1,e1,p2,r2,e4,q2,t2]
 by_cases w1:op.wanted («as» p) = true
 case neg=>simp [w1]
 by_cases w2:oq.wanted («as» q) = true
 case neg=>simp [w2]
 have w1':=wan_ok p4 w1
 have w2':=wan_ok q4 w2
 simp only at w1' w2' p1 q1 r1
 rw [w1',w2'] at e
 simp only [Bool.not_true,Bool.false_or] at e
 rw [w1,w2]
 simp only [Bool.not_true,Bool.false_or]
 match k with
 | 0 =>
  simp only at e ⊢
  rw [← p1] at e
  obtain ⟨x,h1,h2⟩:=ldo_ok (o:=op) p3 (h2 p (q + 1) _ (by omega) e6) p4 e
  rw [h1]
  exact h2
 | 1 =>
  simp only [Bool.and_eq_true,Bool.not_eq_true'] at e ⊢
  rw [← p1,← r1] at e
  exact new_same p3 r3 (h2 p (p + 1) _ (by omega) e3) (h2 (p + 1) (q + 1) _ (by omega) e6) (h3 p op (by omega) e1 e.1) e.2
 | k + 2 =>
  simp only at e ⊢
  rw [← p1,← q1] at e
  exact apart_ok p3 q3 (h2 p q _ (by omega) e5) p4 q4 e
theorem Hist.chn {l0:List AO} {W:List Nat} {acc:List (PF × PH × List Nat)} {acc':List (Fr × AH)} {D:Cx} (h:Hist l0 acc acc' D W):chain acc'.reverse = true:=by
 have snoc:∀ (l:List (Fr × AH)) (a b:Fr × AH),chain (l ++ [a]) = true → a.2.n0 = b.2.n0 → a.2.nx ≤ b.2.nx → chain (l ++ [a] ++ [b]) = true:=by
  intro l
  induction l with
  | nil=>intro a b _ h1 h2; simp [A.chain,h1,h2]
  | cons x l ih =>
   intro a b h h1 h2
   cases l with
   | nil=>simp only [List.cons_append,List.nil_append,A.chain,Bool.and_true,Bool.and_eq_true] at h ⊢; refine ⟨h,?_⟩; simp [h1,h2]
   | cons y l =>
    simp only [List.cons_append,A.chain,Bool.and_eq_true] at h ⊢
    exact ⟨h.1,by simpa using ih a b h.2 h1 h2⟩
 induction h with
 | one=>rfl
 | @cons C D acc acc' fr af V W H0 T S R nx ih =>
  cases H0 with
  | one=>simp [A.chain,T.n0,T.nx]
  | cons =>
   simp only [List.reverse_cons] at ih ⊢
   exact snoc _ _ _ ih T.n0.symm T.nx
theorem okP_ok {l0:List AO} {W:List Nat} {acc:List (PF × PH × List Nat)} {acc':List (Fr × AH)} {D:Cx} (h:Hist l0 acc acc' D W) {ck:List (Nat × Nat × Nat)} (e:okP l0 ck acc = true):okD l0 ck acc' = true:=by
 unfold okD
 rw [Bool.and_eq_true]
 refine ⟨h.chn,?_⟩
 unfold okP at e
 rw [List.all_eq_true] at e ⊢
 rintro ⟨k,p,q⟩ hc
 exact pck_ok h (e _ hc)
end Go.Proofs.YtoijnpfpjpefgaaGreat.A.P
/- A text without what this claim does not need: Pm8. -/
set_option linter.unusedVariables false
set_option linter.unusedSimpArgs false
namespace Go.Proofs.YtoijnpfpjpefgaaGreat.A.P
open Go Go.RowKit
theorem splice_nx {H H':AH} {a:Addr} {vs:List Value} (h:H.st a vs = some H'):H'.nx = H.nx:=by
 unfold AH.st at h
 split at h
 ·obtain ⟨_,h⟩:=bif_some h
  cases h; rfl
 ·cases h
theorem aop_nx {o:AOp} {ρ:X → Value} {H:AH} {b:Option (Value × AH)} {x:Value} {H':AH} (e:aop o ρ H = up b) (hb:b = some (x,H')):H'.nx ≤ H.nx + 1:=by
 subst hb
 simp only [up,Option.map_some] at e
 have app:∀ {sz bytes:Nat} {s y z:Value} {H':AH},aappend sz bytes H s y = some (z,H') → H'.nx ≤ H.nx + 1:=by
  intro sz bytes s y z H' h
  unfold aappend at h
  split at h
  case h_2=>cases h
  split at h
  ·obtain ⟨_,h⟩:=bif_some h; cases h; omega
  ·split at h
   ·cases h
   ·obtain ⟨_,h⟩:=bif_some h
    split at h
    ·split at h
     ·obtain ⟨_,h⟩:=bif_some h
      rename_i a _ _
      obtain ⟨H2,h2,h3⟩:=Option.map_eq_some_iff.1 h
      cases h3
      have:=splice_nx h2; omega
     ·cases h
    ·split at h
     ·obtain ⟨_,h⟩:=bif_some h; cases h; exact Nat.le_refl _
     ·split at h
      ·obtain ⟨_,h⟩:=bif_some h
       obtain ⟨H2,h2,h3⟩:=Option.map_eq_some_iff.1 h
       cases h3
       exact Nat.le_refl _
      ·cases h
 have cpy:∀ {sz:Nat} {s y z:Value} {H':AH},acopy sz H s y = some (z,H') → H'.nx ≤ H.nx + 1:=by
  intro sz s y z H' h
  unfold acopy at h
  split at h
  case h_2=>cases h
  obtain ⟨c,h1,h⟩:=Option.bind_eq_some_iff.1 h
  split at h
  ·simp only [Bool.cond_eq_ite] at h
   split at h
   ·cases h; exact Nat.le_succ _
   ·obtain ⟨H2,h2,h3⟩:=Option.map_eq_some_iff.1 h
    cases h3
    have:=splice_nx h2; omega
  ·cases h; exact Nat.le_succ _
 cases o <;> simp only [aop] at e
 all_goals first
  | (simp only [Option.some.injEq,Prod.mk.injEq,ARes.v.injEq,reduceCtorEq,false_and] at e; done)
  | skip
 all_goals first
  | (simp only [Option.some.injEq,Prod.mk.injEq] at e; obtain ⟨_,rfl⟩:=e; first | exact Nat.le_succ _ | exact Nat.le_refl _)
  | (obtain ⟨r,h1,h2⟩:=Option.map_eq_some_iff.1 e; simp only [Prod.mk.injEq] at h2; obtain ⟨_,rfl⟩:=h2; first | exact Nat.le_succ _ | exact Nat.le_refl _)
  | skip
 all_goals try simp only [Bool.cond_eq_ite] at e
 all_goals try (repeat' split at e)
 all_goals first
  | (cases e; done)
  | (simp only [Option.some.injEq,Prod.mk.injEq] at e; obtain ⟨_,rfl⟩:=e; first | exact Nat.le_succ _ | exact Nat.le_refl _)
  | (obtain ⟨r,h1,h2⟩:=Option.map_eq_some_iff.1 e; simp only [Prod.mk.injEq] at h2; obtain ⟨_,rfl⟩:=h2; first | exact Nat.le_succ _ | (have:=splice_nx h1; omega) | exact app h1 | exact cpy h1)
  | skip
inductive Kp where
 | seq (c:AC)
 | blk (i:Nat)
 | lp (I:Nat → PF → PH → Prop) (k:Nat)
inductive Mp where
 | pl
 | d0
 | dr (l0:List AO) (ck:List (Nat × Nat × Nat)) (acc:List (PF × PH × List Nat)) (W:List Nat)
def Mp.up:Mp → List Nat → PF → PH → Mp
 | .pl,_,_,_=>.pl
 | .d0,_,_,_=>.d0
 | .dr l0 ck acc W,V,fr,h=>.dr l0 ck ((fr,h,V ++ W) :: acc) (V ++ W)
inductive Cf where
 | code (c:AC) (ks:List Kp)
 | ops (m:Mp) (l:List AO) (ks:List Kp)
 | done (ex:Ex) (ks:List Kp)
def PCw (E:Env) (O:Orc) (f:Nat) (args:List PV) (h:PH) (W:Nat → Prop) (R:PV → PH → Prop):Prop :=
 ∀ F H φ vs,StH ⟨F,H,φ,h⟩ → RVs ⟨F,H,φ,h⟩ args vs → Ca E O f vs H (fun x H'=>∃ r h' F' φ',R r h' ∧ RV ⟨F',H',φ',h'⟩ r x ∧ StH ⟨F',H',φ',h'⟩ ∧ Stp h.length W ⟨F,H,φ,h⟩ ⟨F',H',φ',h'⟩)
abbrev All:Nat → Prop:=fun _=>True
abbrev PCa (E:Env) (O:Orc) (f:Nat) (args:List PV) (h:PH) (R:PV → PH → Prop):Prop:=PCw E O f args h All R
def Gh (n:Nat) (fr:PF) (h:PH) (fr2:PF) (h2:PH):Prop :=
 ∀ F H φ af,StH ⟨F,H,φ,h⟩ → RFr ⟨F,H,φ,h⟩ fr af → ∃ F' φ',StH ⟨F',H,φ',h2⟩ ∧ RFr ⟨F',H,φ',h2⟩ fr2 af ∧ ∀ C0:Cx,C0.h.length = n → Stp n All C0 ⟨F,H,φ,h⟩ → Stp n All C0 ⟨F',H,φ',h2⟩
theorem Gh.refl (n:Nat) (fr:PF) (h:PH):Gh n fr h fr h:=fun F H φ af S R=>⟨F,φ,S,R,fun _ _ k=>k⟩
variable (E:Env) (O:Orc) (n:Nat) (Q:Ex → PF → PH → Prop)
inductive PK:Cf → PF → PH → Prop where
 | skip {ks:List Kp} {fr:PF} {h:PH}:PK (.done .normal ks) fr h → PK (.code .skip ks) fr h
 | ret {ks:List Kp} {fr:PF} {h:PH}:PK (.done .ret ks) fr h → PK (.code .ret ks) fr h
 | exit {i:Nat} {ks:List Kp} {fr:PF} {h:PH}:PK (.done (.exit i) ks) fr h → PK (.code (.exit i) ks) fr h
 | reg {l:List AO} {ks:List Kp} {fr:PF} {h:PH}:PK (.ops .pl l ks) fr h → PK (.code (.reg l) ks) fr h
 | regd {l:List AO} {c:Nat × Nat × Nat} {ck:List (Nat × Nat × Nat)} {ks:List Kp} {fr:PF} {h:PH}:PK (.ops (.dr l (c :: ck) [(fr,h,[])] []) l ks) fr h → PK (.code (.regd l (c :: ck)) ks) fr h
 | regd0 {l:List AO} {ks:List Kp} {fr:PF} {h:PH}:PK (.ops .d0 l ks) fr h → PK (.code (.regd l []) ks) fr h
 | seq {a b:AC} {ks:List Kp} {fr:PF} {h:PH}:PK (.code a (.seq b :: ks)) fr h → PK (.code (.seq a b) ks) fr h
 | block {i:Nat} {a:AC} {ks:List Kp} {fr:PF} {h:PH}:PK (.code a (.blk i :: ks)) fr h → PK (.code (.block i a) ks) fr h
 | cond {x:X} {a b:AC} {t:Bool} {ks:List Kp} {fr:PF} {h:PH}:pev fr x = .v (.bool t) → PK (.code (bif t then a else b) ks) fr h → PK (.code (.cond x a b) ks) fr h
 | loop {a:AC} {ks:List Kp} {fr fr2:PF} {h h2:PH} (I:Nat → PF → PH → Prop) (k:Nat):(∀ k fr h,I k fr h → PK (.code a (.lp I k :: ks)) fr h) → Gh n fr h fr2 h2 → I k fr2 h2 → PK (.code (.loop a) ks) fr h
 | onil {ks:List Kp} {fr:PF} {h:PH}:PK (.done .normal ks) fr h → PK (.ops .pl [] ks) fr h
 | onil0 {ks:List Kp} {fr:PF} {h:PH}:PK (.done .normal ks) fr h → PK (.ops .d0 [] ks) fr h
 | onild {l0:List AO} {ck:List (Nat × Nat × Nat)} {acc:List (PF × PH × List Nat)} {W:List Nat} {ks:List Kp} {fr:PF} {h:PH}:okP l0 ck acc = true → PK (.done .normal ks) fr h → PK (.ops (.dr l0 ck acc W) [] ks) fr h
 | op {m:Mp} {d:Option Nat} {p:AOp} {l:List AO} {ks:List Kp} {fr:PF} {h h':PH} {v:PV}:pop p (pev fr) h = some (v,h') → PK (.ops (m.up (pwr p (pev fr)) (fr.putO d v) h') l ks) (fr.putO d v) h' → PK (.ops m (⟨none,d,p⟩ :: l) ks) fr h
 | gon {m:Mp} {t:Nat} {b:Bool} {x:Value} {d:Option Nat} {p:AOp} {l:List AO} {ks:List Kp} {fr:PF} {h:PH}:fr.get t = .v x → wantV b x = true → PK (.ops m (⟨none,d,p⟩ :: l) ks) fr h → PK (.ops m (⟨some (t,b),d,p⟩ :: l) ks) fr h
 | goff {m:Mp} {t:Nat} {b:Bool} {x:Value} {d:Option Nat} {p:AOp} {l:List AO} {ks:List Kp} {fr:PF} {h:PH}:fr.get t = .v x → wantV b x = false → PK (.ops (m.up [] (fr.putO d (.v undef)) h) l ks) (fr.putO d (.v undef)) h → PK (.ops m (⟨some (t,b),d,p⟩ :: l) ks) fr h
 | call {m:Mp} {f:Nat} {«as»:List X} {d:Option Nat} {l:List AO} {ks:List Kp} {fr:PF} {h:PH} {W:List Nat} {R:PV → PH → Prop}:PCw E O f («as».map (pev fr)) h (· ∈ W) R → (∀ r h',R r h' → PK (.ops (m.up W (fr.putO d r) h') l ks) (fr.putO d r) h') → PK (.ops m (⟨none,d,.call f «as»⟩ :: l) ks) fr h
 | callv {m:Mp} {f:Nat} {x:X} {first cap:List PV} {«as»:List X} {d:Option Nat} {l:List AO} {ks:List Kp} {fr:PF} {h:PH} {W:List Nat} {R:PV → PH → Prop}:pev fr x = .fn f first cap → PCw E O f (first ++ «as».map (pev fr) ++ cap) h (· ∈ W) R → (∀ r h',R r h' → PK (.ops (m.up W (fr.putO d r) h') l ks) (fr.putO d r) h') → PK (.ops m (⟨none,d,.callv x «as»⟩ :: l) ks) fr h
 | dnil {ex:Ex} {fr:PF} {h:PH}:Q ex fr h → PK (.done ex []) fr h
 | dns {b:AC} {ks:List Kp} {fr:PF} {h:PH}:PK (.code b ks) fr h → PK (.done .normal (.seq b :: ks)) fr h
 | dnb {i:Nat} {ks:List Kp} {fr:PF} {h:PH}:PK (.done .normal ks) fr h → PK (.done .normal (.blk i :: ks)) fr h
 | dnl {I:Nat → PF → PH → Prop} {k j:Nat} {ks:List Kp} {fr fr2:PF} {h h2:PH}:j < k → Gh n fr h fr2 h2 → I j fr2 h2 → PK (.done .normal (.lp I k :: ks)) fr h
 | des {i:Nat} {b:AC} {ks:List Kp} {fr:PF} {h:PH}:PK (.done (.exit i) ks) fr h → PK (.done (.exit i) (.seq b :: ks)) fr h
 | deb1 {i:Nat} {ks:List Kp} {fr:PF} {h:PH}:PK (.done .normal ks) fr h → PK (.done (.exit i) (.blk i :: ks)) fr h
 | deb0 {i j:Nat} {ks:List Kp} {fr:PF} {h:PH}:j ≠ i → PK (.done (.exit j) ks) fr h → PK (.done (.exit j) (.blk i :: ks)) fr h
 | del {I:Nat → PF → PH → Prop} {k i:Nat} {ks:List Kp} {fr:PF} {h:PH}:PK (.done (.exit i) ks) fr h → PK (.done (.exit i) (.lp I k :: ks)) fr h
 | dret {k:Kp} {ks:List Kp} {fr:PF} {h:PH}:PK (.done .ret ks) fr h → PK (.done .ret (k :: ks)) fr h
variable {E O n Q}
def Live (C0:Cx) (C:Cx):Prop:=StH C ∧ Stp C0.h.length All C0 C
theorem Live.step {C0 C D:Cx} (h:Live C0 C) {W:Nat → Prop} (S:StH D) (T:Stp C.h.length W C D):Live C0 D :=
 ⟨S,h.2.trans (T.mono (h.2.len (Nat.le_refl _)) (fun _ _=>trivial) fun _=>Nat.le_trans (h.2.len (Nat.le_refl _)) (T.len (Nat.le_refl _))) (Nat.le_refl _) (fun _ h=>h) fun _ h=>h⟩
def UP (E:Env) (O:Orc) (C0:Cx) (Q:Ex → PF → PH → Prop):Ex → List Kp → Fr → AH → Prop
 | ex,[],af,H=>∃ fr F φ h,Q ex fr h ∧ Live C0 ⟨F,H,φ,h⟩ ∧ RFr ⟨F,H,φ,h⟩ fr af
 | .normal,.seq b :: ks,af,H=>Wp E O b af H (fun ex af' H'=>UP E O C0 Q ex ks af' H')
 | .normal,.blk _ :: ks,af,H=>UP E O C0 Q .normal ks af H
 | .normal,.lp I k :: ks,af,H=>∃ j,j < k ∧ ∃ fr F φ h,I j fr h ∧ Live C0 ⟨F,H,φ,h⟩ ∧ RFr ⟨F,H,φ,h⟩ fr af
 | .exit j,.seq _ :: ks,af,H=>UP E O C0 Q (.exit j) ks af H
 | .exit j,.blk i :: ks,af,H=>if j = i then UP E O C0 Q .normal ks af H else UP E O C0 Q (.exit j) ks af H
 | .exit j,.lp _ _ :: ks,af,H=>UP E O C0 Q (.exit j) ks af H
 | .ret,_ :: ks,af,H=>UP E O C0 Q .ret ks af H
def Mat (l1 l:List AO):Prop:=l1 = l ∨ ∃ g d p t,l = ⟨none,d,p⟩ :: t ∧ l1 = ⟨g,d,p⟩ :: t
theorem Mat.head {l1 t:List AO} {g:Option (Nat × Bool)} {d:Option Nat} {p:AOp} (h:Mat l1 (⟨g,d,p⟩ :: t)):∃ g',l1 = ⟨g',d,p⟩ :: t:=by
 rcases h with rfl | ⟨g',d',p',t',e,rfl⟩
 ·exact ⟨_,rfl⟩
 ·cases e; exact ⟨_,rfl⟩
def Snd (E:Env) (O:Orc) (C0:Cx) (Q:Ex → PF → PH → Prop) (cf:Cf) (fr:PF) (h:PH):Prop:=∀ F H φ af,Live C0 ⟨F,H,φ,h⟩ → RFr ⟨F,H,φ,h⟩ fr af → match cf with
 | .code c ks=>Wp E O c af H (fun ex af' H'=>UP E O C0 Q ex ks af' H')
 | .ops .pl l ks=>Wo E O l af H (fun af' H'=>UP E O C0 Q .normal ks af' H')
 | .ops .d0 l ks=>∀ l0 acc acc' W,Hist l0 acc acc' ⟨F,H,φ,h⟩ W → Mat (l0.drop (acc.length - 1)) l → Wt E O l af H (fun ss=>okD l0 [] (ss.reverse ++ acc') = true ∧ UP E O C0 Q .normal ks (lastS (af,H) ss).1 (lastS (af,H) ss).2)
 | .ops (.dr l0 ck acc W) l ks=>∀ acc',Hist l0 acc acc' ⟨F,H,φ,h⟩ W → Mat (l0.drop (acc.length - 1)) l → Wt E O l af H (fun ss=>okD l0 ck (ss.reverse ++ acc') = true ∧ UP E O C0 Q .normal ks (lastS (af,H) ss).1 (lastS (af,H) ss).2)
 | .done ex ks=>UP E O C0 Q ex ks af H
theorem Snd.step {C0:Cx} {m:Mp} {g:Option (Nat × Bool)} {d:Option Nat} {p:AOp} {l:List AO} {ks:List Kp} {fr:PF} {h:PH} (one:∀ F H φ af,Live C0 ⟨F,H,φ,h⟩ → RFr ⟨F,H,φ,h⟩ fr af → Wo1 E O ⟨g,d,p⟩ af H (fun af' H'=>∃ fr' F' φ' h' V,Live C0 ⟨F',H',φ',h'⟩ ∧ RFr ⟨F',H',φ',h'⟩ fr' af' ∧ Stp 0 (· ∈ V) ⟨F,H,φ,h⟩ ⟨F',H',φ',h'⟩ ∧ (p.isCall = false → H'.nx ≤ H.nx + 1) ∧ Snd E O C0 Q (.ops (m.up V fr' h') l ks) fr' h')) :
  Snd E O C0 Q (.ops m (⟨g,d,p⟩ :: l) ks) fr h:=by
 intro F H φ af L R
 have mono:∀ {Q1 Q2:Fr → AH → Prop},(∀ a b,Q1 a b → Q2 a b) → Wo1 E O ⟨g,d,p⟩ af H Q1 → Wo1 E O ⟨g,d,p⟩ af H Q2:=fun k ⟨a,b,c,e,q⟩=>⟨a,b,c,e,k _ _ q⟩
 cases m with
 | pl =>
  refine Wo.cons (mono ?_ (one F H φ af L R))
  rintro af' H' ⟨fr',F',φ',h',V,L',R',_,_,k⟩
  exact k F' H' φ' af' L' R'
 | d0 =>
  intro l0 acc acc' W HH hd
  rw [Wt_cons1]
  refine mono ?_ (one F H φ af L R)
  rintro af' H' ⟨fr',F',φ',h',V,L',R',T,hnx,k⟩
  have hl:=HH.length.2
  have HH':Hist l0 ((fr',h',V ++ W) :: acc) ((af',H') :: acc') ⟨F',H',φ',h'⟩ (V ++ W) :=
   .cons HH T L'.1 R' (fun o ho hc=>by
    obtain ⟨g',hd⟩:=hd.head
    have:l0[acc.length - 1]? = some ⟨g',d,p⟩:=by
     have:=congrArg List.head? hd
     simpa [List.head?_drop] using this
    rw [nth_l,this] at ho
    cases ho
    exact hnx hc)
  have hd':Mat (l0.drop (((fr',h',V ++ W) :: acc).length - 1)) l:=by
   obtain ⟨g',hd⟩:=hd.head
   left
   simp only [List.length_cons,Nat.add_sub_cancel]
   rw [show acc.length = acc.length - 1 + 1 by omega,← List.drop_drop,hd]
   rfl
  have:=k F' H' φ' af' L' R' l0 _ ((af',H') :: acc') _ HH' hd'
  refine (fun ⟨a,b,e,q⟩=>⟨a,b,e,?_⟩:Wt E O l af' H' _ → Wt E O l af' H' _) this
  simpa [lastS] using q
 | dr l0 ck acc W =>
  intro acc' HH hd
  rw [Wt_cons1]
  refine mono ?_ (one F H φ af L R)
  rintro af' H' ⟨fr',F',φ',h',V,L',R',T,hnx,k⟩
  have hl:=HH.length.2
  have HH':Hist l0 ((fr',h',V ++ W) :: acc) ((af',H') :: acc') ⟨F',H',φ',h'⟩ (V ++ W) :=
   .cons HH T L'.1 R' (fun o ho hc=>by
    obtain ⟨g',hd⟩:=hd.head
    have:l0[acc.length - 1]? = some ⟨g',d,p⟩:=by
     have:=congrArg List.head? hd
     simpa [List.head?_drop] using this
    rw [nth_l,this] at ho
    cases ho
    exact hnx hc)
  have hd':Mat (l0.drop (((fr',h',V ++ W) :: acc).length - 1)) l:=by
   obtain ⟨g',hd⟩:=hd.head
   left
   simp only [List.length_cons,Nat.add_sub_cancel]
   rw [show acc.length = acc.length - 1 + 1 by omega,← List.drop_drop,hd]
   rfl
  have:=k F' H' φ' af' L' R' ((af',H') :: acc') HH' hd'
  refine (fun ⟨a,b,e,q⟩=>⟨a,b,e,?_⟩:Wt E O l af' H' _ → Wt E O l af' H' _) this
  simpa [lastS] using q
theorem PK.sound {C0:Cx} (hn:n = C0.h.length):∀ {cf:Cf} {fr:PF} {h:PH},PK E O n Q cf fr h → Snd E O C0 Q cf fr h:=by
 intro cf fr h k
 induction k with
 | skip _ ih=>exact fun F H φ af L R=>Wp.skip (ih F H φ af L R)
 | ret _ ih=>exact fun F H φ af L R=>Wp.ret (ih F H φ af L R)
 | exit _ ih=>exact fun F H φ af L R=>Wp.exit (ih F H φ af L R)
 | reg _ ih=>exact fun F H φ af L R=>Wp.reg (ih F H φ af L R)
 | @regd l c ck ks fr h _ ih =>
  intro F H φ af L R
  have:=ih F H φ af L R [(af,H)] (.one L.1 R) (.inl rfl)
  refine Wp.regd ?_
  obtain ⟨a,ss,e,h1,h2⟩:=this
  unfold okD at h1
  simp only [List.reverse_append,List.reverse_cons,List.reverse_nil,List.nil_append,List.reverse_reverse,List.cons_append,Bool.and_eq_true] at h1
  exact ⟨a,ss,e,h1,h2⟩
 | @regd0 l ks fr h _ ih =>
  intro F H φ af L R
  have:=ih F H φ af L R l _ [(af,H)] _ (.one L.1 R) (.inl rfl)
  refine Wp.regd ?_
  obtain ⟨a,ss,e,h1,h2⟩:=this
  unfold okD at h1
  simp only [List.reverse_append,List.reverse_cons,List.reverse_nil,List.nil_append,List.reverse_reverse,List.cons_append,Bool.and_eq_true] at h1
  exact ⟨a,ss,e,h1,h2⟩
 | @seq a b ks fr h _ ih =>
  intro F H φ af L R
  refine Wp.seq ((ih F H φ af L R).mono ?_)
  intro ex fr' H' q
  cases ex <;> exact q
 | @block i a ks fr h _ ih =>
  intro F H φ af L R
  refine Wp.block ((ih F H φ af L R).mono ?_)
  intro ex fr' H' q
  cases ex <;> exact q
 | @cond x a b t ks fr h e _ ih =>
  intro F H φ af L R
  have hx:=R.ev x
  rw [e] at hx
  exact Wp.cond hx.toV (by
   have:=ih F H φ af L R
   cases t <;> exact this)
 | @loop a ks fr fr2 h h2 I k _ g hI ih =>
  intro F H φ af L R
  obtain ⟨F',φ',S',R',T'⟩:=g F H φ af L.1 R
  refine Wp.loop (fun k af H=>∃ fr F φ h,I k fr h ∧ Live C0 ⟨F,H,φ,h⟩ ∧ RFr ⟨F,H,φ,h⟩ fr af) ?_ k ⟨fr2,F',φ',h2,hI,⟨S',hn ▸ T' C0 hn.symm (hn ▸ L.2)⟩,R'⟩
  rintro k af H ⟨fr,F,φ,h,hI,L,R⟩
  refine (ih k fr h hI F H φ af L R).mono ?_
  intro ex af' H' q
  cases ex <;> exact q
 | onil _ ih=>exact fun F H φ af L R=>Wo.nil (ih F H φ af L R)
 | onil0 _ ih=>exact fun F H φ af L R l0 acc acc' W HH hd=>Wt.nil ⟨by have:=okP_ok HH (ck:=[]) rfl; simpa using this,ih F H φ af L R⟩
 | @onild l0 ck acc W ks fr h ok _ ih =>
  intro F H φ af L R acc' HH hd
  exact Wt.nil ⟨by simpa using okP_ok HH ok,ih F H φ af L R⟩
 | @op m d p l ks fr h h' v e _ ih =>
  refine Snd.step fun F H φ af L R=>?_
  obtain ⟨b,hb,x,H',φ',rfl,hx,S,T⟩:=pop_ok L.1 (R.ev) e
  refine Wo1.val rfl hb ?_
  exact ⟨_,F,φ',h',_,L.step S T,(R.step T).putO hx d,T.mono (Nat.zero_le _) (fun _ h=>h) (fun _=>Nat.zero_le _),fun _=>aop_nx hb rfl,ih⟩
 | @gon m t b x d p l ks fr h e hw _ ih =>
  have eqv:∀ {af:Fr} {H:AH} {Q:Fr → AH → Prop},AO.wanted ⟨some (t,b),d,p⟩ af = true → Wo1 E O ⟨none,d,p⟩ af H Q → Wo1 E O ⟨some (t,b),d,p⟩ af H Q:=by
   intro af H Q h1 h2
   rw [Wo1_on _ _ _ _ h1]
   rwa [Wo1_on _ _ _ _ rfl] at h2
  intro F H φ af L R
  have hx:=R t
  rw [e] at hx
  have hwa:AO.wanted ⟨some (t,b),d,p⟩ af = true:=by rw [wanted_eq,hx.toV]; exact hw
  have:=ih F H φ af L R
  cases m with
  | pl =>
   refine Wo.cons (eqv hwa ?_)
   exact (Wo_cons1 _ _ _ _ _).1 this
  | d0 =>
   intro l0 acc acc' W HH hd
   rw [Wt_cons1]
   obtain ⟨g',hd⟩:=hd.head
   exact eqv hwa ((Wt_cons1 _ _ _ _ _).1 (this l0 acc acc' W HH (.inr ⟨g',d,p,l,rfl,hd⟩)))
  | dr l0 ck acc W =>
   intro acc' HH hd
   rw [Wt_cons1]
   obtain ⟨g',hd⟩:=hd.head
   exact eqv hwa ((Wt_cons1 _ _ _ _ _).1 (this acc' HH (.inr ⟨g',d,p,l,rfl,hd⟩)))
 | @goff m t b x d p l ks fr h e hw _ ih =>
  refine Snd.step fun F H φ af L R=>?_
  have hx:=R t
  rw [e] at hx
  refine Wo1.off (by rw [wanted_eq,hx.toV]; exact hw) ?_
  exact ⟨_,F,φ,h,[],L,R.putO (.v _) d,Stp.refl _ _ _,fun _=>Nat.le_succ _,ih⟩
 | @call m f «as» d l ks fr h W R hc _ ih =>
  refine Snd.step fun F H φ af L R'=>?_
  refine Wo1.call rfl rfl ?_
  refine (hc F H φ _ L.1 (RVs.of R'.ev «as»)).mono ?_
  rintro x H' ⟨r,h',F2,φ2,hR,hx,S2,T2⟩
  exact ⟨_,F2,φ2,h',W,L.step S2 T2,(R'.step T2).putO hx d,T2.mono (Nat.zero_le _) (fun _ h=>h) (fun _=>Nat.zero_le _),(fun q=>by cases q),ih r h' hR⟩
 | @callv m f x first cap «as» d l ks fr h W R hf hc _ ih =>
  refine Snd.step fun F H φ af L R'=>?_
  have hx:=R'.ev x
  rw [hf] at hx
  revert hx
  generalize hy:X.ev af x = y
  intro hx
  cases hx with | @fn _ _ _ xs ys ha hb =>
  refine Wo1.call rfl (f:=f) («as»:=xs ++ «as».map (X.ev af) ++ ys) (H1:=H) (by simp only [aop,hy]) ?_
  refine (hc F H φ _ L.1 ((ha.append (RVs.of R'.ev «as»)).append hb)).mono ?_
  rintro x H' ⟨r,h',F2,φ2,hR,hx,S2,T2⟩
  exact ⟨_,F2,φ2,h',W,L.step S2 T2,(R'.step T2).putO hx d,T2.mono (Nat.zero_le _) (fun _ h=>h) (fun _=>Nat.zero_le _),(fun q=>by cases q),ih r h' hR⟩
 | @dnil ex fr h q=>
  intro F H φ af L R
  simp only [UP]
  exact ⟨fr,F,φ,h,q,L,R⟩
 | dns _ ih=>exact fun F H φ af L R=>ih F H φ af L R
 | dnb _ ih=>exact fun F H φ af L R=>ih F H φ af L R
 | @dnl I k j ks fr fr2 h h2 hj g hI =>
  intro F H φ af L R
  obtain ⟨F',φ',S',R',T'⟩:=g F H φ af L.1 R
  exact ⟨j,hj,fr2,F',φ',h2,hI,⟨S',hn ▸ T' C0 hn.symm (hn ▸ L.2)⟩,R'⟩
 | des _ ih=>exact fun F H φ af L R=>ih F H φ af L R
 | @deb1 i ks fr h _ ih =>
  intro F H φ af L R
  show (if i = i then _ else _)
  rw [if_pos rfl]
  exact ih F H φ af L R
 | @deb0 i j ks fr h hj _ ih =>
  intro F H φ af L R
  show (if j = i then _ else _)
  rw [if_neg hj]
  exact ih F H φ af L R
 | del _ ih=>exact fun F H φ af L R=>ih F H φ af L R
 | @dret k ks fr h _ ih =>
  intro F H φ af L R
  cases k <;> exact ih F H φ af L R
end Go.Proofs.YtoijnpfpjpefgaaGreat.A.P
/- A text without what this claim does not need: Pm9. -/
set_option linter.unusedVariables false
set_option linter.unusedSimpArgs false
namespace Go.Proofs.YtoijnpfpjpefgaaGreat.A.P
open Go Go.RowKit
section
variable {E:Env} {O:Orc} {n:Nat} {Q:Ex → PF → PH → Prop} {ks:List Kp} {fr:PF} {h:PH}
theorem PCw.mono {f:Nat} {args:List PV} {W:Nat → Prop} {R R':PV → PH → Prop} (k:PCw E O f args h W R) (hr:∀ r h',R r h' → R' r h'):PCw E O f args h W R':=fun F H φ vs S Rv =>
 (k F H φ vs S Rv).mono fun x H' ⟨r,h',F',φ',a,b⟩=>⟨r,h',F',φ',hr _ _ a,b⟩
def RSp.get (fr:PF) (h:PH):RS → Option PV
 | .tmp t=>some (fr.get t)
 | .cell t _=>pld h (fr.get t)
 | .cells t n=>pldn n h (fr.get t)
def RSp.all (fr:PF) (h:PH):List RS → Option (List PV)
 | []=>some []
 | r :: l=>match RSp.get fr h r,RSp.all fr h l with | some v,some vs=>some (v :: vs) | _,_=>none
def outP:List PV → PV
 | [v]=>v
 | vs=>.tup vs
def GhR (n:Nat) (r:PV) (h:PH) (r2:PV) (h2:PH):Prop :=
 ∀ F H φ x,StH ⟨F,H,φ,h⟩ → RV ⟨F,H,φ,h⟩ r x → ∃ F' φ',StH ⟨F',H,φ',h2⟩ ∧ RV ⟨F',H,φ',h2⟩ r2 x ∧ ∀ C0:Cx,C0.h.length = n → Stp n All C0 ⟨F,H,φ,h⟩ → Stp n All C0 ⟨F',H,φ',h2⟩
def retP (n:Nat) (res:List RS) (R:PV → PH → Prop):Ex → PF → PH → Prop
 | .exit _,_,_=>False
 | _,fr,h=>∃ vs,RSp.all fr h res = some vs ∧ ∃ r2 h2,GhR n (outP vs) h r2 h2 ∧ R r2 h2
theorem RS_ok {C:Cx} (S:StH C) {fr:PF} {af:Fr} (R:RFr C fr af):∀ {res:List RS} {ps:List PV},RSp.all fr C.h res = some ps → ∃ xs,RS.all af C.H res = some xs ∧ RVs C ps xs
 | [],ps,e=>by cases e; exact ⟨[],rfl,.nil⟩
 | r :: l,ps,e=>by
  simp only [RSp.all] at e
  split at e
  case h_2=>cases e
  rename_i p qs h1 h2
  cases e
  obtain ⟨xs,k1,k2⟩:=RS_ok S R h2
  obtain ⟨x,k3,k4⟩:∃ x,RS.get af C.H r = some x ∧ RV C p x:=by
   cases r with
   | tmp t=>cases h1; exact ⟨_,rfl,R t⟩
   | cell t _ =>
    obtain ⟨y,hy,ry⟩:=ld_ok S (R t) h1
    refine ⟨y,?_,ry⟩
    simp only [RS.get]
    cases hq:af.get t with
    | pointer a=>rw [hq] at hy; cases a <;> exact hy
    | _=>rw [hq] at hy; cases hy
   | cells t m =>
    obtain ⟨y,hy,ry⟩:=ldn_ok S (R t) h1
    refine ⟨y,?_,ry⟩
    simp only [RS.get]
    cases hq:af.get t with
    | pointer a=>rw [hq] at hy; cases a <;> exact hy
    | _=>rw [hq] at hy; cases hy
  exact ⟨x :: xs,by simp only [RS.all,k1,k3],.cons k4 k2⟩
theorem out_ok {C:Cx} {ps:List PV} {xs:List Value} (h:RVs C ps xs):RV C (outP ps) (outOf xs):=by
 cases h with
 | nil=>exact .tup (xs:=[]) .nil
 | cons a b =>
  cases b with
  | nil=>exact a
  | cons b c=>exact .tup (xs:=_ :: _ :: _) (.cons a (.cons b c))
theorem PCa.body {f:Nat} {F:AF} {args:List PV} {R:PV → PH → Prop} (ho:O f = none) (he:E f = some F) (hl:args.length = F.np) (k:PK E O h.length (retP h.length F.res R) (.code F.body []) (PF.of args) h):PCa E O f args h R:=by
 intro Fz H φ vs S Rv
 refine Ca.body ho he (by rw [← Rv.length,hl]) ?_
 have L:Live ⟨Fz,H,φ,h⟩ ⟨Fz,H,φ,h⟩:=⟨S,Stp.refl _ _ _⟩
 refine (k.sound (C0:=⟨Fz,H,φ,h⟩) rfl Fz H φ (Fr.of vs) L (RFr.of Rv)).mono ?_
 intro ex af' H' q
 simp only [UP] at q
 obtain ⟨fr,F1,φ1,h1,q,L1,R1⟩:=q
 have key:∀ vs,RSp.all fr h1 F.res = some vs → ∀ r2 h2,GhR h.length (outP vs) h1 r2 h2 → R r2 h2 → ∃ ys,RS.all af' H' F.res = some ys ∧ ∃ r h' F' φ',R r h' ∧ RV ⟨F',H',φ',h'⟩ r (outOf ys) ∧ StH ⟨F',H',φ',h'⟩ ∧ Stp h.length All ⟨Fz,H,φ,h⟩ ⟨F',H',φ',h'⟩:=by
  intro vs e r2 h2 g hR
  obtain ⟨ys,k1,k2⟩:=RS_ok L1.1 R1 e
  obtain ⟨F2,φ2,S2,R2,T2⟩:=g _ _ _ _ L1.1 (out_ok k2)
  exact ⟨ys,k1,r2,h2,F2,φ2,hR,R2,S2,T2 _ rfl L1.2⟩
 cases ex with
 | exit i=>exact q.elim
 | normal=>obtain ⟨vs,e,r2,h2,g,hR⟩:=q; exact key vs e r2 h2 g hR
 | ret=>obtain ⟨vs,e,r2,h2,g,hR⟩:=q; exact key vs e r2 h2 g hR
@[simp] theorem get_put' (f:PF) (a b:Nat) (p:PV):(f.put a p).get b = if b = a then p else f.get b:=rfl
@[simp] theorem get_of' (l:List PV) (a:Nat):(PF.of l).get a = l.getD a .any:=rfl
@[simp] theorem putO_s (f:PF) (a:Nat) (p:PV):f.putO (some a) p = f.put a p:=rfl
@[simp] theorem putO_n (f:PF) (p:PV):f.putO none p = f:=rfl
@[simp] theorem pev_t (f:PF) (a:Nat):pev f (.t a) = f.get a:=rfl
@[simp] theorem pev_k (f:PF) (v:Value):pev f (.k v) = ofV v:=rfl
@[simp] theorem pev_f (f:PF) (a:Nat):pev f (.f a) = .fn a [] []:=rfl
@[simp] theorem ofV_int (k:IntKind) (a:Int):ofV (.int k a) = .v (.int k a):=rfl
@[simp] theorem ofV_bool (a:Bool):ofV (.bool a) = .v (.bool a):=rfl
@[simp] theorem ofV_str (a:ByteArray):ofV (.string a) = .v (.string a):=rfl
@[simp] theorem ofV_sl (a:Option Addr) (b c:Nat):ofV (.slice a b c) = .v (.slice a b c):=rfl
@[simp] theorem ofV_ptr (a:Option Addr):ofV (.pointer a) = .v (.pointer a):=rfl
@[simp] theorem ofV_map (a:Option Nat):ofV (.map a) = .v (.map a):=rfl
@[simp] theorem ofV_nf:ofV .nilFunc = .v .nilFunc:=rfl
@[simp] theorem ofV_ni:ofV .nilIface = .v .nilIface:=rfl
@[simp] theorem ofV_agg (a:Array Value):ofV (.agg a) = .agg (a.toList.map .v):=rfl
@[simp] theorem mup_pl (V:List Nat) (fr:PF) (h:PH):Mp.up .pl V fr h = .pl:=rfl
@[simp] theorem mup_d0 (V:List Nat) (fr:PF) (h:PH):Mp.up .d0 V fr h = .d0:=rfl
@[simp] theorem mup_dr (l0:List AO) (ck:List (Nat × Nat × Nat)) (acc:List (PF × PH × List Nat)) (W V:List Nat) (fr:PF) (h:PH):Mp.up (.dr l0 ck acc W) V fr h = .dr l0 ck ((fr,h,V ++ W) :: acc) (V ++ W):=rfl
@[simp] theorem Pk_skip:PK E O n Q (.code .skip ks) fr h ↔ PK E O n Q (.done .normal ks) fr h:=⟨fun k=>by cases k; assumption,.skip⟩
@[simp] theorem Pk_ret:PK E O n Q (.code .ret ks) fr h ↔ PK E O n Q (.done .ret ks) fr h:=⟨fun k=>by cases k; assumption,.ret⟩
@[simp] theorem Pk_exit (i:Nat):PK E O n Q (.code (.exit i) ks) fr h ↔ PK E O n Q (.done (.exit i) ks) fr h:=⟨fun k=>by cases k; assumption,.exit⟩
@[simp] theorem Pk_reg (l:List AO):PK E O n Q (.code (.reg l) ks) fr h ↔ PK E O n Q (.ops .pl l ks) fr h:=⟨fun k=>by cases k; assumption,.reg⟩
@[simp] theorem Pk_regd (l:List AO) (c:Nat × Nat × Nat) (ck:List (Nat × Nat × Nat)):PK E O n Q (.code (.regd l (c :: ck)) ks) fr h ↔ PK E O n Q (.ops (.dr l (c :: ck) [(fr,h,[])] []) l ks) fr h:=⟨fun k=>by cases k; assumption,.regd⟩
@[simp] theorem Pk_regd0 (l:List AO):PK E O n Q (.code (.regd l []) ks) fr h ↔ PK E O n Q (.ops .d0 l ks) fr h:=⟨fun k=>by cases k; assumption,.regd0⟩
@[simp] theorem Pk_seq (a b:AC):PK E O n Q (.code (.seq a b) ks) fr h ↔ PK E O n Q (.code a (.seq b :: ks)) fr h:=⟨fun k=>by cases k; assumption,.seq⟩
@[simp] theorem Pk_block (i:Nat) (a:AC):PK E O n Q (.code (.block i a) ks) fr h ↔ PK E O n Q (.code a (.blk i :: ks)) fr h:=⟨fun k=>by cases k; assumption,.block⟩
def PC (E:Env) (O:Orc) (n:Nat) (Q:Ex → PF → PH → Prop) (p:PV) (a b:AC) (ks:List Kp) (fr:PF) (h:PH):Prop:=∃ t,p = .v (.bool t) ∧ PK E O n Q (.code (bif t then a else b) ks) fr h
@[simp] theorem Pk_cond (x:X) (a b:AC):PK E O n Q (.code (.cond x a b) ks) fr h ↔ PC E O n Q (pev fr x) a b ks fr h:=⟨fun k=>by cases k with | cond e q=>exact ⟨_,e,q⟩,fun ⟨t,e,q⟩=>.cond e q⟩
@[simp] theorem PC_b (t:Bool) (a b:AC):PC E O n Q (.v (.bool t)) a b ks fr h ↔ br (t = true) (PK E O n Q (.code a ks) fr h) (PK E O n Q (.code b ks) fr h):=by
 unfold PC
 cases t
 ·simp only [reduceCtorEq,br_F]
  exact ⟨fun ⟨t,e,q⟩=>by cases e; exact q,fun q=>⟨_,rfl,q⟩⟩
 ·simp only [br_T]
  exact ⟨fun ⟨t,e,q⟩=>by cases e; exact q,fun q=>⟨_,rfl,q⟩⟩
@[simp] theorem Pn_nil (ex:Ex):PK E O n Q (.done ex []) fr h ↔ Q ex fr h:=⟨fun k=>by cases k; assumption,.dnil⟩
@[simp] theorem Pn_ns (b:AC):PK E O n Q (.done .normal (.seq b :: ks)) fr h ↔ PK E O n Q (.code b ks) fr h:=⟨fun k=>by cases k; assumption,.dns⟩
@[simp] theorem Pn_nb (i:Nat):PK E O n Q (.done .normal (.blk i :: ks)) fr h ↔ PK E O n Q (.done .normal ks) fr h:=⟨fun k=>by cases k; assumption,.dnb⟩
@[simp] theorem Pn_es (i:Nat) (b:AC):PK E O n Q (.done (.exit i) (.seq b :: ks)) fr h ↔ PK E O n Q (.done (.exit i) ks) fr h:=⟨fun k=>by cases k; assumption,.des⟩
@[simp] theorem Pn_eb1 (i:Nat):PK E O n Q (.done (.exit i) (.blk i :: ks)) fr h ↔ PK E O n Q (.done .normal ks) fr h:=⟨fun k=>by cases k with | deb1 q=>exact q | deb0 q=>exact absurd rfl q,.deb1⟩
@[simp] theorem Pn_el (i k:Nat) (I:Nat → PF → PH → Prop):PK E O n Q (.done (.exit i) (.lp I k :: ks)) fr h ↔ PK E O n Q (.done (.exit i) ks) fr h:=⟨fun k=>by cases k; assumption,.del⟩
@[simp] theorem Pn_r (k:Kp):PK E O n Q (.done .ret (k :: ks)) fr h ↔ PK E O n Q (.done .ret ks) fr h:=⟨fun k=>by cases k; assumption,.dret⟩
def NXT (n:Nat) (I:Nat → PF → PH → Prop) (k:Nat) (fr:PF) (h:PH):Prop:=∃ j,j < k ∧ ∃ fr2 h2,Gh n fr h fr2 h2 ∧ I j fr2 h2
@[simp] theorem Pn_nl (I:Nat → PF → PH → Prop) (k:Nat):PK E O n Q (.done .normal (.lp I k :: ks)) fr h ↔ NXT n I k fr h :=
 ⟨fun q=>by cases q with | dnl a b c=>exact ⟨_,a,_,_,b,c⟩,fun ⟨_,a,_,_,b,c⟩=>.dnl a b c⟩
theorem NXT.ofG {I:Nat → PF → PH → Prop} {k j:Nat} {fr2:PF} {h2:PH} (hj:j < k) (g:Gh n fr h fr2 h2) (hI:I j fr2 h2):NXT n I k fr h:=⟨j,hj,fr2,h2,g,hI⟩
def forI (I:Nat → PF → PH → Prop) (N:Nat):Nat → PF → PH → Prop:=fun k fr h=>k ≤ N ∧ I (N - k) fr h
theorem NXT.for {I:Nat → PF → PH → Prop} {N i:Nat} (hi:i < N) (hI:I (i + 1) fr h):NXT n (forI I N) (N - i) fr h :=
 ⟨N - (i + 1),by omega,fr,h,Gh.refl _ _ _,by omega,by rw [show N - (N - (i + 1)) = i + 1 by omega]; exact hI⟩
theorem NXT.forG {I:Nat → PF → PH → Prop} {N i:Nat} {fr2:PF} {h2:PH} (hi:i < N) (g:Gh n fr h fr2 h2) (hI:I (i + 1) fr2 h2):NXT n (forI I N) (N - i) fr h :=
 ⟨N - (i + 1),by omega,fr2,h2,g,by omega,by rw [show N - (N - (i + 1)) = i + 1 by omega]; exact hI⟩
theorem Pk_loopG {a:AC} {fr2:PF} {h2:PH} (I:Nat → PF → PH → Prop) (k:Nat) (g:Gh n fr h fr2 h2) (hI:I k fr2 h2) (step:∀ k fr h,I k fr h → PK E O n Q (.code a (.lp I k :: ks)) fr h):PK E O n Q (.code (.loop a) ks) fr h:=.loop I k step g hI
theorem Pk_forG {a:AC} {fr2:PF} {h2:PH} (I:Nat → PF → PH → Prop) (N:Nat) (g:Gh n fr h fr2 h2) (h0:I 0 fr2 h2) (step:∀ i fr h,i ≤ N → I i fr h → PK E O n Q (.code a (.lp (forI I N) (N - i) :: ks)) fr h):PK E O n Q (.code (.loop a) ks) fr h :=
 Pk_loopG (forI I N) N g ⟨Nat.le_refl _,by rw [Nat.sub_self]; exact h0⟩ fun k fr h hI=>by
  have:=step (N - k) fr h (by omega) hI.2
  rwa [show N - (N - k) = k by have:=hI.1; omega] at this
theorem Pk_for {a:AC} (I:Nat → PF → PH → Prop) (N:Nat) (h0:I 0 fr h) (step:∀ i fr h,i ≤ N → I i fr h → PK E O n Q (.code a (.lp (forI I N) (N - i) :: ks)) fr h):PK E O n Q (.code (.loop a) ks) fr h:=Pk_forG I N (Gh.refl _ _ _) h0 step
@[simp] theorem retP_n (res:List RS) (R:PV → PH → Prop):retP n res R .normal fr h = ∃ vs,RSp.all fr h res = some vs ∧ ∃ r2 h2,GhR n (outP vs) h r2 h2 ∧ R r2 h2:=rfl
@[simp] theorem retP_r (res:List RS) (R:PV → PH → Prop):retP n res R .ret fr h = ∃ vs,RSp.all fr h res = some vs ∧ ∃ r2 h2,GhR n (outP vs) h r2 h2 ∧ R r2 h2:=rfl
variable {m:Mp} {l:List AO} {d:Option Nat}
@[simp] theorem Px_nil:PK E O n Q (.ops .pl [] ks) fr h ↔ PK E O n Q (.done .normal ks) fr h:=⟨fun k=>by cases k; assumption,.onil⟩
@[simp] theorem Px_nil0:PK E O n Q (.ops .d0 [] ks) fr h ↔ PK E O n Q (.done .normal ks) fr h:=⟨fun k=>by cases k; assumption,.onil0⟩
@[simp] theorem Px_nild (l0:List AO) (ck:List (Nat × Nat × Nat)) (acc:List (PF × PH × List Nat)) (W:List Nat):PK E O n Q (.ops (.dr l0 ck acc W) [] ks) fr h ↔ okP l0 ck acc = true ∧ PK E O n Q (.done .normal ks) fr h:=⟨fun k=>by cases k with | onild a b=>exact ⟨a,b⟩,fun ⟨a,b⟩=>.onild a b⟩
def PG (E:Env) (O:Orc) (n:Nat) (Q:Ex → PF → PH → Prop) (g:PV) (b:Bool) (m:Mp) (d:Option Nat) (p:AOp) (l:List AO) (ks:List Kp) (fr:PF) (h:PH):Prop:=∃ x,g = .v x ∧ br (wantV b x = true) (PK E O n Q (.ops m (⟨none,d,p⟩ :: l) ks) fr h) (PK E O n Q (.ops (m.up [] (fr.putO d (.v undef)) h) l ks) (fr.putO d (.v undef)) h)
@[simp] theorem Px_g (t:Nat) (b:Bool) (p:AOp):PK E O n Q (.ops m (⟨some (t,b),d,p⟩ :: l) ks) fr h ↔ PG E O n Q (fr.get t) b m d p l ks fr h:=by
 constructor
 ·intro k
  cases k with
  | gon e w q=>exact ⟨_,e,fun _=>q,fun k=>absurd w k⟩
  | goff e w q=>exact ⟨_,e,fun k=>(Bool.noConfusion (w.symm.trans k)),fun _=>q⟩
 ·rintro ⟨x,e,q⟩
  cases w:wantV b x with
  | true=>exact .gon e w (q.1 w)
  | false=>exact .goff e w (q.2 (by simp [w]))
@[simp] theorem PG_F (t:Bool) (p:AOp):PG E O n Q (.v (.bool t)) false m d p l ks fr h ↔ br (t = true) (PK E O n Q (.ops (m.up [] (fr.putO d (.v undef)) h) l ks) (fr.putO d (.v undef)) h) (PK E O n Q (.ops m (⟨none,d,p⟩ :: l) ks) fr h):=by
 unfold PG
 refine ⟨fun ⟨x,e,q⟩=>?_,fun q=>⟨_,rfl,?_⟩⟩
 ·cases e; cases t <;> simpa using q
 ·cases t <;> simpa using q
def PO (E:Env) (O:Orc) (n:Nat) (Q:Ex → PF → PH → Prop) (r:Option (PV × PH)) (V:List Nat) (d:Option Nat) (m:Mp) (l:List AO) (ks:List Kp) (fr:PF):Prop:=∃ v h',r = some (v,h') ∧ PK E O n Q (.ops (m.up V (fr.putO d v) h') l ks) (fr.putO d v) h'
@[simp] theorem PO_s (v:PV) (h':PH) (V:List Nat):PO E O n Q (some (v,h')) V d m l ks fr ↔ PK E O n Q (.ops (m.up V (fr.putO d v) h') l ks) (fr.putO d v) h':=⟨fun ⟨_,_,e,q⟩=>by cases e; exact q,fun q=>⟨_,_,rfl,q⟩⟩
@[simp] theorem PO_n (V:List Nat):PO E O n Q none V d m l ks fr ↔ False:=⟨fun ⟨_,_,e,_⟩=>(by cases e),False.elim⟩
def P1 (E:Env) (O:Orc) (n:Nat) (Q:Ex → PF → PH → Prop) (r:Option PV) (d:Option Nat) (m:Mp) (l:List AO) (ks:List Kp) (fr:PF) (h:PH):Prop:=∃ v,r = some v ∧ PK E O n Q (.ops (m.up [] (fr.putO d v) h) l ks) (fr.putO d v) h
@[simp] theorem P1_s (v:PV):P1 E O n Q (some v) d m l ks fr h ↔ PK E O n Q (.ops (m.up [] (fr.putO d v) h) l ks) (fr.putO d v) h:=⟨fun ⟨_,e,q⟩=>by cases e; exact q,fun q=>⟨_,rfl,q⟩⟩
@[simp] theorem P1_n:P1 E O n Q none d m l ks fr h ↔ False:=⟨fun ⟨_,e,_⟩=>(by cases e),False.elim⟩
@[simp] theorem P1_in (c:Prop) [Decidable c] (r:Option PV):P1 E O n Q (if c then r else none) d m l ks fr h ↔ c ∧ P1 E O n Q r d m l ks fr h:=by by_cases h:c <;> simp [h]
def PS (E:Env) (O:Orc) (n:Nat) (Q:Ex → PF → PH → Prop) (r:Option PH) (V:List Nat) (d:Option Nat) (m:Mp) (l:List AO) (ks:List Kp) (fr:PF):Prop:=∃ h',r = some h' ∧ PK E O n Q (.ops (m.up V (fr.putO d (.v undef)) h') l ks) (fr.putO d (.v undef)) h'
@[simp] theorem PS_s (h':PH) (V:List Nat):PS E O n Q (some h') V d m l ks fr ↔ PK E O n Q (.ops (m.up V (fr.putO d (.v undef)) h') l ks) (fr.putO d (.v undef)) h':=⟨fun ⟨_,e,q⟩=>by cases e; exact q,fun q=>⟨_,rfl,q⟩⟩
@[simp] theorem PS_n (V:List Nat):PS E O n Q none V d m l ks fr ↔ False:=⟨fun ⟨_,e,_⟩=>(by cases e),False.elim⟩
@[simp] theorem PS_in (c:Prop) [Decidable c] (r:Option PH) (V:List Nat):PS E O n Q (if c then r else none) V d m l ks fr ↔ c ∧ PS E O n Q r V d m l ks fr:=by by_cases h:c <;> simp [h]
theorem Px_op {p:AOp} (hc:p.isCall = false):PK E O n Q (.ops m (⟨none,d,p⟩ :: l) ks) fr h ↔ PO E O n Q (pop p (pev fr) h) (pwr p (pev fr)) d m l ks fr:=by
 constructor
 ·intro k
  cases k with
  | op e q=>exact ⟨_,_,e,q⟩
  | call=>cases hc
  | callv=>cases hc
 ·exact fun ⟨_,_,e,q⟩=>.op e q
theorem PO_map (r:Option PV):PO E O n Q (r.map fun v=>(v,h)) [] d m l ks fr ↔ P1 E O n Q r d m l ks fr h:=by cases r <;> simp
theorem PO_maps (r:Option PH) (V:List Nat):PO E O n Q (r.map fun h'=>(.v undef,h')) V d m l ks fr ↔ PS E O n Q r V d m l ks fr:=by cases r <;> simp
theorem Px_1 {p:AOp} {r:Option PV} (hc:p.isCall = false) (e:pop p (pev fr) h = r.map fun v=>(v,h)) (w:pwr p (pev fr) = []):PK E O n Q (.ops m (⟨none,d,p⟩ :: l) ks) fr h ↔ P1 E O n Q r d m l ks fr h:=by rw [Px_op hc,e,w,PO_map]
@[simp] theorem Px_mv (x:X):PK E O n Q (.ops m (⟨none,d,.mv x⟩ :: l) ks) fr h ↔ PK E O n Q (.ops (m.up [] (fr.putO d (pev fr x)) h) l ks) (fr.putO d (pev fr x)) h:=by rw [Px_op rfl]; simp [pop,pwr]
@[simp] theorem Px_pick (c a b:X):PK E O n Q (.ops m (⟨none,d,.pick c a b⟩ :: l) ks) fr h ↔ P1 E O n Q (ppick (pev fr c) (pev fr a) (pev fr b)) d m l ks fr h:=Px_1 rfl rfl rfl
@[simp] theorem Px_alloc (z:List Value):PK E O n Q (.ops m (⟨none,d,.alloc z⟩ :: l) ks) fr h ↔ PK E O n Q (.ops (m.up [] (fr.putO d (.ref h.length 0 z.length)) (h ++ [.cells z.length (z.map .v)])) l ks) (fr.putO d (.ref h.length 0 z.length)) (h ++ [.cells z.length (z.map .v)]):=by rw [Px_op rfl]; simp [pop,pwr]
@[simp] theorem Px_box (x:X):PK E O n Q (.ops m (⟨none,d,.box x⟩ :: l) ks) fr h ↔ PO E O n Q (pbox h (pev fr x)) [] d m l ks fr:=Px_op rfl
@[simp] theorem Px_build (z:List Value) (ps:List (Nat × Nat × X)):PK E O n Q (.ops m (⟨none,d,.build z ps⟩ :: l) ks) fr h ↔ P1 E O n Q ((fillP (z.map .v) (ps.map fun p=>(p.1,p.2.1,pev fr p.2.2))).map .agg) d m l ks fr h:=Px_1 rfl (by simp [pop,Option.map_map]; rfl) rfl
@[simp] theorem Px_bsl (len sz:Nat) (z:List Value) (ps:List (Nat × Nat × X)):PK E O n Q (.ops m (⟨none,d,.bsl len sz z ps⟩ :: l) ks) fr h ↔ PO E O n Q (pbsl len sz z h (ps.map fun p=>(p.1,p.2.1,pev fr p.2.2))) [] d m l ks fr:=Px_op rfl
@[simp] theorem Px_ld (x:X):PK E O n Q (.ops m (⟨none,d,.ld x⟩ :: l) ks) fr h ↔ P1 E O n Q (pld h (pev fr x)) d m l ks fr h:=Px_1 rfl rfl rfl
@[simp] theorem Px_ldn (k:Nat) (x:X):PK E O n Q (.ops m (⟨none,d,.ldn k x⟩ :: l) ks) fr h ↔ P1 E O n Q (pldn k h (pev fr x)) d m l ks fr h:=Px_1 rfl rfl rfl
@[simp] theorem Px_st (k:Nat) (x v:X):PK E O n Q (.ops m (⟨none,d,.st k x v⟩ :: l) ks) fr h ↔ PS E O n Q (pst k h (pev fr x) (pev fr v)) (pwr (.st k x v) (pev fr)) d m l ks fr:=by rw [Px_op rfl]; exact PO_maps _ _
@[simp] theorem Px_bin (op:BinOp) (x y:X):PK E O n Q (.ops m (⟨none,d,.bin op x y⟩ :: l) ks) fr h ↔ P1 E O n Q (pbin op (pev fr x) (pev fr y)) d m l ks fr h:=Px_1 rfl rfl rfl
@[simp] theorem Px_un (op:UnOp) (x:X):PK E O n Q (.ops m (⟨none,d,.un op x⟩ :: l) ks) fr h ↔ P1 E O n Q (pun op (pev fr x)) d m l ks fr h:=Px_1 rfl rfl rfl
@[simp] theorem Px_sl (sz:Nat) (x:X) (lo hi mx:Option X):PK E O n Q (.ops m (⟨none,d,.sl sz x lo hi mx⟩ :: l) ks) fr h ↔ PO E O n Q (psl sz h (pev fr x) (lo.map (pev fr)) (hi.map (pev fr)) (mx.map (pev fr))) [] d m l ks fr:=Px_op rfl
@[simp] theorem Px_fa (off:Nat) (x:X):PK E O n Q (.ops m (⟨none,d,.fa off x⟩ :: l) ks) fr h ↔ P1 E O n Q (pfa h off (pev fr x)) d m l ks fr h:=Px_1 rfl rfl rfl
@[simp] theorem Px_ia (sz:Nat) (x i:X):PK E O n Q (.ops m (⟨none,d,.ia sz x i⟩ :: l) ks) fr h ↔ P1 E O n Q (pia h sz (pev fr x) (pev fr i)) d m l ks fr h:=Px_1 rfl rfl rfl
@[simp] theorem Px_app (sz bytes:Nat) (s x:X):PK E O n Q (.ops m (⟨none,d,.app sz bytes s x⟩ :: l) ks) fr h ↔ PO E O n Q (papp sz bytes h (pev fr s) (pev fr x)) (pwr (.app sz bytes s x) (pev fr)) d m l ks fr:=Px_op rfl
@[simp] theorem Px_lenl (x:X):PK E O n Q (.ops m (⟨none,d,.lenl x⟩ :: l) ks) fr h ↔ P1 E O n Q (plenl h (pev fr x)) d m l ks fr h:=Px_1 rfl rfl rfl
theorem Px_callM {f:Nat} {«as»:List X} {args:List PV} {W:List Nat} (ha:«as».map (pev fr) = args) (k:PCw E O f args h (· ∈ W) (fun r h'=>PK E O n Q (.ops (m.up W (fr.putO d r) h') l ks) (fr.putO d r) h')):PK E O n Q (.ops m (⟨none,d,.call f «as»⟩ :: l) ks) fr h :=
 .call (ha ▸ k) fun _ _ q=>q
end
theorem papp_own {sz bytes b n k:Nat} {h:PH} {x:PV} {cs new:List PV} (hb:h[b]? = some (.cells sz cs)) (hn:n * sz = cs.length) (h0:0 < sz) (hk:plen x = some k) (hx:pfirst h sz k x = some new) (hl:new.length = k * sz) (hv:pvalid h x = true) (hbd:(n + k) * bytes ≤ 2 ^ 47) (h62:n + k < 2 ^ 62) :
  papp sz bytes h (.sl sz b 0 n n) x = some (.sl sz b 0 (n + k) (n + k),h.set b (.cells sz (cs ++ new))):=by
 have hlt:=(List.getElem?_eq_some_iff.1 hb).1
 unfold papp
 rw [hk]
 simp only
 by_cases k0:k = 0
 ·subst k0
  have:new = []:=List.length_eq_zero_iff.1 (by simpa using hl)
  subst this
  have e:h.set b (.cells sz cs) = h:=by
   apply List.ext_getElem?
   intro i
   rw [List.getElem?_set]
   by_cases hi:b = i
   ·subst hi; rw [if_pos rfl,if_pos hlt,hb]
   ·rw [if_neg hi]
  simp [hv,hb,hn,e]
 ·rw [if_neg k0,hx]
  simp only [hb]
  rw [if_pos ⟨trivial,trivial,h0,by simpa using hn,Nat.le_refl _,hbd,h62⟩]
  by_cases n0:n = 0
  ·subst n0
   have:cs = []:=List.length_eq_zero_iff.1 (by simpa using hn.symm)
   subst this
   simp
  ·rw [if_neg n0,if_neg (by omega),if_pos trivial,List.take_of_length_le (by omega)]
theorem PO_appO {E:Env} {O:Orc} {n:Nat} {Q:Ex → PF → PH → Prop} {ks:List Kp} {fr:PF} {m:Mp} {l:List AO} {d:Option Nat} {V:List Nat} {sz bytes b j k:Nat} {h:PH} {x:PV} {cs new:List PV} (hb:h[b]? = some (.cells sz cs)) (hk:plen x = some k) (hx:pfirst h sz k x = some new) (hn:j * sz = cs.length) (h0:0 < sz) (hl:new.length = k * sz) (hv:pvalid h x = true) (hbd:(j + k) * bytes ≤ 2 ^ 47) (h62:j + k < 2 ^ 62)
  (next:PK E O n Q (.ops (m.up V (fr.putO d (.sl sz b 0 (j + k) (j + k))) (h.set b (.cells sz (cs ++ new)))) l ks) (fr.putO d (.sl sz b 0 (j + k) (j + k))) (h.set b (.cells sz (cs ++ new)))):PO E O n Q (papp sz bytes h (.sl sz b 0 j j) x) V d m l ks fr:=by
 rw [papp_own hb hn h0 hk hx hl hv hbd h62]
 exact (PO_s _ _ _).2 next
attribute [simp] ppick pld pldn pst pnilc pbin peq1 peqb nilK pun pcvi pcvs pfa ptot pia piaa pix pext plens plen plenl plook pmup pvO psl pfirst pcopy pmksl pbsl pvs pmx peqC peqs pbox pcells fillP psp pwr pvalid pfind pupd RSp.all RSp.get outP
end Go.Proofs.YtoijnpfpjpefgaaGreat.A.P
/- A text without what this claim does not need: Pm10. -/
set_option linter.unusedVariables false
set_option linter.unusedSimpArgs false
namespace Go.Proofs.YtoijnpfpjpefgaaGreat.A.P
open Go Go.RowKit
def add (F:Nat → Prop) (h:PH) (φ:Nat → Nat) (A:Nat → Prop):Nat → Prop:=fun y=>F y ∨ ∃ b,A b ∧ solid h b ∧ φ b = y
def Vz (A:Nat → Prop) (h:PH) (p q:PV):Prop:=∀ F H φ x,StH ⟨F,H,φ,h⟩ → RV ⟨F,H,φ,h⟩ p x → RF (add F h φ A) H q x
def VzL (A:Nat → Prop) (h:PH):List PV → List PV → Prop
 | [],[]=>True
 | p :: ps,q :: qs=>Vz A h p q ∧ VzL A h ps qs
 | _,_=>False
def Vg (A:Nat → Prop) (σ:Nat → Nat) (h bs:PH) (p q:PV):Prop:=∀ F H φ x,StH ⟨F,H,φ,h⟩ → RV ⟨F,H,φ,h⟩ p x → RV ⟨add F h φ A,H,fun i=>φ (σ i),bs⟩ q x
def VgL (A:Nat → Prop) (σ:Nat → Nat) (h bs:PH):List PV → List PV → Prop
 | [],[]=>True
 | p :: ps,q :: qs=>Vg A σ h bs p q ∧ VgL A σ h bs ps qs
 | _,_=>False
variable {A:Nat → Prop} {σ:Nat → Nat} {h bs:PH}
theorem VzL.ok:∀ {ps qs:List PV},VzL A h ps qs → ∀ {F H φ xs},StH ⟨F,H,φ,h⟩ → RVs ⟨F,H,φ,h⟩ ps xs → RFC (add F h φ A) H qs xs
 | [],[],_,F,H,φ,_,S,.nil=>.nil
 | p :: ps,q :: qs,⟨a,b⟩,F,H,φ,_,S,.cons r s=>.cons (a F H φ _ S r) (VzL.ok b S s)
theorem VgL.ok:∀ {ps qs:List PV},VgL A σ h bs ps qs → ∀ {F H φ xs},StH ⟨F,H,φ,h⟩ → RVs ⟨F,H,φ,h⟩ ps xs → RVs ⟨add F h φ A,H,fun i=>φ (σ i),bs⟩ qs xs
 | [],[],_,F,H,φ,_,S,.nil=>.nil
 | p :: ps,q :: qs,⟨a,b⟩,F,H,φ,_,S,.cons r s=>.cons (a F H φ _ S r) (VgL.ok b S s)
theorem add_fz {F:Nat → Prop} {H:AH} {φ:Nat → Nat} (x:Nat) (hx:F x):add F h φ A x ∧ H.get x = H.get x:=⟨.inl hx,rfl⟩
theorem Vz_v (x:Value):Vz A h (.v x) (.v x):=fun F H φ y S R=>by cases R; exact .v _
theorem Vz_fs (sz:Nat) (rows:List (List PV)):Vz A h (.fs sz rows) (.fs sz rows):=fun F H φ y S R=>by cases R with | fs q=>exact q.mono rfl add_fz
theorem RFR.of_flat {F:Nat → Prop} {H:AH} {sz:Nat}:∀ {rows:List (List PV)} {ys:List Value},RFC F H rows.flatten ys → (∀ r ∈ rows,r.length = sz) → ∃ rs,RFR F H rows rs ∧ rs.flatten = ys ∧ ∀ r ∈ rs,r.length = sz
 | [],ys,h,_=>by cases h; exact ⟨[],.nil,rfl,by simp⟩
 | r :: rows,ys,h,hl=>by
  rw [List.flatten_cons] at h
  have h1:RFC F H r (ys.take sz):=by have:=h.take r.length; rwa [List.take_left,hl r (by simp)] at this
  have h2:RFC F H rows.flatten (ys.drop sz):=by have:=h.drop r.length; rwa [List.drop_left,hl r (by simp)] at this
  obtain ⟨rs,a,b,c⟩:=RFR.of_flat h2 fun q hq=>hl q (by simp [hq])
  refine ⟨ys.take sz :: rs,.cons h1 a,by rw [List.flatten_cons,b,List.take_append_drop],fun q hq=>?_⟩
  rcases List.mem_cons.1 hq with rfl | hq
  ·rw [← h1.length,hl r (by simp)]
  ·exact c q hq
theorem Vz_sl {sz b o n c z:Nat} {cs:List PV} {rows:List (List PV)} (hA:A b) (hb:h[b]? = some (.cells z cs)) (ht:(o + c) * sz = cs.length) (h0z:0 < sz) (hz:sz ≤ z) (hn:n ≤ c) (hl:rows.length = n) (hr:∀ r ∈ rows,r.length = sz) (hv:VzL A h ((cs.drop (o * sz)).take (n * sz)) rows.flatten):Vz A h (.sl sz b o n c) (.fs sz rows):=fun F H φ x S R=>by
 rcases sl_at R hb ht with ⟨rfl,rfl,d,rfl,hd⟩ | ⟨hc,rfl⟩
 ·obtain rfl:rows = []:=List.length_eq_zero_iff.1 hl
  exact .fs (rows:=[]) (rs:=[]) ⟨_,_,rfl,by simp⟩ (Nat.zero_le _) (fun e he=>⟨.inr rfl,.inl rfl⟩) .nil
 ·have hcs:cs ≠ []:=by
   rintro rfl
   have:=Nat.mul_pos (show 0 < o + c by omega) h0z
   simp at ht
   omega
  obtain ⟨vs,hg,hvs,h0⟩:=S.cells (t:=0) hb (List.length_pos_iff.2 hcs)
  have hvl:=hvs.length
  obtain ⟨rs,a1,a2,a3⟩:=RFR.of_flat (hv.ok S ((hvs.drop (o * sz)).take (n * sz))) hr
  have hrl:=a1.length
  have adn:(o + c) * sz = o * sz + c * sz:=Nat.add_mul ..
  rw [← hl]
  refine .fs (rs:=rs) ⟨_,_,by rw [hrl],fun i r hi=>⟨_,_,rfl,?_⟩⟩ (by omega) (fun e he=>?_) a1
  ·obtain ⟨e1,e2⟩:=drop_flatten a3 hi
   have hil:=(List.getElem?_eq_some_iff.1 hi).1
   have m1:(i + 1) * sz ≤ n * sz:=Nat.mul_le_mul_right _ (by omega)
   have m2:n * sz ≤ c * sz:=Nat.mul_le_mul_right _ hn
   rw [Nat.succ_mul] at m1
   rw [ldn_get hg h0 (by omega),← e1,a2,List.drop_take,List.drop_drop,List.take_take,Nat.min_eq_left (by omega)]
  ·cases he
   refine ⟨.inl rfl,?_⟩
   by_cases hn0:n = 0
   ·left; omega
   ·right
    refine ⟨.inr ⟨b,hA,solid_cells hb hcs,rfl⟩,?_⟩
    unfold AH.zok
    rw [hg]
    simp [hz]
theorem Vg_z {p q:PV} (k:Vz A h p q):Vg A σ h bs p q:=fun F H φ x S R=>(k F H φ x S R).toV (C:=⟨_,_,_,_⟩)
theorem Vg_any (p:PV):Vg A σ h bs p .any:=fun F H φ x S R=>.any x
@[simp] theorem Vg_v (x:Value):Vg A σ h bs (.v x) (.v x) ↔ True:=⟨fun _=>trivial,fun _=>Vg_z (Vz_v x)⟩
@[simp] theorem Vg_fs (sz:Nat) (rows:List (List PV)):Vg A σ h bs (.fs sz rows) (.fs sz rows) ↔ True:=⟨fun _=>trivial,fun _=>Vg_z (Vz_fs sz rows)⟩
@[simp] theorem VzL_nil:VzL A h [] [] ↔ True:=Iff.rfl
@[simp] theorem VzL_cons (p q:PV) (ps qs:List PV):VzL A h (p :: ps) (q :: qs) ↔ Vz A h p q ∧ VzL A h ps qs:=Iff.rfl
@[simp] theorem VgL_nil:VgL A σ h bs [] [] ↔ True:=Iff.rfl
@[simp] theorem VgL_cons (p q:PV) (ps qs:List PV):VgL A σ h bs (p :: ps) (q :: qs) ↔ Vg A σ h bs p q ∧ VgL A σ h bs ps qs:=Iff.rfl
@[simp] theorem Vg_fp (cells:List PV):Vg A σ h bs (.fp cells) (.fp cells) ↔ True:=⟨fun _=>trivial,fun _ F H φ x S R=>by
 cases R with | fp a b c=>exact .fp (.inl a) b (c.mono rfl add_fz)⟩
theorem Vg_agg {ps qs:List PV} (k:VgL A σ h bs ps qs):Vg A σ h bs (.agg ps) (.agg qs):=fun F H φ x S R=>by cases R with | agg r=>exact .agg (k.ok S r)
theorem Vg_tup {ps qs:List PV} (k:VgL A σ h bs ps qs):Vg A σ h bs (.tup ps) (.tup qs):=fun F H φ x S R=>by cases R with | tup r=>exact .tup (k.ok S r)
theorem Vg_fn {f:Nat} {ps qs ps' qs':List PV} (k:VgL A σ h bs ps qs) (k':VgL A σ h bs ps' qs'):Vg A σ h bs (.fn f ps ps') (.fn f qs qs'):=fun F H φ x S R=>by cases R with | fn r r'=>exact .fn (k.ok S r) (k'.ok S r')
theorem Vg_ifc {t:Nat} {p q:PV} (k:Vg A σ h bs p q):Vg A σ h bs (.ifc t p) (.ifc t q):=fun F H φ x S R=>by cases R with | ifc r=>exact .ifc (k F H φ _ S r)
theorem ptot_at {h:PH} {b T t:Nat} (e:ptot h b = some T):At h b t ↔ T = t:=by
 unfold ptot at e
 split at e
 ·rename_i z cs hh
  cases e
  constructor
  ·rintro ⟨z',cs',e,rfl⟩; rw [hh] at e; cases e; rfl
  ·rintro rfl; exact ⟨z,cs,hh,rfl⟩
 ·cases e
theorem ptot_le {h:PH} {b T t:Nat} (e:ptot h b = some T):Le h b t ↔ t ≤ T:=by
 unfold ptot at e
 split at e
 ·rename_i z cs hh
  cases e
  exact ⟨fun k=>k z cs hh,fun k z' cs' e=>by rw [hh] at e; cases e; exact k⟩
 ·cases e
theorem ptot_lt {h:PH} {b T:Nat} (e:ptot h b = some T):b < h.length:=by
 unfold ptot at e
 split at e
 ·rename_i z cs hh; exact (List.getElem?_eq_some_iff.1 hh).1
 ·cases e
theorem Vg_ref {b i o t T:Nat} (h1:ptot h b = some T) (h2:ptot bs i = some T) (hs:σ i = b):Vg A σ h bs (.ref b o t) (.ref i o t):=fun F H φ x S R=>by
 cases R with | ref a hb hl ha =>
 subst hs
 refine .ref a (ptot_lt h2) ((ptot_le h2).2 ((ptot_le h1).1 hl)) fun k=>?_
 exact ha ((ptot_at h1).2 ((ptot_at h2).1 k))
theorem Vg_sl {b i sz o n c T:Nat} (h1:ptot h b = some T) (h2:ptot bs i = some T) (hs:σ i = b):Vg A σ h bs (.sl sz b o n c) (.sl sz i o n c):=fun F H φ x S R=>by
 cases R with | sl a hb hl ha =>
 subst hs
 refine .sl a (ptot_lt h2) ((ptot_le h2).2 ((ptot_le h1).1 hl)) fun k=>?_
 exact ha ((ptot_at h1).2 ((ptot_at h2).1 k))
theorem Vg_void {sz i z:Nat} (h2:bs[i]? = some (.cells z [])):Vg A σ h bs (.v (.slice none 0 0)) (.sl sz i 0 0 0):=fun F H φ x S R=>by
 cases R
 have e:ptot bs i = some 0:=by unfold ptot; rw [h2]; rfl
 exact .sl rfl (ptot_lt e) ((ptot_le e).2 (by simp)) fun _=>.inl ⟨rfl,rfl,none,rfl,by simp⟩
def KeepB (A:Nat → Prop) (σ:Nat → Nat) (h bs:PH) (o:Option PB):PB → Prop
 | .cells z qs=>qs = [] ∨ ∃ ps,o = some (.cells z ps) ∧ VgL A σ h bs ps qs
 | .map fs=>∃ es,o = some (.map es) ∧ es.map (·.1) = fs.map (·.1) ∧ VgL A σ h bs (es.map (·.2)) (fs.map (·.2))
 | .dead=>True
structure Keep (A:Nat → Prop) (σ:Nat → Nat) (h bs:PH):Prop where
 blk:∀ i P,bs[i]? = some P → KeepB A σ h bs h[σ i]? P
 inj:∀ i j,i < bs.length → j < bs.length → solid bs i → solid bs j → σ i = σ j → i = j
 off:∀ i,i < bs.length → solid bs i → ¬ A (σ i)
theorem VgL.length:∀ {ps qs:List PV},VgL A σ h bs ps qs → ps.length = qs.length
 | [],[],_=>rfl
 | _ :: _,_ :: _,⟨_,b⟩=>by simp [VgL.length b]
theorem Keep.solid (K:Keep A σ h bs) {i:Nat} (s:P.solid bs i):P.solid h (σ i):=by
 rcases solid_is s with ⟨es,e⟩ | ⟨z,cs,e,hc⟩
 ·obtain ⟨es',e',_⟩:=K.blk i _ e
  exact solid_map e'
 ·rcases K.blk i _ e with q | ⟨ps,e',hv⟩
  ·exact absurd q hc
  ·exact solid_cells e' (by rintro rfl; have:=hv.length; exact hc (List.length_eq_zero_iff.1 this.symm))
theorem Keep.ok (K:Keep A σ h bs) {F:Nat → Prop} {H:AH} {φ:Nat → Nat} (S:StH ⟨F,H,φ,h⟩):StH ⟨add F h φ A,H,fun i=>φ (σ i),bs⟩ where
 wf:=S.wf
 fz:=fun x hx=>by
  rcases hx with hx | ⟨b,_,hs,rfl⟩
  ·exact S.fz x hx
  ·exact S.lt hs
 inj:=fun i j s t e=>K.inj i j (solid_lt s) (solid_lt t) s t (S.inj _ _ (K.solid s) (K.solid t) e)
 blk:=fun i z qs e hc=>by
  have s:=solid_cells e hc
  rcases K.blk i _ e with q | ⟨ps,e',hv⟩
  ·exact absurd q hc
  obtain ⟨vs,a,b,c,d⟩:=S.blk (σ i) z ps e' (by rintro rfl; have:=hv.length; exact hc (List.length_eq_zero_iff.1 this.symm))
  refine ⟨vs,a,hv.ok S b,c,?_⟩
  rintro (q | ⟨b',ha,hs,e2⟩)
  ·exact d q
  ·exact K.off i (solid_lt s) s (S.inj _ _ hs (K.solid s) e2 ▸ ha)
 mpb:=fun i fs e=>by
  have s:=solid_map e
  obtain ⟨es,e',hk,hv⟩:=K.blk i _ e
  obtain ⟨ys,a,b,c,d,g⟩:=S.mpb (σ i) es e'
  refine ⟨ys,a,hk.symm.trans b,hv.ok S c,d,?_⟩
  rintro (q | ⟨b',ha,hs,e2⟩)
  ·exact g q
  ·exact K.off i (solid_lt s) s (S.inj _ _ hs (K.solid s) e2 ▸ ha)
theorem Keep.none (A:Nat → Prop) (σ:Nat → Nat) (h:PH):Keep A σ h []:=⟨fun i P e=>by simp at e,fun i j hi=>by simp at hi,fun i hi=>by simp at hi⟩
mutual
def sh (k:Nat):PV → PV
 | .ref b o t=>.ref (b + k) o t
 | .sl sz b o n c=>.sl sz (b + k) o n c
 | .mp b=>.mp (b + k)
 | .agg cs=>.agg (shL k cs)
 | .tup cs=>.tup (shL k cs)
 | .fn f a b=>.fn f (shL k a) (shL k b)
 | .ifc t p=>.ifc t (sh k p)
 | .v x=>.v x
 | .fs sz rows=>.fs sz rows
 | .fp cells=>.fp cells
 | .any=>.any
def shL (k:Nat):List PV → List PV
 | []=>[]
 | p :: ps=>sh k p :: shL k ps
end
def shB (k:Nat):PB → PB
 | .cells z cs=>.cells z (shL k cs)
 | .map es=>.map (es.map fun e=>(e.1,sh k e.2))
 | .dead=>.dead
theorem shL_length (k:Nat):∀ l:List PV,(shL k l).length = l.length
 | []=>rfl
 | _ :: l=>by simp [shL,shL_length k l]
theorem shL_map (k:Nat):∀ es:List (Value × PV),(es.map fun e=>(e.1,sh k e.2)).map (·.2) = shL k (es.map (·.2))
 | []=>rfl
 | _ :: l=>by simp only [List.map_cons,shL,shL_map k l]
theorem get_shB {h bs:PH} (b:Nat):(h ++ bs.map (shB h.length))[b + h.length]? = (bs[b]?).map (shB h.length):=by
 rw [List.getElem?_append_right (by omega),Nat.add_sub_cancel,List.getElem?_map]
theorem At_sh {h bs:PH} {b t:Nat}:At (h ++ bs.map (shB h.length)) (b + h.length) t ↔ At bs b t:=by
 unfold At
 rw [get_shB]
 constructor
 ·rintro ⟨z,cs,e,rfl⟩
  obtain ⟨P,hP,e⟩:=Option.map_eq_some_iff.1 e
  cases P with
  | cells z' cs'=>cases e; exact ⟨_,cs',hP,(shL_length _ _).symm⟩
  | _=>cases e
 ·rintro ⟨z,cs,e,rfl⟩
  exact ⟨z,shL h.length cs,by rw [e]; rfl,shL_length _ _⟩
theorem Le_sh {h bs:PH} {b t:Nat}:Le (h ++ bs.map (shB h.length)) (b + h.length) t ↔ Le bs b t:=by
 unfold Le
 rw [get_shB]
 constructor
 ·intro k z cs e
  have:=k z (shL h.length cs) (by rw [e]; rfl)
  rwa [shL_length] at this
 ·intro k z cs e
  obtain ⟨P,hP,e⟩:=Option.map_eq_some_iff.1 e
  cases P with
  | cells z' cs'=>cases e; rw [shL_length]; exact k _ cs' hP
  | _=>cases e
theorem isMap_sh {h bs:PH} {b:Nat}:isMap (h ++ bs.map (shB h.length)) (b + h.length) ↔ isMap bs b:=by
 unfold isMap
 rw [get_shB]
 constructor
 ·rintro ⟨es,e⟩
  obtain ⟨P,hP,e⟩:=Option.map_eq_some_iff.1 e
  cases P with
  | map es'=>exact ⟨es',hP⟩
  | _=>cases e
 ·rintro ⟨es,e⟩
  exact ⟨_,by rw [e]; rfl⟩
theorem solid_sh {h bs:PH} {b:Nat}:solid (h ++ bs.map (shB h.length)) (b + h.length) ↔ solid bs b:=by
 unfold solid
 simp only [isMap_sh,At_sh]
def join (h:PH) (φ ψ:Nat → Nat):Nat → Nat:=fun b=>if b < h.length then φ b else ψ (b - h.length)
theorem join_sh (h:PH) (φ ψ:Nat → Nat) (b:Nat):join h φ ψ (b + h.length) = ψ b:=by
 unfold join
 rw [if_neg (by omega),Nat.add_sub_cancel]
theorem join_lt {h:PH} {φ ψ:Nat → Nat} {b:Nat} (hb:b < h.length):join h φ ψ b = φ b:=if_pos hb
theorem lt_sh {h bs:PH} {b:Nat} (hb:b < bs.length):b + h.length < (h ++ bs.map (shB h.length)).length:=by
 rw [List.length_append,List.length_map]; omega
mutual
theorem sh_ok {F : Nat → Prop} {H : AH} {φ ψ : Nat → Nat} {h bs : PH} : ∀ {p : PV} {x : Value}, RV ⟨F, H, ψ, bs⟩ p x → RV ⟨F, H, join h φ ψ, h ++ bs.map (shB h.length)⟩ (sh h.length p) x
  | _, _, .v x => .v x
  | _, _, .ref a hb hl ha => .ref a (lt_sh hb) (Le_sh.2 hl) fun k => by
    have := ha (At_sh.1 k)
    simpa [join_sh] using this
  | _, _, .sl a hb hl ha => .sl a (lt_sh hb) (Le_sh.2 hl) fun k => by
    have := ha (At_sh.1 k)
    simpa [join_sh] using this
  | _, _, .mp a hb ha => .mp a (lt_sh hb) fun k => by
    have := ha (isMap_sh.1 k)
    simpa [join_sh] using this
  | _, _, .fs k => .fs k
  | _, _, .fp a b c => .fp a b c
  | _, _, .agg k => .agg (shL_ok k)
  | _, _, .tup k => .tup (shL_ok k)
  | _, _, .fn a b => .fn (shL_ok a) (shL_ok b)
  | _, _, .ifc a => .ifc (sh_ok a)
  | _, _, .any x => .any x
theorem shL_ok {F : Nat → Prop} {H : AH} {φ ψ : Nat → Nat} {h bs : PH} : ∀ {p : List PV} {x : List Value}, RVs ⟨F, H, ψ, bs⟩ p x → RVs ⟨F, H, join h φ ψ, h ++ bs.map (shB h.length)⟩ (shL h.length p) x
  | _, _, .nil => .nil
  | _, _, .cons a b => .cons (sh_ok a) (shL_ok b)
end
end Go.Proofs.YtoijnpfpjpefgaaGreat.A.P
/- A text without what this claim does not need: Pm11. -/
set_option linter.unusedVariables false
set_option linter.unusedSimpArgs false
namespace Go.Proofs.YtoijnpfpjpefgaaGreat.A.P
open Go Go.RowKit
variable {E:Env} {O:Orc}
def killL (h:PH):List Nat → PH
 | []=>h
 | b :: L=>killL (h.set b .dead) L
theorem killL_length:∀ (L:List Nat) (h:PH),(killL h L).length = h.length
 | [],h=>rfl
 | b :: L,h=>by rw [killL,killL_length L]; simp
theorem killL_get:∀ (L:List Nat) (h:PH) (c:Nat),(killL h L)[c]? = if c ∈ L ∧ c < h.length then some .dead else h[c]?
 | [],h,c=>by simp [killL]
 | b :: L,h,c=>by
  rw [killL,killL_get L]
  by_cases hc:c < h.length
  ·by_cases h1:c ∈ L
   ·simp [h1,hc]
   ·by_cases h2:c = b
    ·subst h2; simp [h1,hc]
    ·rw [if_neg (fun q=>h1 q.1),if_neg (fun q=>(List.mem_cons.1 q.1).elim h2 h1),set_ne h2]
  ·rw [if_neg (by simp; omega),if_neg (by simp; omega),List.getElem?_eq_none (by simp; omega),List.getElem?_eq_none (by omega)]
theorem kill_solid {h:PH} {L:List Nat} {b:Nat} (s:solid (killL h L) b):solid h b ∧ b ∉ L:=by
 have hb:=solid_lt s
 rw [killL_length] at hb
 have e:=killL_get L h b
 by_cases hL:b ∈ L
 ·rw [if_pos ⟨hL,hb⟩] at e
  rcases solid_is s with ⟨es,e'⟩ | ⟨z,cs,e',_⟩ <;> rw [e] at e' <;> cases e'
 ·rw [if_neg (fun q=>hL q.1)] at e
  exact ⟨(solid_of e).1 s,hL⟩
theorem freeze_ok {F:Nat → Prop} {H:AH} {φ:Nat → Nat} {h:PH} (S:StH ⟨F,H,φ,h⟩) (L:List Nat):StH ⟨add F h φ (· ∈ L),H,φ,killL h L⟩ ∧ Stp h.length (fun _=>False) ⟨F,H,φ,h⟩ ⟨add F h φ (· ∈ L),H,φ,killL h L⟩:=by
 have same:∀ b,b ∉ L → (killL h L)[b]? = h[b]?:=fun b hb=>by rw [killL_get,if_neg (fun q=>hb q.1)]
 have dead:∀ b,b ∈ L → b < h.length → (killL h L)[b]? = some .dead:=fun b hb hl=>by rw [killL_get,if_pos ⟨hb,hl⟩]
 have T:Stp h.length (fun _=>False) ⟨F,H,φ,h⟩ ⟨add F h φ (· ∈ L),H,φ,killL h L⟩:={
  n0:=rfl
  nx:=Nat.le_refl _
  fz:=fun x hx=>⟨.inl hx,rfl⟩
  fo:=fun x hx hi hd=>by
   rcases hd with hd | ⟨b,_,s,rfl⟩
   ·exact hd
   ·exact absurd ⟨b,trivial,s,rfl⟩ hi
  out:=fun _ _ _=>rfl
  loc:=fun b hb=>.inr ⟨(kill_solid hb).1,rfl⟩
  len:=fun k=>by rw [killL_length]; exact k
  le:=fun b _ hl t ht=>by
   by_cases hb:b ∈ L
   ·intro z cs e; rw [dead b hb hl] at e; cases e
   ·exact (Le_of (same b hb)).2 ht
  kat:=fun b _ hl t _ ha=>by
   by_cases hb:b ∈ L
   ·obtain ⟨z,cs,e,_⟩:=ha; rw [dead b hb hl] at e; cases e
   ·exact ⟨(At_of (same b hb)).1 ha,rfl⟩
  kmp:=fun b _ hl ha=>by
   by_cases hb:b ∈ L
   ·obtain ⟨es,e⟩:=ha; rw [dead b hb hl] at e; cases e
   ·exact ⟨(isMap_of (same b hb)).1 ha,rfl⟩ }
 have nF:∀ b,solid h b → b ∉ L → ¬ add F h φ (· ∈ L) (φ b):=by
  rintro b s hb (q | ⟨b',hb',s',e⟩)
  ·exact (S.old s).2 q
  ·exact hb (S.inj _ _ s' s e ▸ hb')
 refine ⟨⟨S.wf,fun x hx=>?_,fun b b' s s' e=>S.inj _ _ (kill_solid s).1 (kill_solid s').1 e,fun b z cs e hc=>?_,fun b es e=>?_⟩,T⟩
 ·rcases hx with hx | ⟨b,_,s,rfl⟩
  ·exact S.fz x hx
  ·exact S.lt s
 ·obtain ⟨s,hb⟩:=kill_solid (solid_cells e hc)
  rw [show (killL h L)[b]? = _ from same b hb] at e
  obtain ⟨vs,a,b',c,_⟩:=S.blk b z cs e hc
  exact ⟨vs,a,b'.step T,c,nF b s hb⟩
 ·obtain ⟨s,hb⟩:=kill_solid (solid_map e)
  rw [show (killL h L)[b]? = _ from same b hb] at e
  obtain ⟨ys,a,b',c,d,_⟩:=S.mpb b es e
  exact ⟨ys,a,b',c.step T,d,nF b s hb⟩
theorem join_ok {F F':Nat → Prop} {H H':AH} {φ ψ:Nat → Nat} {h bs:PH} {W:Nat → Prop} (S:StH ⟨F,H,φ,h⟩) (SB:StH ⟨F',H',ψ,bs⟩) (T:Stp 0 All ⟨F,H,φ,[]⟩ ⟨F',H',ψ,bs⟩) :
  StH ⟨F',H',join h φ ψ,h ++ bs.map (shB h.length)⟩ ∧ Stp h.length W ⟨F,H,φ,h⟩ ⟨F',H',join h φ ψ,h ++ bs.map (shB h.length)⟩:=by
 have noi:∀ {V:Nat → Prop} {x:Nat},¬ im ⟨F,H,φ,[]⟩ V x:=by
  rintro V x ⟨b,_,s,_⟩
  have:=solid_lt s
  simp at this
 have same:∀ x,x < H.nx → H'.get x = H.get x:=fun x hx=>T.out x hx noi
 have fo:∀ x,x < H.nx → F' x → F x:=fun x hx hf=>T.fo x hx noi hf
 have lo:∀ {b},b < h.length → (h ++ bs.map (shB h.length))[b]? = h[b]?:=fun hb=>List.getElem?_append_left hb
 have new:∀ b,solid bs b → H.nx ≤ ψ b:=fun b s=>by
  rcases T.loc b s with q | ⟨q,_⟩
  ·exact q
  ·have:=solid_lt q; simp at this
 have split:∀ b,solid (h ++ bs.map (shB h.length)) b → (b < h.length ∧ solid h b ∧ join h φ ψ b = φ b) ∨ ∃ c,b = c + h.length ∧ solid bs c ∧ join h φ ψ b = ψ c:=by
  intro b s
  by_cases hb:b < h.length
  ·exact .inl ⟨hb,(solid_of (lo hb)).1 s,join_lt hb⟩
  ·refine .inr ⟨b - h.length,by omega,?_,?_⟩
   ·rw [show b = (b - h.length) + h.length by omega] at s
    exact solid_sh.1 s
   ·rw [show b = (b - h.length) + h.length by omega,join_sh,Nat.add_sub_cancel]
 have T2:Stp h.length W ⟨F,H,φ,h⟩ ⟨F',H',join h φ ψ,h ++ bs.map (shB h.length)⟩:={
  n0:=T.n0
  nx:=T.nx
  fz:=T.fz
  fo:=fun x hx _ hf=>fo x hx hf
  out:=fun x hx _=>same x hx
  loc:=fun b hb=>by
   rcases split b hb with ⟨h1,h2,h3⟩ | ⟨c,rfl,h2,h3⟩
   ·exact .inr ⟨h2,h3⟩
   ·left; show _ ≤ join h φ ψ _; rw [h3]; exact new c h2
  len:=fun _=>by simp
  le:=fun b hb _ t ht=>(Le_of (lo hb)).2 ht
  kat:=fun b hb _ t _ ha=>⟨(At_of (lo hb)).1 ha,join_lt hb⟩
  kmp:=fun b hb _ ha=>⟨(isMap_of (lo hb)).1 ha,join_lt hb⟩ }
 refine ⟨⟨SB.wf,SB.fz,fun b b' s s' e=>?_,fun b z cs e hc=>?_,fun b es e=>?_⟩,T2⟩
 ·dsimp only at e
  rcases split b s with ⟨h1,h2,h3⟩ | ⟨c,rfl,h2,h3⟩
  ·rcases split b' s' with ⟨g1,g2,g3⟩ | ⟨c',rfl,g2,g3⟩
   ·rw [h3,g3] at e; exact S.inj _ _ h2 g2 e
   ·rw [h3,g3] at e
    have a1:φ b < H.nx:=S.lt h2
    have:=new c' g2
    omega
  ·rcases split b' s' with ⟨g1,g2,g3⟩ | ⟨c',rfl,g2,g3⟩
   ·rw [h3,g3] at e
    have a1:φ b' < H.nx:=S.lt g2
    have:=new c h2
    omega
   ·rw [h3,g3] at e
    rw [SB.inj _ _ h2 g2 e]
 ·rcases split b (solid_cells e hc) with ⟨h1,h2,h3⟩ | ⟨c,rfl,h2,h3⟩
  ·have e':=e
   rw [show (h ++ bs.map (shB h.length))[b]? = _ from lo h1] at e'
   obtain ⟨vs,k1,k2,k3,k4⟩:=S.blk b z cs e' hc
   dsimp only
   rw [h3]
   exact ⟨vs,(same _ (S.lt h2)).trans k1,k2.step T2,T.n0 ▸ k3,fun q=>k4 (fo _ (S.lt h2) q)⟩
  ·have e':=e
   rw [show (h ++ bs.map (shB h.length))[c + h.length]? = _ from get_shB c] at e'
   obtain ⟨P,hP,e2⟩:=Option.map_eq_some_iff.1 e'
   cases P with
   | cells z' cs' =>
    cases e2
    obtain ⟨vs,k1,k2,k3,k4⟩:=SB.blk c _ cs' hP (by rintro rfl; exact hc rfl)
    dsimp only
    rw [h3]
    exact ⟨vs,k1,shL_ok k2,k3,k4⟩
   | _=>cases e2
 ·rcases split b (solid_map e) with ⟨h1,h2,h3⟩ | ⟨c,rfl,h2,h3⟩
  ·have e':=e
   rw [show (h ++ bs.map (shB h.length))[b]? = _ from lo h1] at e'
   obtain ⟨ys,k1,k2,k3,k4,k5⟩:=S.mpb b es e'
   dsimp only
   rw [h3]
   exact ⟨ys,(same _ (S.lt h2)).trans k1,k2,k3.step T2,T.n0 ▸ k4,fun q=>k5 (fo _ (S.lt h2) q)⟩
  ·have e':=e
   rw [show (h ++ bs.map (shB h.length))[c + h.length]? = _ from get_shB c] at e'
   obtain ⟨P,hP,e2⟩:=Option.map_eq_some_iff.1 e'
   cases P with
   | map es' =>
    cases e2
    obtain ⟨ys,k1,k2,k3,k4,k5⟩:=SB.mpb c es' hP
    dsimp only
    rw [h3]
    refine ⟨ys,k1,?_,?_,k4,k5⟩
    ·rw [← k2]; simp [List.map_map,Function.comp_def]
    ·rw [shL_map]; exact shL_ok k3
   | _=>cases e2
theorem PCa.pure {f:Nat} {args args0:List PV} {h:PH} (L:List Nat) {R:PV → PH → Prop} (k:PCa E O f args0 [] R) (hv:VgL (· ∈ L) id h [] args args0) :
  PCw E O f args h (· ∈ []) (fun r h'=>∃ r0 bs,R r0 bs ∧ r = sh h.length r0 ∧ h' = killL h L ++ bs.map (shB h.length)):=by
 intro F H φ vs S Rv
 obtain ⟨S1,T1⟩:=freeze_ok S L
 have S0:=(Keep.none (· ∈ L) id h).ok S
 refine (k _ H _ vs S0 (hv.ok S Rv)).mono ?_
 rintro x H' ⟨r0,bs,F',ψ,hR,hr,SB,T⟩
 obtain ⟨SD,TD⟩:=join_ok (W:=(· ∈ [])) S1 SB T
 have hl:=killL_length L h
 rw [hl] at SD TD
 refine ⟨_,_,F',_,⟨r0,bs,hR,rfl,rfl⟩,?_,SD,(T1.trans TD (by exact Nat.le_refl _) (fun _ q=>q.elim) (fun _ q=>q))⟩
 have:=sh_ok (φ:=φ) (h:=killL h L) hr
 rw [hl] at this
 exact this
mutual
def flatP:PV → Bool
 | .v _=>true
 | .agg cs=>flatPL cs
 | .tup cs=>flatPL cs
 | .ifc _ p=>flatP p
 | _=>false
def flatPL:List PV → Bool
 | []=>true
 | p :: ps=>flatP p && flatPL ps
end
mutual
theorem flatP_ok {C D:Cx}:∀ {p:PV} {x:Value},flatP p = true → RV C p x → RV D p x
 | _,_,_,.v x=>.v x
 | _,_,k,.agg r=>.agg (flatPL_ok (by simpa [flatP] using k) r)
 | _,_,k,.tup r=>.tup (flatPL_ok (by simpa [flatP] using k) r)
 | _,_,k,.ifc r=>.ifc (flatP_ok (by simpa [flatP] using k) r)
theorem flatPL_ok {C D:Cx}:∀ {p:List PV} {x:List Value},flatPL p = true → RVs C p x → RVs D p x
 | _,_,_,.nil=>.nil
 | _,_,k,.cons a b=>by
  simp only [flatPL,Bool.and_eq_true] at k
  exact .cons (flatP_ok k.1 a) (flatPL_ok k.2 b)
end
theorem PCa.flat {f:Nat} {args args0:List PV} {h:PH} {R:PV → PH → Prop} (k:PCa E O f args0 [] R) (hv:VgL All id h [] args args0) (hR:∀ r bs,R r bs → flatP r = true) :
  PCw E O f args h (· ∈ []) (fun r h'=>(∃ bs,R r bs) ∧ h' = h):=by
 intro F H φ vs S Rv
 have S0:=(Keep.none All id h).ok S
 refine (k _ H _ vs S0 (hv.ok S Rv)).mono ?_
 rintro x H' ⟨r,bs,F',ψ,hr0,hr,SB,T⟩
 have noi:∀ {V:Nat → Prop} {x:Nat} {F:Nat → Prop} {φ:Nat → Nat},¬ im ⟨F,H,φ,[]⟩ V x:=by
  rintro V x F φ ⟨b,_,s,_⟩
  have:=solid_lt s
  simp at this
 have same:∀ x,x < H.nx → H'.get x = H.get x:=fun x hx=>T.out x hx noi
 have T2:Stp h.length (· ∈ []) ⟨F,H,φ,h⟩ ⟨F,H',φ,h⟩:={
  n0:=T.n0
  nx:=T.nx
  fz:=fun x hx=>⟨hx,same x (S.fz x hx)⟩
  fo:=fun _ _ _ h=>h
  out:=fun x hx _=>same x hx
  loc:=fun b hb=>.inr ⟨hb,rfl⟩
  len:=id
  le:=fun _ _ _ _ h=>h
  kat:=fun _ _ _ _ _ h=>⟨h,rfl⟩
  kmp:=fun _ _ _ h=>⟨h,rfl⟩ }
 have e:∀ {P:PB},h[h.length]? ≠ some P:=by intro P; simp
 refine ⟨r,h,F,φ,⟨⟨bs,hr0⟩,rfl⟩,flatP_ok (hR r bs hr0) hr,S.of T2 rfl h.length (fun _ _=>⟨rfl,rfl⟩) (fun b _ s=>same _ (S.lt s)) (fun b _ s s2=>?_) (fun z cs e'=>absurd e' e) (fun es e'=>absurd e' e),T2⟩
 exact absurd (solid_lt s2) (Nat.lt_irrefl _)
def keepL (A:Nat → Prop) (σ:Nat → Nat) (h bs:PH):Nat → PH → Prop
 | _,[]=>True
 | i,P :: l=>KeepB A σ h bs h[σ i]? P ∧ keepL A σ h bs (i + 1) l
@[simp] theorem keepL_nil (A:Nat → Prop) (σ:Nat → Nat) (h bs:PH) (i:Nat):keepL A σ h bs i [] ↔ True:=Iff.rfl
@[simp] theorem keepL_cons (A:Nat → Prop) (σ:Nat → Nat) (h bs:PH) (i:Nat) (P:PB) (l:PH):keepL A σ h bs i (P :: l) ↔ KeepB A σ h bs h[σ i]? P ∧ keepL A σ h bs (i + 1) l:=Iff.rfl
theorem keepL.ok {A:Nat → Prop} {σ:Nat → Nat} {h bs:PH}:∀ {l:PH} {i:Nat},keepL A σ h bs i l → ∀ j P,l[j]? = some P → KeepB A σ h bs h[σ (i + j)]? P
 | [],i,_,j,P,e=>by simp at e
 | Q :: l,i,k,0,P,e=>by simp at e; subst e; exact k.1
 | Q :: l,i,k,j + 1,P,e=>by
  have:=keepL.ok k.2 j P (by simpa using e)
  rwa [show i + 1 + j = i + (j + 1) by omega] at this
theorem Keep.id' {h bs:PH} (k:keepL (fun _=>False) id h bs 0 bs):Keep (fun _=>False) id h bs :=
 ⟨fun i P e=>by simpa using k.ok i P e,fun i j _ _ _ _ e=>e,fun _ _ _ q=>q⟩
theorem Keep.at {A : Nat → Prop} {h bs : PH} (L : List Nat) (hl : L.length = bs.length) (nd : L.Nodup) (hA : ∀ b ∈ L, ¬ A b) (k : keepL A (fun i => L.getD i 0) h bs 0 bs) : Keep A (fun i => L.getD i 0) h bs := by
  refine ⟨fun i P e => by simpa using k.ok i P e, fun i j hi hj _ _ e => ?_, fun i hi _ => hA _ ?_⟩
  · rw [List.getD_eq_getElem?_getD, List.getD_eq_getElem?_getD, List.getElem?_eq_getElem (by omega), List.getElem?_eq_getElem (by omega)] at e
    have hi' : i < L.length := by omega
    have hj' : j < L.length := by omega
    simp only [Option.getD_some] at e
    have key : ∀ (L : List Nat), L.Nodup → ∀ (i j : Nat) (hi : i < L.length) (hj : j < L.length), L[i] = L[j] → i = j := by
      intro L
      induction L with
      | nil => intro _ i j hi; simp at hi
      | cons x L ih =>
        intro nd i j hi hj e
        rw [List.nodup_cons] at nd
        cases i with
        | zero => cases j with
          | zero => rfl
          | succ j => simp only [List.getElem_cons_zero, List.getElem_cons_succ] at e; exact absurd (e ▸ List.getElem_mem _) nd.1
        | succ i => cases j with
          | zero => simp only [List.getElem_cons_zero, List.getElem_cons_succ] at e; exact absurd (e ▸ List.getElem_mem _) nd.1
          | succ j =>
            simp only [List.getElem_cons_succ] at e
            rw [ih nd.2 i j (by simpa using hi) (by simpa using hj) e]
    exact key L nd i j hi' hj' e
  · rw [List.getD_eq_getElem?_getD, List.getElem?_eq_getElem (by omega)]
    exact List.getElem_mem _
@[simp] theorem KeepB_cells (A:Nat → Prop) (σ:Nat → Nat) (h bs:PH) (z z':Nat) (ps qs:List PV):KeepB A σ h bs (some (.cells z ps)) (.cells z' qs) ↔ qs = [] ∨ (z = z' ∧ VgL A σ h bs ps qs):=by
 unfold KeepB
 constructor
 ·rintro (q | ⟨ps',e,k⟩)
  ·exact .inl q
  ·cases e; exact .inr ⟨rfl,k⟩
 ·rintro (q | ⟨rfl,k⟩)
  ·exact .inl q
  ·exact .inr ⟨_,rfl,k⟩
@[simp] theorem KeepB_dead (A:Nat → Prop) (σ:Nat → Nat) (h bs:PH) (o:Option PB):KeepB A σ h bs o .dead ↔ True:=Iff.rfl
@[simp] theorem KeepB_void (A:Nat → Prop) (σ:Nat → Nat) (h bs:PH) (o:Option PB) (z:Nat):KeepB A σ h bs o (.cells z []) ↔ True:=⟨fun _=>trivial,fun _=>.inl rfl⟩
def okC:Option PB → Option PB → Prop
 | some (.cells _ cs),some (.cells _ cs')=>cs.length = cs'.length
 | _,_=>False
@[simp] theorem okC_c (z z':Nat) (cs cs':List PV):okC (some (.cells z cs)) (some (.cells z' cs')) ↔ cs.length = cs'.length:=Iff.rfl
theorem keep_stp {h bs:PH} {A:Nat → Prop} {σ:Nat → Nat} (K:Keep A σ h bs) {F:Nat → Prop} {H:AH} {φ:Nat → Nat} {C0:Cx} (h0:C0.h.length = 0) (T:Stp 0 All C0 ⟨F,H,φ,h⟩):Stp 0 All C0 ⟨add F h φ A,H,fun i=>φ (σ i),bs⟩:=by
 have h0':C0.h = []:=List.length_eq_zero_iff.1 h0
 have no:∀ {b:Nat},¬ solid C0.h b:=fun s=>by have:=solid_lt s; omega
 refine ⟨T.n0,T.nx,fun y hy=>⟨.inl (T.fz y hy).1,(T.fz y hy).2⟩,fun y hy hi hd=>?_,T.out,fun b hb=>?_,fun _=>Nat.zero_le _,fun b hb=>absurd hb (Nat.not_lt_zero _),fun b hb=>absurd hb (Nat.not_lt_zero _),fun b hb=>absurd hb (Nat.not_lt_zero _)⟩
 ·rcases hd with hd | ⟨b,_,s,e⟩
  ·exact T.fo y hy hi hd
  ·rcases T.loc b s with q | ⟨q,_⟩
   ·dsimp only at q; omega
   ·exact absurd q no
 ·rcases T.loc _ (K.solid hb) with q | ⟨q,_⟩
  ·exact .inl q
  ·exact absurd q no
theorem ret_keep {r r2:PV} {h bs:PH} (A:Nat → Prop) (σ:Nat → Nat) (K:Keep A σ h bs) (V:Vg A σ h bs r r2):GhR 0 r h r2 bs:=by
 intro F H φ x S R
 exact ⟨_,_,K.ok S,V F H φ x S R,fun C0 h0 T=>keep_stp K h0 T⟩
theorem ret_perm {n:Nat} {r r2:PV} {h bs:PH} (σ:Nat → Nat) (K:Keep (fun _=>False) σ h bs) (V:Vg (fun _=>False) σ h bs r r2) (hn:n ≤ bs.length) (h1:∀ b,b < n → σ b = b ∧ (ptot bs b = none ∨ ptot bs b = ptot h b) ∧ (isMap bs b → isMap h b)) (h2:∀ b,n ≤ b → b < bs.length → n ≤ σ b) (h3:∀ b,b < n → ∀ t,Le h b t → Le bs b t):GhR n r h r2 bs:=by
 intro F H φ x S R
 refine ⟨_,_,K.ok S,V F H φ x S R,fun C0 h0 T=>?_⟩
 have tl:∀ {h:PH} {b t:Nat},At h b t ↔ ptot h b = some t:=by
  intro h b t
  constructor
  ·rintro ⟨z,cs,e,rfl⟩; unfold ptot; rw [e]
  ·intro e; exact (ptot_at e).2 rfl
 refine ⟨T.n0,T.nx,fun y hy=>⟨.inl (T.fz y hy).1,(T.fz y hy).2⟩,fun y hy hi hd=>?_,T.out,fun b hb=>?_,fun _=>hn,fun b hb hl t ht=>h3 b hb t (T.le b hb hl t ht),fun b hb hl t ht ha=>?_,fun b hb hl ha=>?_⟩
 ·rcases hd with hd | ⟨b,q,_⟩
  ·exact T.fo y hy hi hd
  ·exact q.elim
 ·rcases T.loc _ (K.solid hb) with q | ⟨q,e⟩
  ·exact .inl q
  ·by_cases hbn:b < n
   ·rw [(h1 b hbn).1] at q e
    exact .inr ⟨q,by dsimp only; rw [(h1 b hbn).1]; exact e⟩
   ·have:=h2 b (by omega) (solid_lt hb)
    have:=solid_lt q
    omega
 ·obtain ⟨a1,a2,_⟩:=h1 b hb
  rw [tl] at ha
  have e:ptot h b = some t:=by
   rcases a2 with a2 | a2
   ·rw [a2] at ha; cases ha
   ·rw [← a2]; exact ha
  obtain ⟨k1,k2⟩:=T.kat b hb hl t ht (tl.2 e)
  exact ⟨k1,by dsimp only at k2 ⊢; rw [a1]; exact k2⟩
 ·obtain ⟨a1,_,a3⟩:=h1 b hb
  obtain ⟨k1,k2⟩:=T.kmp b hb hl (a3 ha)
  exact ⟨k1,by dsimp only at k2 ⊢; rw [a1]; exact k2⟩
def sameTot (h bs:PH) (b:Nat):Prop:=bs[b]? = some .dead ∨ okC h[b]? bs[b]?
theorem ret_list {n : Nat} {r r2 : PV} {h bs : PH} (L : List Nat) (hL : L.length + n = bs.length) (nd : L.Nodup) (hge : ∀ b ∈ L, n ≤ b) (hs : ∀ b, b < n → sameTot h bs b) (K : keepL (fun _ => False) (fun i => if i < n then i else L.getD (i - n) 0) h bs 0 bs) (V : Vg (fun _ => False) (fun i => if i < n then i else L.getD (i - n) 0) h bs r r2) : GhR n r h r2 bs := by
  have getD : ∀ i, n ≤ i → i < bs.length → L[i - n]? = some (L.getD (i - n) 0) := fun i h1 h2 => by
    rw [List.getD_eq_getElem?_getD, List.getElem?_eq_getElem (by omega)]; rfl
  have KK : Keep (fun _ => False) (fun i => if i < n then i else L.getD (i - n) 0) h bs := by
    refine ⟨fun i P e => by simpa using K.ok i P e, fun i j hi hj _ _ e => ?_, fun _ _ _ q => q⟩
    by_cases h1 : i < n
    · rw [if_pos h1] at e
      by_cases h2 : j < n
      · rwa [if_pos h2] at e
      · rw [if_neg h2] at e
        have := hge _ (List.mem_of_getElem? (getD j (by omega) hj))
        omega
    · rw [if_neg h1] at e
      by_cases h2 : j < n
      · rw [if_pos h2] at e
        have := hge _ (List.mem_of_getElem? (getD i (by omega) hi))
        omega
      · rw [if_neg h2] at e
        have a1 := getD i (by omega) hi
        have a2 := getD j (by omega) hj
        rw [e] at a1
        have key : ∀ (L : List Nat), L.Nodup → ∀ (i j b : Nat), L[i]? = some b → L[j]? = some b → i = j := by
          intro L
          induction L with
          | nil => intro _ i j b e; simp at e
          | cons x L ih =>
            intro nd i j b e e'
            rw [List.nodup_cons] at nd
            cases i with
            | zero => cases j with
              | zero => rfl
              | succ j => simp at e e'; subst e; exact absurd (List.mem_of_getElem? e') nd.1
            | succ i => cases j with
              | zero => simp at e e'; subst e'; exact absurd (List.mem_of_getElem? e) nd.1
              | succ j => rw [ih nd.2 i j b (by simpa using e) (by simpa using e')]
        have := key L nd _ _ _ a1 a2
        omega
  refine ret_perm _ KK V (by omega) (fun b hb => ⟨if_pos hb, ?_, ?_⟩) (fun b h1 h2 => ?_) (fun b hb t ht => ?_)
  · rcases hs b hb with q | q
    · left; unfold ptot; rw [q]
    · right
      unfold okC at q
      split at q
      · rename_i z cs z' cs' e1 e2
        unfold ptot; rw [e1, e2]; simp only [q]
      · exact q.elim
  · rintro ⟨es, e⟩
    rcases hs b hb with q | q
    · rw [q] at e; cases e
    · rw [e] at q; unfold okC at q; split at q
      · rename_i e2; cases e2
      · exact q.elim
  · rw [if_neg (by omega)]
    exact hge _ (List.mem_of_getElem? (getD b h1 h2))
  · intro z cs e
    rcases hs b hb with q | q
    · rw [q] at e; cases e
    · rw [e] at q
      unfold okC at q
      split at q
      · rename_i z1 cs1 z2 cs2 e1 e2
        cases e2
        have := ht _ _ e1
        omega
      · exact q.elim
theorem ret_id {n:Nat} {r r2:PV} {h bs:PH} (K:Keep (fun _=>False) id h bs) (V:Vg (fun _=>False) id h bs r r2) (hn:n ≤ bs.length) (hs:∀ b,b < n → ptot bs b = ptot h b ∧ (isMap bs b → isMap h b)):GhR n r h r2 bs:=by
 intro F H φ x S R
 refine ⟨_,_,K.ok S,V F H φ x S R,fun C0 h0 T=>?_⟩
 have tl:∀ {h:PH} {b t:Nat},At h b t ↔ ptot h b = some t:=by
  intro h b t
  constructor
  ·rintro ⟨z,cs,e,rfl⟩; unfold ptot; rw [e]
  ·intro e; exact (ptot_at e).2 rfl
 refine ⟨T.n0,T.nx,fun y hy=>⟨.inl (T.fz y hy).1,(T.fz y hy).2⟩,fun y hy hi hd=>?_,T.out,fun b hb=>T.loc b (K.solid hb),fun _=>hn,fun b hb hl t ht=>?_,fun b hb hl t ht ha=>?_,fun b hb hl ha=>T.kmp b hb hl ((hs b hb).2 ha)⟩
 ·rcases hd with hd | ⟨b,q,_⟩
  ·exact T.fo y hy hi hd
  ·exact q.elim
 ·intro z cs e
  have a1:ptot bs b = some cs.length:=by unfold ptot; rw [show bs[b]? = _ from e]
  have:=T.le b hb hl t ht
  exact (ptot_le ((hs b hb).1 ▸ a1)).1 this
 ·exact T.kat b hb hl t ht (tl.2 ((hs b hb).1 ▸ tl.1 ha))
theorem ret_cut {n m:Nat} {r:PV} {h:PH} (hnm:n ≤ m) (hm:m ≤ h.length) (K:keepL (fun _=>False) id h (h.take m) 0 (h.take m)) (V:Vg (fun _=>False) id h (h.take m) r r):GhR n r h r (h.take m):=by
 refine ret_id (Keep.id' K) V (by simp; omega) fun b hb=>?_
 have e:(h.take m)[b]? = h[b]?:=by rw [List.getElem?_take,if_pos (by omega)]
 exact ⟨by unfold ptot; rw [e],fun q=>(isMap_of e).1 q⟩
theorem ret_fz {r r2:PV} {h:PH} (V:Vg All id h [] r r2):GhR 0 r h r2 []:=ret_keep _ _ (Keep.none _ _ _) V
theorem ret_own {sz b n:Nat} {h:PH} {cs qs:List PV} (hb:h[b]? = some (.cells sz cs)) (V:VgL (· ≠ b) (fun _=>b) h [.cells sz qs] cs qs):GhR 0 (.sl sz b 0 n n) h (.sl sz 0 0 n n) [.cells sz qs]:=by
 have hl:=V.length
 have e1:ptot h b = some cs.length:=by unfold ptot; rw [hb]
 have e2:ptot [PB.cells sz qs] 0 = some cs.length:=by unfold ptot; simp [hl]
 refine ret_keep (· ≠ b) (fun _=>b) ⟨fun i P e=>?_,fun i j hi hj _ _ _=>by simp at hi hj; omega,fun i hi s=>by simp⟩ (Vg_sl e1 e2 rfl)
 cases i with
 | zero=>simp at e; subst e; exact .inr ⟨cs,hb,V⟩
 | succ i=>simp at e
theorem ret_nil (sz:Nat) (h:PH):GhR 0 (.v (.slice none 0 0)) h (.sl sz 0 0 0 0) [.cells sz []]:=by
 refine ret_keep (fun _=>False) id ⟨fun i P e=>?_,fun i j hi hj _ _ _=>by simp at hi hj; omega,fun i hi s=>by simp⟩ (Vg_void rfl)
 cases i with
 | zero=>simp at e; subst e; exact .inl rfl
 | succ i=>simp at e
def PF.sel:List (Nat × PV) → PF
 | []=>⟨fun _=>.any⟩
 | (t,p) :: l=>⟨fun a=>if a = t then p else (PF.sel l).g a⟩
@[simp] theorem sel_nil (a:Nat):(PF.sel []).get a = .any:=rfl
@[simp] theorem sel_cons (t a:Nat) (p:PV) (l:List (Nat × PV)):(PF.sel ((t,p) :: l)).get a = if a = t then p else (PF.sel l).get a:=rfl
def selV (A:Nat → Prop) (σ:Nat → Nat) (h bs:PH) (fr:PF):List (Nat × PV) → Prop
 | []=>True
 | (t,p) :: l=>Vg A σ h bs (fr.get t) p ∧ selV A σ h bs fr l
@[simp] theorem selV_nil (A:Nat → Prop) (σ:Nat → Nat) (h bs:PH) (fr:PF):selV A σ h bs fr [] ↔ True:=Iff.rfl
@[simp] theorem selV_cons (A:Nat → Prop) (σ:Nat → Nat) (h bs:PH) (fr:PF) (t:Nat) (p:PV) (l:List (Nat × PV)):selV A σ h bs fr ((t,p) :: l) ↔ Vg A σ h bs (fr.get t) p ∧ selV A σ h bs fr l:=Iff.rfl
theorem selV.ok {A:Nat → Prop} {σ:Nat → Nat} {h bs:PH} {fr:PF}:∀ {l:List (Nat × PV)},selV A σ h bs fr l → ∀ t,Vg A σ h bs (fr.get t) ((PF.sel l).get t)
 | [],_,t=>Vg_any _
 | (a,p) :: l,k,t=>by
  rw [sel_cons]
  split
  ·rename_i e; subst e; exact k.1
  ·exact selV.ok k.2 t
theorem Gh_sel {fr:PF} {h h2:PH} (A:Nat → Prop) (σ:Nat → Nat) (l:List (Nat × PV)) (K:Keep A σ h h2) (V:selV A σ h h2 fr l):Gh 0 fr h (PF.sel l) h2:=by
 intro F H φ af S R
 exact ⟨_,_,K.ok S,fun t=>V.ok t F H φ _ S (R t),fun C0 h0 T=>keep_stp K h0 T⟩
end Go.Proofs.YtoijnpfpjpefgaaGreat.A.P
/- A text without what this claim does not need: Pm12. -/
set_option linter.unusedVariables false
set_option linter.unusedSimpArgs false
namespace Go.Proofs.YtoijnpfpjpefgaaGreat.A.P
open Go Go.RowKit
mutual
def frz:PV → Bool
 | .v _=>true
 | .fs _ _=>true
 | .fp _=>true
 | .agg cs=>frzL cs
 | .tup cs=>frzL cs
 | .fn _ a b=>frzL a && frzL b
 | .ifc _ p=>frz p
 | _=>false
def frzL:List PV → Bool
 | []=>true
 | p :: ps=>frz p && frzL ps
end
attribute [simp] sh shL flatP flatPL
@[simp] theorem frz_v (x:Value):frz (.v x) = true ↔ True:=⟨fun _=>trivial,fun _=>rfl⟩
@[simp] theorem frz_fs (sz:Nat) (rows:List (List PV)):frz (.fs sz rows) = true ↔ True:=⟨fun _=>trivial,fun _=>rfl⟩
@[simp] theorem frz_agg (cs:List PV):frz (.agg cs) = true ↔ frzL cs = true:=by rw [frz]
@[simp] theorem frz_tup (cs:List PV):frz (.tup cs) = true ↔ frzL cs = true:=by rw [frz]
@[simp] theorem frz_ifc (t:Nat) (p:PV):frz (.ifc t p) = true ↔ frz p = true:=by rw [frz]
@[simp] theorem frzL_n:frzL [] = true ↔ True:=⟨fun _=>trivial,fun _=>rfl⟩
@[simp] theorem frzL_c (p:PV) (ps:List PV):frzL (p :: ps) = true ↔ frz p = true ∧ frzL ps = true:=by rw [frzL,Bool.and_eq_true]
theorem frzL_all:∀ l:List PV,frzL l = l.all frz
 | []=>rfl
 | p :: l=>by simp [frzL,frzL_all l]
theorem frzL_append (a b:List PV):frzL (a ++ b) = true ↔ frzL a = true ∧ frzL b = true:=by simp [frzL_all]
theorem frzL_set {p:PV} (hp:frz p = true):∀ {l:List PV} {k:Nat},frzL l = true → frzL (l.set k p) = true
 | [],k,_=>rfl
 | q :: l,0,h=>by rw [frzL_c] at h; exact (frzL_c _ _).2 ⟨hp,h.2⟩
 | q :: l,k + 1,h=>by rw [frzL_c] at h; exact (frzL_c _ _).2 ⟨h.1,frzL_set hp h.2⟩
attribute [simp] frzL_set
mutual
theorem frz_sh (k:Nat):∀ {p:PV},frz p = true → sh k p = p
 | .v _,_=>rfl
 | .fs _ _,_=>rfl
 | .fp _,_=>rfl
 | .agg cs,h=>by rw [sh,frzL_sh k (by simpa using h)]
 | .tup cs,h=>by rw [sh,frzL_sh k (by simpa using h)]
 | .fn f a b,h=>by
  simp only [frz,Bool.and_eq_true] at h
  rw [sh,frzL_sh k h.1,frzL_sh k h.2]
 | .ifc t p,h=>by rw [sh,frz_sh k (by simpa using h)]
theorem frzL_sh (k:Nat):∀ {l:List PV},frzL l = true → shL k l = l
 | [],_=>rfl
 | p :: l,h=>by
  simp only [frzL,Bool.and_eq_true] at h
  rw [shL,frz_sh k h.1,frzL_sh k h.2]
end
section
variable {A:Nat → Prop} {σ:Nat → Nat} {h bs:PH}
mutual
theorem frz_Vg:∀ {p:PV},frz p = true → Vg A σ h bs p p
 | .v _,_=>(Vg_v _).2 trivial
 | .fs _ _,_=>(Vg_fs _ _).2 trivial
 | .fp _,_=>(Vg_fp _).2 trivial
 | .agg cs,h=>Vg_agg (frzL_Vg (by simpa using h))
 | .tup cs,h=>Vg_tup (frzL_Vg (by simpa using h))
 | .fn f a b,h=>by
  simp only [frz,Bool.and_eq_true] at h
  exact Vg_fn (frzL_Vg h.1) (frzL_Vg h.2)
 | .ifc t p,h=>Vg_ifc (frz_Vg (by simpa using h))
theorem frzL_Vg:∀ {l:List PV},frzL l = true → VgL A σ h bs l l
 | [],_=>trivial
 | p :: l,h=>by
  simp only [frzL,Bool.and_eq_true] at h
  exact ⟨frz_Vg h.1,frzL_Vg h.2⟩
end
@[simp] theorem VgL_self {l:List PV} (k:frzL l = true):VgL A σ h bs l l ↔ True:=⟨fun _=>trivial,fun _=>frzL_Vg k⟩
@[simp] theorem Vg_self {p:PV} (k:frz p = true):Vg A σ h bs p p ↔ True:=⟨fun _=>trivial,fun _=>frz_Vg k⟩
theorem okC_tot {b i:Nat} (k:okC h[b]? bs[i]?):∃ T,ptot h b = some T ∧ ptot bs i = some T:=by
 unfold okC at k
 split at k
 ·rename_i z cs z' cs' e1 e2
  exact ⟨cs.length,by unfold ptot; rw [e1],by unfold ptot; rw [e2,k]⟩
 ·exact k.elim
@[simp] theorem Vg_slS {b i sz o n c:Nat} (hs:σ i = b) (k:okC h[b]? bs[i]?):Vg A σ h bs (.sl sz b o n c) (.sl sz i o n c) ↔ True:=⟨fun _=>trivial,fun _=>by
 obtain ⟨T,h1,h2⟩:=okC_tot k
 exact Vg_sl h1 h2 hs⟩
@[simp] theorem Vg_refS {b i o t:Nat} (hs:σ i = b) (k:okC h[b]? bs[i]?):Vg A σ h bs (.ref b o t) (.ref i o t) ↔ True:=⟨fun _=>trivial,fun _=>by
 obtain ⟨T,h1,h2⟩:=okC_tot k
 exact Vg_ref h1 h2 hs⟩
def isVoid (bs:PH) (i:Nat):Bool:=match bs[i]? with
 | some (.cells _ [])=>true
 | _=>false
@[simp] theorem Vg_voidS {sz i:Nat} (k:isVoid bs i = true):Vg A σ h bs (.v (.slice none 0 0)) (.sl sz i 0 0 0) ↔ True:=⟨fun _=>trivial,fun _=>by
 unfold isVoid at k
 split at k
 ·rename_i z e; exact Vg_void e
 ·cases k⟩
@[simp] theorem Vg_aggS (ps qs:List PV) (k:VgL A σ h bs ps qs):Vg A σ h bs (.agg ps) (.agg qs) ↔ True:=⟨fun _=>trivial,fun _=>Vg_agg k⟩
def fzc:PV → Bool
 | .v _=>true
 | .fs _ _=>true
 | _=>false
theorem fzc_Vz {p:PV} (k:fzc p = true):Vz A h p p:=by
 cases p <;> first
  | exact Vz_v _
  | exact Vz_fs _ _
  | cases k
theorem fzc_VzL:∀ {l:List PV},l.all fzc = true → VzL A h l l
 | [],_=>trivial
 | p :: l,k=>by
  simp only [List.all_cons,Bool.and_eq_true] at k
  exact ⟨fzc_Vz k.1,fzc_VzL k.2⟩
theorem fzc_frz {p:PV} (k:fzc p = true):frz p = true:=by cases p <;> first | rfl | cases k
theorem fzc_frzL {l:List PV} (k:l.all fzc = true):frzL l = true:=by
 rw [frzL_all,List.all_eq_true] at *
 exact fun p hp=>fzc_frz (k p hp)
end
section
variable {E:Env} {O:Orc} {n:Nat} {Q:Ex → PF → PH → Prop} {ks:List Kp} {fr:PF} {h:PH} {m:Mp} {l:List AO} {d:Option Nat}
def Fz (E:Env) (O:Orc) (f:Nat) (args:List PV) (r:PV):Prop:=PCa E O f args [] (fun r' h'=>r' = r ∧ h' = [] ∧ frz r = true)
def Fo (E:Env) (O:Orc) (f:Nat) (args:List PV) (sz k:Nat) (cs:List PV):Prop:=PCa E O f args [] (fun r' h'=>r' = .sl sz 0 0 k k ∧ h' = [.cells sz cs] ∧ frzL cs = true ∧ cs.length = k * sz)
def retE (res:List RS) (r:PV):Ex → PF → PH → Prop
 | .exit _,_,_=>False
 | _,fr,h=>(RSp.all fr h res).map outP = some r
@[simp] theorem retE_n (res:List RS) (r:PV):retE res r .normal fr h = ((RSp.all fr h res).map outP = some r):=rfl
@[simp] theorem retE_r (res:List RS) (r:PV):retE res r .ret fr h = ((RSp.all fr h res).map outP = some r):=rfl
theorem PK.monoQ {Q Q':Ex → PF → PH → Prop} (hq:∀ ex fr h,Q ex fr h → Q' ex fr h) {cf:Cf} {fr:PF} {h:PH} (k:PK E O n Q cf fr h):PK E O n Q' cf fr h:=by
 induction k with
 | skip _ ih=>exact .skip ih
 | ret _ ih=>exact .ret ih
 | exit _ ih=>exact .exit ih
 | reg _ ih=>exact .reg ih
 | regd _ ih=>exact .regd ih
 | seq _ ih=>exact .seq ih
 | block _ ih=>exact .block ih
 | cond e _ ih=>exact .cond e ih
 | loop I k _ g hI ih=>exact .loop I k ih g hI
 | onil _ ih=>exact .onil ih
 | onild e _ ih=>exact .onild e ih
 | regd0 _ ih=>exact .regd0 ih
 | onil0 _ ih=>exact .onil0 ih
 | op e _ ih=>exact .op e ih
 | gon e w _ ih=>exact .gon e w ih
 | goff e w _ ih=>exact .goff e w ih
 | call c _ ih=>exact .call c ih
 | callv e c _ ih=>exact .callv e c ih
 | dnil q=>exact .dnil (hq _ _ _ q)
 | dns _ ih=>exact .dns ih
 | dnb _ ih=>exact .dnb ih
 | dnl a b c=>exact .dnl a b c
 | des _ ih=>exact .des ih
 | deb1 _ ih=>exact .deb1 ih
 | deb0 e _ ih=>exact .deb0 e ih
 | del _ ih=>exact .del ih
 | dret _ ih=>exact .dret ih
theorem Fz.body {f:Nat} {F:AF} {args:List PV} {r:PV} (ho:O f = none) (he:E f = some F) (hl:args.length = F.np) (hr:frz r = true) (k:PK E O 0 (retE F.res r) (.code F.body []) (PF.of args) []):Fz E O f args r:=by
 refine PCa.body ho he hl (PK.monoQ ?_ k)
 intro ex fr h q
 have:∀ ex,retE F.res r ex fr h → (∀ i,ex ≠ .exit i) → ∃ vs,RSp.all fr h F.res = some vs ∧ ∃ r2 h2,GhR 0 (outP vs) h r2 h2 ∧ r2 = r ∧ h2 = [] ∧ frz r = true:=by
  intro ex q hx
  have q':(RSp.all fr h F.res).map outP = some r:=by
   cases ex with
   | exit i=>exact absurd rfl (hx i)
   | normal=>exact q
   | ret=>exact q
  obtain ⟨vs,e,e2⟩:=Option.map_eq_some_iff.1 q'
  exact ⟨vs,e,r,[],by rw [e2]; exact ret_fz (frz_Vg hr),rfl,rfl,hr⟩
 cases ex with
 | exit i=>exact q
 | normal=>exact this _ q (fun i=>by simp)
 | ret=>exact this _ q (fun i=>by simp)
def isOwn (h:PH) (sz k:Nat) (cs:List PV):PV → Prop
 | .sl sz' b o n' c=>sz' = sz ∧ o = 0 ∧ n' = k ∧ c = k ∧ h[b]? = some (.cells sz cs)
 | .v (.slice none 0 0)=>k = 0 ∧ cs = []
 | _=>False
def retO (res:List RS) (sz k:Nat) (cs:List PV):Ex → PF → PH → Prop
 | .exit _,_,_=>False
 | _,fr,h=>∃ vs,RSp.all fr h res = some vs ∧ isOwn h sz k cs (outP vs)
@[simp] theorem retO_n (res:List RS) (sz k:Nat) (cs:List PV):retO res sz k cs .normal fr h = ∃ vs,RSp.all fr h res = some vs ∧ isOwn h sz k cs (outP vs):=rfl
@[simp] theorem retO_r (res:List RS) (sz k:Nat) (cs:List PV):retO res sz k cs .ret fr h = ∃ vs,RSp.all fr h res = some vs ∧ isOwn h sz k cs (outP vs):=rfl
theorem Fo.body {f:Nat} {F:AF} {args:List PV} {sz k:Nat} {cs:List PV} (ho:O f = none) (he:E f = some F) (hl:args.length = F.np) (hz:frzL cs = true) (hc:cs.length = k * sz) (q:PK E O 0 (retO F.res sz k cs) (.code F.body []) (PF.of args) []):Fo E O f args sz k cs:=by
 refine PCa.body ho he hl (PK.monoQ ?_ q)
 intro ex fr h q
 have key:∀ vs,isOwn h sz k cs (outP vs) → ∃ r2 h2,GhR 0 (outP vs) h r2 h2 ∧ r2 = .sl sz 0 0 k k ∧ h2 = [.cells sz cs] ∧ frzL cs = true ∧ cs.length = k * sz:=by
  intro vs o
  refine ⟨_,_,?_,rfl,rfl,hz,hc⟩
  revert o
  generalize outP vs = p
  intro o
  unfold isOwn at o
  split at o
  ·obtain ⟨rfl,rfl,rfl,rfl,hb⟩:=o
   exact ret_own hb (frzL_Vg hz)
  ·obtain ⟨rfl,rfl⟩:=o
   exact ret_nil _ _
  ·exact o.elim
 cases ex with
 | exit i=>exact q
 | normal=>obtain ⟨vs,e,o⟩:=q; exact ⟨vs,e,key vs o⟩
 | ret=>obtain ⟨vs,e,o⟩:=q; exact ⟨vs,e,key vs o⟩
theorem Fz.call {f:Nat} {args args0:List PV} {r:PV} (k:Fz E O f args0 r) (L:List Nat) (hv:VgL (· ∈ L) id h [] args args0):PCw E O f args h (· ∈ []) (fun r' h'=>r' = r ∧ h' = killL h L) :=
 (PCa.pure L k hv).mono (by
  rintro r' h' ⟨r0,bs,⟨rfl,rfl,hz⟩,rfl,rfl⟩
  exact ⟨frz_sh _ hz,by simp⟩)
theorem Px_fz {f:Nat} {«as»:List X} {args:List PV} {r:PV} (k:Fz E O f args r) (ha:«as».map (pev fr) = args) (hz:frzL args = true) (next:PK E O n Q (.ops (m.up [] (fr.putO d r) h) l ks) (fr.putO d r) h):PK E O n Q (.ops m (⟨none,d,.call f «as»⟩ :: l) ks) fr h :=
 Px_callM (W:=[]) ha ((k.call [] (frzL_Vg hz)).mono (by rintro r' h' ⟨rfl,rfl⟩; exact next))
theorem Px_fzF {f:Nat} {«as»:List X} {args:List PV} {r:PV} (k:Fz E O f args r) (hv:VgL All id h [] («as».map (pev fr)) args) (hf:flatP r = true) (next:PK E O n Q (.ops (m.up [] (fr.putO d r) h) l ks) (fr.putO d r) h):PK E O n Q (.ops m (⟨none,d,.call f «as»⟩ :: l) ks) fr h :=
 Px_callM (W:=[]) rfl ((PCa.flat k hv (by rintro r' bs ⟨rfl,_⟩; exact hf)).mono (by rintro r' h' ⟨⟨_,rfl,_⟩,rfl⟩; exact next))
theorem Fo.call {f:Nat} {args args0:List PV} {sz k:Nat} {cs:List PV} (q:Fo E O f args0 sz k cs) (L:List Nat) (hv:VgL (· ∈ L) id h [] args args0):PCw E O f args h (· ∈ []) (fun r' h'=>r' = .sl sz h.length 0 k k ∧ h' = killL h L ++ [.cells sz cs]) :=
 (PCa.pure L q hv).mono (by
  rintro r' h' ⟨r0,bs,⟨rfl,rfl,hz,_⟩,rfl,rfl⟩
  exact ⟨by simp,by simp [shB,frzL_sh _ hz]⟩)
theorem Px_fo {f:Nat} {«as»:List X} {args:List PV} {sz k:Nat} {cs:List PV} (q:Fo E O f args sz k cs) (ha:«as».map (pev fr) = args) (hz:frzL args = true) (next:PK E O n Q (.ops (m.up [] (fr.putO d (.sl sz h.length 0 k k)) (h ++ [.cells sz cs])) l ks) (fr.putO d (.sl sz h.length 0 k k)) (h ++ [.cells sz cs])):PK E O n Q (.ops m (⟨none,d,.call f «as»⟩ :: l) ks) fr h :=
 Px_callM (W:=[]) ha ((q.call [] (frzL_Vg hz)).mono (by rintro r' h' ⟨rfl,rfl⟩; exact next))
theorem Px_foL {f:Nat} {«as»:List X} {args:List PV} {sz k:Nat} {cs:List PV} (L:List Nat) (q:Fo E O f args sz k cs) (hv:VgL (· ∈ L) id h [] («as».map (pev fr)) args) (next:PK E O n Q (.ops (m.up [] (fr.putO d (.sl sz h.length 0 k k)) (killL h L ++ [.cells sz cs])) l ks) (fr.putO d (.sl sz h.length 0 k k)) (killL h L ++ [.cells sz cs])):PK E O n Q (.ops m (⟨none,d,.call f «as»⟩ :: l) ks) fr h :=
 Px_callM (W:=[]) rfl ((q.call L hv).mono (by rintro r' h' ⟨rfl,rfl⟩; exact next))
end
@[simp] theorem wrap_0:IntKind.i64.wrap 0 = 0:=wrap_in ⟨by omega,by omega⟩
@[simp] theorem wrap_1:IntKind.i64.wrap 1 = 1:=wrap_in ⟨by omega,by omega⟩
abbrev pi (n:Int):PV:=.v (.int .i64 n)
abbrev pb (b:Bool):PV:=.v (.bool b)
abbrev ps (s:ByteArray):PV:=.v (.string s)
def ir (l:List Int):List (List PV):=l.map fun n=>[pi n]
@[simp] theorem ir_length (l:List Int):(ir l).length = l.length:=by simp [ir]
theorem ir_get (l:List Int) (i:Nat):(ir l)[i]? = (l[i]?).map fun n=>[pi n]:=by simp [ir]
@[simp] theorem ir_flat (l:List Int):(ir l).flatten = l.map pi:=by
 induction l with
 | nil=>rfl
 | cons a l ih=>simp_all [ir]
abbrev pis (l:List Int):PV:=.fs 1 (ir l)
theorem Vz_rows {A:Nat → Prop} {h:PH} {sz b n:Nat} {rows:List (List PV)} (hA:A b) (hb:h[b]? = some (.cells sz rows.flatten)) (hz:0 < sz) (hl:rows.length = n) (hr:∀ r ∈ rows,r.length = sz) (hv:VzL A h rows.flatten rows.flatten):Vz A h (.sl sz b 0 n n) (.fs sz rows):=by
 have e:rows.flatten.length = n * sz:=by
  rw [← hl]
  clear hb hv hl
  induction rows with
  | nil=>simp
  | cons r rows ih =>
   have:=hr r (by simp)
   rw [List.flatten_cons,List.length_append,ih (fun q hq=>hr q (by simp [hq])),List.length_cons,Nat.succ_mul]
   omega
 exact Vz_sl hA hb (by rw [Nat.zero_add,e]) hz (Nat.le_refl _) (Nat.le_refl _) hl hr (by rw [Nat.zero_mul,List.drop_zero,← e,List.take_length]; exact hv)
theorem Vz_pis {A:Nat → Prop} {h:PH} {b:Nat} {l:List Int} (hA:A b) (hb:h[b]? = some (.cells 1 (l.map pi))):Vz A h (.sl 1 b 0 l.length l.length) (pis l) :=
 Vz_rows hA (by rw [ir_flat]; exact hb) Nat.one_pos (by simp) (by simp [ir]) (fzc_VzL (by simp [fzc]))
@[simp] theorem Vg_pis {A:Nat → Prop} {σ:Nat → Nat} {h bs:PH} {b:Nat} {l:List Int} (hA:A b) (hb:h[b]? = some (.cells 1 (l.map pi))):Vg A σ h bs (.sl 1 b 0 l.length l.length) (.fs 1 (ir l)) ↔ True:=⟨fun _=>trivial,fun _=>Vg_z (Vz_pis hA hb)⟩
attribute [simp] okP pck wanp pldo pldc pnew padr papart smb smV
attribute [simp] isVoid isOwn
end Go.Proofs.YtoijnpfpjpefgaaGreat.A.P
/- A text without what this claim does not need: Pm13. -/
set_option linter.unusedVariables false
set_option linter.unusedSimpArgs false
namespace Go.Proofs.YtoijnpfpjpefgaaGreat.A.P
open Go Go.RowKit
variable {E:Env} {O:Orc}
mutual
def ren (τ:Nat → Nat):PV → PV
 | .ref b o t=>.ref (τ b) o t
 | .sl sz b o n c=>.sl sz (τ b) o n c
 | .mp b=>.mp (τ b)
 | .agg cs=>.agg (renL τ cs)
 | .tup cs=>.tup (renL τ cs)
 | .fn f a b=>.fn f (renL τ a) (renL τ b)
 | .ifc t p=>.ifc t (ren τ p)
 | .v x=>.v x
 | .fs sz rows=>.fs sz rows
 | .fp cells=>.fp cells
 | .any=>.any
def renL (τ:Nat → Nat):List PV → List PV
 | []=>[]
 | p :: ps=>ren τ p :: renL τ ps
end
attribute [simp] ren renL
mutual
theorem frz_ren (τ:Nat → Nat):∀ {p:PV},frz p = true → ren τ p = p
 | .v _,_=>rfl
 | .fs _ _,_=>rfl
 | .fp _,_=>rfl
 | .agg cs,h=>by rw [ren,frzL_ren τ (by simpa using h)]
 | .tup cs,h=>by rw [ren,frzL_ren τ (by simpa using h)]
 | .fn f a b,h=>by
  simp only [frz,Bool.and_eq_true] at h
  rw [ren,frzL_ren τ h.1,frzL_ren τ h.2]
 | .ifc t p,h=>by rw [ren,frz_ren τ (by simpa using h)]
theorem frzL_ren (τ:Nat → Nat):∀ {l:List PV},frzL l = true → renL τ l = l
 | [],_=>rfl
 | p :: l,h=>by
  simp only [frzL,Bool.and_eq_true] at h
  rw [renL,frz_ren τ h.1,frzL_ren τ h.2]
end
@[simp] theorem frzL_ren' {τ:Nat → Nat} {l:List PV} (h:frzL l = true):renL τ l = l:=frzL_ren τ h
def renB (τ:Nat → Nat):PB → PB
 | .cells z cs=>.cells z (renL τ cs)
 | .map es=>.map (es.map fun e=>(e.1,ren τ e.2))
 | .dead=>.dead
theorem renL_length (τ:Nat → Nat):∀ l:List PV,(renL τ l).length = l.length
 | []=>rfl
 | _ :: l=>by simp [renL,renL_length τ l]
theorem renL_map (τ:Nat → Nat):∀ es:List (Value × PV),(es.map fun e=>(e.1,ren τ e.2)).map (·.2) = renL τ (es.map (·.2))
 | []=>rfl
 | _ :: l=>by simp only [List.map_cons,renL,renL_map τ l]
structure Emb (τ:Nat → Nat) (bs h:PH):Prop where
 get:∀ i,i < bs.length → h[τ i]? = (bs[i]?).map (renB τ)
section
variable {τ:Nat → Nat} {bs h:PH}
theorem Emb.at (M:Emb τ bs h) {i t:Nat} (hi:i < bs.length):At h (τ i) t ↔ At bs i t:=by
 unfold At
 rw [M.get i hi]
 constructor
 ·rintro ⟨z,cs,e,rfl⟩
  obtain ⟨P,hP,e⟩:=Option.map_eq_some_iff.1 e
  cases P with
  | cells z' cs'=>cases e; exact ⟨_,cs',hP,(renL_length _ _).symm⟩
  | _=>cases e
 ·rintro ⟨z,cs,e,rfl⟩
  exact ⟨z,renL τ cs,by rw [e]; rfl,renL_length _ _⟩
theorem Emb.le (M:Emb τ bs h) {i t:Nat} (hi:i < bs.length):Le h (τ i) t ↔ Le bs i t:=by
 unfold Le
 rw [M.get i hi]
 constructor
 ·intro k z cs e
  have:=k z (renL τ cs) (by rw [e]; rfl)
  rwa [renL_length] at this
 ·intro k z cs e
  obtain ⟨P,hP,e⟩:=Option.map_eq_some_iff.1 e
  cases P with
  | cells z' cs'=>cases e; rw [renL_length]; exact k _ cs' hP
  | _=>cases e
theorem Emb.isMap (M:Emb τ bs h) {i:Nat} (hi:i < bs.length):P.isMap h (τ i) ↔ P.isMap bs i:=by
 unfold P.isMap
 rw [M.get i hi]
 constructor
 ·rintro ⟨es,e⟩
  obtain ⟨P,hP,e⟩:=Option.map_eq_some_iff.1 e
  cases P with
  | map es'=>exact ⟨es',hP⟩
  | _=>cases e
 ·rintro ⟨es,e⟩
  exact ⟨_,by rw [e]; rfl⟩
theorem Emb.solid (M:Emb τ bs h) {i:Nat} (hi:i < bs.length):P.solid h (τ i) ↔ P.solid bs i:=by
 unfold P.solid
 simp only [M.isMap hi,M.at hi]
theorem Emb.lt (M:Emb τ bs h) {i:Nat} (hi:i < bs.length):τ i < h.length:=by
 have:=M.get i hi
 rw [List.getElem?_eq_getElem hi] at this
 exact (List.getElem?_eq_some_iff.1 this).1
mutual
theorem ren_ok (M : Emb τ bs h) {F : Nat → Prop} {H : AH} {χ ψ : Nat → Nat} (hx : ∀ i, i < bs.length → χ (τ i) = ψ i) : ∀ {p : PV} {x : Value}, RV ⟨F, H, ψ, bs⟩ p x → RV ⟨F, H, χ, h⟩ (ren τ p) x
  | _, _, .v x => .v x
  | _, _, .ref a hb hl ha => .ref a (M.lt hb) ((M.le hb).2 hl) fun k => by
    have := ha ((M.at hb).1 k)
    dsimp only at this ⊢
    rwa [hx _ hb]
  | _, _, .sl a hb hl ha => .sl a (M.lt hb) ((M.le hb).2 hl) fun k => by
    have := ha ((M.at hb).1 k)
    dsimp only at this ⊢
    rwa [hx _ hb]
  | _, _, .mp a hb ha => .mp a (M.lt hb) fun k => by
    have := ha ((M.isMap hb).1 k)
    dsimp only at this ⊢
    rwa [hx _ hb]
  | _, _, .fs k => .fs k
  | _, _, .fp a b c => .fp a b c
  | _, _, .agg k => .agg (renL_ok M hx k)
  | _, _, .tup k => .tup (renL_ok M hx k)
  | _, _, .fn a b => .fn (renL_ok M hx a) (renL_ok M hx b)
  | _, _, .ifc a => .ifc (ren_ok M hx a)
  | _, _, .any x => .any x
theorem renL_ok (M : Emb τ bs h) {F : Nat → Prop} {H : AH} {χ ψ : Nat → Nat} (hx : ∀ i, i < bs.length → χ (τ i) = ψ i) : ∀ {p : List PV} {x : List Value}, RVs ⟨F, H, ψ, bs⟩ p x → RVs ⟨F, H, χ, h⟩ (renL τ p) x
  | _, _, .nil => .nil
  | _, _, .cons a b => .cons (ren_ok M hx a) (renL_ok M hx b)
end
end
def setAll:PH → List Nat → PH → PH
 | h,[],_=>h
 | h,_ :: _,[]=>h
 | h,b :: L,P :: Ps=>setAll (h.set b P) L Ps
theorem setAll_length:∀ (L:List Nat) (Ps h:PH),(setAll h L Ps).length = h.length
 | [],_,h=>by simp [setAll]
 | _ :: _,[],h=>by simp [setAll]
 | b :: L,P :: Ps,h=>by rw [setAll,setAll_length L Ps]; simp
theorem setAll_off:∀ (L:List Nat) (Ps h:PH) (c:Nat),c ∉ L → (setAll h L Ps)[c]? = h[c]?
 | [],_,h,c,_=>by simp [setAll]
 | _ :: _,[],h,c,_=>by simp [setAll]
 | b :: L,P :: Ps,h,c,hc=>by
  rw [setAll,setAll_off L Ps _ c (fun q=>hc (List.mem_cons_of_mem _ q)),set_ne (fun q=>hc (List.mem_cons.2 (.inl q)))]
theorem setAll_on:∀ (L:List Nat) (Ps h:PH),L.Nodup → L.length = Ps.length → (∀ b ∈ L,b < h.length) → ∀ (i b:Nat),L[i]? = some b → (setAll h L Ps)[b]? = Ps[i]?
 | [],_,h,_,_,_,i,b,e=>by simp at e
 | _ :: _,[],h,_,hl,_,i,b,e=>by simp at hl
 | c :: L,P :: Ps,h,nd,hl,hlt,i,b,e=>by
  rw [List.nodup_cons] at nd
  rw [setAll]
  cases i with
  | zero =>
   simp only [List.getElem?_cons_zero,Option.some.injEq] at e
   subst e
   rw [setAll_off L Ps _ c nd.1,set_eq (hlt c (by simp))]
   rfl
  | succ i =>
   have:=setAll_on L Ps (h.set c P) nd.2 (by simpa using hl) (fun q hq=>by simpa using hlt q (by simp [hq])) i b (by simpa using e)
   rw [this]; rfl
def tau (L:List Nat) (m:Nat):Nat → Nat:=fun i=>if i < L.length then L.getD i 0 else m + (i - L.length)
def merge (h:PH) (L:List Nat) (hs:PH):PH:=setAll h L ((hs.take L.length).map (renB (tau L h.length))) ++ (hs.drop L.length).map (renB (tau L h.length))
theorem merge_emb {h hs:PH} {L:List Nat} (nd:L.Nodup) (hlt:∀ b ∈ L,b < h.length) (hl:L.length ≤ hs.length):Emb (tau L h.length) hs (merge h L hs):=by
 refine ⟨fun i hi=>?_⟩
 unfold merge
 by_cases h1:i < L.length
 ·have e1:L[i]? = some (tau L h.length i):=by
   unfold tau
   rw [if_pos h1,List.getD_eq_getElem?_getD,List.getElem?_eq_getElem h1]; rfl
  have hb:=hlt _ (List.mem_of_getElem? e1)
  rw [List.getElem?_append_left (by rw [setAll_length]; exact hb),setAll_on L _ h nd (by simp; omega) hlt i _ e1,List.getElem?_map,List.getElem?_take,if_pos h1]
 ·have e1:tau L h.length i = h.length + (i - L.length):=by unfold tau; rw [if_neg h1]
  rw [e1,List.getElem?_append_right (by rw [setAll_length]; omega),setAll_length,show h.length + (i - L.length) - h.length = i - L.length by omega,List.getElem?_map,List.getElem?_drop,show L.length + (i - L.length) = i by omega]
theorem merge_off {h hs:PH} {L:List Nat} {b:Nat} (hb:b < h.length) (hL:b ∉ L):(merge h L hs)[b]? = h[b]?:=by
 unfold merge
 rw [List.getElem?_append_left (by rw [setAll_length]; exact hb),setAll_off _ _ _ _ hL]
def chi (L:List Nat) (m:Nat) (φ ψ:Nat → Nat):Nat → Nat:=fun b=>match L.idxOf? b with
 | some i=>ψ i
 | none=>if b < m then φ b else ψ (b - m + L.length)
theorem chi_on {L:List Nat} {m:Nat} {φ ψ:Nat → Nat} (nd:L.Nodup) (hlt:∀ b ∈ L,b < m) (i:Nat):chi L m φ ψ (tau L m i) = ψ i:=by
 unfold chi tau
 by_cases h1:i < L.length
 ·rw [if_pos h1,List.getD_eq_getElem?_getD,List.getElem?_eq_getElem h1,Option.getD_some]
  have:L.idxOf? L[i] = some i:=by
   clear hlt
   induction L generalizing i with
   | nil=>simp at h1
   | cons x L ih =>
    rw [List.nodup_cons] at nd
    rw [List.idxOf?_cons]
    cases i with
    | zero=>simp
    | succ i =>
     have hne:(x == (x :: L)[i + 1]) = false:=by
      simp only [List.getElem_cons_succ,beq_eq_false_iff_ne]
      intro e
      exact nd.1 (e ▸ List.getElem_mem _)
     rw [hne]
     simp only [List.getElem_cons_succ]
     rw [ih nd.2 i (by simpa using h1)]
     rfl
  rw [this]
 ·rw [if_neg h1]
  have:L.idxOf? (m + (i - L.length)) = none:=by
   rw [List.idxOf?_eq_none_iff]
   intro hm
   have:=hlt _ hm
   omega
  rw [this]
  simp only
  rw [if_neg (by omega),show m + (i - L.length) - m + L.length = i by omega]
theorem chi_off {L:List Nat} {m b:Nat} {φ ψ:Nat → Nat} (hb:b < m) (hL:b ∉ L):chi L m φ ψ b = φ b:=by
 unfold chi
 rw [List.idxOf?_eq_none_iff.2 hL]
 simp only
 rw [if_pos hb]
theorem frame_join {F F':Nat → Prop} {H H':AH} {φ ψ:Nat → Nat} {h hs hs':PH} {L:List Nat} (S:StH ⟨F,H,φ,h⟩) (nd:L.Nodup) (hlt:∀ b ∈ L,b < h.length) (hl:L.length = hs.length)
  (hsol:∀ i,solid hs i → solid h (L.getD i 0)) (hsz:∀ i b,L[i]? = some b → ptot h b = ptot hs i ∧ (isMap hs i → isMap h b) ∧ (isMap h b → isMap hs i)) (SB:StH ⟨F',H',ψ,hs'⟩) (T:Stp hs.length All ⟨F,H,fun i=>φ (L.getD i 0),hs⟩ ⟨F',H',ψ,hs'⟩) :
  StH ⟨F',H',chi L h.length φ ψ,merge h L hs'⟩ ∧ Stp h.length (· ∈ L) ⟨F,H,φ,h⟩ ⟨F',H',chi L h.length φ ψ,merge h L hs'⟩ ∧ ∀ p x,RV ⟨F',H',ψ,hs'⟩ p x → RV ⟨F',H',chi L h.length φ ψ,merge h L hs'⟩ (ren (tau L h.length) p) x:=by
 have hls:hs.length ≤ hs'.length:=T.len (Nat.le_refl _)
 have M:=merge_emb (h:=h) (hs:=hs') nd hlt (by omega)
 have hχ:=fun i=>chi_on (φ:=φ) (ψ:=ψ) nd hlt i
 have get?:∀ i,i < L.length → L[i]? = some (tau L h.length i):=fun i h1=>by
  unfold tau
  rw [if_pos h1,List.getD_eq_getElem?_getD,List.getElem?_eq_getElem h1]; rfl
 have gD:∀ i,i < L.length → L.getD i 0 = tau L h.length i:=fun i h1=>by unfold tau; rw [if_pos h1]
 have mlen:(merge h L hs').length = h.length + (hs'.length - L.length):=by unfold merge; rw [List.length_append,setAll_length,List.length_map,List.length_drop]
 -- a block of the whole: one of the callee's,or one that it did not see
 have cases:∀ b,b < (merge h L hs').length → (∃ i,i < hs'.length ∧ b = tau L h.length i) ∨ (b < h.length ∧ b ∉ L):=by
  intro b hb
  by_cases h1:b ∈ L
  ·obtain ⟨i,hi⟩:=List.mem_iff_getElem?.1 h1
   have hil:=(List.getElem?_eq_some_iff.1 hi).1
   left
   refine ⟨i,by omega,?_⟩
   have:=get? i hil
   rw [hi] at this
   exact Option.some.inj this
  ·by_cases h2:b < h.length
   ·exact .inr ⟨h2,h1⟩
   ·left
    refine ⟨b - h.length + L.length,by rw [mlen] at hb; omega,?_⟩
    unfold tau
    rw [if_neg (by omega)]
    omega
 have offI:∀ b,b ∉ L → solid h b → ¬ im ⟨F,H,fun i=>φ (L.getD i 0),hs⟩ All (φ b):=by
  rintro b hb s ⟨i,_,si,e⟩
  have hi:i < L.length:=by have:=solid_lt si; dsimp only at this; omega
  have s1:=hsol _ si
  have:=S.inj _ _ s1 s e
  rw [gD i hi] at this
  exact hb (this ▸ List.mem_of_getElem? (get? i hi))
 have subI:∀ {x:Nat},im ⟨F,H,fun i=>φ (L.getD i 0),hs⟩ All x → im ⟨F,H,φ,h⟩ (· ∈ L) x:=by
  rintro x ⟨i,_,si,e⟩
  have hi:i < L.length:=by have:=solid_lt si; dsimp only at this; omega
  exact ⟨_,by rw [gD i hi]; exact List.mem_of_getElem? (get? i hi),hsol _ si,e⟩
 have same:∀ b,b ∉ L → solid h b → H'.get (φ b) = H.get (φ b):=fun b hb s=>T.out _ (S.lt s) (offI b hb s)
 have fo:∀ b,b ∉ L → solid h b → F' (φ b) → F (φ b):=fun b hb s q=>T.fo _ (S.lt s) (offI b hb s) q
 -- the blocks of before,«as» the callee saw them
 have shape:∀ i,i < L.length → (∀ t,At h (tau L h.length i) t ↔ At hs i t) ∧ (isMap h (tau L h.length i) ↔ isMap hs i):=by
  intro i hi
  obtain ⟨a,b,c⟩:=hsz i _ (get? i hi)
  refine ⟨fun t=>?_,c,b⟩
  have tl:∀ {h:PH} {b t:Nat},At h b t ↔ ptot h b = some t:=by
   intro h b t
   constructor
   ·rintro ⟨z,cs,e,rfl⟩; unfold ptot; rw [e]
   ·intro e; exact (ptot_at e).2 rfl
  rw [tl,tl,a]
 have shLe:∀ i,i < L.length → ∀ t,Le h (tau L h.length i) t → Le hs i t:=by
  intro i hi t k z cs e
  obtain ⟨a,_⟩:=hsz i _ (get? i hi)
  have e2:ptot h (tau L h.length i) = some cs.length:=by rw [a]; unfold ptot; rw [e]
  exact (ptot_le e2).1 k
 have T2:Stp h.length (· ∈ L) ⟨F,H,φ,h⟩ ⟨F',H',chi L h.length φ ψ,merge h L hs'⟩:=by
  refine ⟨T.n0,T.nx,fun x hx=>T.fz x hx,fun x hx hi q=>T.fo x hx (fun w=>hi (let ⟨b,_,c⟩:=subI w; ⟨b,trivial,c⟩)) q,fun x hx hi=>T.out x hx fun w=>hi (subI w),fun b s=>?_,fun _=>by rw [mlen]; omega,fun b _ hb t ht=>?_,fun b _ hb t ht ha=>?_,fun b _ hb ha=>?_⟩
  ·rcases cases b (solid_lt s) with ⟨i,hi,rfl⟩ | ⟨h1,h2⟩
   ·dsimp only
    rw [hχ]
    rcases T.loc i ((M.solid hi).1 s) with q | ⟨q,e⟩
    ·exact .inl q
    ·right
     have hil:i < L.length:=by have:=solid_lt q; dsimp only at this; omega
     refine ⟨?_,?_⟩
     ·rw [← gD i hil]; exact hsol _ q
     ·rw [← gD i hil]; exact e
   ·right
    dsimp only
    rw [chi_off h1 h2]
    exact ⟨(solid_of (merge_off h1 h2)).1 s,rfl⟩
  ·by_cases hL:b ∈ L
   ·obtain ⟨i,hi⟩:=List.mem_iff_getElem?.1 hL
    have hil:=(List.getElem?_eq_some_iff.1 hi).1
    obtain rfl:b = tau L h.length i:=Option.some.inj (hi.symm.trans (get? i hil))
    exact (M.le (by omega)).2 (T.le i (show i < hs.length by omega) (show i < hs.length by omega) t (shLe i hil t ht))
   ·exact (Le_of (merge_off hb hL)).2 ht
  ·by_cases hL:b ∈ L
   ·obtain ⟨i,hi⟩:=List.mem_iff_getElem?.1 hL
    have hil:=(List.getElem?_eq_some_iff.1 hi).1
    obtain rfl:b = tau L h.length i:=Option.some.inj (hi.symm.trans (get? i hil))
    obtain ⟨a1,a2⟩:=T.kat i (show i < hs.length by omega) (show i < hs.length by omega) t (shLe i hil t ht) ((M.at (by omega)).1 ha)
    dsimp only at a2 ⊢
    rw [hχ,a2,gD i hil]
    exact ⟨((shape i hil).1 t).2 a1,rfl⟩
   ·exact ⟨(At_of (merge_off hb hL)).1 ha,chi_off hb hL⟩
  ·by_cases hL:b ∈ L
   ·obtain ⟨i,hi⟩:=List.mem_iff_getElem?.1 hL
    have hil:=(List.getElem?_eq_some_iff.1 hi).1
    obtain rfl:b = tau L h.length i:=Option.some.inj (hi.symm.trans (get? i hil))
    obtain ⟨a1,a2⟩:=T.kmp i (show i < hs.length by omega) (show i < hs.length by omega) ((M.isMap (by omega)).1 ha)
    dsimp only at a2 ⊢
    rw [hχ,a2,gD i hil]
    exact ⟨(shape i hil).2.2 a1,rfl⟩
   ·exact ⟨(isMap_of (merge_off hb hL)).1 ha,chi_off hb hL⟩
 have cross:∀ i b,i < hs'.length → solid hs' i → b ∉ L → solid h b → ψ i ≠ φ b:=by
  intro i b hi s hb s' e
  rcases T.loc i s with q | ⟨q,e'⟩
  ·have a1:φ b < H.nx:=S.lt s'
   dsimp only at q
   omega
  ·dsimp only at e'
   exact offI b hb s' ⟨i,trivial,q,e'.symm.trans e⟩
 refine ⟨⟨SB.wf,SB.fz,fun b b' s s' e=>?_,fun b z cs e hc=>?_,fun b es e=>?_⟩,T2,fun p x hr=>ren_ok M (fun i _=>hχ i) hr⟩
 ·dsimp only at e
  rcases cases b (solid_lt s) with ⟨i,hi,rfl⟩ | ⟨h1,h2⟩
  ·rcases cases b' (solid_lt s') with ⟨j,hj,rfl⟩ | ⟨g1,g2⟩
   ·rw [hχ,hχ] at e
    rw [SB.inj _ _ ((M.solid hi).1 s) ((M.solid hj).1 s') e]
   ·rw [hχ,chi_off g1 g2] at e
    exact absurd e (cross i b' hi ((M.solid hi).1 s) g2 ((solid_of (merge_off g1 g2)).1 s'))
  ·rcases cases b' (solid_lt s') with ⟨j,hj,rfl⟩ | ⟨g1,g2⟩
   ·rw [hχ,chi_off h1 h2] at e
    exact absurd e.symm (cross j b hj ((M.solid hj).1 s') h2 ((solid_of (merge_off h1 h2)).1 s))
   ·rw [chi_off h1 h2,chi_off g1 g2] at e
    exact S.inj _ _ ((solid_of (merge_off h1 h2)).1 s) ((solid_of (merge_off g1 g2)).1 s') e
 ·rcases cases b (solid_lt (solid_cells e hc)) with ⟨i,hi,rfl⟩ | ⟨h1,h2⟩
  ·dsimp only
   rw [hχ]
   rw [show (merge h L hs')[tau L h.length i]? = _ from M.get i hi] at e
   obtain ⟨P,hP,e⟩:=Option.map_eq_some_iff.1 e
   cases P with
   | cells z' cs' =>
    cases e
    obtain ⟨vs,k1,k2,k3,k4⟩:=SB.blk i _ cs' hP (by rintro rfl; exact hc rfl)
    exact ⟨vs,k1,renL_ok M (fun i _=>hχ i) k2,k3,k4⟩
   | _=>cases e
  ·dsimp only
   rw [chi_off h1 h2]
   rw [show (merge h L hs')[b]? = _ from merge_off h1 h2] at e
   have s:=solid_cells e hc
   obtain ⟨vs,k1,k2,k3,k4⟩:=S.blk b z cs e hc
   exact ⟨vs,(same b h2 s).trans k1,k2.step T2,T.n0 ▸ k3,fun q=>k4 (fo b h2 s q)⟩
 ·rcases cases b (solid_lt (solid_map e)) with ⟨i,hi,rfl⟩ | ⟨h1,h2⟩
  ·dsimp only
   rw [hχ]
   rw [show (merge h L hs')[tau L h.length i]? = _ from M.get i hi] at e
   obtain ⟨P,hP,e⟩:=Option.map_eq_some_iff.1 e
   cases P with
   | map es' =>
    cases e
    obtain ⟨ys,k1,k2,k3,k4,k5⟩:=SB.mpb i es' hP
    refine ⟨ys,k1,?_,?_,k4,k5⟩
    ·rw [← k2]; simp [List.map_map,Function.comp_def]
    ·rw [renL_map]; exact renL_ok M (fun i _=>hχ i) k3
   | _=>cases e
  ·dsimp only
   rw [chi_off h1 h2]
   rw [show (merge h L hs')[b]? = _ from merge_off h1 h2] at e
   have s:=solid_map e
   obtain ⟨ys,k1,k2,k3,k4,k5⟩:=S.mpb b es e
   exact ⟨ys,(same b h2 s).trans k1,k2,k3.step T2,T.n0 ▸ k4,fun q=>k5 (fo b h2 s q)⟩
theorem PCa.frame {f:Nat} {args args0:List PV} {h hs:PH} (L Z:List Nat) {R:PV → PH → Prop} (k:PCa E O f args0 hs R) (nd:L.Nodup) (hlt:∀ b ∈ L,b < h.length ∧ b ∉ Z) (hl:L.length = hs.length)
  (K:keepL (· ∈ Z) (fun i=>L.getD i 0) h hs 0 hs) (hsz:∀ i b,L[i]? = some b → ptot h b = ptot hs i ∧ (isMap hs i → isMap h b) ∧ (isMap h b → isMap hs i)) (hv:VgL (· ∈ Z) (fun i=>L.getD i 0) h hs args args0) :
  PCw E O f args h (· ∈ L) (fun r h'=>∃ r0 hs',R r0 hs' ∧ L.length ≤ hs'.length ∧ r = ren (tau L h.length) r0 ∧ h' = merge (killL h Z) L hs'):=by
 intro F H φ vs S Rv
 have KK:=Keep.at (A:=(· ∈ Z)) L hl nd (fun b hb=>(hlt b hb).2) K
 have S0:=KK.ok S
 obtain ⟨S1,T1⟩:=freeze_ok S Z
 have hkl:=killL_length Z h
 have same:∀ b,b ∈ L → (killL h Z)[b]? = h[b]?:=fun b hb=>by rw [killL_get,if_neg (fun q=>(hlt b hb).2 q.1)]
 refine (k _ H _ vs S0 (hv.ok S Rv)).mono ?_
 rintro x H' ⟨r0,hs',F',ψ,hR,hr,SB,T⟩
 have mem:∀ i,i < L.length → L.getD i 0 ∈ L:=fun i hi=>by
  rw [List.getD_eq_getElem?_getD,List.getElem?_eq_getElem hi]; exact List.getElem_mem _
 obtain ⟨SD,TD,RD⟩:=frame_join (h:=killL h Z) (hs:=hs) (L:=L) S1 nd (fun b hb=>by rw [hkl]; exact (hlt b hb).1) hl (fun i si=>(solid_of (same _ (mem i (by have:=solid_lt si; omega)))).2 (KK.solid si)) (fun i b e=>by
  have e2:=same b (List.mem_of_getElem? e)
  obtain ⟨a1,a2,a3⟩:=hsz i b e
  refine ⟨?_,fun q=>(isMap_of e2).2 (a2 q),fun q=>a3 ((isMap_of e2).1 q)⟩
  rw [← a1]; unfold ptot; rw [e2]) SB T
 rw [hkl] at SD TD RD
 exact ⟨_,_,F',_,⟨r0,hs',hR,by have:=T.len (Nat.le_refl _); dsimp only at this; omega,rfl,rfl⟩,RD _ _ hr,SD,T1.trans TD (Nat.le_refl _) (fun _ q=>q.elim) (fun _ q=>q)⟩
def okSz:Option PB → Option PB → Prop
 | some (.cells _ cs),some (.cells _ cs')=>cs.length = cs'.length
 | some (.map _),some (.map _)=>True
 | _,_=>False
@[simp] theorem okSz_c (z z':Nat) (cs cs':List PV):okSz (some (.cells z cs)) (some (.cells z' cs')) ↔ cs.length = cs'.length:=Iff.rfl
@[simp] theorem okSz_m (es es':List (Value × PV)):okSz (some (.map es)) (some (.map es')) ↔ True:=Iff.rfl
def szL (h hs:PH):Nat → List Nat → Prop
 | _,[]=>True
 | i,b :: L=>okSz h[b]? hs[i]? ∧ szL h hs (i + 1) L
@[simp] theorem szL_nil (h hs:PH) (i:Nat):szL h hs i [] ↔ True:=Iff.rfl
@[simp] theorem szL_cons (h hs:PH) (i b:Nat) (L:List Nat):szL h hs i (b :: L) ↔ okSz h[b]? hs[i]? ∧ szL h hs (i + 1) L:=Iff.rfl
theorem szL.ok {h hs:PH}:∀ {L:List Nat} {i:Nat},szL h hs i L → ∀ j b,L[j]? = some b → ptot h b = ptot hs (i + j) ∧ (isMap hs (i + j) → isMap h b) ∧ (isMap h b → isMap hs (i + j))
 | [],i,_,j,b,e=>by simp at e
 | c :: L,i,k,j + 1,b,e=>by
  have:=szL.ok k.2 j b (by simpa using e)
  rwa [show i + 1 + j = i + (j + 1) by omega] at this
 | c :: L,i,k,0,b,e=>by
  simp only [List.getElem?_cons_zero,Option.some.injEq] at e
  subst e
  have k1:=k.1
  rw [Nat.add_zero]
  unfold ptot isMap
  cases h1:h[c]? with
  | none=>rw [h1] at k1; exact k1.elim
  | some P =>
   cases h2:hs[i]? with
   | none=>rw [h1,h2] at k1; cases P <;> exact k1.elim
   | some P' =>
    rw [h1,h2] at k1
    cases P with
    | cells z cs =>
     cases P' with
     | cells z' cs'=>simp only [okSz] at k1; exact ⟨by simp [k1],(fun ⟨es,e⟩=>by cases e),(fun ⟨es,e⟩=>by cases e)⟩
     | _=>exact k1.elim
    | map es =>
     cases P' with
     | map es'=>exact ⟨rfl,fun _=>⟨_,rfl⟩,fun _=>⟨_,rfl⟩⟩
     | _=>exact k1.elim
    | dead=>exact k1.elim
section
variable {n:Nat} {Q:Ex → PF → PH → Prop} {ks:List Kp} {fr:PF} {h:PH} {m:Mp} {l:List AO} {d:Option Nat}
theorem Px_frame {f:Nat} {«as»:List X} {args0:List PV} {hs:PH} (L Z:List Nat) {R:PV → PH → Prop} (k:PCa E O f args0 hs R) (nd:L.Nodup) (hlt:∀ b ∈ L,b < h.length ∧ b ∉ Z) (hl:L.length = hs.length)
  (K:keepL (· ∈ Z) (fun i=>L.getD i 0) h hs 0 hs) (sz:szL h hs 0 L) (hv:VgL (· ∈ Z) (fun i=>L.getD i 0) h hs («as».map (pev fr)) args0)
  (next:∀ r0 hs',R r0 hs' → L.length ≤ hs'.length → PK E O n Q (.ops (m.up L (fr.putO d (ren (tau L h.length) r0)) (merge (killL h Z) L hs')) l ks) (fr.putO d (ren (tau L h.length) r0)) (merge (killL h Z) L hs')):PK E O n Q (.ops m (⟨none,d,.call f «as»⟩ :: l) ks) fr h :=
 Px_callM (W:=L) rfl ((PCa.frame L Z k nd hlt hl K (fun i b e=>by simpa using sz.ok i b e) hv).mono (by
  rintro r' h' ⟨r0,hs',hR,hle,rfl,rfl⟩
  exact next r0 hs' hR hle))
end
attribute [simp] tau merge setAll renB
end Go.Proofs.YtoijnpfpjpefgaaGreat.A.P
/- A text without what this claim does not need: Pm14. -/
set_option linter.unusedVariables false
set_option linter.unusedSimpArgs false
namespace Go.Proofs.YtoijnpfpjpefgaaGreat.A.P
open Go Go.RowKit
variable {E:Env} {O:Orc}
theorem selV.list {A:Nat → Prop} {σ:Nat → Nat} {h bs:PH} {fr:PF}:∀ {l:List (Nat × PV)},selV A σ h bs fr l → VgL A σ h bs (l.map fun e=>fr.get e.1) (l.map (·.2))
 | [],_=>trivial
 | (t,p) :: l,k=>⟨k.1,selV.list k.2⟩
theorem sel_rvs {C:Cx} {af:Fr}:∀ {l:List (Nat × PV)},RVs C (l.map (·.2)) (l.map fun e=>af.get e.1) → RFr C (PF.sel l) af
 | [],_,t=>.any _
 | (a,p) :: l,k,t=>by
  cases k with | cons k1 k2 =>
  rw [sel_cons]
  split
  ·rename_i e; subst e; exact k1
  ·exact sel_rvs k2 t
theorem fr_rvs {C:Cx} {fr:PF} {af:Fr} (R:RFr C fr af):∀ l:List (Nat × PV),RVs C (l.map fun e=>fr.get e.1) (l.map fun e=>af.get e.1)
 | []=>.nil
 | (a,p) :: l=>.cons (R a) (fr_rvs R l)
theorem Gh_list {n:Nat} {fr:PF} {h h2:PH} (L:List Nat) (l:List (Nat × PV)) (hL:L.length + n = h2.length) (nd:L.Nodup) (hge:∀ b ∈ L,n ≤ b) (hs:∀ b,b < n → sameTot h h2 b) (K:keepL (fun _=>False) (fun i=>if i < n then i else L.getD (i - n) 0) h h2 0 h2) (V:selV (fun _=>False) (fun i=>if i < n then i else L.getD (i - n) 0) h h2 fr l):Gh n fr h (PF.sel l) h2:=by
 intro F H φ af S R
 obtain ⟨F',φ',S',R',T⟩:=ret_list L hL nd hge hs K (Vg_tup V.list) F H φ (.tuple (l.map fun e=>af.get e.1).toArray) S (.tup (fr_rvs R l))
 refine ⟨F',φ',S',?_,T⟩
 generalize hv:(Value.tuple (l.map fun e=>af.get e.1).toArray) = v at R'
 cases R' with | tup r =>
 rename_i xs
 have:xs = l.map fun e=>af.get e.1:=by
  have:=Value.tuple.inj hv
  exact (congrArg Array.toList this).symm
 subst this
 exact sel_rvs r
theorem PCa.lend {f:Nat} {args args0:List PV} {h:PH} {sz k:Nat} {cs:List PV} (q:Fo E O f args0 sz k cs) (hc:flatPL cs = true) (hv:VgL All id h [] args args0) :
  PCw E O f args h (· ∈ []) (fun r h'=>r = .sl sz h.length 0 k k ∧ h' = h ++ [.cells sz cs]):=by
 intro F H φ vs S Rv
 have S0:=(Keep.none All id h).ok S
 refine (q _ H _ vs S0 (hv.ok S Rv)).mono ?_
 rintro x H' ⟨r,bs,F',ψ,⟨rfl,rfl,hz,hl⟩,hr,SB,T⟩
 have noi:∀ {V:Nat → Prop} {x:Nat} {F:Nat → Prop} {φ:Nat → Nat},¬ im ⟨F,H,φ,[]⟩ V x:=by
  rintro V x F φ ⟨b,_,s,_⟩
  have:=solid_lt s
  simp at this
 have no:∀ {b:Nat} {F:Nat → Prop} {φ:Nat → Nat},¬ solid (Cx.mk F H φ []).h b:=fun s=>by have:=solid_lt s; simp at this
 have same:∀ x,x < H.nx → H'.get x = H.get x:=fun x hx=>T.out x hx noi
 have new:∀ b,solid [PB.cells sz cs] b → H.nx ≤ ψ b:=fun b hb=>by
  rcases T.loc b hb with q | ⟨q,_⟩
  ·exact q
  ·exact absurd q no
 have SB2:StH ⟨F,H',ψ,[.cells sz cs]⟩:={
  wf:=SB.wf
  fz:=fun x hx=>Nat.lt_of_lt_of_le (S.fz x hx) T.nx
  inj:=SB.inj
  blk:=fun b z cs' e he=>by
   obtain ⟨vs,k1,k2,k3,_⟩:=SB.blk b z cs' e he
   refine ⟨vs,k1,?_,k3,fun q=>?_⟩
   ·cases b with
    | zero=>simp at e; obtain ⟨_,rfl⟩:=e; exact flatPL_ok hc k2
    | succ b=>simp at e
   ·have:=S.fz _ q
    have:=new b (solid_cells e he)
    dsimp only at *
    omega
  mpb:=fun b es e=>by
   cases b with
   | zero=>simp at e
   | succ b=>simp at e }
 have T2:Stp 0 All ⟨F,H,φ,[]⟩ ⟨F,H',ψ,[.cells sz cs]⟩:={
  n0:=T.n0
  nx:=T.nx
  fz:=fun x hx=>⟨hx,same x (S.fz x hx)⟩
  fo:=fun _ _ _ h=>h
  out:=fun x hx _=>same x hx
  loc:=fun b hb=>.inl (new b hb)
  len:=fun _=>Nat.zero_le _
  le:=fun b hb=>absurd hb (Nat.not_lt_zero _)
  kat:=fun b hb=>absurd hb (Nat.not_lt_zero _)
  kmp:=fun b hb=>absurd hb (Nat.not_lt_zero _) }
 obtain ⟨SD,TD⟩:=join_ok (W:=(· ∈ [])) S SB2 T2
 have hr2:RV ⟨F,H',ψ,[.cells sz cs]⟩ (.sl sz 0 0 k k) x:=by
  cases hr with | sl a b c d=>exact .sl a b c d
 have hr3:=sh_ok (φ:=φ) (h:=h) hr2
 refine ⟨_,_,F,join h φ ψ,⟨rfl,rfl⟩,?_,?_,?_⟩
 ·have e:sh h.length (.sl sz 0 0 k k) = .sl sz h.length 0 k k:=by simp
  rw [e] at hr3
  simpa [shB,frzL_sh _ hz] using hr3
 ·simpa [shB,frzL_sh _ hz] using SD
 ·simpa [shB,frzL_sh _ hz] using TD
section
variable {n:Nat} {Q:Ex → PF → PH → Prop} {ks:List Kp} {fr:PF} {h:PH} {m:Mp} {l:List AO} {d:Option Nat}
theorem Px_foF {f:Nat} {«as»:List X} {args:List PV} {sz k:Nat} {cs:List PV} (q:Fo E O f args sz k cs) (hv:VgL All id h [] («as».map (pev fr)) args) (hc:flatPL cs = true) (next:PK E O n Q (.ops (m.up [] (fr.putO d (.sl sz h.length 0 k k)) (h ++ [.cells sz cs])) l ks) (fr.putO d (.sl sz h.length 0 k k)) (h ++ [.cells sz cs])):PK E O n Q (.ops m (⟨none,d,.call f «as»⟩ :: l) ks) fr h :=
 Px_callM (W:=[]) rfl ((PCa.lend q hc hv).mono (by rintro r' h' ⟨rfl,rfl⟩; exact next))
end
end Go.Proofs.YtoijnpfpjpefgaaGreat.A.P
