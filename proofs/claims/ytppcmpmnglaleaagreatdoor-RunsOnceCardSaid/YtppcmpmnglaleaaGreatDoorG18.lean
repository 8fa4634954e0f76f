/- Texts that stand one behind the other: Pm6, Pm7, Pm8, Pm9, Pm10, Pm11, Pm12. -/
import Derived.Test.YtppcmpmnglaleaaGreatDoorG17
set_option linter.unusedVariables false
set_option linter.unusedSimpArgs false
namespace Go.Proofs.YtppcmpmnglaleaaGreatDoor.A.P
open Go Go.RowKit
variable{C:Cx} {W:Nat→Prop}
theorem C5 {k:Value}:∀{es:List (Value×PV)} {ys:List (Value×Value)} {r:Option PV},es.map (·.1)=ys.map (·.1)→dq C (es.map (·.2)) (ys.map (·.2))→vB k es=some r→(r=none∧gI k ys=some none)∨∃p v,r=some p∧gI k ys=some (some v)∧RV C p v
 |[],ys,r,h,_,e=>by
  cases ys with
  |nil=>cases e;exact .inl ⟨rfl,rfl⟩
  |cons=>simp at h
 |(k',p)::es,ys,r,h,g,e=>by
  cases ys with
  |nil=>simp at h
  |cons y ys=>
   obtain ⟨k2,v⟩:=y
   simp only [List.map_cons,List.cons.injEq]at h
   obtain ⟨rfl,h⟩:=h
   simp only [List.map_cons]at g
   cases g with|cons g1 g2=>
   simp only [vB]at e
   split at e
   ·rename_i hv
    cases e
    exact .inr ⟨p,v,rfl,by simp [gI,hv],g1⟩
   ·rename_i hv
    rcases C5 h g2 e with⟨a,b⟩|⟨p',v',a,b,c⟩
    ·exact .inl ⟨a,by simp [gI,hv,b]⟩
    ·exact .inr ⟨p',v',a,by simp [gI,hv,b],c⟩
   ·cases e
theorem Jb {k:Value} {p:PV} {v:Value} (hp:RV C p v):∀{es fs:List (Value×PV)} {ys:List (Value×Value)},es.map (·.1)=ys.map (·.1)→dq C (es.map (·.2)) (ys.map (·.2))→Ba k p es=some fs→∃zs,mn k v ys=some zs∧fs.map (·.1)=zs.map (·.1)∧dq C (fs.map (·.2)) (zs.map (·.2))
 |[],fs,ys,h,_,e=>by
  cases ys with
  |nil=>cases e;exact ⟨[(k,v)],rfl,rfl,.cons hp .nil⟩
  |cons=>simp at h
 |(k',p')::es,fs,ys,h,g,e=>by
  cases ys with
  |nil=>simp at h
  |cons y ys=>
   obtain ⟨k2,v'⟩:=y
   simp only [List.map_cons,List.cons.injEq]at h
   obtain ⟨rfl,h⟩:=h
   simp only [List.map_cons]at g
   cases g with|cons g1 g2=>
   simp only [Ba]at e
   split at e
   ·rename_i hv
    cases e
    exact ⟨(k,v)::ys,by simp [mn,hv],by simp [h],.cons hp g2⟩
   ·rename_i hv
    cases hf:Ba k p es with
    |none=>simp [hf]at e
    |some rJ=>
     simp only [hf,Option.map_some,asm]at e
     subst e
     obtain ⟨zs,a,b,c⟩:=Jb hp h g2 hf
     exact ⟨(k',v')::zs,by simp [mn,hv,a],by simp [b],.cons g1 c⟩
   ·cases e
theorem Jc {b:Nat} {x:Value} {es:List (Value×PV)} (h:RV C (.mp b) x) (e:C.h[b]?=some (.map es)):x= .map (some (C.φ b)):=by
 cases h with|mp _ hb ha=>exact ha ⟨es,e⟩
theorem NF (S:eo C) {kk:Nat} {z:Value} {p q r:PV} {x y:Value} {ok:Bool} (h:RV C p x) (g:RV C q y) (k:CY kk z C.h p q ok=some r):∃w,js kk z C.H x y ok=some w∧RV C r w:=by
 have zer:∃w,(bif ok then Value.tuple #[z,.bool false]else z)=w∧RV C (bif ok then .gA [xI z,.v (.bool false)]else xI z) w:=by
  refine ⟨_,rfl,?_⟩
  cases ok
  ·exact Bb z
  ·exact .gA (xs:=[z,.bool false]) (.cons (Bb z) (.cons (.v _) .nil))
 obtain ⟨w0,Rs,FX⟩:=zer
 unfold CY at k
 split at k
 ·cases h;cases g
  split at k
  case isFalse=>cases k
  rename_i hk
  cases k
  exact ⟨w0,by simp [js,hk,←Rs],FX⟩
 ·rename_i b kx
  cases g
  split at k
  case h_2=>cases k
  rename_i es hh
  split at k
  case isFalse=>cases k
  rename_i hk
  rw [Jc h hh]
  obtain ⟨ys,hg,FY,hv,nJ,_⟩:=S.yZ _ _ hh
  have d:decide (C.H.n0≤C.φ b)=true:=by simp [nJ]
  cases hf:vB y es with
  |none=>simp [hf]at k
  |some q=>
   rcases C5 FY hv hf with⟨rfl,e⟩|⟨p,v,rfl,e,hpv⟩
   ·simp only [hf,asm]at k
    subst k
    exact ⟨w0,by simp [js,hg,hk,nJ,e,←Rs],FX⟩
   ·simp only [hf,asm]at k
    subst k
    refine ⟨(bif ok then Value.tuple #[v,.bool true]else v),by simp [js,hg,hk,nJ,e],?_⟩
    cases ok
    ·exact hpv
    ·exact .gA (xs:=[v,.bool true]) (.cons hpv (.cons (.v _) .nil))
 ·cases k
theorem Td (S:eo C) {kk:Nat} {p q r:PV} {x y z:Value} {h':PH} (h:RV C p x) (g:RV C q y) (f:RV C r z) (k:I6 kk C.h p q r=some h') (hW:∀b,p= .mp b→W b):∃H',rX kk C.H x y z=some H'∧eo ⟨C.F,H',C.φ,h'⟩∧dU C.h.length W C ⟨C.F,H',C.φ,h'⟩:=by
 unfold I6 at k
 split at k
 ·rename_i b kx
  cases g
  split at k
  case h_2=>cases k
  rename_i es hh
  split at k
  case isFalse=>cases k
  rename_i hk
  rw [Jc h hh]
  obtain ⟨ys,hg,FY,hv,nJ,_⟩:=S.yZ _ _ hh
  cases hf:Ba y r es with
  |none=>simp [hf]at k
  |some fs=>
   simp only [hf,Option.map_some,asm]at k
   subst k
   obtain ⟨zs,a,b',c⟩:=Jb f FY hv hf
   obtain ⟨A,B⟩:=S.ahW (hW _ rfl) hh b' c
   refine ⟨_,?_,A,B⟩
   obtain ⟨cs,jF⟩:=Option.isSome_iff_exists.1 hk.2
   simp [rX,hg,hk.1,nJ,a,(jK f jF).2]
 ·cases k
theorem Jd (S:eo C) (W:Nat→Prop) {z:Nat} {cs:List PV} {vs:List Value} (h:dq C cs vs):qa C W (some (.pointer (some ⟨C.H.nx,0,none⟩),C.H.alloc (.cells z vs))) (.ref C.h.length 0 cs.length) (C.h++[.cells z cs]):=by
 obtain ⟨A,B⟩:=S.new (P:=.cells z cs) (B:=.cells z vs) W (.inl ⟨_,_,_,rfl,rfl,h⟩)
 refine ⟨_,_,_,rfl,.ref rfl (by simp) ?_ (fun _=>by simp [iE]),A,B⟩
 intro z9 cs9 e9
 rw [show(C.h++[PB.cells z cs])[C.h.length]?=_ from lT _ _]at e9
 cases e9
 exact asp _
theorem C6 (S:eo C) (W:Nat→Prop) {sz len:Nat} {cs:List PV} {vs:List Value} (h:dq C cs vs) (hl:cs.length=len*sz) (hz:0<sz):qa C W (some (.slice (some ⟨C.H.nx,0,none⟩) len len,C.H.alloc (.cells sz vs))) (.sl sz C.h.length 0 len len) (C.h++[.cells sz cs]):=by
 obtain ⟨A,B⟩:=S.new (P:=.cells sz cs) (B:=.cells sz vs) W (.inl ⟨_,_,_,rfl,rfl,h⟩)
 refine ⟨_,_,_,rfl,.sl ⟨_,_,rfl⟩ (by simp) ?_ (fun _=>?_),A,B⟩
 ·intro z9 cs9 e9
  rw [show(C.h++[PB.cells sz cs])[C.h.length]?=_ from lT _ _]at e9
  cases e9
  simp [hl]
 ·by_cases h0:len=0
  ·subst h0;exact .inl ⟨rfl,rfl,_,rfl,by rintro e ⟨⟩;rfl⟩
  ·exact .inr ⟨by omega,by simp [iE]⟩
theorem Je:∀{ps:List PV} {l xs:List Value},S7 ps=some l→dq C ps xs→xs=l
 |[],l,xs,h,g=>by cases g;cases h;rfl
 |p::ps,l,xs,h,g=>by
  cases g with|cons g1 g2=>
  cases p with
  |v x=>
   cases g1
   simp only [S7]at h
   cases h2:S7 ps with
   |none=>simp [h2]at h
   |some m=>
    simp only [h2,Option.map_some,asm]at h
    rw [←h,Je h2 g2]
  |_=>simp [S7]at h
theorem C7 {cs ds:List PV} {xs ys:List Value} (h:dq C cs xs) (g:dq C ds ys):∀{offs:List (Nat×Nat)} {b:Bool},E6 cs ds offs=some b→ep xs ys offs=some b
 |[],b,e=>e
 |(o,kk)::l,b,e=>by
  simp only [E6]at e
  split at e
  case h_2=>cases e
  rename_i a a' h1 h2
  obtain ⟨x,hx,rx⟩:=h.get h1
  obtain ⟨y,hy,ry⟩:=g.get h2
  cases rx;cases ry
  split at e
  case isFalse=>cases e
  rename_i hk
  simp only [ep,hx,hy,hk,cond_true]
  split at e
  ·rename_i hv;rw [hv];exact C7 h g e
  ·rename_i hv;rw [hv];exact e
  ·cases e
theorem PX {f:Value→List Value→Option Value} {p r:PV} {x:Value} {ps:List PV} {xs:List Value} (h:RV C p x) (g:dq C ps xs) (k:Za f p ps=some r):∃y,f x xs=some y∧RV C r y:=by
 unfold Za at k
 split at k
 ·rename_i x' l' e
  cases h
  rw [Je e g]
  cases hf:f x l' with
  |none=>simp [hf]at k
  |some y=>simp only [hf,Option.map_some,asm]at k;subst k;exact ⟨y,rfl,.v _⟩
 ·cases k
def up (r:Option (Value×AH)):Option (jN×AH):=r.map fun q=>(.v q.1,q.2)
theorem NG (o n:Nat) (ag:Bool) (vs:List Value) (H:AH):Ga (.F9 o n ag) vs H=(Vt (.F9 o n ag) vs).map fun v=>(v,H):=by
 match vs with
 |[]=>rfl
 |[a]=>cases a<;>rfl
 |a::b::l=>cases a<;>rfl
theorem NJ (len n:Nat) (ag:Bool) (vs:List Value) (H:AH):Ga (.KC len n ag) vs H=(Vt (.KC len n ag) vs).map fun v=>(v,H):=by
 match vs with
 |[]=>rfl
 |[a]=>cases a<;>rfl
 |[a,b]=>
  cases a<;>first|rfl|skip
  cases b<;>first|rfl|skip
  simp only [Ga,Vt]
  split<;>rfl
 |a::b::c::l=>cases a<;>first|rfl|(cases b<;>rfl)
theorem C8 {C:Cx} {ps:List PV} {vs:List Value} {n:Nat} {ag:Bool} {q:PV} (h:dq C ps vs) (e:y3 ps n ag=some q):∃y,rj vs n ag=some y∧RV C q y:=by
 unfold y3 at e
 split at e
 case isFalse=>cases e
 rename_i hl
 have hv:vs.length=n:=by rw [←h.length];exact hl
 unfold rj
 rw [nb,decide_eq_true hv,cond_true]
 cases ag with
 |true=>
  simp only [cond_true,asm]at e
  subst e
  exact ⟨_,rfl,.agg h⟩
 |false=>
  simp only [cond_false]at e⊢
  split at e
  ·cases e
   cases h with|cons a b=>
   cases b
   exact ⟨_,rfl,a⟩
  ·cases e
theorem ee {C:Cx} (S:eo C) {p:PV} {h':PH} {r:Option PV} {r':Option Value} {a:Option (jN×AH)} (ha:a=r'.map fun v=>(.v v,C.H)) (k:(r.map fun v=>(v,C.h))=some (p,h')) (hr:∀q,r=some q→∃y,r'=some y∧RV C q y):∃b,a=up b∧qa C W b p h':=by
 cases hq:r with
 |none=>simp [hq]at k
 |some q=>
  simp only [hq,Option.map_some,asm,ast]at k
  obtain ⟨rfl,rfl⟩:=k
  obtain ⟨y,hy,g⟩:=hr q hq
  refine ⟨some (y,C.H),by rw [ha,hy];rfl,qa.val S g rfl⟩
theorem Te {H:AH} {ρ:X→Value} {sz:Nat} {x i:X}:aA (.ia sz x i) ρ H=(Pn sz (ρ x) (ρ i)).map fun v=>(.v v,H):=by
 simp only [aA]
 cases ρ x with
 |slice a len c=>
  cases a with
  |none=>rfl
  |some a=>
   cases ρ i<;>first
    |rfl
    |(simp only [Pn];split<;>first|rfl|(cases a.spot.isNone<;>rfl))
 |_=>rfl
theorem NK {H:AH} {ρ:X→Value} {len sz:Nat} {x i:X}:aA (.qo len sz x i) ρ H=(yw len sz (ρ x) (ρ i)).map fun v=>(.v v,H):=by
 simp only [aA]
 cases ρ x with
 |pointer a=>
  cases a with
  |none=>rfl
  |some a=>
   cases ρ i<;>first
    |rfl
    |(simp only [yw];split<;>first|rfl|(cases a.spot.isNone<;>rfl))
 |_=>rfl
theorem Hh {H:AH} {ρ:X→Value} {x i:X}:aA (.ix x i) ρ H=(FO (ρ x) (ρ i)).map fun v=>(.v v,H):=by
 simp only [aA]
 cases ρ x with
 |string s=>
  cases ρ i<;>first
   |rfl
   |(simp only [FO];rename_i n;cases s[n.toNat]?<;>(split<;>rfl))
 |_=>rfl
theorem Jf {H:AH} {ρ:X→Value} {kk:Nat} {z:Value} {x ky:X} {ok:Bool}:aA (.look kk z x ky ok) ρ H=(js kk z H (ρ x) (ρ ky) ok).map fun v=>(.v v,H):=by
 simp only [aA,js]
 cases ρ x with
 |map r=>
  cases r with
  |none=>dsimp only;cases cH kk (ρ ky)<;>rfl
  |some r=>
   dsimp only
   cases H.get r with
   |none=>rfl
   |some b=>
    cases b with
    |cells=>rfl
    |map es=>
     dsimp only
     cases cH kk (ρ ky)&&decide (H.n0≤r)
     ·rfl
     ·cases gI (ρ ky) es with
      |none=>rfl
      |some q=>cases q<;>rfl
 |_=>rfl
theorem NM {H:AH} {ρ:X→Value} {neg:Bool} {offs:List (Nat×Nat)} {x y:X}:aA (.eqs neg offs x y) ρ H=(Mo neg offs (ρ x) (ρ y)).map fun v=>(.v v,H):=by
 simp only [aA]
 cases ρ x<;>cases ρ y<;>first
  |rfl
  |(simp only [Mo];rename_i a b;cases ep a.toList b.toList offs<;>rfl)
theorem Tf {C:Cx} (S:eo C) {o:cN} {oX:X→PV} {ρ:X→Value} {p:PV} {h':PH} (h:∀x,RV C (oX x) (ρ x)) (k:pop o oX C.h=some (p,h')):∃b,aA o ρ C.H=up b∧qa C (· ∈y4 o oX) b p h':=by
 cases o with
 |mv x=>cases k;exact ⟨some (ρ x,C.H),rfl,qa.val S (h x) rfl⟩
 |pick c a b=>
  refine ee S (r':=yu (ρ c) (ρ a) (ρ b)) (by simp only [aA];cases ρ c<;>rfl) k fun q hq=> ?_
  have hc:=h c
  revert hq hc
  generalize oX c=pc
  intro hq hc
  cases pc<;>first
   |(cases hq;done)
   |skip
  rename_i w
  cases w<;>first
   |(cases hq;done)
   |skip
  rename_i t
  cases hq
  rw [hc.qT]
  refine ⟨_,rfl, ?_⟩
  cases t
  · exact h b
  · exact h a
 |alloc z=>
  cases k
  refine ⟨some (.pointer (some ⟨C.H.nx,0,none⟩),C.H.alloc (.cells z.length z)),rfl, ?_⟩
  have:=Jd S (· ∈y4 (.alloc z) oX) (z:=z.length) (dq.lits z)
  rw [List.length_map]at this
  exact this
 |box x=>
  simp only [pop,Ny]at k
  split at k
  case h_2=>cases k
  rename_i cs hc
  cases k
  obtain ⟨a,b⟩:=jK (h x) hc
  refine ⟨some (.pointer (some ⟨C.H.nx,0,none⟩),C.H.alloc (.cells (aZ (ρ x)).length (aZ (ρ x)))),by simp [aA,b,up], ?_⟩
  rw [←a.length]
  exact Jd S _ a
 |build z ps=>
  cases hf:p9 (z.map .v) (ps.map fun p=>(p.1,p.2.1,oX p.2.2))with
  |none=>simp [pop,hf]at k
  |some d=>
   simp only [pop,hf,Option.map_some,asm,ast]at k
   obtain ⟨rfl,rfl⟩:=k
   obtain ⟨ys,e,g⟩:=C1 (Nz.of h ps) (dq.lits z) hf
   exact ⟨some (.agg ys.toArray,C.H),by simp [aA,e,up],qa.val S (.agg g) rfl⟩
 |bsl len sz z ps=>
  simp only [pop,Nw]at k
  split at k
  case h_2=>cases k
  rename_i d hf
  split at k
  case isFalse=>cases k
  rename_i hc
  cases k
  obtain ⟨ys,e,g⟩:=C1 (Nz.of h ps) (dq.lits z) hf
  exact ⟨some (.slice (some ⟨C.H.nx,0,none⟩) len len,C.H.alloc (.cells sz ys)),by simp [aA,e,up],C6 S _ g hc.1 hc.2⟩
 |ld x=>exact ee S (r':=UX C.H (ρ x)) (by
   simp only [aA]
   cases ρ x with
   |pointer a=>cases a<;>rfl
   |_=>rfl) k fun q hq=>PW S (h x) hq
 |ldn n x=>exact ee S (r':=uQ n C.H (ρ x)) (by
   simp only [aA]
   cases ρ x with
   |pointer a=>
    cases a with
    |none=>rfl
    |some a=>simp only [uQ];cases C.H.ldn a n<;>rfl
   |_=>rfl) k fun q hq=>Bc S (h x) hq
 |st n x v=>
  cases hs:S5 n C.h (oX x) (oX v)with
  |none=>simp [pop,hs]at k
  |some h2=>
   simp only [pop,hs,Option.map_some,asm,ast]at k
   obtain ⟨rfl,rfl⟩:=k
   obtain ⟨H',e,A,B⟩:=Zb (W:=(· ∈y4 (.st n x v) oX)) S (h x) (h v) hs (fun b o t e=>by simp [y4,e])
   refine ⟨some (undef,H'), ?_,undef,H',C.φ,rfl, .v _,A,B⟩
   have:aA (.st n x v) ρ C.H=(HI n C.H (ρ x) (ρ v)).map fun H'=>(.v undef,H'):=by
    simp only [aA]
    cases ρ x with
    |pointer a=>
     cases a with
     |none=>rfl
     |some a=>simp only [HI];cases (Nat.beq (aZ (ρ v)).length n&& !cY (ρ v))<;>simp
    |_=>rfl
   rw [this,e];rfl
 |bz x=>
  refine ee S (r':=vi (ρ x)) (by
   simp only [aA]
   cases ρ x with
   |pointer a=>cases a<;>rfl
   |_=>rfl) k fun q hq=> ?_
  obtain ⟨a,b⟩:=NB (h x) hq
  exact ⟨_,a,b⟩
 |bin op x y=>
  refine ee S (r':=cx op (ρ x) (ρ y)) rfl k fun q hq=> ?_
  have hx:=h x
  have hy:=h y
  unfold I3 at hq
  split at hq
  · rename_i a b e1 e2
    rw [e1]at hx;rw [e2]at hy
    rw [hx.qT,hy.qT]
    cases he:cx op a b with
    |none=>simp [he]at hq
    |some w=>simp only [he,Option.map_some,asm]at hq;subst hq;exact ⟨w,rfl, .v _⟩
  · cases hq
 |eqk kk neg x y=>
  cases hs:Ns C.h kk (oX x) (oX y)with
  |none=>simp [pop,hs]at k
  |some b=>
   simp only [pop,hs,Option.map_some,asm,ast]at k
   obtain ⟨rfl,rfl⟩:=k
   exact ⟨some (.bool (bif neg then !b else b),C.H),by simp only [aA];rw [NA (h x) (h y) hs];rfl,qa.val S (.v _) rfl⟩
 |un op x=>
  refine ee S (r':=F8 op (ρ x)) rfl k fun q hq=> ?_
  have hx:=h x
  unfold pun at hq
  split at hq
  · rename_i a e1
    rw [e1]at hx
    rw [hx.qT]
    cases he:F8 op a with
    |none=>simp [he]at hq
    |some w=>simp only [he,Option.map_some,asm]at hq;subst hq;exact ⟨w,rfl, .v _⟩
  · cases hq
 |nP kk x=>
  refine ee S (r':=HM kk (ρ x)) (by simp only [aA];cases ρ x<;>rfl) k fun q hq=> ?_
  have hx:=h x
  unfold Nt at hq
  split at hq
  · rename_i k' n e1
    rw [e1]at hx
    rw [hx.qT]
    cases hq
    exact ⟨_,rfl, .v _⟩
  · cases hq
 |Um x=>
  refine ee S (r':=Xg (ρ x)) (by simp only [aA];cases ρ x<;>rfl) k fun q hq=> ?_
  have hx:=h x
  unfold S6 at hq
  split at hq
  · rename_i k' n e1
    rw [e1]at hx
    rw [hx.qT]
    cases hq
    exact ⟨_,rfl, .v _⟩
  · cases hq
 |mkf f first cap=>cases k;exact ⟨some (.func (.func f) (first.map ρ).toArray (cap.map ρ).toArray,C.H),rfl,qa.val S (.fn (dq.of h first) (dq.of h cap)) rfl⟩
 |mkmap=>
  cases k
  obtain ⟨A,B⟩:=S.new (P:= .map []) (B:= .map []) (· ∈y4 .mkmap oX) (.inr ⟨[],[],rfl,rfl,rfl, .nil⟩)
  exact ⟨some (.map (some C.H.nx),C.H.alloc (.map [])),rfl,_,_,_,rfl, .mp rfl (by simp) (fun _=>by simp [iE]),A,B⟩
 |mksl sz bytes z x=>
  have hx:=h x
  simp only [pop]at k
  unfold I7 at k
  split at k
  · rename_i k' n e1
    rw [e1]at hx
    split at k
    case isFalse=>cases k
    rename_i hc
    cases k
    refine ⟨some (.slice (some ⟨C.H.nx,0,none⟩) n.toNat n.toNat,C.H.alloc (.cells sz (List.replicate n.toNat z).flatten)), ?_,C6 S _ ((dq.lits z).Y8 _) ?_ hc.2.2.2.2⟩
    · have d3:decide ((bytes:Int)*n≤2^47)=true:=decide_eq_true hc.2.2.1
      simp only [aA,hx.qT,decide_eq_true hc.1,decide_eq_true hc.2.1,d3,Bool.and_self,cond_true]
      rfl
    · have hz:=hc.2.2.2.1
      clear hc hx e1
      induction n.toNat with
      |zero=>simp
      |succ m ih=>simp only [List.replicate_succ,List.flatten_cons,asu,List.length_map,ih,Nat.succ_mul];omega
  · cases k
 |sl sz x lo hi mx=>exact ⟨_,by simp only [aA,up,Option.map_map];rfl,Zg S h (h x) k⟩
 |fa off x=>
  refine ee S (r':=Pm off (ρ x)) ?_ k fun q hq=>Zd (h x) hq
  simp only [aA]
  cases ρ x with
  |pointer a=>
   cases a with
   |none=>rfl
   |some a=>simp only [Pm];cases a.spot.isNone<;>rfl
  |_=>rfl
 |ia sz x i=>exact ee S Te k fun q hq=>Ze (h x) (h i) hq
 |qo len sz x i=>exact ee S NK k fun q hq=>Ta (h x) (h i) hq
 |ix x i=>
  refine ee S Hh k fun q hq=> ?_
  have hx:=h x
  have hy:=h i
  unfold pix at hq
  split at hq
  · rename_i a b e1 e2
    rw [e1]at hx;rw [e2]at hy
    rw [hx.qT,hy.qT]
    cases he:FO a b with
    |none=>simp [he]at hq
    |some w=>simp only [he,Option.map_some,asm]at hq;subst hq;exact ⟨w,rfl, .v _⟩
  · cases hq
 |look kk z x ky ok=>exact ee S Jf k fun q hq=>NF S (h x) (h ky) hq
 |qp kk x ky v=>
  cases hs:I6 kk C.h (oX x) (oX ky) (oX v)with
  |none=>simp [pop,hs]at k
  |some h2=>
   simp only [pop,hs,Option.map_some,asm,ast]at k
   obtain ⟨rfl,rfl⟩:=k
   obtain ⟨H',e,A,B⟩:=Td (W:=(· ∈y4 (.qp kk x ky v) oX)) S (h x) (h ky) (h v) hs (fun b e=>by simp [y4,e])
   refine ⟨some (undef,H'), ?_,undef,H',C.φ,rfl, .v _,A,B⟩
   have:aA (.qp kk x ky v) ρ C.H=(rX kk C.H (ρ x) (ρ ky) (ρ v)).map fun H'=>(.v undef,H'):=by
    simp only [aA,rX]
    cases ρ x with
    |map r=>
     cases r with
     |none=>rfl
     |some r=>
      dsimp only
      cases C.H.get r with
      |none=>rfl
      |some b=>
       cases b with
       |cells=>rfl
       |map es=>
        dsimp only
        cases (cH kk (ρ ky)&&decide (C.H.n0≤r)&& !cY (ρ v))
        · rfl
        · simp only [cond_true]
          cases mn (ρ ky) (ρ v) es<;>rfl
    |_=>rfl
   rw [this,e];rfl
 |ext x i=>
  refine ee S (r':=yx (ρ x) i) (by
   simp only [aA]
   cases ρ x with
   |tuple vs=>simp only [yx];cases vs.toList[i]?<;>rfl
   |_=>rfl) k fun q hq=> ?_
  have hx:=h x
  unfold Nu at hq
  split at hq
  · rename_i ps i' e1
    rw [e1]at hx
    revert hx
    generalize ρ x=y
    intro hx
    cases hx with|gA g=>
    obtain ⟨z,hz,gz⟩:=g.get hq
    exact ⟨z,by simpa [yx]using hz,gz⟩
  · cases hq
 |xt xk l=>
  have hl:=dq.of h l
  cases xk with
  |bad=>simp only [pop,S8]at k;cases k
  |qn=>simp only [pop,S8]at k;cases k
  |F9 o n ag=>
   refine ee S (r':=Vt (.F9 o n ag) (l.map ρ)) (by simp only [aA,NG,Option.map_map];rfl) k fun q hq=> ?_
   unfold S8 at hq
   split at hq
   case h_2=>cases ‹XK.F9 o n ag=XK.KC _ _ _›
   case h_3=>cases hq
   rename_i o' n' ag' cs e1 e2
   cases e1
   rw [e2]at hl
   generalize l.map ρ=ys at hl
   cases hl with|cons a b=>
   cases b
   cases a with|agg g=>
   obtain ⟨v,e,r⟩:=C8 ((g.drop o).take n) hq
   exact ⟨v,e,r⟩
  |KC len n ag=>
   refine ee S (r':=Vt (.KC len n ag) (l.map ρ)) (by simp only [aA,NJ,Option.map_map];rfl) k fun q hq=> ?_
   unfold S8 at hq
   split at hq
   case h_1=>cases ‹XK.KC len n ag=XK.F9 _ _ _›
   case h_3=>cases hq
   rename_i aqn n' ag' cs ki i e1 e2
   cases e1
   rw [e2]at hl
   generalize l.map ρ=ys at hl
   cases hl with|cons a b=>
   cases b with|cons b c=>
   cases c
   cases b
   cases a with|agg g=>
   split at hq
   · rename_i hi
     obtain ⟨v,e,r⟩:=C8 ((g.drop (i.toNat*n)).take n) hq
     refine ⟨v, ?_,r⟩
     simp only [Vt,if_pos hi]
     exact e
   · cases hq
 |call f «as»=>cases k
 |callv x «as»=>cases k
 |app sz bytes s x=>exact ⟨_,rfl,Tb S (h s) (h x) k (fun sz b o n c e=>by simp [y4,e])⟩
 |copy sz d s=>exact ⟨_,rfl,NC S (h d) (h s) k (fun sz b o n c e=>by simp [y4,e])⟩
 |lens x=>
  refine ee S (r':=tt (ρ x)) (by simp only [aA];cases ρ x<;>rfl) k fun q hq=> ?_
  have hx:=h x
  unfold I5 at hq
  split at hq
  · rename_i a e1
    rw [e1]at hx
    rw [hx.qT]
    cases he:tt a with
    |none=>simp [he]at hq
    |some w=>simp only [he,Option.map_some,asm]at hq;subst hq;exact ⟨w,rfl, .v _⟩
  · cases hq
 |eE x=>
  refine ee S (r':=tu (ρ x)) (by simp only [aA];cases ρ x<;>rfl) k fun q hq=> ?_
  have hx:=h x
  unfold CX at hq
  split at hq
  · rename_i a e1
    rw [e1]at hx
    rw [hx.qT]
    cases he:tu a with
    |none=>simp [he]at hq
    |some w=>simp only [he,Option.map_some,asm]at hq;subst hq;exact ⟨w,rfl, .v _⟩
  · rename_i sz b o n c e1
    rw [e1]at hx
    cases hq
    revert hx
    generalize ρ x=y
    intro hx
    cases hx with|sl hn _ _ _=>
    obtain ⟨_,_,rfl⟩:=hn
    exact ⟨_,rfl, .v _⟩
  · rename_i sz rows e1
    rw [e1]at hx
    cases hq
    revert hx
    generalize ρ x=y
    intro hx
    cases hx with|fs g=>
    cases g
    exact ⟨_,rfl, .v _⟩
  · cases hq
 |Qr t x=>cases k;exact ⟨some (.iface t (ρ x),C.H),rfl,qa.val S (.qS (h x)) rfl⟩
 |mxl x l=>exact ee S (r':=KB (ρ x) (l.map ρ)) rfl k fun q hq=>PX (h x) (dq.of h l) hq
 |mnl x l=>exact ee S (r':=OR (ρ x) (l.map ρ)) rfl k fun q hq=>PX (h x) (dq.of h l) hq
 |eqs neg offs x y=>
  refine ee S NM k fun q hq=> ?_
  have hx:=h x
  have hy:=h y
  unfold Nx at hq
  split at hq
  · rename_i cs ds e1 e2
    rw [e1]at hx;rw [e2]at hy
    revert hx hy
    generalize ρ x=a
    generalize ρ y=b
    intro hx hy
    cases hx with|agg gx=>
    cases hy with|agg gy=>
    cases he:E6 cs ds offs with
    |none=>simp [he]at hq
    |some w=>
     simp only [he,Option.map_some,asm]at hq
     subst hq
     exact ⟨_,by simp only [Mo,List.toList_toArray];rw [C7 gx gy he];rfl, .v _⟩
  · cases hq
end Go.Proofs.YtppcmpmnglaleaaGreatDoor.A.P
namespace Go.Proofs.YtppcmpmnglaleaaGreatDoor.A.P
open Go Go.RowKit
structure PF where
 g:Nat→PV
def PF.get (f:PF) (n:Nat):PV:=f.g n
def PF.put (f:PF) (n:Nat) (p:PV):PF:=⟨fun m=>if m=n then p else f.g m⟩
def PF.aU (f:PF) (d:Option Nat) (p:PV):PF:=match d with|some n=>f.put n p|none=>f
def PF.of (l:List PV):PF:=⟨fun n=>l.getD n .any⟩
theorem PF.bV (f:PF) (n m:Nat) (p:PV):(f.put n p).get m=if m=n then p else f.get m:=rfl
theorem PF.fv (l:List PV) (n:Nat):(PF.of l).get n=l.getD n .any:=rfl
def gh (f:PF):X→PV
 | .t n=>f.get n
 | .k v=>xI v
 | .f n=>.fn n [] []
def nM (C:Cx) (fr:PF) (af:Fr):Prop:=∀t,RV C (fr.get t) (af.get t)
theorem nM.ev {C:Cx} {fr:PF} {af:Fr} (h:nM C fr af):∀x,RV C (gh fr x) (X.ev af x)
 | .t n=>h n
 | .k v=>Bb v
 | .f n=>.fn (xs:=[]) (ys:=[]) .nil .nil
theorem nM.put {C:Cx} {fr:PF} {af:Fr} (h:nM C fr af) {p:PV} {x:Value} (k:RV C p x) (n:Nat):nM C (fr.put n p) (af.put n x):=by
 intro t
 rw [PF.bV,Fr.bV]
 split
 ·exact k
 ·exact h t
theorem nM.aU {C:Cx} {fr:PF} {af:Fr} (h:nM C fr af) {p:PV} {x:Value} (k:RV C p x) (d:Option Nat):nM C (fr.aU d p) (af.aU d x):=by
 cases d with
 |none=>exact h
 |some n=>exact h.put k n
theorem nM.step {W:Nat→Prop} {C D:Cx} {fr:PF} {af:Fr} (h:nM C fr af) (T:dU C.h.length W C D):nM D fr af:=fun t=>(h t).step T
theorem nM.of {C:Cx} {ps:List PV} {xs:List Value} (h:dq C ps xs):nM C (PF.of ps) (Fr.of xs):=by
 intro t
 rw [PF.fv,Fr.fv]
 rw [List.getD_eq_getElem?_getD,List.getD_eq_getElem?_getD]
 cases e:ps[t]? with
 |none=>exact .any _
 |some p=>
  obtain ⟨x,hx,r⟩:=h.get e
  rw [hx]
  exact r
def Tg:PV→Bool
 | .v x=>Nq x
 | .ref _ _ _| .sl _ _ _ _ _| .mp _| .fs _ _| .fp _=>true
 |_=>false
def Jg (o:AO) (fr:PF):Bool:=match o.g with
 |none=>true
 |some (t,b)=>match fr.get t with| .v x=>eY b x|_=>true
def E8 (n:Nat) (p:PV) (h:PH) (W:List Nat):Bool:=match p with
 | .ref b o t=>match h[b]? with
   |some (.cells _ cs)=>decide (cs.length=t)&&decide (o+n≤t)&&decide (0<t)&& !W.contains b&&((cs.drop o).take n).all Tg
   |_=>false
 | .fp cells=>decide (n≤cells.length)&&(cells.take n).all Tg
 |_=>false
def Th (o:cN) (fr:PF) (h:PH) (W:List Nat):Bool:=match o with
 | .ld x=>E8 1 (gh fr x) h W
 | .ldn n x=>E8 n (gh fr x) h W
 |_=>false
def NN (b:Nat) (h:PH) (W:List Nat):Bool:=!W.contains b&&(match h[b]? with
 |some (.cells _ (c::cs))=>Tg c&&cs.all Tg
 |some (.map [])=>true
 |_=>false)
def y7 (o:cN) (fr:PF) (h:PH):Option (Option Nat):=match o with
 | .st _ x _| .ld x| .ldn _ x=>match gh fr x with
   | .ref b _ t=>if da h b=some t∧0<t then some (some b)else none
   | .fp _=>some none
   |_=>none
 | .look _ _ x _ _=>match gh fr x with
   | .mp b=>match h[b]? with|some (.map _)=>some (some b)|_=>none
   |_=>none
 | .sl _ x _ _ _=>match gh fr x with
   | .sl sz b o n c=>if gV h (.sl sz b o n c)=true∧0<c∧0<sz then some (some b)else none
   |_=>none
 |_=>none
def wX:Option (Option Nat)→Option (Option Nat)→Bool
 |some (some b),some (some c)=>!Nat.beq b c
 |some none,some (some _)=>true
 |_,_=>false
def pck (k p q:Nat):Option AO→Option (PF×PH×List Nat)→Option (PF×PH×List Nat)→Option AO→Option (PF×PH×List Nat)→Option (PF×PH×List Nat)→Bool
 |some op,some (fp,hp,_),some (_,hp',_),some oq,some (fq,hq,_),some (_,_,W)=>
  decide (p<q)&&(!Jg op fp|| !Jg oq fq||(match k with
   |0=>Th op.o fp hp W
   |1=>!op.o.bh&&NN hp.length hp' W
   |_=>wX (y7 op.o fp hp) (y7 oq.o fq hq)))
 |_,_,_,_,_,_=>false
def Zh (l:List AO) (ck:List (Nat×Nat×Nat)) (acc:List (PF×PH×List Nat)):Bool:=
 ck.all fun c=>pck c.1 c.2.1 c.2.2 (nth l c.2.1) (nth acc.reverse c.2.1) (nth acc.reverse (c.2.1+1)) (nth l c.2.2) (nth acc.reverse c.2.2) (nth acc.reverse (c.2.2+1))
inductive oY (l0:List AO):List (PF×PH×List Nat)→List (Fr×AH)→Cx→List Nat→Prop
 |one {C:Cx} {fr:PF} {af:Fr}:eo C→nM C fr af→oY l0 [(fr,C.h,[])] [(af,C.H)] C []
 |cons {C D:Cx} {acc:List (PF×PH×List Nat)} {fj:List (Fr×AH)} {fr:PF} {af:Fr} {V W:List Nat}:oY l0 acc fj C W→dU 0 (· ∈V) C D→eo D→nM D fr af→(∀o,nth l0 (acc.length- 1)=some o→o.o.bh=false→D.H.nx≤C.H.nx+1)→oY l0 ((fr,D.h,V++W)::acc) ((af,D.H)::fj) D (V++W)
theorem oY.length {l0:List AO} {W:List Nat} {acc:List (PF×PH×List Nat)} {fj:List (Fr×AH)} {C:Cx} (h:oY l0 acc fj C W):acc.length=fj.length∧0<acc.length:=by
 induction h with
 |one a b=>exact ⟨rfl,Nat.one_pos⟩
 |cons _ T S R nx ih=>simp [ih.1]
theorem tZ {α:Type} (l:List α) (x:α) (i:Nat):nth (l++[x]) i=if i<l.length then nth l i else if i=l.length then some x else none:=by
 rw [vj,vj]
 split
 ·rw [asy (by assumption)]
 ·rw [List.getElem?_append_right (by omega)]
  split
  ·rename_i h;subst h;simp
  ·rw [List.getElem?_eq_none (by simp;omega)]
theorem oY.fam {l0:List AO} {W:List Nat} {acc:List (PF×PH×List Nat)} {fj:List (Fr×AH)} {D:Cx} (h:oY l0 acc fj D W):∃(cs:Nat→Cx) («as»:Nat→Fr),
 (∀i s,nth acc.reverse i=some s→(cs i).h=s.2.1∧nth fj.reverse i=some («as» i,(cs i).H)∧eo (cs i)∧nM (cs i) s.1 («as» i))∧
 (∀i j s,i≤j→nth acc.reverse j=some s→dU 0 (· ∈s.2.2) (cs i) (cs j))∧
 (∀i o,i+1<acc.length→nth l0 i=some o→o.o.bh=false→(cs (i+1)).H.nx≤(cs i).H.nx+1)∧cs (acc.length- 1)=D∧∀i,i<acc.length→dU 0 (· ∈W) (cs i) D:=by
 induction h with
 | @one C fr af a b=>
  refine ⟨fun _=>C,fun _=>af,fun i s e=>?_,fun _ _ _ _ _=>dU.refl _ _ _,fun i o hi=>by simp at hi,rfl,fun _ _=>dU.refl _ _ _⟩
  cases i with
  |zero=>simp only [List.reverse_singleton,Xl,asm]at e;subst e;exact ⟨rfl,rfl,a,b⟩
  |succ i=>simp [nth]at e
 | @cons C D acc fj fr af V W H0 T S R nx ih=>
  obtain ⟨cs,«as»,h1,h2,h3,h4,h5⟩:=ih
  have hl:=H0.length
  have xX:∀i,i<acc.length→dU 0 (· ∈V++W) (cs i) D:=fun i hi=>(h5 i hi).trans T (Nat.zero_le _) (fun _ q=>List.mem_append_right _ q) (fun _ q=>List.mem_append_left _ q)
  refine ⟨fun i=>if i<acc.length then cs i else D,fun i=>if i<acc.length then «as» i else af,fun i s e=>?_,fun i j s hij e=>?_,fun i o hi ho hc=>?_,by simp,fun i hi=>?_⟩
  ·rw [List.reverse_cons,tZ,List.length_reverse]at e
   rw [List.reverse_cons,tZ,List.length_reverse,←hl.1]
   split at e
   ·rename_i hi
    simp only [if_pos hi]
    exact h1 i s e
   ·rename_i hi
    split at e
    case isFalse=>cases e
    rename_i EF
    cases e
    simp only [if_neg hi,if_pos EF]
    exact ⟨trivial,trivial,S,R⟩
  ·rw [List.reverse_cons,tZ,List.length_reverse]at e
   split at e
   ·rename_i hj2
    simp only [if_pos hj2,if_pos (show i<acc.length by omega)]
    exact h2 i j s hij e
   ·rename_i hj2
    split at e
    case isFalse=>cases e
    cases e
    simp only [if_neg hj2]
    by_cases hi:i<acc.length
    ·simp only [if_pos hi];exact xX i hi
    ·simp only [if_neg hi];exact dU.refl _ _ _
  ·simp only [List.length_cons]at hi
   by_cases EF:i+1<acc.length
   ·simp only [if_pos EF,if_pos (show i<acc.length by omega)]
    exact h3 i o EF ho hc
   ·simp only [if_neg EF,if_pos (show i<acc.length by omega)]
    have e:i=acc.length- 1:=by omega
    have:=nx o (by rw [←e];exact ho) hc
    rw [e,h4]
    exact this
  ·by_cases EF:i<acc.length
   ·simp only [if_pos EF];exact xX i EF
   ·simp only [if_neg EF];exact dU.refl _ _ _
theorem Ti {α:Type} {l:List α} {i:Nat} {x:α} (h:nth l i=some x):i<l.length:=by
 rw [vj]at h
 exact (asr.1 h).1
theorem Jh {x:Value} (h:Nq x=true):dG x x=true:=by
 cases x<;>first
  |(simp [Nq]at h;done)
  |simp [dG]
theorem Tj {C:Cx} {p:PV} {x:Value} (h:RV C p x) (k:Tg p=true):dG x x=true:=by
 apply Jh
 cases p with
 |v y=>cases h;exact k
 |ref=>cases h;assumption
 |sl=>cases h with|sl a _ _ _=>exact a.sm
 |mp=>cases h;assumption
 |fs=>cases h with|fs q=>cases q;rfl
 |fp=>cases h;rfl
 |_=>cases k
theorem wY {C:Cx}:∀{ps:List PV} {xs:List Value},dq C ps xs→ps.all Tg=true→fk xs xs=true
 |_,_,.nil,_=>rfl
 |_,_,.cons a b,h=>by
  simp only [List.all_cons,aso]at h
  simp only [fk,aso]
  exact ⟨Tj a h.1,wY b h.2⟩
theorem Ji {C:Cx} {fr:PF} {af:Fr} (h:nM C fr af) {o:AO} (k:o.wanted af=true):Jg o fr=true:=by
 obtain ⟨g,d,p⟩:=o
 cases g with
 |none=>rfl
 |some q=>
  obtain ⟨t,b⟩:=q
  simp only [Jg]
  have:=h t
  split
  ·rename_i x e
   rw [e]at this
   rw [nj,this.qT]at k
   exact k
  ·rfl
theorem Jj {C:Cx} (S:eo C) {W:List Nat} {b:Nat} (hs:aY C.h b) (hb:b∉W):¬ im C (· ∈W) (C.φ b):=by
 rintro ⟨b',mi,fF,e⟩
 exact hb (S.inj _ _ fF hs e▸mi)
theorem Jk {C D:Cx} {W:List Nat} (S:eo C) (T:dU 0 (· ∈W) C D) {n:Nat} {p:PV} {x:Value} (h:RV C p x) (k:E8 n p C.h W=true):
 ∃a l,x= .pointer (some a)∧C.H.ldn a n=some l∧sameAt D.H (a,l)=true:=by
 cases p with
 |ref b o t=>
  simp only [E8]at k
  split at k
  case h_2=>cases k
  rename_i z cs hh
  simp only [aso,asx,Bool.not_eq_true',List.contains_eq_mem,decide_eq_false_iff_not]at k
  obtain ⟨⟨⟨⟨k1,k2⟩,k3⟩,k4⟩,k5⟩:=k
  obtain ⟨vs,hg,hv,h0⟩:=S.cells (t:=t) hh (by omega)
  have kW:=hv.length
  have hx:=tW h (t:=t) (by unfold da;rw [hh];simp [k1])
  have hl:C.H.ldn ⟨C.φ b,o,none⟩ n=some ((vs.drop o).take n):=bW hg h0 (by omega)
  have hs:=cn hh (by intro e;subst e;simp at k1;omega)
  have hD:=T.out _ (S.lt hs) (Jj S hs k4)
  refine ⟨_,_,hx,hl,?_⟩
  rw [yy,fx hD T.n0,show((vs.drop o).take n).length=n by simp;omega,hl]
  exact wY ((hv.drop o).take n) k5
 |fp cells=>
  simp only [E8,aso,asx]at k
  have h':=h
  cases h with| @fp _ b o vs hf hl hc=>
  have xE:C.H.ldn ⟨b,o,none⟩ n=some (vs.take n):=by
   have:=Bc S h' (n:=n) (q:=.agg (cells.take n)) (by simp [wU,k.1])
   obtain ⟨y,hy,hr⟩:=this
   simp only [RJ]at hy
   cases hq:C.H.ldn ⟨b,o,none⟩ n with
   |none=>rw [hq]at hy;cases hy
   |some l=>
    have e1:l=vs.take n:=by
     have e0:∀(j:Nat) (v:Value),l[j]?=some v→(vs.take n)[j]?=some v:=by
      intro j v hj
      have py:=(dH hq).2
      have UM:=(asr.1 hj).1
      have a1:=aR hq hj
      have hv:j<vs.length:=by have:=(dH hl).2;omega
      have a2:=aR hl (j:=j) (asl hv)
      rw [a1]at a2
      rw [List.getElem?_take,if_pos (by omega),asl hv]
      exact a2.symm
     have hlen:l.length=(vs.take n).length:=by
      have:=(dH hq).2
      have:=(dH hl).2
      simp;omega
     apply List.ext_getElem?
     intro j
     by_cases hj:j<l.length
     ·rw [e0 j _ (asl hj),asl hj]
     ·rw [List.getElem?_eq_none (by omega),List.getElem?_eq_none (by omega)]
    rw [e1]
  refine ⟨⟨b,o,none⟩,vs.take n,rfl,xE,?_⟩
  rw [yy,fx (T.fz _ hf).2 T.n0,show(vs.take n).length=n by have:=(dH hl).2;simp;omega,xE]
  exact wY (hc.take n).qT k.2
 |_=>cases k
theorem Tk {C D:Cx} {W:List Nat} (S:eo C) (T:dU 0 (· ∈W) C D) {o:AO} {fr:PF} {af:Fr} (h:nM C fr af) (k:Th o.o fr C.h W=true):∃x,ff o af C.H=some x∧sameAt D.H x=true:=by
 obtain ⟨g,d,p⟩:=o
 cases p<;>first
  |(cases k;done)
  |skip
 ·obtain ⟨a,l,e1,e2,e3⟩:=Jk S T (h.ev _) k
  exact ⟨(a,l),by simp only [ff,e1,e2];rfl,e3⟩
 ·obtain ⟨a,l,e1,e2,e3⟩:=Jk S T (h.ev _) k
  exact ⟨(a,l),by simp only [ff,e1,e2];rfl,e3⟩
theorem Jl {z:Nat} {vs:List Value} (h:fk vs vs=true):nQ (some (.cells z vs)) (some (.cells z vs))=true:=by simp [nQ,h,nb]
theorem Jm {C X D:Cx} {V W:List Nat} (S:eo C) (SX:eo X) (T:dU 0 (· ∈V) C X) (TD:dU 0 (· ∈W) X D) (nV:X.H.nx≤C.H.nx+1) (k:NN C.h.length X.h W=true):nQ (X.H.get C.H.nx) (D.H.get C.H.nx)=true:=by
 simp only [NN,aso,Bool.not_eq_true',List.contains_eq_mem,decide_eq_false_iff_not]at k
 obtain ⟨k1,k2⟩:=k
 have key:∀(hs:aY X.h C.h.length),X.φ C.h.length=C.H.nx∧D.H.get C.H.nx=X.H.get C.H.nx:=by
  intro hs
  have e:X.φ C.h.length=C.H.nx:=by
   rcases T.loc _ hs with q|⟨q,_⟩
   ·have:=SX.lt hs;omega
   ·exact absurd (aW q) (Nat.lt_irrefl _)
  refine ⟨e,?_⟩
  have:=TD.out _ (SX.lt hs) (Jj SX hs k1)
  rwa [e]at this
 split at k2
 ·rename_i z c cs hh
  obtain ⟨a,b⟩:=key (cn hh (by simp))
  obtain ⟨vs,hg,hv,_⟩:=SX.cells (t:=0) hh (by simp)
  rw [b,←a,hg]
  exact Jl (wY hv (by simpa using k2))
 ·rename_i hh
  obtain ⟨a,b⟩:=key (e7 hh)
  obtain ⟨ys,hg,h1,_⟩:=SX.yZ _ _ hh
  rw [b,←a,hg]
  cases ys with
  |nil=>rfl
  |cons=>simp at h1
 ·cases k2
theorem sv {C:Cx} (S:eo C) {o:AO} {fr:PF} {af:Fr} (h:nM C fr af) {r:Option Nat} (k:y7 o.o fr C.h=some r):∃a,dk o af=some a∧((∃b,r=some b∧aY C.h b∧a=C.φ b)∨(r=none∧C.F a)):=by
 have go:∀x:X,(match gh fr x with| .ref b _ t=>if da C.h b=some t∧0<t then some (some b)else none| .fp _=>some none|_=>none)=some r→
  ∃a,(match x.ev af with| .pointer (some a)=>some a.block|_=>none)=some a∧((∃b,r=some b∧aY C.h b∧a=C.φ b)∨(r=none∧C.F a)):=by
  intro x k
  have hx:=h.ev x
  split at k
  ·rename_i b o t e
   rw [e]at hx
   split at k
   case isFalse=>cases k
   rename_i ht
   cases k
   rw [tW hx ht.1]
   refine ⟨_,rfl,.inl ⟨b,rfl,?_,rfl⟩⟩
   have:=ht.1
   unfold da at this
   split at this
   ·rename_i z cs hh
    cases this
    exact cn hh (List.length_pos_iff.1 ht.2)
   ·cases this
  ·rename_i c e
   rw [e]at hx
   cases k
   revert hx
   generalize x.ev af=y
   intro hx
   cases hx with|fp hf _ _=>exact ⟨_,rfl,.inr ⟨rfl,hf⟩⟩
  ·cases k
 obtain ⟨g,d,p⟩:=o
 cases p<;>first
  |(cases k;done)
  |exact go _ k
  |skip
 ·rename_i sz x lo hi mx
  simp only [y7]at k
  have hx:=h.ev x
  split at k
  case h_2=>cases k
  rename_i ij b o n c e
  rw [e]at hx
  split at k
  case isFalse=>cases k
  rename_i hc
  cases k
  obtain ⟨z,cs,hh,ht⟩:=y5 hc.1
  rcases tX hx hh ht.symm with⟨q,_⟩|⟨_,q⟩
  ·omega
  ·refine ⟨C.φ b,by simp only [dk,q];rfl,.inl ⟨b,rfl,cn hh ?_,rfl⟩⟩
   intro e
   subst e
   have:=Nat.mul_pos (show 0<o+c by omega) hc.2.2
   simp at ht
   omega
 ·rename_i kk z x ky ok
  simp only [y7]at k
  have hx:=h.ev x
  split at k
  case h_2=>cases k
  rename_i b e
  rw [e]at hx
  split at k
  case h_2=>cases k
  rename_i es hh
  cases k
  exact ⟨C.φ b,by simp only [dk,Jc hx hh],.inl ⟨b,rfl,e7 hh,rfl⟩⟩
theorem Jn {C D:Cx} {W:Nat→Prop} (S:eo C) (SD:eo D) (T:dU 0 W C D) {o q:AO} {fr gr:PF} {af ag:Fr} (h:nM C fr af) (g:nM D gr ag) (k:wX (y7 o.o fr C.h) (y7 q.o gr D.h)=true):
 (match dk o af,dk q ag with|some b,some b'=>!Nat.beq b b'|_,_=>true)=true:=by
 unfold wX at k
 split at k
 ·rename_i b c e1 e2
  obtain ⟨x,hx,Us⟩:=sv S h e1
  obtain ⟨y,hy,XM⟩:=sv SD g e2
  rcases Us with⟨b1,e,s1,rfl⟩|⟨e,_⟩<;>cases e
  rcases XM with⟨c1,e,s2,rfl⟩|⟨e,_⟩<;>cases e
  rw [hx,hy]
  simp only [nb,Bool.not_eq_true',decide_eq_false_iff_not]at k⊢
  intro e
  rcases T.loc _ s2 with q|⟨q,e'⟩
  ·have:=S.lt s1;omega
  ·exact k (S.inj _ _ s1 q (e.trans e'))
 ·rename_i c e1 e2
  obtain ⟨x,hx,Us⟩:=sv S h e1
  obtain ⟨y,hy,XM⟩:=sv SD g e2
  rcases Us with⟨b1,e,s1,rfl⟩|⟨e,hf⟩<;>cases e
  rcases XM with⟨c1,e,s2,rfl⟩|⟨e,_⟩<;>cases e
  rw [hx,hy]
  simp only [nb,Bool.not_eq_true',decide_eq_false_iff_not]
  intro e
  exact (SD.old s2).2 (e▸(T.fz _ hf).1)
 ·cases k
theorem Tl {l0:List AO} {W:List Nat} {acc:List (PF×PH×List Nat)} {fj:List (Fr×AH)} {D:Cx} (h:oY l0 acc fj D W) {k p q:Nat}
 (e:pck k p q (nth l0 p) (nth acc.reverse p) (nth acc.reverse (p+1)) (nth l0 q) (nth acc.reverse q) (nth acc.reverse (q+1))=true):kQ l0 fj.reverse (k,p,q)=true:=by
 unfold pck at e
 split at e
 case h_2=>cases e
 rename_i op fp hp Wp fp' hp' Wp' oq fq hq Wq fq' hq' W' e1 e2 e3 e4 e5 e6
 simp only [aso,asx]at e
 obtain ⟨xU,e⟩:=e
 obtain ⟨cs,«as»,h1,h2,h3,_⟩:=h.fam
 obtain ⟨p1,p2,p3,p4⟩:=h1 _ _ e2
 obtain ⟨r1,r2,r3,r4⟩:=h1 _ _ e3
 obtain ⟨q1,q2,q3,q4⟩:=h1 _ _ e5
 obtain ⟨t1,t2,t3,t4⟩:=h1 _ _ e6
 have l1:=Ti e6
 rw [List.length_reverse]at l1
 simp only [kQ,e1,p2,r2,e4,q2,t2]
 by_cases w1:op.wanted («as» p)=true
 case neg=>simp [w1]
 by_cases w2:oq.wanted («as» q)=true
 case neg=>simp [w2]
 have YF:=Ji p4 w1
 have w2':=Ji q4 w2
 simp only at YF w2' p1 q1 r1
 rw [YF,w2']at e
 simp only [Bool.not_true,Bool.false_or]at e
 rw [w1,w2]
 simp only [Bool.not_true,Bool.false_or]
 match k with
 |0=>
  simp only at e⊢
  rw [←p1]at e
  obtain ⟨x,h1,h2⟩:=Tk (o:=op) p3 (h2 p (q+1) _ (by omega) e6) p4 e
  rw [h1]
  exact h2
 |1=>
  simp only [aso,Bool.not_eq_true']at e⊢
  rw [←p1,←r1]at e
  exact Jm p3 r3 (h2 p (p+1) _ (by omega) e3) (h2 (p+1) (q+1) _ (by omega) e6) (h3 p op (by omega) e1 e.1) e.2
 |k+2=>
  simp only at e⊢
  rw [←p1,←q1]at e
  exact Jn p3 q3 (h2 p q _ (by omega) e5) p4 q4 e
theorem oY.chn {l0:List AO} {W:List Nat} {acc:List (PF×PH×List Nat)} {fj:List (Fr×AH)} {D:Cx} (h:oY l0 acc fj D W):chain fj.reverse=true:=by
 have snoc:∀(l:List (Fr×AH)) (a b:Fr×AH),chain (l++[a])=true→a.2.n0=b.2.n0→a.2.nx≤b.2.nx→chain (l++[a]++[b])=true:=by
  intro l
  induction l with
  |nil=>intro a b _ h1 h2;simp [A.chain,h1,h2]
  |cons x l ih=>
   intro a b h h1 h2
   cases l with
   |nil=>simp only [List.cons_append,List.nil_append,A.chain,Bool.and_true,aso]at h⊢;refine ⟨h,?_⟩;simp [h1,h2]
   |cons y l=>
    simp only [List.cons_append,A.chain,aso]at h⊢
    exact ⟨h.1,by simpa using ih a b h.2 h1 h2⟩
 induction h with
 |one=>rfl
 | @cons C D acc fj fr af V W H0 T S R nx ih=>
  cases H0 with
  |one=>simp [A.chain,T.n0,T.nx]
  |cons=>
   simp only [List.reverse_cons]at ih⊢
   exact snoc _ _ _ ih T.n0.symm T.nx
theorem Jo {l0:List AO} {W:List Nat} {acc:List (PF×PH×List Nat)} {fj:List (Fr×AH)} {D:Cx} (h:oY l0 acc fj D W) {ck:List (Nat×Nat×Nat)} (e:Zh l0 ck acc=true):uJ l0 ck fj=true:=by
 unfold uJ
 rw [aso]
 refine ⟨h.chn,?_⟩
 unfold Zh at e
 rw [asB]at e⊢
 rintro ⟨k,p,q⟩ hc
 exact Tl h (e _ hc)
open Go Go.RowKit
theorem qU {H H':AH} {a:Addr} {vs:List Value} (h:H.st a vs=some H'):H'.nx=H.nx:=by
 unfold AH.st at h
 split at h
 ·obtain ⟨_,h⟩:=aD h
  cases h;rfl
 ·cases h
theorem Tm {o:cN} {ρ:X→Value} {H:AH} {b:Option (Value×AH)} {x:Value} {H':AH} (e:aA o ρ H=up b) (hb:b=some (x,H')):H'.nx≤H.nx+1:=by
 subst hb
 simp only [up,Option.map_some]at e
 have app:∀{sz bytes:Nat} {s y z:Value} {H':AH},bI sz bytes H s y=some (z,H')→H'.nx≤H.nx+1:=by
  intro sz bytes s y z H' h
  unfold bI at h
  split at h
  case h_2=>cases h
  split at h
  ·obtain ⟨_,h⟩:=aD h;cases h;omega
  ·split at h
   ·cases h
   ·obtain ⟨_,h⟩:=aD h
    split at h
    ·split at h
     ·obtain ⟨_,h⟩:=aD h
      rename_i a _ _
      obtain ⟨H2,h2,h3⟩:=asv.1 h
      cases h3
      have:=qU h2;omega
     ·cases h
    ·split at h
     ·obtain ⟨_,h⟩:=aD h;cases h;exact asp _
     ·split at h
      ·obtain ⟨_,h⟩:=aD h
       obtain ⟨H2,h2,h3⟩:=asv.1 h
       cases h3
       exact asp _
      ·cases h
 have cpy:∀{sz:Nat} {s y z:Value} {H':AH},kP sz H s y=some (z,H')→H'.nx≤H.nx+1:=by
  intro sz s y z H' h
  unfold kP at h
  split at h
  case h_2=>cases h
  obtain ⟨c,h1,h⟩:=asw.1 h
  split at h
  ·simp only [Bool.cond_eq_ite]at h
   split at h
   ·cases h;exact Nat.le_succ _
   ·obtain ⟨H2,h2,h3⟩:=asv.1 h
    cases h3
    have:=qU h2;omega
  ·cases h;exact Nat.le_succ _
 have xo:∀{k:XK} {vs:List Value} {z:Value} {H':AH},Ga k vs H=some (z,H')→H'.nx≤H.nx+1:=by
  intro k vs z H' h
  unfold Ga at h
  split at h
  ·obtain ⟨_,_,e⟩:=asv.1 h;cases e;exact Nat.le_succ _
  ·split at h
   ·obtain ⟨_,_,e⟩:=asv.1 h;cases e;exact Nat.le_succ _
   ·cases h
  ·cases h;exact asp _
  ·cases h
 cases o<;>simp only [aA]at e
 all_goals first
  |(simp only [asm,ast,jN.v.injEq,reduceCtorEq,false_and]at e;done)
  |skip
 all_goals first
  |(simp only [asm,ast]at e;obtain ⟨_,rfl⟩:=e;first|exact Nat.le_succ _|exact asp _)
  |(obtain ⟨r,h1,h2⟩:=asv.1 e;simp only [ast]at h2;obtain ⟨_,rfl⟩:=h2;first|exact Nat.le_succ _|exact asp _)
  |skip
 all_goals first
  |(obtain ⟨r,h1,h2⟩:=asv.1 e;simp only [ast]at h2;obtain ⟨_,rfl⟩:=h2;exact xo h1)
  |skip
 all_goals try simp only [Bool.cond_eq_ite]at e
 all_goals try(repeat' split at e)
 all_goals first
  |(cases e;done)
  |(simp only [asm,ast]at e;obtain ⟨_,rfl⟩:=e;first|exact Nat.le_succ _|exact asp _)
  |(obtain ⟨r,h1,h2⟩:=asv.1 e;simp only [ast]at h2;obtain ⟨_,rfl⟩:=h2;first|exact Nat.le_succ _|(have:=qU h1;omega)|exact app h1|exact cpy h1|exact xo h1)
  |skip
inductive Kp where
 |seq (c:AC)
 |aX (i:Nat)
 |lp (I:Nat→PF→PH→Prop) (k:Nat)
inductive Mp where
 |pl
 |d0
 |dr (l0:List AO) (ck:List (Nat×Nat×Nat)) (acc:List (PF×PH×List Nat)) (W:List Nat)
def Mp.up:Mp→List Nat→PF→PH→Mp
 | .pl,_,_,_=>.pl
 | .d0,_,_,_=>.d0
 | .dr l0 ck acc W,V,fr,h=>.dr l0 ck ((fr,h,V++W)::acc) (V++W)
inductive Cf where
 |code (c:AC) (ks:List Kp)
 |ops (m:Mp) (l:List AO) (ks:List Kp)
 |done (ex:Ex) (ks:List Kp)
def E9 (E:Env) (O:kj) (f:Nat) (args:List PV) (h:PH) (W:Nat→Prop) (R:PV→PH→Prop):Prop:=
 ∀F H φ vs,eo ⟨F,H,φ,h⟩→dq ⟨F,H,φ,h⟩ args vs→Ca E O f vs H (fun x H'=>∃r h' F' dT,R r h'∧RV ⟨F',H',dT,h'⟩ r x∧eo ⟨F',H',dT,h'⟩∧dU h.length W ⟨F,H,φ,h⟩ ⟨F',H',dT,h'⟩)
abbrev qw:Nat→Prop:=fun _=>True
abbrev fP (E:Env) (O:kj) (f:Nat) (args:List PV) (h:PH) (R:PV→PH→Prop):Prop:=E9 E O f args h qw R
def Gh (n:Nat) (fr:PF) (h:PH) (fK:PF) (h2:PH):Prop:=
 ∀F H φ af,eo ⟨F,H,φ,h⟩→nM ⟨F,H,φ,h⟩ fr af→∃F' dT,eo ⟨F',H,dT,h2⟩∧nM ⟨F',H,dT,h2⟩ fK af∧∀C0:Cx,C0.h.length=n→dU n qw C0 ⟨F,H,φ,h⟩→dU n qw C0 ⟨F',H,dT,h2⟩
theorem Gh.refl (n:Nat) (fr:PF) (h:PH):Gh n fr h fr h:=fun F H φ af S R=>⟨F,φ,S,R,fun _ _ k=>k⟩
variable(E:Env) (O:kj) (n:Nat) (Q:Ex→PF→PH→Prop)
inductive PK:Cf→PF→PH→Prop where
 |skip {ks:List Kp} {fr:PF} {h:PH}:PK (.done .normal ks) fr h→PK (.code .skip ks) fr h
 |ret {ks:List Kp} {fr:PF} {h:PH}:PK (.done .ret ks) fr h→PK (.code .ret ks) fr h
 |exit {i:Nat} {ks:List Kp} {fr:PF} {h:PH}:PK (.done (.exit i) ks) fr h→PK (.code (.exit i) ks) fr h
 |bR {l:List AO} {ks:List Kp} {fr:PF} {h:PH}:PK (.ops .pl l ks) fr h→PK (.code (.bR l) ks) fr h
 |bA {l:List AO} {c:Nat×Nat×Nat} {ck:List (Nat×Nat×Nat)} {ks:List Kp} {fr:PF} {h:PH}:PK (.ops (.dr l (c::ck) [(fr,h,[])] []) l ks) fr h→PK (.code (.bA l (c::ck)) ks) fr h
 |C9 {l:List AO} {ks:List Kp} {fr:PF} {h:PH}:PK (.ops .d0 l ks) fr h→PK (.code (.bA l []) ks) fr h
 |seq {a b:AC} {ks:List Kp} {fr:PF} {h:PH}:PK (.code a (.seq b::ks)) fr h→PK (.code (.seq a b) ks) fr h
 |block {i:Nat} {a:AC} {ks:List Kp} {fr:PF} {h:PH}:PK (.code a (.aX i::ks)) fr h→PK (.code (.block i a) ks) fr h
 |cond {x:X} {a b:AC} {t:Bool} {ks:List Kp} {fr:PF} {h:PH}:gh fr x= .v (.bool t)→PK (.code (bif t then a else b) ks) fr h→PK (.code (.cond x a b) ks) fr h
 |loop {a:AC} {ks:List Kp} {fr fK:PF} {h h2:PH} (I:Nat→PF→PH→Prop) (k:Nat):(∀k fr h,I k fr h→PK (.code a (.lp I k::ks)) fr h)→Gh n fr h fK h2→I k fK h2→PK (.code (.loop a) ks) fr h
 |NO {ks:List Kp} {fr:PF} {h:PH}:PK (.done .normal ks) fr h→PK (.ops .pl [] ks) fr h
 |Da {ks:List Kp} {fr:PF} {h:PH}:PK (.done .normal ks) fr h→PK (.ops .d0 [] ks) fr h
 |y8 {l0:List AO} {ck:List (Nat×Nat×Nat)} {acc:List (PF×PH×List Nat)} {W:List Nat} {ks:List Kp} {fr:PF} {h:PH}:Zh l0 ck acc=true→PK (.done .normal ks) fr h→PK (.ops (.dr l0 ck acc W) [] ks) fr h
 |op {m:Mp} {d:Option Nat} {p:cN} {l:List AO} {ks:List Kp} {fr:PF} {h h':PH} {v:PV}:pop p (gh fr) h=some (v,h')→PK (.ops (m.up (y4 p (gh fr)) (fr.aU d v) h') l ks) (fr.aU d v) h'→PK (.ops m (⟨none,d,p⟩::l) ks) fr h
 |Zi {m:Mp} {t:Nat} {b:Bool} {x:Value} {d:Option Nat} {p:cN} {l:List AO} {ks:List Kp} {fr:PF} {h:PH}:fr.get t= .v x→eY b x=true→PK (.ops m (⟨none,d,p⟩::l) ks) fr h→PK (.ops m (⟨some (t,b),d,p⟩::l) ks) fr h
 |Jp {m:Mp} {t:Nat} {b:Bool} {x:Value} {d:Option Nat} {p:cN} {l:List AO} {ks:List Kp} {fr:PF} {h:PH}:fr.get t= .v x→eY b x=false→PK (.ops (m.up [] (fr.aU d (.v undef)) h) l ks) (fr.aU d (.v undef)) h→PK (.ops m (⟨some (t,b),d,p⟩::l) ks) fr h
 |call {m:Mp} {f:Nat} {«as»:List X} {d:Option Nat} {l:List AO} {ks:List Kp} {fr:PF} {h:PH} {W:List Nat} {R:PV→PH→Prop}:E9 E O f («as».map (gh fr)) h (· ∈W) R→(∀r h',R r h'→PK (.ops (m.up W (fr.aU d r) h') l ks) (fr.aU d r) h')→PK (.ops m (⟨none,d,.call f «as»⟩::l) ks) fr h
 |callv {m:Mp} {f:Nat} {x:X} {first cap:List PV} {«as»:List X} {d:Option Nat} {l:List AO} {ks:List Kp} {fr:PF} {h:PH} {W:List Nat} {R:PV→PH→Prop}:gh fr x= .fn f first cap→E9 E O f (first++«as».map (gh fr)++cap) h (· ∈W) R→(∀r h',R r h'→PK (.ops (m.up W (fr.aU d r) h') l ks) (fr.aU d r) h')→PK (.ops m (⟨none,d,.callv x «as»⟩::l) ks) fr h
 |NP {ex:Ex} {fr:PF} {h:PH}:Q ex fr h→PK (.done ex []) fr h
 |dns {b:AC} {ks:List Kp} {fr:PF} {h:PH}:PK (.code b ks) fr h→PK (.done .normal (.seq b::ks)) fr h
 |dnb {i:Nat} {ks:List Kp} {fr:PF} {h:PH}:PK (.done .normal ks) fr h→PK (.done .normal (.aX i::ks)) fr h
 |Zj {I:Nat→PF→PH→Prop} {k j:Nat} {ks:List Kp} {fr fK:PF} {h h2:PH}:j<k→Gh n fr h fK h2→I j fK h2→PK (.done .normal (.lp I k::ks)) fr h
 |des {i:Nat} {b:AC} {ks:List Kp} {fr:PF} {h:PH}:PK (.done (.exit i) ks) fr h→PK (.done (.exit i) (.seq b::ks)) fr h
 |Jq {i:Nat} {ks:List Kp} {fr:PF} {h:PH}:PK (.done .normal ks) fr h→PK (.done (.exit i) (.aX i::ks)) fr h
 |NQ {i j:Nat} {ks:List Kp} {fr:PF} {h:PH}:j≠i→PK (.done (.exit j) ks) fr h→PK (.done (.exit j) (.aX i::ks)) fr h
 |del {I:Nat→PF→PH→Prop} {k i:Nat} {ks:List Kp} {fr:PF} {h:PH}:PK (.done (.exit i) ks) fr h→PK (.done (.exit i) (.lp I k::ks)) fr h
 |NS {k:Kp} {ks:List Kp} {fr:PF} {h:PH}:PK (.done .ret ks) fr h→PK (.done .ret (k::ks)) fr h
variable{E O n Q}
def Live (C0:Cx) (C:Cx):Prop:=eo C∧dU C0.h.length qw C0 C
theorem Live.step {C0 C D:Cx} (h:Live C0 C) {W:Nat→Prop} (S:eo D) (T:dU C.h.length W C D):Live C0 D:=
 ⟨S,h.2.trans (T.mono (h.2.len (asp _)) (fun _ _=>trivial) fun _=>Nat.le_trans (h.2.len (asp _)) (T.len (asp _))) (asp _) (fun _ h=>h) fun _ h=>h⟩
def UP (E:Env) (O:kj) (C0:Cx) (Q:Ex→PF→PH→Prop):Ex→List Kp→Fr→AH→Prop
 |ex,[],af,H=>∃fr F φ h,Q ex fr h∧Live C0 ⟨F,H,φ,h⟩∧nM ⟨F,H,φ,h⟩ fr af
 | .normal,.seq b::ks,af,H=>Wp E O b af H (fun ex sw H'=>UP E O C0 Q ex ks sw H')
 | .normal,.aX _::ks,af,H=>UP E O C0 Q .normal ks af H
 | .normal,.lp I k::ks,af,H=>∃j,j<k∧∃fr F φ h,I j fr h∧Live C0 ⟨F,H,φ,h⟩∧nM ⟨F,H,φ,h⟩ fr af
 | .exit j,.seq _::ks,af,H=>UP E O C0 Q (.exit j) ks af H
 | .exit j,.aX i::ks,af,H=>if j=i then UP E O C0 Q .normal ks af H else UP E O C0 Q (.exit j) ks af H
 | .exit j,.lp _ _::ks,af,H=>UP E O C0 Q (.exit j) ks af H
 | .ret,_::ks,af,H=>UP E O C0 Q .ret ks af H
def Vv (l1 l:List AO):Prop:=l1=l∨∃g d p t,l=⟨none,d,p⟩::t∧l1=⟨g,d,p⟩::t
theorem Vv.head {l1 t:List AO} {g:Option (Nat×Bool)} {d:Option Nat} {p:cN} (h:Vv l1 (⟨g,d,p⟩::t)):∃g',l1=⟨g',d,p⟩::t:=by
 rcases h with rfl|⟨g',d',p',t',e,rfl⟩
 ·exact ⟨_,rfl⟩
 ·cases e;exact ⟨_,rfl⟩
def PY (E:Env) (O:kj) (C0:Cx) (Q:Ex→PF→PH→Prop) (cf:Cf) (fr:PF) (h:PH):Prop:=∀F H φ af,Live C0 ⟨F,H,φ,h⟩→nM ⟨F,H,φ,h⟩ fr af→match cf with
 | .code c ks=>Wp E O c af H (fun ex sw H'=>UP E O C0 Q ex ks sw H')
 | .ops .pl l ks=>Wo E O l af H (fun sw H'=>UP E O C0 Q .normal ks sw H')
 | .ops .d0 l ks=>∀l0 acc fj W,oY l0 acc fj ⟨F,H,φ,h⟩ W→Vv (l0.drop (acc.length- 1)) l→Wt E O l af H (fun ss=>uJ l0 [] (ss.reverse++fj)=true∧UP E O C0 Q .normal ks (gJ (af,H) ss).1 (gJ (af,H) ss).2)
 | .ops (.dr l0 ck acc W) l ks=>∀fj,oY l0 acc fj ⟨F,H,φ,h⟩ W→Vv (l0.drop (acc.length- 1)) l→Wt E O l af H (fun ss=>uJ l0 ck (ss.reverse++fj)=true∧UP E O C0 Q .normal ks (gJ (af,H) ss).1 (gJ (af,H) ss).2)
 | .done ex ks=>UP E O C0 Q ex ks af H
theorem PY.step {C0:Cx} {m:Mp} {g:Option (Nat×Bool)} {d:Option Nat} {p:cN} {l:List AO} {ks:List Kp} {fr:PF} {h:PH} (one:∀F H φ af,Live C0 ⟨F,H,φ,h⟩→nM ⟨F,H,φ,h⟩ fr af→rV E O ⟨g,d,p⟩ af H (fun sw H'=>∃cq F' dT h' V,Live C0 ⟨F',H',dT,h'⟩∧nM ⟨F',H',dT,h'⟩ cq sw∧dU 0 (· ∈V) ⟨F,H,φ,h⟩ ⟨F',H',dT,h'⟩∧(p.bh=false→H'.nx≤H.nx+1)∧PY E O C0 Q (.ops (m.up V cq h') l ks) cq h')):
 PY E O C0 Q (.ops m (⟨g,d,p⟩::l) ks) fr h:=by
 intro F H φ af L R
 have mono:∀{Q1 Q2:Fr→AH→Prop},(∀a b,Q1 a b→Q2 a b)→rV E O ⟨g,d,p⟩ af H Q1→rV E O ⟨g,d,p⟩ af H Q2:=fun k ⟨a,b,c,e,q⟩=>⟨a,b,c,e,k _ _ q⟩
 cases m with
 |pl=>
  refine Wo.cons (mono ?_ (one F H φ af L R))
  rintro sw H' ⟨cq,F',dT,h',V,L',R',_,_,k⟩
  exact k F' H' dT sw L' R'
 |d0=>
  intro l0 acc fj W HH hd
  rw [jR]
  refine mono ?_ (one F H φ af L R)
  rintro sw H' ⟨cq,F',dT,h',V,L',R',T,nV,k⟩
  have hl:=HH.length.2
  have HH':oY l0 ((cq,h',V++W)::acc) ((sw,H')::fj) ⟨F',H',dT,h'⟩ (V++W):=
   .cons HH T L'.1 R' (fun o ho hc=>by
    obtain ⟨g',hd⟩:=hd.head
    have:l0[acc.length- 1]?=some ⟨g',d,p⟩:=by
     have:=congrArg List.head? hd
     simpa [List.head?_drop]using this
    rw [vj,this]at ho
    cases ho
    exact nV hc)
  have V5:Vv (l0.drop (((cq,h',V++W)::acc).length- 1)) l:=by
   obtain ⟨g',hd⟩:=hd.head
   left
   simp only [List.length_cons,Nat.add_sub_cancel]
   rw [show acc.length=acc.length- 1+1 by omega,←List.drop_drop,hd]
   rfl
  have:=k F' H' dT sw L' R' l0 _ ((sw,H')::fj) _ HH' V5
  refine (fun⟨a,b,e,q⟩=>⟨a,b,e,?_⟩:Wt E O l sw H' _→Wt E O l sw H' _) this
  simpa [gJ]using q
 |dr l0 ck acc W=>
  intro fj HH hd
  rw [jR]
  refine mono ?_ (one F H φ af L R)
  rintro sw H' ⟨cq,F',dT,h',V,L',R',T,nV,k⟩
  have hl:=HH.length.2
  have HH':oY l0 ((cq,h',V++W)::acc) ((sw,H')::fj) ⟨F',H',dT,h'⟩ (V++W):=
   .cons HH T L'.1 R' (fun o ho hc=>by
    obtain ⟨g',hd⟩:=hd.head
    have:l0[acc.length- 1]?=some ⟨g',d,p⟩:=by
     have:=congrArg List.head? hd
     simpa [List.head?_drop]using this
    rw [vj,this]at ho
    cases ho
    exact nV hc)
  have V5:Vv (l0.drop (((cq,h',V++W)::acc).length- 1)) l:=by
   obtain ⟨g',hd⟩:=hd.head
   left
   simp only [List.length_cons,Nat.add_sub_cancel]
   rw [show acc.length=acc.length- 1+1 by omega,←List.drop_drop,hd]
   rfl
  have:=k F' H' dT sw L' R' ((sw,H')::fj) HH' V5
  refine (fun⟨a,b,e,q⟩=>⟨a,b,e,?_⟩:Wt E O l sw H' _→Wt E O l sw H' _) this
  simpa [gJ]using q
theorem PK.sound {C0:Cx} (hn:n=C0.h.length):∀{cf:Cf} {fr:PF} {h:PH},PK E O n Q cf fr h→PY E O C0 Q cf fr h:=by
 intro cf fr h k
 induction k with
 |skip _ ih=>exact fun F H φ af L R=>Wp.skip (ih F H φ af L R)
 |ret _ ih=>exact fun F H φ af L R=>Wp.ret (ih F H φ af L R)
 |exit _ ih=>exact fun F H φ af L R=>Wp.exit (ih F H φ af L R)
 |bR _ ih=>exact fun F H φ af L R=>Wp.bR (ih F H φ af L R)
 | @bA l c ck ks fr h _ ih=>
  intro F H φ af L R
  have:=ih F H φ af L R [(af,H)] (.one L.1 R) (.inl rfl)
  refine Wp.bA ?_
  obtain ⟨a,ss,e,h1,h2⟩:=this
  unfold uJ at h1
  simp only [List.reverse_append,List.reverse_cons,List.reverse_nil,List.nil_append,List.reverse_reverse,List.cons_append,aso]at h1
  exact ⟨a,ss,e,h1,h2⟩
 | @C9 l ks fr h _ ih=>
  intro F H φ af L R
  have:=ih F H φ af L R l _ [(af,H)] _ (.one L.1 R) (.inl rfl)
  refine Wp.bA ?_
  obtain ⟨a,ss,e,h1,h2⟩:=this
  unfold uJ at h1
  simp only [List.reverse_append,List.reverse_cons,List.reverse_nil,List.nil_append,List.reverse_reverse,List.cons_append,aso]at h1
  exact ⟨a,ss,e,h1,h2⟩
 | @seq a b ks fr h _ ih=>
  intro F H φ af L R
  refine Wp.seq ((ih F H φ af L R).mono ?_)
  intro ex cq H' q
  cases ex<;>exact q
 | @block i a ks fr h _ ih=>
  intro F H φ af L R
  refine Wp.block ((ih F H φ af L R).mono ?_)
  intro ex cq H' q
  cases ex<;>exact q
 | @cond x a b t ks fr h e _ ih=>
  intro F H φ af L R
  have hx:=R.ev x
  rw [e]at hx
  exact Wp.cond hx.qT (by
   have:=ih F H φ af L R
   cases t<;>exact this)
 | @loop a ks fr fK h h2 I k _ g hI ih=>
  intro F H φ af L R
  obtain ⟨F',dT,S',R',T'⟩:=g F H φ af L.1 R
  refine Wp.loop (fun k af H=>∃fr F φ h,I k fr h∧Live C0 ⟨F,H,φ,h⟩∧nM ⟨F,H,φ,h⟩ fr af) ?_ k ⟨fK,F',dT,h2,hI,⟨S',hn▸T' C0 hn.symm (hn▸L.2)⟩,R'⟩
  rintro k af H ⟨fr,F,φ,h,hI,L,R⟩
  refine (ih k fr h hI F H φ af L R).mono ?_
  intro ex sw H' q
  cases ex<;>exact q
 |NO _ ih=>exact fun F H φ af L R=>Wo.nil (ih F H φ af L R)
 |Da _ ih=>exact fun F H φ af L R l0 acc fj W HH hd=>Wt.nil ⟨by have:=Jo HH (ck:=[]) rfl;simpa using this,ih F H φ af L R⟩
 | @y8 l0 ck acc W ks fr h ok _ ih=>
  intro F H φ af L R fj HH hd
  exact Wt.nil ⟨by simpa using Jo HH ok,ih F H φ af L R⟩
 | @op m d p l ks fr h h' v e _ ih=>
  refine PY.step fun F H φ af L R=>?_
  obtain ⟨b,hb,x,H',dT,rfl,hx,S,T⟩:=Tf L.1 (R.ev) e
  refine rV.val rfl hb ?_
  exact ⟨_,F,dT,h',_,L.step S T,(R.step T).aU hx d,T.mono (Nat.zero_le _) (fun _ h=>h) (fun _=>Nat.zero_le _),fun _=>Tm hb rfl,ih⟩
 | @Zi m t b x d p l ks fr h e hw _ ih=>
  have eqv:∀{af:Fr} {H:AH} {Q:Fr→AH→Prop},AO.wanted ⟨some (t,b),d,p⟩ af=true→rV E O ⟨none,d,p⟩ af H Q→rV E O ⟨some (t,b),d,p⟩ af H Q:=by
   intro af H Q h1 h2
   rw [gM _ _ _ _ h1]
   rwa [gM _ _ _ _ rfl]at h2
  intro F H φ af L R
  have hx:=R t
  rw [e]at hx
  have hwa:AO.wanted ⟨some (t,b),d,p⟩ af=true:=by rw [nj,hx.qT];exact hw
  have:=ih F H φ af L R
  cases m with
  |pl=>
   refine Wo.cons (eqv hwa ?_)
   exact (iW _ _ _ _ _).1 this
  |d0=>
   intro l0 acc fj W HH hd
   rw [jR]
   obtain ⟨g',hd⟩:=hd.head
   exact eqv hwa ((jR _ _ _ _ _).1 (this l0 acc fj W HH (.inr ⟨g',d,p,l,rfl,hd⟩)))
  |dr l0 ck acc W=>
   intro fj HH hd
   rw [jR]
   obtain ⟨g',hd⟩:=hd.head
   exact eqv hwa ((jR _ _ _ _ _).1 (this fj HH (.inr ⟨g',d,p,l,rfl,hd⟩)))
 | @Jp m t b x d p l ks fr h e hw _ ih=>
  refine PY.step fun F H φ af L R=>?_
  have hx:=R t
  rw [e]at hx
  refine rV.off (by rw [nj,hx.qT];exact hw) ?_
  exact ⟨_,F,φ,h,[],L,R.aU (.v _) d,dU.refl _ _ _,fun _=>Nat.le_succ _,ih⟩
 | @call m f «as» d l ks fr h W R hc _ ih=>
  refine PY.step fun F H φ af L R'=>?_
  refine rV.call rfl rfl ?_
  refine (hc F H φ _ L.1 (dq.of R'.ev «as»)).mono ?_
  rintro x H' ⟨r,h',F2,mY,hR,hx,S2,T2⟩
  exact ⟨_,F2,mY,h',W,L.step S2 T2,(R'.step T2).aU hx d,T2.mono (Nat.zero_le _) (fun _ h=>h) (fun _=>Nat.zero_le _),(fun q=>by cases q),ih r h' hR⟩
 | @callv m f x first cap «as» d l ks fr h W R hf hc _ ih=>
  refine PY.step fun F H φ af L R'=>?_
  have hx:=R'.ev x
  rw [hf]at hx
  revert hx
  generalize hy:X.ev af x=y
  intro hx
  cases hx with| @fn _ _ _ xs ys ha hb=>
  refine rV.call rfl (f:=f) («as»:=xs++«as».map (X.ev af)++ys) (H1:=H) (by simp only [aA,hy]) ?_
  refine (hc F H φ _ L.1 ((ha.append (dq.of R'.ev «as»)).append hb)).mono ?_
  rintro x H' ⟨r,h',F2,mY,hR,hx,S2,T2⟩
  exact ⟨_,F2,mY,h',W,L.step S2 T2,(R'.step T2).aU hx d,T2.mono (Nat.zero_le _) (fun _ h=>h) (fun _=>Nat.zero_le _),(fun q=>by cases q),ih r h' hR⟩
 | @NP ex fr h q=>
  intro F H φ af L R
  simp only [UP]
  exact ⟨fr,F,φ,h,q,L,R⟩
 |dns _ ih=>exact fun F H φ af L R=>ih F H φ af L R
 |dnb _ ih=>exact fun F H φ af L R=>ih F H φ af L R
 | @Zj I k j ks fr fK h h2 hj g hI=>
  intro F H φ af L R
  obtain ⟨F',dT,S',R',T'⟩:=g F H φ af L.1 R
  exact ⟨j,hj,fK,F',dT,h2,hI,⟨S',hn▸T' C0 hn.symm (hn▸L.2)⟩,R'⟩
 |des _ ih=>exact fun F H φ af L R=>ih F H φ af L R
 | @Jq i ks fr h _ ih=>
  intro F H φ af L R
  show(if i=i then _ else _)
  rw [if_pos rfl]
  exact ih F H φ af L R
 | @NQ i j ks fr h hj _ ih=>
  intro F H φ af L R
  show(if j=i then _ else _)
  rw [if_neg hj]
  exact ih F H φ af L R
 |del _ ih=>exact fun F H φ af L R=>ih F H φ af L R
 | @NS k ks fr h _ ih=>
  intro F H φ af L R
  cases k<;>exact ih F H φ af L R
end Go.Proofs.YtppcmpmnglaleaaGreatDoor.A.P
namespace Go.Proofs.YtppcmpmnglaleaaGreatDoor.A.P
open Go Go.RowKit
section
variable{E:Env} {O:kj} {n:Nat} {Q:Ex→PF→PH→Prop} {ks:List Kp} {fr:PF} {h:PH}
theorem E9.mono {f:Nat} {args:List PV} {W:Nat→Prop} {R R':PV→PH→Prop} (k:E9 E O f args h W R) (hr:∀r h',R r h'→R' r h'):E9 E O f args h W R':=fun F H φ vs S Rv=>
 (k F H φ vs S Rv).mono fun x H' ⟨r,h',F',dT,a,b⟩=>⟨r,h',F',dT,hr _ _ a,b⟩
def wZ.get (fr:PF) (h:PH):RS→Option PV
 | .tmp t=>some (fr.get t)
 | .cell t _=>PT h (fr.get t)
 | .cells t n=>wU n h (fr.get t)
def wZ.all (fr:PF) (h:PH):List RS→Option (List PV)
 |[]=>some []
 |r::l=>match wZ.get fr h r,wZ.all fr h l with|some v,some vs=>some (v::vs)|_,_=>none
def mO:List PV→PV
 |[v]=>v
 |vs=>.gA vs
def Db (n:Nat) (r:PV) (h:PH) (r2:PV) (h2:PH):Prop:=
 ∀F H φ x,eo ⟨F,H,φ,h⟩→RV ⟨F,H,φ,h⟩ r x→∃F' dT,eo ⟨F',H,dT,h2⟩∧RV ⟨F',H,dT,h2⟩ r2 x∧∀C0:Cx,C0.h.length=n→dU n qw C0 ⟨F,H,φ,h⟩→dU n qw C0 ⟨F',H,dT,h2⟩
def Tn (n:Nat) (res:List RS) (R:PV→PH→Prop):Ex→PF→PH→Prop
 | .exit _,_,_=>False
 |_,fr,h=>∃vs,wZ.all fr h res=some vs∧∃r2 h2,Db n (mO vs) h r2 h2∧R r2 h2
theorem PZ {C:Cx} (S:eo C) {fr:PF} {af:Fr} (R:nM C fr af):∀{res:List RS} {ps:List PV},wZ.all fr C.h res=some ps→∃xs,RS.all af C.H res=some xs∧dq C ps xs
 |[],ps,e=>by cases e;exact ⟨[],rfl,.nil⟩
 |r::l,ps,e=>by
  simp only [wZ.all]at e
  split at e
  case h_2=>cases e
  rename_i p qs h1 h2
  cases e
  obtain ⟨xs,k1,k2⟩:=PZ S R h2
  obtain ⟨x,k3,k4⟩:∃x,RS.get af C.H r=some x∧RV C p x:=by
   cases r with
   |tmp t=>cases h1;exact ⟨_,rfl,R t⟩
   |cell t _=>
    obtain ⟨y,hy,ry⟩:=PW S (R t) h1
    refine ⟨y,?_,ry⟩
    simp only [RS.get]
    cases hq:af.get t with
    |pointer a=>rw [hq]at hy;cases a<;>exact hy
    |_=>rw [hq]at hy;cases hy
   |cells t m=>
    obtain ⟨y,hy,ry⟩:=Bc S (R t) h1
    refine ⟨y,?_,ry⟩
    simp only [RS.get]
    cases hq:af.get t with
    |pointer a=>rw [hq]at hy;cases a<;>exact hy
    |_=>rw [hq]at hy;cases hy
  exact ⟨x::xs,by simp only [RS.all,k1,k3],.cons k4 k2⟩
theorem To {C:Cx} {ps:List PV} {xs:List Value} (h:dq C ps xs):RV C (mO ps) (rk xs):=by
 cases h with
 |nil=>exact .gA (xs:=[]) .nil
 |cons a b=>
  cases b with
  |nil=>exact a
  |cons b c=>exact .gA (xs:=_::_::_) (.cons a (.cons b c))
theorem fP.body {f:Nat} {F:AF} {args:List PV} {R:PV→PH→Prop} (ho:O f=none) (he:E f=some F) (hl:args.length=F.np) (k:PK E O h.length (Tn h.length F.res R) (.code F.body []) (PF.of args) h):fP E O f args h R:=by
 intro Fz H φ vs S Rv
 refine Ca.body ho he (by rw [←Rv.length,hl]) ?_
 have L:Live ⟨Fz,H,φ,h⟩ ⟨Fz,H,φ,h⟩:=⟨S,dU.refl _ _ _⟩
 refine (k.sound (C0:=⟨Fz,H,φ,h⟩) rfl Fz H φ (Fr.of vs) L (nM.of Rv)).mono ?_
 intro ex sw H' q
 simp only [UP]at q
 obtain ⟨fr,F1,mg,h1,q,L1,R1⟩:=q
 have key:∀vs,wZ.all fr h1 F.res=some vs→∀r2 h2,Db h.length (mO vs) h1 r2 h2→R r2 h2→∃ys,RS.all sw H' F.res=some ys∧∃r h' F' dT,R r h'∧RV ⟨F',H',dT,h'⟩ r (rk ys)∧eo ⟨F',H',dT,h'⟩∧dU h.length qw ⟨Fz,H,φ,h⟩ ⟨F',H',dT,h'⟩:=by
  intro vs e r2 h2 g hR
  obtain ⟨ys,k1,k2⟩:=PZ L1.1 R1 e
  obtain ⟨F2,mY,S2,R2,T2⟩:=g _ _ _ _ L1.1 (To k2)
  exact ⟨ys,k1,r2,h2,F2,mY,hR,R2,S2,T2 _ rfl L1.2⟩
 cases ex with
 |exit i=>exact q.elim
 |normal=>obtain ⟨vs,e,r2,h2,g,hR⟩:=q;exact key vs e r2 h2 g hR
 |ret=>obtain ⟨vs,e,r2,h2,g,hR⟩:=q;exact key vs e r2 h2 g hR
@[simp]theorem Zk (f:PF) (a b:Nat) (p:PV):(f.put a p).get b=if b=a then p else f.get b:=rfl
@[simp]theorem ack (l:List PV) (a:Nat):(PF.of l).get a=l.getD a .any:=rfl
@[simp]theorem ah6 (f:PF) (a:Nat) (p:PV):f.aU (some a) p=f.put a p:=rfl
@[simp]theorem ah7 (f:PF) (p:PV):f.aU none p=f:=rfl
@[simp]theorem alw (f:PF) (a:Nat):gh f (.t a)=f.get a:=rfl
@[simp]theorem alx (f:PF) (v:Value):gh f (.k v)=xI v:=rfl
@[simp]theorem aly (f:PF) (a:Nat):gh f (.f a)= .fn a [] []:=rfl
@[simp]theorem acm (k:IntKind) (a:Int):xI (.int k a)= .v (.int k a):=rfl
@[simp]theorem Zl (a:Bool):xI (.bool a)= .v (.bool a):=rfl
@[simp]theorem acn (a:ByteArray):xI (.string a)= .v (.string a):=rfl
@[simp]theorem ah8 (a:Option Addr) (b c:Nat):xI (.slice a b c)= .v (.slice a b c):=rfl
@[simp]theorem aco (a:Option Addr):xI (.pointer a)= .v (.pointer a):=rfl
@[simp]theorem acp (a:Option Nat):xI (.map a)= .v (.map a):=rfl
@[simp]theorem ah9:xI .nilFunc= .v .nilFunc:=rfl
@[simp]theorem aia:xI .nilIface= .v .nilIface:=rfl
@[simp]theorem acq (a:Array Value):xI (.agg a)= .agg (a.toList.map .v):=rfl
@[simp]theorem aib (V:List Nat) (fr:PF) (h:PH):Mp.up .pl V fr h= .pl:=rfl
@[simp]theorem aic (V:List Nat) (fr:PF) (h:PH):Mp.up .d0 V fr h= .d0:=rfl
@[simp]theorem aid (l0:List AO) (ck:List (Nat×Nat×Nat)) (acc:List (PF×PH×List Nat)) (W V:List Nat) (fr:PF) (h:PH):Mp.up (.dr l0 ck acc W) V fr h= .dr l0 ck ((fr,h,V++W)::acc) (V++W):=rfl
@[simp]theorem acr:PK E O n Q (.code .skip ks) fr h↔PK E O n Q (.done .normal ks) fr h:=⟨fun k=>by cases k;assumption,.skip⟩
@[simp]theorem aie:PK E O n Q (.code .ret ks) fr h↔PK E O n Q (.done .ret ks) fr h:=⟨fun k=>by cases k;assumption,.ret⟩
@[simp]theorem acs (i:Nat):PK E O n Q (.code (.exit i) ks) fr h↔PK E O n Q (.done (.exit i) ks) fr h:=⟨fun k=>by cases k;assumption,.exit⟩
@[simp]theorem aif (l:List AO):PK E O n Q (.code (.bR l) ks) fr h↔PK E O n Q (.ops .pl l ks) fr h:=⟨fun k=>by cases k;assumption,.bR⟩
@[simp]theorem acu (l:List AO) (c:Nat×Nat×Nat) (ck:List (Nat×Nat×Nat)):PK E O n Q (.code (.bA l (c::ck)) ks) fr h↔PK E O n Q (.ops (.dr l (c::ck) [(fr,h,[])] []) l ks) fr h:=⟨fun k=>by cases k;assumption,.bA⟩
@[simp]theorem Zm (l:List AO):PK E O n Q (.code (.bA l []) ks) fr h↔PK E O n Q (.ops .d0 l ks) fr h:=⟨fun k=>by cases k;assumption,.C9⟩
@[simp]theorem aih (a b:AC):PK E O n Q (.code (.seq a b) ks) fr h↔PK E O n Q (.code a (.seq b::ks)) fr h:=⟨fun k=>by cases k;assumption,.seq⟩
@[simp]theorem Zn (i:Nat) (a:AC):PK E O n Q (.code (.block i a) ks) fr h↔PK E O n Q (.code a (.aX i::ks)) fr h:=⟨fun k=>by cases k;assumption,.block⟩
def PC (E:Env) (O:kj) (n:Nat) (Q:Ex→PF→PH→Prop) (p:PV) (a b:AC) (ks:List Kp) (fr:PF) (h:PH):Prop:=∃t,p= .v (.bool t)∧PK E O n Q (.code (bif t then a else b) ks) fr h
@[simp]theorem acv (x:X) (a b:AC):PK E O n Q (.code (.cond x a b) ks) fr h↔PC E O n Q (gh fr x) a b ks fr h:=⟨fun k=>by cases k with|cond e q=>exact ⟨_,e,q⟩,fun⟨t,e,q⟩=>.cond e q⟩
@[simp]theorem aqs (t:Bool) (a b:AC):PC E O n Q (.v (.bool t)) a b ks fr h↔br (t=true) (PK E O n Q (.code a ks) fr h) (PK E O n Q (.code b ks) fr h):=by
 unfold PC
 cases t
 ·simp only [reduceCtorEq,RG]
  exact ⟨fun⟨t,e,q⟩=>by cases e;exact q,fun q=>⟨_,rfl,q⟩⟩
 ·simp only [RE]
  exact ⟨fun⟨t,e,q⟩=>by cases e;exact q,fun q=>⟨_,rfl,q⟩⟩
@[simp]theorem aii (ex:Ex):PK E O n Q (.done ex []) fr h↔Q ex fr h:=⟨fun k=>by cases k;assumption,.NP⟩
@[simp]theorem alz (b:AC):PK E O n Q (.done .normal (.seq b::ks)) fr h↔PK E O n Q (.code b ks) fr h:=⟨fun k=>by cases k;assumption,.dns⟩
@[simp]theorem alA (i:Nat):PK E O n Q (.done .normal (.aX i::ks)) fr h↔PK E O n Q (.done .normal ks) fr h:=⟨fun k=>by cases k;assumption,.dnb⟩
@[simp]theorem alB (i:Nat) (b:AC):PK E O n Q (.done (.exit i) (.seq b::ks)) fr h↔PK E O n Q (.done (.exit i) ks) fr h:=⟨fun k=>by cases k;assumption,.des⟩
@[simp]theorem aij (i:Nat):PK E O n Q (.done (.exit i) (.aX i::ks)) fr h↔PK E O n Q (.done .normal ks) fr h:=⟨fun k=>by cases k with|Jq q=>exact q|NQ q=>exact absurd rfl q,.Jq⟩
@[simp]theorem alC (i k:Nat) (I:Nat→PF→PH→Prop):PK E O n Q (.done (.exit i) (.lp I k::ks)) fr h↔PK E O n Q (.done (.exit i) ks) fr h:=⟨fun k=>by cases k;assumption,.del⟩
@[simp]theorem aqt (k:Kp):PK E O n Q (.done .ret (k::ks)) fr h↔PK E O n Q (.done .ret ks) fr h:=⟨fun k=>by cases k;assumption,.NS⟩
def Tp (n:Nat) (I:Nat→PF→PH→Prop) (k:Nat) (fr:PF) (h:PH):Prop:=∃j,j<k∧∃fK h2,Gh n fr h fK h2∧I j fK h2
@[simp]theorem alD (I:Nat→PF→PH→Prop) (k:Nat):PK E O n Q (.done .normal (.lp I k::ks)) fr h↔Tp n I k fr h:=
 ⟨fun q=>by cases q with|Zj a b c=>exact ⟨_,a,_,_,b,c⟩,fun⟨_,a,_,_,b,c⟩=>.Zj a b c⟩
theorem Tp.Zo {I:Nat→PF→PH→Prop} {k j:Nat} {fK:PF} {h2:PH} (hj:j<k) (g:Gh n fr h fK h2) (hI:I j fK h2):Tp n I k fr h:=⟨j,hj,fK,h2,g,hI⟩
def Jr (I:Nat→PF→PH→Prop) (N:Nat):Nat→PF→PH→Prop:=fun k fr h=>k≤N∧I (N- k) fr h
theorem Tp.for {I:Nat→PF→PH→Prop} {N i:Nat} (hi:i<N) (hI:I (i+1) fr h):Tp n (Jr I N) (N- i) fr h:=
 ⟨N- (i+1),by omega,fr,h,Gh.refl _ _ _,by omega,by rw [show N- (N- (i+1))=i+1 by omega];exact hI⟩
theorem Tp.qb {I:Nat→PF→PH→Prop} {N i:Nat} {fK:PF} {h2:PH} (hi:i<N) (g:Gh n fr h fK h2) (hI:I (i+1) fK h2):Tp n (Jr I N) (N- i) fr h:=
 ⟨N- (i+1),by omega,fK,h2,g,by omega,by rw [show N- (N- (i+1))=i+1 by omega];exact hI⟩
theorem ua {a:AC} {fK:PF} {h2:PH} (I:Nat→PF→PH→Prop) (k:Nat) (g:Gh n fr h fK h2) (hI:I k fK h2) (step:∀k fr h,I k fr h→PK E O n Q (.code a (.lp I k::ks)) fr h):PK E O n Q (.code (.loop a) ks) fr h:=.loop I k step g hI
theorem fu {a:AC} {fK:PF} {h2:PH} (I:Nat→PF→PH→Prop) (N:Nat) (g:Gh n fr h fK h2) (h0:I 0 fK h2) (step:∀i fr h,i≤N→I i fr h→PK E O n Q (.code a (.lp (Jr I N) (N- i)::ks)) fr h):PK E O n Q (.code (.loop a) ks) fr h:=
 ua (Jr I N) N g ⟨asp _,by rw [Nat.sub_self];exact h0⟩ fun k fr h hI=>by
  have:=step (N- k) fr h (by omega) hI.2
  rwa [show N- (N- k)=k by have:=hI.1;omega]at this
theorem Js {a:AC} (I:Nat→PF→PH→Prop) (N:Nat) (h0:I 0 fr h) (step:∀i fr h,i≤N→I i fr h→PK E O n Q (.code a (.lp (Jr I N) (N- i)::ks)) fr h):PK E O n Q (.code (.loop a) ks) fr h:=fu I N (Gh.refl _ _ _) h0 step
@[simp]theorem aik (res:List RS) (R:PV→PH→Prop):Tn n res R .normal fr h=∃vs,wZ.all fr h res=some vs∧∃r2 h2,Db n (mO vs) h r2 h2∧R r2 h2:=rfl
@[simp]theorem ail (res:List RS) (R:PV→PH→Prop):Tn n res R .ret fr h=∃vs,wZ.all fr h res=some vs∧∃r2 h2,Db n (mO vs) h r2 h2∧R r2 h2:=rfl
variable{m:Mp} {l:List AO} {d:Option Nat}
@[simp]theorem aim:PK E O n Q (.ops .pl [] ks) fr h↔PK E O n Q (.done .normal ks) fr h:=⟨fun k=>by cases k;assumption,.NO⟩
@[simp]theorem acw:PK E O n Q (.ops .d0 [] ks) fr h↔PK E O n Q (.done .normal ks) fr h:=⟨fun k=>by cases k;assumption,.Da⟩
@[simp]theorem acx (l0:List AO) (ck:List (Nat×Nat×Nat)) (acc:List (PF×PH×List Nat)) (W:List Nat):PK E O n Q (.ops (.dr l0 ck acc W) [] ks) fr h↔Zh l0 ck acc=true∧PK E O n Q (.done .normal ks) fr h:=⟨fun k=>by cases k with|y8 a b=>exact ⟨a,b⟩,fun⟨a,b⟩=>.y8 a b⟩
def PG (E:Env) (O:kj) (n:Nat) (Q:Ex→PF→PH→Prop) (g:PV) (b:Bool) (m:Mp) (d:Option Nat) (p:cN) (l:List AO) (ks:List Kp) (fr:PF) (h:PH):Prop:=∃x,g= .v x∧br (eY b x=true) (PK E O n Q (.ops m (⟨none,d,p⟩::l) ks) fr h) (PK E O n Q (.ops (m.up [] (fr.aU d (.v undef)) h) l ks) (fr.aU d (.v undef)) h)
@[simp]theorem aqu (t:Nat) (b:Bool) (p:cN):PK E O n Q (.ops m (⟨some (t,b),d,p⟩::l) ks) fr h↔PG E O n Q (fr.get t) b m d p l ks fr h:=by
 constructor
 ·intro k
  cases k with
  |Zi e w q=>exact ⟨_,e,fun _=>q,fun k=>absurd w k⟩
  |Jp e w q=>exact ⟨_,e,fun k=>(Bool.noConfusion (w.symm.trans k)),fun _=>q⟩
 ·rintro ⟨x,e,q⟩
  cases w:eY b x with
  |true=>exact .Zi e w (q.1 w)
  |false=>exact .Jp e w (q.2 (by simp [w]))
@[simp]theorem aqv (t:Bool) (p:cN):PG E O n Q (.v (.bool t)) true m d p l ks fr h↔br (t=true) (PK E O n Q (.ops m (⟨none,d,p⟩::l) ks) fr h) (PK E O n Q (.ops (m.up [] (fr.aU d (.v undef)) h) l ks) (fr.aU d (.v undef)) h):=by
 unfold PG
 exact ⟨fun⟨x,e,q⟩=>by cases e;simpa using q,fun q=>⟨_,rfl,by simpa using q⟩⟩
@[simp]theorem aqw (t:Bool) (p:cN):PG E O n Q (.v (.bool t)) false m d p l ks fr h↔br (t=true) (PK E O n Q (.ops (m.up [] (fr.aU d (.v undef)) h) l ks) (fr.aU d (.v undef)) h) (PK E O n Q (.ops m (⟨none,d,p⟩::l) ks) fr h):=by
 unfold PG
 refine ⟨fun⟨x,e,q⟩=>?_,fun q=>⟨_,rfl,?_⟩⟩
 ·cases e;cases t<;>simpa using q
 ·cases t<;>simpa using q
@[simp]theorem aqx (b:Bool) (p:cN):PG E O n Q (.v undef) b m d p l ks fr h↔PK E O n Q (.ops (m.up [] (fr.aU d (.v undef)) h) l ks) (fr.aU d (.v undef)) h:=by
 unfold PG
 refine ⟨fun⟨x,e,q⟩=>?_,fun q=>⟨_,rfl,by simpa using q⟩⟩
 cases e;simpa using q
def PO (E:Env) (O:kj) (n:Nat) (Q:Ex→PF→PH→Prop) (r:Option (PV×PH)) (V:List Nat) (d:Option Nat) (m:Mp) (l:List AO) (ks:List Kp) (fr:PF):Prop:=∃v h',r=some (v,h')∧PK E O n Q (.ops (m.up V (fr.aU d v) h') l ks) (fr.aU d v) h'
@[simp]theorem Zp (v:PV) (h':PH) (V:List Nat):PO E O n Q (some (v,h')) V d m l ks fr↔PK E O n Q (.ops (m.up V (fr.aU d v) h') l ks) (fr.aU d v) h':=⟨fun⟨_,_,e,q⟩=>by cases e;exact q,fun q=>⟨_,_,rfl,q⟩⟩
@[simp]theorem aqy (V:List Nat):PO E O n Q none V d m l ks fr↔False:=⟨fun⟨_,_,e,_⟩=>(by cases e),False.elim⟩
def P1 (E:Env) (O:kj) (n:Nat) (Q:Ex→PF→PH→Prop) (r:Option PV) (d:Option Nat) (m:Mp) (l:List AO) (ks:List Kp) (fr:PF) (h:PH):Prop:=∃v,r=some v∧PK E O n Q (.ops (m.up [] (fr.aU d v) h) l ks) (fr.aU d v) h
@[simp]theorem aqz (v:PV):P1 E O n Q (some v) d m l ks fr h↔PK E O n Q (.ops (m.up [] (fr.aU d v) h) l ks) (fr.aU d v) h:=⟨fun⟨_,e,q⟩=>by cases e;exact q,fun q=>⟨_,rfl,q⟩⟩
@[simp]theorem aqA:P1 E O n Q none d m l ks fr h↔False:=⟨fun⟨_,e,_⟩=>(by cases e),False.elim⟩
@[simp]theorem alE (c:Prop) [Decidable c] (r:Option PV):P1 E O n Q (if c then r else none) d m l ks fr h↔c∧P1 E O n Q r d m l ks fr h:=by by_cases h:c<;>simp [h]
def PS (E:Env) (O:kj) (n:Nat) (Q:Ex→PF→PH→Prop) (r:Option PH) (V:List Nat) (d:Option Nat) (m:Mp) (l:List AO) (ks:List Kp) (fr:PF):Prop:=∃h',r=some h'∧PK E O n Q (.ops (m.up V (fr.aU d (.v undef)) h') l ks) (fr.aU d (.v undef)) h'
@[simp]theorem aqB (h':PH) (V:List Nat):PS E O n Q (some h') V d m l ks fr↔PK E O n Q (.ops (m.up V (fr.aU d (.v undef)) h') l ks) (fr.aU d (.v undef)) h':=⟨fun⟨_,e,q⟩=>by cases e;exact q,fun q=>⟨_,rfl,q⟩⟩
@[simp]theorem aqC (V:List Nat):PS E O n Q none V d m l ks fr↔False:=⟨fun⟨_,e,_⟩=>(by cases e),False.elim⟩
@[simp]theorem alF (c:Prop) [Decidable c] (r:Option PH) (V:List Nat):PS E O n Q (if c then r else none) V d m l ks fr↔c∧PS E O n Q r V d m l ks fr:=by by_cases h:c<;>simp [h]
theorem rO {p:cN} (hc:p.bh=false):PK E O n Q (.ops m (⟨none,d,p⟩::l) ks) fr h↔PO E O n Q (pop p (gh fr) h) (y4 p (gh fr)) d m l ks fr:=by
 constructor
 ·intro k
  cases k with
  |op e q=>exact ⟨_,_,e,q⟩
  |call=>cases hc
  |callv=>cases hc
 ·exact fun⟨_,_,e,q⟩=>.op e q
theorem Tq (r:Option PV):PO E O n Q (r.map fun v=>(v,h)) [] d m l ks fr↔P1 E O n Q r d m l ks fr h:=by cases r<;>simp
theorem NT (r:Option PH) (V:List Nat):PO E O n Q (r.map fun h'=>(.v undef,h')) V d m l ks fr↔PS E O n Q r V d m l ks fr:=by cases r<;>simp
theorem qc {p:cN} {r:Option PV} (hc:p.bh=false) (e:pop p (gh fr) h=r.map fun v=>(v,h)) (w:y4 p (gh fr)=[]):PK E O n Q (.ops m (⟨none,d,p⟩::l) ks) fr h↔P1 E O n Q r d m l ks fr h:=by rw [rO hc,e,w,Tq]
@[simp]theorem alG (x:X):PK E O n Q (.ops m (⟨none,d,.mv x⟩::l) ks) fr h↔PK E O n Q (.ops (m.up [] (fr.aU d (gh fr x)) h) l ks) (fr.aU d (gh fr x)) h:=by rw [rO rfl];simp [pop,y4]
@[simp]theorem acy (c a b:X):PK E O n Q (.ops m (⟨none,d,.pick c a b⟩::l) ks) fr h↔P1 E O n Q (I1 (gh fr c) (gh fr a) (gh fr b)) d m l ks fr h:=qc rfl rfl rfl
@[simp]theorem Zq (z:List Value):PK E O n Q (.ops m (⟨none,d,.alloc z⟩::l) ks) fr h↔PK E O n Q (.ops (m.up [] (fr.aU d (.ref h.length 0 z.length)) (h++[.cells z.length (z.map .v)])) l ks) (fr.aU d (.ref h.length 0 z.length)) (h++[.cells z.length (z.map .v)]):=by rw [rO rfl];simp [pop,y4]
@[simp]theorem ain (x:X):PK E O n Q (.ops m (⟨none,d,.box x⟩::l) ks) fr h↔PO E O n Q (Ny h (gh fr x)) [] d m l ks fr:=rO rfl
@[simp]theorem Zr (z:List Value) (ps:List (Nat×Nat×X)):PK E O n Q (.ops m (⟨none,d,.build z ps⟩::l) ks) fr h↔P1 E O n Q ((p9 (z.map .v) (ps.map fun p=>(p.1,p.2.1,gh fr p.2.2))).map .agg) d m l ks fr h:=qc rfl (by simp [pop,Option.map_map];rfl) rfl
@[simp]theorem aio (len sz:Nat) (z:List Value) (ps:List (Nat×Nat×X)):PK E O n Q (.ops m (⟨none,d,.bsl len sz z ps⟩::l) ks) fr h↔PO E O n Q (Nw len sz z h (ps.map fun p=>(p.1,p.2.1,gh fr p.2.2))) [] d m l ks fr:=rO rfl
@[simp]theorem alH (x:X):PK E O n Q (.ops m (⟨none,d,.ld x⟩::l) ks) fr h↔P1 E O n Q (PT h (gh fr x)) d m l ks fr h:=qc rfl rfl rfl
@[simp]theorem aip (k:Nat) (x:X):PK E O n Q (.ops m (⟨none,d,.ldn k x⟩::l) ks) fr h↔P1 E O n Q (wU k h (gh fr x)) d m l ks fr h:=qc rfl rfl rfl
@[simp]theorem alI (k:Nat) (x v:X):PK E O n Q (.ops m (⟨none,d,.st k x v⟩::l) ks) fr h↔PS E O n Q (S5 k h (gh fr x) (gh fr v)) (y4 (.st k x v) (gh fr)) d m l ks fr:=by rw [rO rfl];exact NT _ _
@[simp]theorem aiq (op:BinOp) (x y:X):PK E O n Q (.ops m (⟨none,d,.bin op x y⟩::l) ks) fr h↔P1 E O n Q (I3 op (gh fr x) (gh fr y)) d m l ks fr h:=qc rfl rfl rfl
@[simp]theorem alJ (op:UnOp) (x:X):PK E O n Q (.ops m (⟨none,d,.un op x⟩::l) ks) fr h↔P1 E O n Q (pun op (gh fr x)) d m l ks fr h:=qc rfl rfl rfl
@[simp]theorem air (k:IntKind) (x:X):PK E O n Q (.ops m (⟨none,d,.nP k x⟩::l) ks) fr h↔P1 E O n Q (Nt k (gh fr x)) d m l ks fr h:=qc rfl rfl rfl
@[simp]theorem alK (sz:Nat) (x:X) (lo hi mx:Option X):PK E O n Q (.ops m (⟨none,d,.sl sz x lo hi mx⟩::l) ks) fr h↔PO E O n Q (PU sz h (gh fr x) (lo.map (gh fr)) (hi.map (gh fr)) (mx.map (gh fr))) [] d m l ks fr:=rO rfl
@[simp]theorem alL (off:Nat) (x:X):PK E O n Q (.ops m (⟨none,d,.fa off x⟩::l) ks) fr h↔P1 E O n Q (Vs h off (gh fr x)) d m l ks fr h:=qc rfl rfl rfl
@[simp]theorem alM (sz:Nat) (x i:X):PK E O n Q (.ops m (⟨none,d,.ia sz x i⟩::l) ks) fr h↔P1 E O n Q (Y9 h sz (gh fr x) (gh fr i)) d m l ks fr h:=qc rfl rfl rfl
@[simp]theorem ais (len sz:Nat) (x i:X):PK E O n Q (.ops m (⟨none,d,.qo len sz x i⟩::l) ks) fr h↔P1 E O n Q (I4 h len sz (gh fr x) (gh fr i)) d m l ks fr h:=qc rfl rfl rfl
@[simp]theorem ait (x:X) (i:Nat):PK E O n Q (.ops m (⟨none,d,.ext x i⟩::l) ks) fr h↔P1 E O n Q (Nu (gh fr x) i) d m l ks fr h:=qc rfl rfl rfl
@[simp]theorem aiu (sz bytes:Nat) (s x:X):PK E O n Q (.ops m (⟨none,d,.app sz bytes s x⟩::l) ks) fr h↔PO E O n Q (uX sz bytes h (gh fr s) (gh fr x)) (y4 (.app sz bytes s x) (gh fr)) d m l ks fr:=rO rfl
@[simp]theorem acz (x:X):PK E O n Q (.ops m (⟨none,d,.eE x⟩::l) ks) fr h↔P1 E O n Q (CX h (gh fr x)) d m l ks fr h:=qc rfl rfl rfl
@[simp]theorem aiv (neg:Bool) (offs:List (Nat×Nat)) (x y:X):PK E O n Q (.ops m (⟨none,d,.eqs neg offs x y⟩::l) ks) fr h↔P1 E O n Q (Nx neg offs (gh fr x) (gh fr y)) d m l ks fr h:=qc rfl rfl rfl
theorem j7 {f:Nat} {«as»:List X} {args:List PV} {W:List Nat} (ha:«as».map (gh fr)=args) (k:E9 E O f args h (· ∈W) (fun r h'=>PK E O n Q (.ops (m.up W (fr.aU d r) h') l ks) (fr.aU d r) h')):PK E O n Q (.ops m (⟨none,d,.call f «as»⟩::l) ks) fr h:=
 .call (ha▸k) fun _ _ q=>q
end
theorem Jt {sz bytes b n k:Nat} {h:PH} {x:PV} {cs new:List PV} (hb:h[b]?=some (.cells sz cs)) (hn:n*sz=cs.length) (h0:0<sz) (hk:oW x=some k) (hx:gW h sz k x=some new) (hl:new.length=k*sz) (hv:gV h x=true) (KM:(n+k)*bytes≤2^47) (tC:n+k<2^62):
 uX sz bytes h (.sl sz b 0 n n) x=some (.sl sz b 0 (n+k) (n+k),h.set b (.cells sz (cs++new))):=by
 have c8:=(asr.1 hb).1
 unfold uX
 rw [hk]
 simp only
 by_cases k0:k=0
 ·subst k0
  have:new=[]:=List.length_eq_zero_iff.1 (by simpa using hl)
  subst this
  have e:h.set b (.cells sz cs)=h:=by
   apply List.ext_getElem?
   intro i
   rw [List.getElem?_set]
   by_cases hi:b=i
   ·subst hi;rw [if_pos rfl,if_pos c8,hb]
   ·rw [if_neg hi]
  simp [hv,hb,hn,e]
 ·rw [if_neg k0,hx]
  simp only [hb]
  rw [if_pos ⟨trivial,trivial,h0,by simpa using hn,asp _,KM,tC⟩]
  by_cases n0:n=0
  ·subst n0
   have:cs=[]:=List.length_eq_zero_iff.1 (by simpa using hn.symm)
   subst this
   simp
  ·rw [if_neg n0,if_neg (by omega),if_pos trivial,ass (by omega)]
theorem cR {E:Env} {O:kj} {n:Nat} {Q:Ex→PF→PH→Prop} {ks:List Kp} {fr:PF} {m:Mp} {l:List AO} {d:Option Nat} {V:List Nat} {sz bytes b j k:Nat} {h:PH} {x:PV} {cs new:List PV} (hb:h[b]?=some (.cells sz cs)) (hk:oW x=some k) (hx:gW h sz k x=some new) (hn:j*sz=cs.length) (h0:0<sz) (hl:new.length=k*sz) (hv:gV h x=true) (KM:(j+k)*bytes≤2^47) (tC:j+k<2^62)
 (next:PK E O n Q (.ops (m.up V (fr.aU d (.sl sz b 0 (j+k) (j+k))) (h.set b (.cells sz (cs++new)))) l ks) (fr.aU d (.sl sz b 0 (j+k) (j+k))) (h.set b (.cells sz (cs++new)))):PO E O n Q (uX sz bytes h (.sl sz b 0 j j) x) V d m l ks fr:=by
 rw [Jt hb hn h0 hk hx hl hv KM tC]
 exact (Zp _ _ _).2 next
attribute [simp] y3 S8 I1 PT wU S5 CW I3 Nr Ns wV pun Nt S6 Vs da Y9 I4 pix Nu I5 oW CX CY I6 Nv PU gW CZ I7 Nw S7 Za E6 Nx Ny dR p9 uW y4 gV vB Ba wZ.all wZ.get mO
end Go.Proofs.YtppcmpmnglaleaaGreatDoor.A.P
namespace Go.Proofs.YtppcmpmnglaleaaGreatDoor.A.P
open Go Go.RowKit
def add (F:Nat→Prop) (h:PH) (φ:Nat→Nat) (A:Nat→Prop):Nat→Prop:=fun y=>F y∨∃b,A b∧aY h b∧φ b=y
def Vz (A:Nat→Prop) (h:PH) (p q:PV):Prop:=∀F H φ x,eo ⟨F,H,φ,h⟩→RV ⟨F,H,φ,h⟩ p x→RF (add F h φ A) H q x
def Fa (A:Nat→Prop) (h:PH):List PV→List PV→Prop
 |[],[]=>True
 |p::ps,q::qs=>Vz A h p q∧Fa A h ps qs
 |_,_=>False
def Vg (A:Nat→Prop) (σ:Nat→Nat) (h bs:PH) (p q:PV):Prop:=∀F H φ x,eo ⟨F,H,φ,h⟩→RV ⟨F,H,φ,h⟩ p x→RV ⟨add F h φ A,H,fun i=>φ (σ i),bs⟩ q x
def mf (A:Nat→Prop) (σ:Nat→Nat) (h bs:PH):List PV→List PV→Prop
 |[],[]=>True
 |p::ps,q::qs=>Vg A σ h bs p q∧mf A σ h bs ps qs
 |_,_=>False
variable{A:Nat→Prop} {σ:Nat→Nat} {h bs:PH}
theorem Fa.ok:∀{ps qs:List PV},Fa A h ps qs→∀{F H φ xs},eo ⟨F,H,φ,h⟩→dq ⟨F,H,φ,h⟩ ps xs→iQ (add F h φ A) H qs xs
 |[],[],_,F,H,φ,_,S,.nil=>.nil
 |p::ps,q::qs,⟨a,b⟩,F,H,φ,_,S,.cons r s=>.cons (a F H φ _ S r) (Fa.ok b S s)
theorem mf.ok:∀{ps qs:List PV},mf A σ h bs ps qs→∀{F H φ xs},eo ⟨F,H,φ,h⟩→dq ⟨F,H,φ,h⟩ ps xs→dq ⟨add F h φ A,H,fun i=>φ (σ i),bs⟩ qs xs
 |[],[],_,F,H,φ,_,S,.nil=>.nil
 |p::ps,q::qs,⟨a,b⟩,F,H,φ,_,S,.cons r s=>.cons (a F H φ _ S r) (mf.ok b S s)
theorem Ju {F:Nat→Prop} {H:AH} {φ:Nat→Nat} (x:Nat) (hx:F x):add F h φ A x∧H.get x=H.get x:=⟨.inl hx,rfl⟩
theorem Tr (x:Value):Vz A h (.v x) (.v x):=fun F H φ y S R=>by cases R;exact .v _
theorem Jv (sz:Nat) (rows:List (List PV)):Vz A h (.fs sz rows) (.fs sz rows):=fun F H φ y S R=>by cases R with|fs q=>exact q.mono rfl Ju
theorem Jw (sz:Nat):Vz A h (.v (.slice none 0 0)) (.fs sz []):=fun F H φ y S R=>by
 cases R
 exact .fs (rows:=[]) (rs:=[]) ⟨_,_,rfl,by simp⟩ (Nat.zero_le _) (fun d hd=>by cases hd) .nil
theorem lD.of_flat {F:Nat→Prop} {H:AH} {sz:Nat}:∀{rows:List (List PV)} {ys:List Value},iQ F H rows.flatten ys→(∀r∈rows,r.length=sz)→∃rs,lD F H rows rs∧rs.flatten=ys∧∀r∈rs,r.length=sz
 |[],ys,h,_=>by cases h;exact ⟨[],.nil,rfl,by simp⟩
 |r::rows,ys,h,hl=>by
  rw [List.flatten_cons]at h
  have h1:iQ F H r (ys.take sz):=by have:=h.take r.length;rwa [List.take_left,hl r (by simp)]at this
  have h2:iQ F H rows.flatten (ys.drop sz):=by have:=h.drop r.length;rwa [List.drop_left,hl r (by simp)]at this
  obtain ⟨rs,a,b,c⟩:=lD.of_flat h2 fun q hq=>hl q (by simp [hq])
  refine ⟨ys.take sz::rs,.cons h1 a,by rw [List.flatten_cons,b,List.take_append_drop],fun q hq=>?_⟩
  rcases List.mem_cons.1 hq with rfl|hq
  ·rw [←h1.length,hl r (by simp)]
  ·exact c q hq
theorem Dc {sz b o n c z:Nat} {cs:List PV} {rows:List (List PV)} (hA:A b) (hb:h[b]?=some (.cells z cs)) (ht:(o+c)*sz=cs.length) (h0z:0<sz) (hz:sz≤z) (hn:n≤c) (hl:rows.length=n) (hr:∀r∈rows,r.length=sz) (hv:Fa A h ((cs.drop (o*sz)).take (n*sz)) rows.flatten):Vz A h (.sl sz b o n c) (.fs sz rows):=fun F H φ x S R=>by
 rcases tX R hb ht with⟨rfl,rfl,d,rfl,hd⟩|⟨hc,rfl⟩
 ·obtain rfl:rows=[]:=List.length_eq_zero_iff.1 hl
  exact .fs (rows:=[]) (rs:=[]) ⟨_,_,rfl,by simp⟩ (Nat.zero_le _) (fun e he=>⟨.inr rfl,.inl rfl⟩) .nil
 ·have jF:cs≠[]:=by
   rintro rfl
   have:=Nat.mul_pos (show 0<o+c by omega) h0z
   simp at ht
   omega
  obtain ⟨vs,hg,oH,h0⟩:=S.cells (t:=0) hb (List.length_pos_iff.2 jF)
  have kW:=oH.length
  obtain ⟨rs,a1,a2,a3⟩:=lD.of_flat (hv.ok S ((oH.drop (o*sz)).take (n*sz))) hr
  have wz:=a1.length
  have adn:(o+c)*sz=o*sz+c*sz:=Nat.add_mul ..
  rw [←hl]
  refine .fs (rs:=rs) ⟨_,_,by rw [wz],fun i r hi=>⟨_,_,rfl,?_⟩⟩ (by omega) (fun e he=>?_) a1
  ·obtain ⟨e1,e2⟩:=jz a3 hi
   have qG:=(asr.1 hi).1
   have m1:(i+1)*sz≤n*sz:=Nat.mul_le_mul_right _ (by omega)
   have m2:n*sz≤c*sz:=Nat.mul_le_mul_right _ hn
   rw [Nat.succ_mul]at m1
   rw [bW hg h0 (by omega),←e1,a2,List.drop_take,List.drop_drop,List.take_take,Nat.min_eq_left (by omega)]
  ·cases he
   refine ⟨.inl rfl,?_⟩
   by_cases nJ:n=0
   ·left;omega
   ·right
    refine ⟨.inr ⟨b,hA,cn hb jF,rfl⟩,?_⟩
    unfold AH.lE
    rw [hg]
    simp [hz]
theorem qV {p q:PV} (k:Vz A h p q):Vg A σ h bs p q:=fun F H φ x S R=>(k F H φ x S R).qT (C:=⟨_,_,_,_⟩)
theorem Jx (p:PV):Vg A σ h bs p .any:=fun F H φ x S R=>.any x
@[simp]theorem aiw (x:Value):Vg A σ h bs (.v x) (.v x)↔True:=⟨fun _=>trivial,fun _=>qV (Tr x)⟩
@[simp]theorem Jy (sz:Nat) (rows:List (List PV)):Vg A σ h bs (.fs sz rows) (.fs sz rows)↔True:=⟨fun _=>trivial,fun _=>qV (Jv sz rows)⟩
@[simp]theorem Ts (sz:Nat):Vg A σ h bs (.v (.slice none 0 0)) (.fs sz [])↔True:=⟨fun _=>trivial,fun _=>qV (Jw sz)⟩
@[simp]theorem alO (x:Value):Vz A h (.v x) (.v x)↔True:=⟨fun _=>trivial,fun _=>Tr x⟩
@[simp]theorem aix (sz:Nat) (rows:List (List PV)):Vz A h (.fs sz rows) (.fs sz rows)↔True:=⟨fun _=>trivial,fun _=>Jv sz rows⟩
@[simp]theorem acB (sz:Nat):Vz A h (.v (.slice none 0 0)) (.fs sz [])↔True:=⟨fun _=>trivial,fun _=>Jw sz⟩
@[simp]theorem acC:Fa A h [] []↔True:=Iff.rfl
@[simp]theorem Zs (p q:PV) (ps qs:List PV):Fa A h (p::ps) (q::qs)↔Vz A h p q∧Fa A h ps qs:=Iff.rfl
@[simp]theorem acD:mf A σ h bs [] []↔True:=Iff.rfl
@[simp]theorem Jz (p q:PV) (ps qs:List PV):mf A σ h bs (p::ps) (q::qs)↔Vg A σ h bs p q∧mf A σ h bs ps qs:=Iff.rfl
@[simp]theorem Zt (cells:List PV):Vg A σ h bs (.fp cells) (.fp cells)↔True:=⟨fun _=>trivial,fun _ F H φ x S R=>by
 cases R with|fp a b c=>exact .fp (.inl a) b (c.mono rfl Ju)⟩
theorem JA {ps qs:List PV} (k:mf A σ h bs ps qs):Vg A σ h bs (.agg ps) (.agg qs):=fun F H φ x S R=>by cases R with|agg r=>exact .agg (k.ok S r)
theorem Be {ps qs:List PV} (k:mf A σ h bs ps qs):Vg A σ h bs (.gA ps) (.gA qs):=fun F H φ x S R=>by cases R with|gA r=>exact .gA (k.ok S r)
theorem Zu {f:Nat} {ps qs ps' qs':List PV} (k:mf A σ h bs ps qs) (k':mf A σ h bs ps' qs'):Vg A σ h bs (.fn f ps ps') (.fn f qs qs'):=fun F H φ x S R=>by cases R with|fn r r'=>exact .fn (k.ok S r) (k'.ok S r')
theorem Tt {t:Nat} {p q:PV} (k:Vg A σ h bs p q):Vg A σ h bs (.qS t p) (.qS t q):=fun F H φ x S R=>by cases R with|qS r=>exact .qS (k F H φ _ S r)
theorem lU {h:PH} {b T t:Nat} (e:da h b=some T):At h b t↔T=t:=by
 unfold da at e
 split at e
 ·rename_i z cs hh
  cases e
  constructor
  ·rintro ⟨z',dF,e,rfl⟩;rw [hh]at e;cases e;rfl
  ·rintro rfl;exact ⟨z,cs,hh,rfl⟩
 ·cases e
theorem lV {h:PH} {b T t:Nat} (e:da h b=some T):Le h b t↔t≤T:=by
 unfold da at e
 split at e
 ·rename_i z cs hh
  cases e
  exact ⟨fun k=>k z cs hh,fun k z' dF e=>by rw [hh]at e;cases e;exact k⟩
 ·cases e
theorem w6 {h:PH} {b T:Nat} (e:da h b=some T):b<h.length:=by
 unfold da at e
 split at e
 ·rename_i z cs hh;exact (asr.1 hh).1
 ·cases e
theorem Tu {b i o t T:Nat} (h1:da h b=some T) (h2:da bs i=some T) (hs:σ i=b):Vg A σ h bs (.ref b o t) (.ref i o t):=fun F H φ x S R=>by
 cases R with|ref a hb hl ha=>
 subst hs
 refine .ref a (w6 h2) ((lV h2).2 ((lV h1).1 hl)) fun k=>?_
 exact ha ((lU h1).2 ((lU h2).1 k))
theorem aa6 {b i sz o n c T:Nat} (h1:da h b=some T) (h2:da bs i=some T) (hs:σ i=b):Vg A σ h bs (.sl sz b o n c) (.sl sz i o n c):=fun F H φ x S R=>by
 cases R with|sl a hb hl ha=>
 subst hs
 refine .sl a (w6 h2) ((lV h2).2 ((lV h1).1 hl)) fun k=>?_
 exact ha ((lU h1).2 ((lU h2).1 k))
theorem Dd {sz i z:Nat} (h2:bs[i]?=some (.cells z [])):Vg A σ h bs (.v (.slice none 0 0)) (.sl sz i 0 0 0):=fun F H φ x S R=>by
 cases R
 have e:da bs i=some 0:=by unfold da;rw [h2];rfl
 exact .sl ⟨_,_,rfl⟩ (w6 e) ((lV e).2 (by simp)) fun _=>.inl ⟨rfl,rfl,none,rfl,by simp⟩
def rP (A:Nat→Prop) (σ:Nat→Nat) (h bs:PH) (o:Option PB):PB→Prop
 | .cells z qs=>qs=[]∨∃ps,o=some (.cells z ps)∧mf A σ h bs ps qs
 | .map fs=>∃es,o=some (.map es)∧es.map (·.1)=fs.map (·.1)∧mf A σ h bs (es.map (·.2)) (fs.map (·.2))
 | .dead=>True
structure iF (A:Nat→Prop) (σ:Nat→Nat) (h bs:PH):Prop where
 aX:∀i P,bs[i]?=some P→rP A σ h bs h[σ i]? P
 inj:∀i j,i<bs.length→j<bs.length→aY bs i→aY bs j→σ i=σ j→i=j
 off:∀i,i<bs.length→aY bs i→¬ A (σ i)
theorem mf.length:∀{ps qs:List PV},mf A σ h bs ps qs→ps.length=qs.length
 |[],[],_=>rfl
 |_::_,_::_,⟨_,b⟩=>by simp [mf.length b]
theorem iF.aY (K:iF A σ h bs) {i:Nat} (s:P.aY bs i):P.aY h (σ i):=by
 rcases lg s with⟨es,e⟩|⟨z,cs,e,hc⟩
 ·obtain ⟨es',e',_⟩:=K.aX i _ e
  exact e7 e'
 ·rcases K.aX i _ e with q|⟨ps,e',hv⟩
  ·exact absurd q hc
  ·exact cn e' (by rintro rfl;have:=hv.length;exact hc (List.length_eq_zero_iff.1 this.symm))
theorem iF.ok (K:iF A σ h bs) {F:Nat→Prop} {H:AH} {φ:Nat→Nat} (S:eo ⟨F,H,φ,h⟩):eo ⟨add F h φ A,H,fun i=>φ (σ i),bs⟩where
 wf:=S.wf
 fz:=fun x hx=>by
  rcases hx with hx|⟨b,_,hs,rfl⟩
  ·exact S.fz x hx
  ·exact S.lt hs
 inj:=fun i j s t e=>K.inj i j (aW s) (aW t) s t (S.inj _ _ (K.aY s) (K.aY t) e)
 aX:=fun i z qs e hc=>by
  have s:=cn e hc
  rcases K.aX i _ e with q|⟨ps,e',hv⟩
  ·exact absurd q hc
  obtain ⟨vs,a,b,c,d⟩:=S.aX (σ i) z ps e' (by rintro rfl;have:=hv.length;exact hc (List.length_eq_zero_iff.1 this.symm))
  refine ⟨vs,a,hv.ok S b,c,?_⟩
  rintro (q|⟨b',ha,hs,e2⟩)
  ·exact d q
  ·exact K.off i (aW s) s (S.inj _ _ hs (K.aY s) e2▸ha)
 yZ:=fun i fs e=>by
  have s:=e7 e
  obtain ⟨es,e',hk,hv⟩:=K.aX i _ e
  obtain ⟨ys,a,b,c,d,g⟩:=S.yZ (σ i) es e'
  refine ⟨ys,a,hk.symm.trans b,hv.ok S c,d,?_⟩
  rintro (q|⟨b',ha,hs,e2⟩)
  ·exact g q
  ·exact K.off i (aW s) s (S.inj _ _ hs (K.aY s) e2▸ha)
theorem iF.none (A:Nat→Prop) (σ:Nat→Nat) (h:PH):iF A σ h []:=⟨fun i P e=>by simp at e,fun i j hi=>by simp at hi,fun i hi=>by simp at hi⟩
mutual
def sh (k:Nat):PV→PV
 | .ref b o t=>.ref (b+k) o t
 | .sl sz b o n c=>.sl sz (b+k) o n c
 | .mp b=>.mp (b+k)
 | .agg cs=>.agg (zY k cs)
 | .gA cs=>.gA (zY k cs)
 | .fn f a b=>.fn f (zY k a) (zY k b)
 | .qS t p=>.qS t (sh k p)
 | .v x=>.v x
 | .fs sz rows=>.fs sz rows
 | .fp cells=>.fp cells
 | .any=>.any
def zY (k:Nat):List PV→List PV
 |[]=>[]
 |p::ps=>sh k p::zY k ps
end
def ub (k:Nat):PB→PB
 | .cells z cs=>.cells z (zY k cs)
 | .map es=>.map (es.map fun e=>(e.1,sh k e.2))
 | .dead=>.dead
theorem j8 (k:Nat):∀l:List PV,(zY k l).length=l.length
 |[]=>rfl
 |_::l=>by simp [zY,j8 k l]
theorem De (k:Nat):∀es:List (Value×PV),(es.map fun e=>(e.1,sh k e.2)).map (·.2)=zY k (es.map (·.2))
 |[]=>rfl
 |_::l=>by simp only [List.map_cons,zY,De k l]
theorem qd {h bs:PH} (b:Nat):(h++bs.map (ub h.length))[b+h.length]?=(bs[b]?).map (ub h.length):=by
 rw [List.getElem?_append_right (by omega),Nat.add_sub_cancel,List.getElem?_map]
theorem JB {h bs:PH} {b t:Nat}:At (h++bs.map (ub h.length)) (b+h.length) t↔At bs b t:=by
 unfold At
 rw [qd]
 constructor
 ·rintro ⟨z,cs,e,rfl⟩
  obtain ⟨P,hP,e⟩:=asv.1 e
  cases P with
  |cells z' dF=>cases e;exact ⟨_,dF,hP,(j8 _ _).symm⟩
  |_=>cases e
 ·rintro ⟨z,cs,e,rfl⟩
  exact ⟨z,zY h.length cs,by rw [e];rfl,j8 _ _⟩
theorem P3 {h bs:PH} {b t:Nat}:Le (h++bs.map (ub h.length)) (b+h.length) t↔Le bs b t:=by
 unfold Le
 rw [qd]
 constructor
 ·intro k z cs e
  have:=k z (zY h.length cs) (by rw [e];rfl)
  rwa [j8]at this
 ·intro k z cs e
  obtain ⟨P,hP,e⟩:=asv.1 e
  cases P with
  |cells z' dF=>cases e;rw [j8];exact k _ dF hP
  |_=>cases e
theorem y9 {h bs:PH} {b:Nat}:c7 (h++bs.map (ub h.length)) (b+h.length)↔c7 bs b:=by
 unfold c7
 rw [qd]
 constructor
 ·rintro ⟨es,e⟩
  obtain ⟨P,hP,e⟩:=asv.1 e
  cases P with
  |map es'=>exact ⟨es',hP⟩
  |_=>cases e
 ·rintro ⟨es,e⟩
  exact ⟨_,by rw [e];rfl⟩
theorem JC {h bs:PH} {b:Nat}:aY (h++bs.map (ub h.length)) (b+h.length)↔aY bs b:=by
 unfold aY
 simp only [y9,JB]
def join (h:PH) (φ ψ:Nat→Nat):Nat→Nat:=fun b=>if b<h.length then φ b else ψ (b- h.length)
theorem sx (h:PH) (φ ψ:Nat→Nat) (b:Nat):join h φ ψ (b+h.length)=ψ b:=by
 unfold join
 rw [if_neg (by omega),Nat.add_sub_cancel]
theorem w7 {h:PH} {φ ψ:Nat→Nat} {b:Nat} (hb:b<h.length):join h φ ψ b=φ b:=if_pos hb
theorem JD {h bs:PH} {b:Nat} (hb:b<bs.length):b+h.length<(h++bs.map (ub h.length)).length:=by
 rw [asu,List.length_map];omega
mutual
theorem Df {F:Nat→Prop} {H:AH} {φ ψ:Nat→Nat} {h bs:PH}:∀{p:PV} {x:Value},RV ⟨F,H,ψ,bs⟩ p x→RV ⟨F,H,join h φ ψ,h++bs.map (ub h.length)⟩ (sh h.length p) x
 |_,_, .v x=> .v x
 |_,_, .ref a hb hl ha=> .ref a (JD hb) (P3.2 hl) fun k=>by
  have:=ha (JB.1 k)
  simpa [sx]using this
 |_,_, .sl a hb hl ha=> .sl a (JD hb) (P3.2 hl) fun k=>by
  have:=ha (JB.1 k)
  simpa [sx]using this
 |_,_, .mp a hb ha=> .mp a (JD hb) fun k=>by
  have:=ha (y9.1 k)
  simpa [sx]using this
 |_,_, .fs k=> .fs k
 |_,_, .fp a b c=> .fp a b c
 |_,_, .agg k=> .agg (oZ k)
 |_,_, .gA k=> .gA (oZ k)
 |_,_, .fn a b=> .fn (oZ a) (oZ b)
 |_,_, .qS a=> .qS (Df a)
 |_,_, .any x=> .any x
theorem oZ {F:Nat→Prop} {H:AH} {φ ψ:Nat→Nat} {h bs:PH}:∀{p:List PV} {x:List Value},dq ⟨F,H,ψ,bs⟩ p x→dq ⟨F,H,join h φ ψ,h++bs.map (ub h.length)⟩ (zY h.length p) x
 |_,_, .nil=> .nil
 |_,_, .cons a b=> .cons (Df a) (oZ b)
end
end Go.Proofs.YtppcmpmnglaleaaGreatDoor.A.P
namespace Go.Proofs.YtppcmpmnglaleaaGreatDoor.A.P
open Go Go.RowKit
variable{E:Env} {O:kj}
def bO (h:PH):List Nat→PH
 |[]=>h
 |b::L=>bO (h.set b .dead) L
theorem gX:∀(L:List Nat) (h:PH),(bO h L).length=h.length
 |[],h=>rfl
 |b::L,h=>by rw [bO,gX L];simp
theorem lh:∀(L:List Nat) (h:PH) (c:Nat),(bO h L)[c]?=if c∈L∧c<h.length then some .dead else h[c]?
 |[],h,c=>by simp [bO]
 |b::L,h,c=>by
  rw [bO,lh L]
  by_cases hc:c<h.length
  ·by_cases h1:c∈L
   ·simp [h1,hc]
   ·by_cases h2:c=b
    ·subst h2;simp [h1,hc]
    ·rw [if_neg (fun q=>h1 q.1),if_neg (fun q=>(List.mem_cons.1 q.1).elim h2 h1),fD h2]
  ·rw [if_neg (by simp;omega),if_neg (by simp;omega),List.getElem?_eq_none (by simp;omega),List.getElem?_eq_none (by omega)]
theorem j9 {h:PH} {L:List Nat} {b:Nat} (s:aY (bO h L) b):aY h b∧b∉L:=by
 have hb:=aW s
 rw [gX]at hb
 have e:=lh L h b
 by_cases hL:b∈L
 ·rw [if_pos ⟨hL,hb⟩]at e
  rcases lg s with⟨es,e'⟩|⟨z,cs,e',_⟩<;>rw [e]at e'<;>cases e'
 ·rw [if_neg (fun q=>hL q.1)]at e
  exact ⟨(dx e).1 s,hL⟩
theorem vD {F:Nat→Prop} {H:AH} {φ:Nat→Nat} {h:PH} (S:eo ⟨F,H,φ,h⟩) (L:List Nat):eo ⟨add F h φ (· ∈L),H,φ,bO h L⟩∧dU h.length (fun _=>False) ⟨F,H,φ,h⟩ ⟨add F h φ (· ∈L),H,φ,bO h L⟩:=by
 have same:∀b,b∉L→(bO h L)[b]?=h[b]?:=fun b hb=>by rw [lh,if_neg (fun q=>hb q.1)]
 have dead:∀b,b∈L→b<h.length→(bO h L)[b]?=some .dead:=fun b hb hl=>by rw [lh,if_pos ⟨hb,hl⟩]
 have T:dU h.length (fun _=>False) ⟨F,H,φ,h⟩ ⟨add F h φ (· ∈L),H,φ,bO h L⟩:={
  n0:=rfl
  nx:=asp _
  fz:=fun x hx=>⟨.inl hx,rfl⟩
  fo:=fun x hx hi hd=>by
   rcases hd with hd|⟨b,_,s,rfl⟩
   ·exact hd
   ·exact absurd ⟨b,trivial,s,rfl⟩ hi
  out:=fun _ _ _=>rfl
  loc:=fun b hb=>.inr ⟨(j9 hb).1,rfl⟩
  len:=fun k=>by rw [gX];exact k
  le:=fun b _ hl t ht=>by
   by_cases hb:b∈L
   ·intro z cs e;rw [dead b hb hl]at e;cases e
   ·exact (rL (same b hb)).2 ht
  uV:=fun b _ hl t _ ha=>by
   by_cases hb:b∈L
   ·obtain ⟨z,cs,e,_⟩:=ha;rw [dead b hb hl]at e;cases e
   ·exact ⟨(rK (same b hb)).1 ha,rfl⟩
  vA:=fun b _ hl ha=>by
   by_cases hb:b∈L
   ·obtain ⟨es,e⟩:=ha;rw [dead b hb hl]at e;cases e
   ·exact ⟨(fC (same b hb)).1 ha,rfl⟩}
 have nF:∀b,aY h b→b∉L→¬ add F h φ (· ∈L) (φ b):=by
  rintro b s hb (q|⟨b',mi,s',e⟩)
  ·exact (S.old s).2 q
  ·exact hb (S.inj _ _ s' s e▸mi)
 refine ⟨⟨S.wf,fun x hx=>?_,fun b b' s s' e=>S.inj _ _ (j9 s).1 (j9 s').1 e,fun b z cs e hc=>?_,fun b es e=>?_⟩,T⟩
 ·rcases hx with hx|⟨b,_,s,rfl⟩
  ·exact S.fz x hx
  ·exact S.lt s
 ·obtain ⟨s,hb⟩:=j9 (cn e hc)
  rw [show(bO h L)[b]?=_ from same b hb]at e
  obtain ⟨vs,a,b',c,_⟩:=S.aX b z cs e hc
  exact ⟨vs,a,b'.step T,c,nF b s hb⟩
 ·obtain ⟨s,hb⟩:=j9 (e7 e)
  rw [show(bO h L)[b]?=_ from same b hb]at e
  obtain ⟨ys,a,b',c,d,_⟩:=S.yZ b es e
  exact ⟨ys,a,b',c.step T,d,nF b s hb⟩
theorem Dg {F F':Nat→Prop} {H H':AH} {φ ψ:Nat→Nat} {h bs:PH} {W:Nat→Prop} (S:eo ⟨F,H,φ,h⟩) (SB:eo ⟨F',H',ψ,bs⟩) (T:dU 0 qw ⟨F,H,φ,[]⟩ ⟨F',H',ψ,bs⟩):
 eo ⟨F',H',join h φ ψ,h++bs.map (ub h.length)⟩∧dU h.length W ⟨F,H,φ,h⟩ ⟨F',H',join h φ ψ,h++bs.map (ub h.length)⟩:=by
 have Tv:∀{V:Nat→Prop} {x:Nat},¬ im ⟨F,H,φ,[]⟩ V x:=by
  rintro V x ⟨b,_,s,_⟩
  have:=aW s
  simp at this
 have same:∀x,x<H.nx→H'.get x=H.get x:=fun x hx=>T.out x hx Tv
 have fo:∀x,x<H.nx→F' x→F x:=fun x hx hf=>T.fo x hx Tv hf
 have lo:∀{b},b<h.length→(h++bs.map (ub h.length))[b]?=h[b]?:=fun hb=>asy hb
 have new:∀b,aY bs b→H.nx≤ψ b:=fun b s=>by
  rcases T.loc b s with q|⟨q,_⟩
  ·exact q
  ·have:=aW q;simp at this
 have split:∀b,aY (h++bs.map (ub h.length)) b→(b<h.length∧aY h b∧join h φ ψ b=φ b)∨∃c,b=c+h.length∧aY bs c∧join h φ ψ b=ψ c:=by
  intro b s
  by_cases hb:b<h.length
  ·exact .inl ⟨hb,(dx (lo hb)).1 s,w7 hb⟩
  ·refine .inr ⟨b- h.length,by omega,?_,?_⟩
   ·rw [show b=(b- h.length)+h.length by omega]at s
    exact JC.1 s
   ·rw [show b=(b- h.length)+h.length by omega,sx,Nat.add_sub_cancel]
 have T2:dU h.length W ⟨F,H,φ,h⟩ ⟨F',H',join h φ ψ,h++bs.map (ub h.length)⟩:={
  n0:=T.n0
  nx:=T.nx
  fz:=T.fz
  fo:=fun x hx _ hf=>fo x hx hf
  out:=fun x hx _=>same x hx
  loc:=fun b hb=>by
   rcases split b hb with⟨h1,h2,h3⟩|⟨c,rfl,h2,h3⟩
   ·exact .inr ⟨h2,h3⟩
   ·left;show _≤join h φ ψ _;rw [h3];exact new c h2
  len:=fun _=>by simp
  le:=fun b hb _ t ht=>(rL (lo hb)).2 ht
  uV:=fun b hb _ t _ ha=>⟨(rK (lo hb)).1 ha,w7 hb⟩
  vA:=fun b hb _ ha=>⟨(fC (lo hb)).1 ha,w7 hb⟩}
 refine ⟨⟨SB.wf,SB.fz,fun b b' s s' e=>?_,fun b z cs e hc=>?_,fun b es e=>?_⟩,T2⟩
 ·dsimp only at e
  rcases split b s with⟨h1,h2,h3⟩|⟨c,rfl,h2,h3⟩
  ·rcases split b' s' with⟨g1,g2,g3⟩|⟨c',rfl,g2,g3⟩
   ·rw [h3,g3]at e;exact S.inj _ _ h2 g2 e
   ·rw [h3,g3]at e
    have a1:φ b<H.nx:=S.lt h2
    have:=new c' g2
    omega
  ·rcases split b' s' with⟨g1,g2,g3⟩|⟨c',rfl,g2,g3⟩
   ·rw [h3,g3]at e
    have a1:φ b'<H.nx:=S.lt g2
    have:=new c h2
    omega
   ·rw [h3,g3]at e
    rw [SB.inj _ _ h2 g2 e]
 ·rcases split b (cn e hc)with⟨h1,h2,h3⟩|⟨c,rfl,h2,h3⟩
  ·have e':=e
   rw [show(h++bs.map (ub h.length))[b]?=_ from lo h1]at e'
   obtain ⟨vs,k1,k2,k3,k4⟩:=S.aX b z cs e' hc
   dsimp only
   rw [h3]
   exact ⟨vs,(same _ (S.lt h2)).trans k1,k2.step T2,T.n0▸k3,fun q=>k4 (fo _ (S.lt h2) q)⟩
  ·have e':=e
   rw [show(h++bs.map (ub h.length))[c+h.length]?=_ from qd c]at e'
   obtain ⟨P,hP,e2⟩:=asv.1 e'
   cases P with
   |cells z' dF=>
    cases e2
    obtain ⟨vs,k1,k2,k3,k4⟩:=SB.aX c _ dF hP (by rintro rfl;exact hc rfl)
    dsimp only
    rw [h3]
    exact ⟨vs,k1,oZ k2,k3,k4⟩
   |_=>cases e2
 ·rcases split b (e7 e)with⟨h1,h2,h3⟩|⟨c,rfl,h2,h3⟩
  ·have e':=e
   rw [show(h++bs.map (ub h.length))[b]?=_ from lo h1]at e'
   obtain ⟨ys,k1,k2,k3,k4,k5⟩:=S.yZ b es e'
   dsimp only
   rw [h3]
   exact ⟨ys,(same _ (S.lt h2)).trans k1,k2,k3.step T2,T.n0▸k4,fun q=>k5 (fo _ (S.lt h2) q)⟩
  ·have e':=e
   rw [show(h++bs.map (ub h.length))[c+h.length]?=_ from qd c]at e'
   obtain ⟨P,hP,e2⟩:=asv.1 e'
   cases P with
   |map es'=>
    cases e2
    obtain ⟨ys,k1,k2,k3,k4,k5⟩:=SB.yZ c es' hP
    dsimp only
    rw [h3]
    refine ⟨ys,k1,?_,?_,k4,k5⟩
    ·rw [←k2];simp [List.map_map,Function.comp_def]
    ·rw [De];exact oZ k3
   |_=>cases e2
theorem fP.pure {f:Nat} {args gC:List PV} {h:PH} (L:List Nat) {R:PV→PH→Prop} (k:fP E O f gC [] R) (hv:mf (· ∈L) id h [] args gC):
 E9 E O f args h (· ∈[]) (fun r h'=>∃r0 bs,R r0 bs∧r=sh h.length r0∧h'=bO h L++bs.map (ub h.length)):=by
 intro F H φ vs S Rv
 obtain ⟨S1,T1⟩:=vD S L
 have S0:=(iF.none (· ∈L) id h).ok S
 refine (k _ H _ vs S0 (hv.ok S Rv)).mono ?_
 rintro x H' ⟨r0,bs,F',ψ,hR,hr,SB,T⟩
 obtain ⟨SD,TD⟩:=Dg (W:=(· ∈[])) S1 SB T
 have hl:=gX L h
 rw [hl]at SD TD
 refine ⟨_,_,F',_,⟨r0,bs,hR,rfl,rfl⟩,?_,SD,(T1.trans TD (by exact asp _) (fun _ q=>q.elim) (fun _ q=>q))⟩
 have:=Df (φ:=φ) (h:=bO h L) hr
 rw [hl]at this
 exact this
mutual
def ox:PV→Bool
 | .v _=>true
 | .agg cs=>kb cs
 | .gA cs=>kb cs
 | .qS _ p=>ox p
 |_=>false
def kb:List PV→Bool
 |[]=>true
 |p::ps=>ox p&&kb ps
end
mutual
theorem uc {C D:Cx}:∀{p:PV} {x:Value},ox p=true→RV C p x→RV D p x
 |_,_,_,.v x=>.v x
 |_,_,k,.agg r=>.agg (nD (by simpa [ox]using k) r)
 |_,_,k,.gA r=>.gA (nD (by simpa [ox]using k) r)
 |_,_,k,.qS r=>.qS (uc (by simpa [ox]using k) r)
theorem nD {C D:Cx}:∀{p:List PV} {x:List Value},kb p=true→dq C p x→dq D p x
 |_,_,_,.nil=>.nil
 |_,_,k,.cons a b=>by
  simp only [kb,aso]at k
  exact .cons (uc k.1 a) (nD k.2 b)
end
theorem fP.flat {f:Nat} {args gC:List PV} {h:PH} {R:PV→PH→Prop} (k:fP E O f gC [] R) (hv:mf qw id h [] args gC) (hR:∀r bs,R r bs→ox r=true):
 E9 E O f args h (· ∈[]) (fun r h'=>(∃bs,R r bs)∧h'=h):=by
 intro F H φ vs S Rv
 have S0:=(iF.none qw id h).ok S
 refine (k _ H _ vs S0 (hv.ok S Rv)).mono ?_
 rintro x H' ⟨r,bs,F',ψ,FX,hr,SB,T⟩
 have Tv:∀{V:Nat→Prop} {x:Nat} {F:Nat→Prop} {φ:Nat→Nat},¬ im ⟨F,H,φ,[]⟩ V x:=by
  rintro V x F φ ⟨b,_,s,_⟩
  have:=aW s
  simp at this
 have same:∀x,x<H.nx→H'.get x=H.get x:=fun x hx=>T.out x hx Tv
 have T2:dU h.length (· ∈[]) ⟨F,H,φ,h⟩ ⟨F,H',φ,h⟩:={
  n0:=T.n0
  nx:=T.nx
  fz:=fun x hx=>⟨hx,same x (S.fz x hx)⟩
  fo:=fun _ _ _ h=>h
  out:=fun x hx _=>same x hx
  loc:=fun b hb=>.inr ⟨hb,rfl⟩
  len:=id
  le:=fun _ _ _ _ h=>h
  uV:=fun _ _ _ _ _ h=>⟨h,rfl⟩
  vA:=fun _ _ _ h=>⟨h,rfl⟩}
 have e:∀{P:PB},h[h.length]?≠some P:=by intro P;simp
 refine ⟨r,h,F,φ,⟨⟨bs,FX⟩,rfl⟩,uc (hR r bs FX) hr,S.of T2 rfl h.length (fun _ _=>⟨rfl,rfl⟩) (fun b _ s=>same _ (S.lt s)) (fun b _ s s2=>?_) (fun z cs e'=>absurd e' e) (fun es e'=>absurd e' e),T2⟩
 exact absurd (aW s2) (Nat.lt_irrefl _)
def kc (A:Nat→Prop) (σ:Nat→Nat) (h bs:PH):Nat→PH→Prop
 |_,[]=>True
 |i,P::l=>rP A σ h bs h[σ i]? P∧kc A σ h bs (i+1) l
@[simp]theorem Vw (A:Nat→Prop) (σ:Nat→Nat) (h bs:PH) (i:Nat):kc A σ h bs i []↔True:=Iff.rfl
@[simp]theorem Tw (A:Nat→Prop) (σ:Nat→Nat) (h bs:PH) (i:Nat) (P:PB) (l:PH):kc A σ h bs i (P::l)↔rP A σ h bs h[σ i]? P∧kc A σ h bs (i+1) l:=Iff.rfl
theorem kc.ok {A:Nat→Prop} {σ:Nat→Nat} {h bs:PH}:∀{l:PH} {i:Nat},kc A σ h bs i l→∀j P,l[j]?=some P→rP A σ h bs h[σ (i+j)]? P
 |[],i,_,j,P,e=>by simp at e
 |Q::l,i,k,0,P,e=>by simp at e;subst e;exact k.1
 |Q::l,i,k,j+1,P,e=>by
  have:=kc.ok k.2 j P (by simpa using e)
  rwa [show i+1+j=i+(j+1) by omega]at this
theorem iF.id' {h bs:PH} (k:kc (fun _=>False) id h bs 0 bs):iF (fun _=>False) id h bs:=
 ⟨fun i P e=>by simpa using k.ok i P e,fun i j _ _ _ _ e=>e,fun _ _ _ q=>q⟩
theorem iF.at {A:Nat→Prop} {h bs:PH} (L:List Nat) (hl:L.length=bs.length) (nd:L.Nodup) (hA:∀b∈L,¬ A b) (k:kc A (fun i=>L.getD i 0) h bs 0 bs):iF A (fun i=>L.getD i 0) h bs:=by
 refine ⟨fun i P e=>by simpa using k.ok i P e,fun i j hi hj _ _ e=> ?_,fun i hi _=>hA _ ?_⟩
 · rw [List.getD_eq_getElem?_getD,List.getD_eq_getElem?_getD,asl (by omega),asl (by omega)]at e
   have rS:i<L.length:=by omega
   have FJ:j<L.length:=by omega
   simp only [Option.getD_some]at e
   have key:∀(L:List Nat),L.Nodup→∀(i j:Nat) (hi:i<L.length) (hj:j<L.length),L[i]=L[j]→i=j:=by
    intro L
    induction L with
    |nil=>intro _ i j hi;simp at hi
    |cons x L ih=>
     intro nd i j hi hj e
     rw [List.nodup_cons]at nd
     cases i with
     |zero=>cases j with
      |zero=>rfl
      |succ j=>simp only [List.getElem_cons_zero,List.getElem_cons_succ]at e;exact absurd (e▸List.getElem_mem _) nd.1
     |succ i=>cases j with
      |zero=>simp only [List.getElem_cons_zero,List.getElem_cons_succ]at e;exact absurd (e▸List.getElem_mem _) nd.1
      |succ j=>
       simp only [List.getElem_cons_succ]at e
       rw [ih nd.2 i j (by simpa using hi) (by simpa using hj) e]
   exact key L nd i j rS FJ e
 · rw [List.getD_eq_getElem?_getD,asl (by omega)]
   exact List.getElem_mem _
@[simp]theorem P4 (A:Nat→Prop) (σ:Nat→Nat) (h bs:PH) (z z':Nat) (ps qs:List PV):rP A σ h bs (some (.cells z ps)) (.cells z' qs)↔qs=[]∨(z=z'∧mf A σ h bs ps qs):=by
 unfold rP
 constructor
 ·rintro (q|⟨ps',e,k⟩)
  ·exact .inl q
  ·cases e;exact .inr ⟨rfl,k⟩
 ·rintro (q|⟨rfl,k⟩)
  ·exact .inl q
  ·exact .inr ⟨_,rfl,k⟩
@[simp]theorem Tx (A:Nat→Prop) (σ:Nat→Nat) (h bs:PH) (o:Option PB):rP A σ h bs o .dead↔True:=Iff.rfl
@[simp]theorem Ty (A:Nat→Prop) (σ:Nat→Nat) (h bs:PH) (o:Option PB) (z:Nat):rP A σ h bs o (.cells z [])↔True:=⟨fun _=>trivial,fun _=>.inl rfl⟩
def KV:Option PB→Option PB→Prop
 |some (.cells _ cs),some (.cells _ dF)=>cs.length=dF.length
 |_,_=>False
@[simp]theorem alQ (z z':Nat) (cs dF:List PV):KV (some (.cells z cs)) (some (.cells z' dF))↔cs.length=dF.length:=Iff.rfl
theorem zd {h bs:PH} {A:Nat→Prop} {σ:Nat→Nat} (K:iF A σ h bs) {F:Nat→Prop} {H:AH} {φ:Nat→Nat} {C0:Cx} (h0:C0.h.length=0) (T:dU 0 qw C0 ⟨F,H,φ,h⟩):dU 0 qw C0 ⟨add F h φ A,H,fun i=>φ (σ i),bs⟩:=by
 have h0':C0.h=[]:=List.length_eq_zero_iff.1 h0
 have no:∀{b:Nat},¬ aY C0.h b:=fun s=>by have:=aW s;omega
 refine ⟨T.n0,T.nx,fun y hy=>⟨.inl (T.fz y hy).1,(T.fz y hy).2⟩,fun y hy hi hd=>?_,T.out,fun b hb=>?_,fun _=>Nat.zero_le _,fun b hb=>absurd hb (Nat.not_lt_zero _),fun b hb=>absurd hb (Nat.not_lt_zero _),fun b hb=>absurd hb (Nat.not_lt_zero _)⟩
 ·rcases hd with hd|⟨b,_,s,e⟩
  ·exact T.fo y hy hi hd
  ·rcases T.loc b s with q|⟨q,_⟩
   ·dsimp only at q;omega
   ·exact absurd q no
 ·rcases T.loc _ (K.aY hb)with q|⟨q,_⟩
  ·exact .inl q
  ·exact absurd q no
theorem ud {r r2:PV} {h bs:PH} (A:Nat→Prop) (σ:Nat→Nat) (K:iF A σ h bs) (V:Vg A σ h bs r r2):Db 0 r h r2 bs:=by
 intro F H φ x S R
 exact ⟨_,_,K.ok S,V F H φ x S R,fun C0 h0 T=>zd K h0 T⟩
theorem JE {n:Nat} {r r2:PV} {h bs:PH} (σ:Nat→Nat) (K:iF (fun _=>False) σ h bs) (V:Vg (fun _=>False) σ h bs r r2) (hn:n≤bs.length) (h1:∀b,b<n→σ b=b∧(da bs b=none∨da bs b=da h b)∧(c7 bs b→c7 h b)) (h2:∀b,n≤b→b<bs.length→n≤σ b) (h3:∀b,b<n→∀t,Le h b t→Le bs b t):Db n r h r2 bs:=by
 intro F H φ x S R
 refine ⟨_,_,K.ok S,V F H φ x S R,fun C0 h0 T=>?_⟩
 have tl:∀{h:PH} {b t:Nat},At h b t↔da h b=some t:=by
  intro h b t
  constructor
  ·rintro ⟨z,cs,e,rfl⟩;unfold da;rw [e]
  ·intro e;exact (lU e).2 rfl
 refine ⟨T.n0,T.nx,fun y hy=>⟨.inl (T.fz y hy).1,(T.fz y hy).2⟩,fun y hy hi hd=>?_,T.out,fun b hb=>?_,fun _=>hn,fun b hb hl t ht=>h3 b hb t (T.le b hb hl t ht),fun b hb hl t ht ha=>?_,fun b hb hl ha=>?_⟩
 ·rcases hd with hd|⟨b,q,_⟩
  ·exact T.fo y hy hi hd
  ·exact q.elim
 ·rcases T.loc _ (K.aY hb)with q|⟨q,e⟩
  ·exact .inl q
  ·by_cases Af:b<n
   ·rw [(h1 b Af).1]at q e
    exact .inr ⟨q,by dsimp only;rw [(h1 b Af).1];exact e⟩
   ·have:=h2 b (by omega) (aW hb)
    have:=aW q
    omega
 ·obtain ⟨a1,a2,_⟩:=h1 b hb
  rw [tl]at ha
  have e:da h b=some t:=by
   rcases a2 with a2|a2
   ·rw [a2]at ha;cases ha
   ·rw [←a2];exact ha
  obtain ⟨k1,k2⟩:=T.uV b hb hl t ht (tl.2 e)
  exact ⟨k1,by dsimp only at k2⊢;rw [a1];exact k2⟩
 ·obtain ⟨a1,_,a3⟩:=h1 b hb
  obtain ⟨k1,k2⟩:=T.vA b hb hl (a3 ha)
  exact ⟨k1,by dsimp only at k2⊢;rw [a1];exact k2⟩
def bX (h bs:PH) (b:Nat):Prop:=bs[b]?=some .dead∨KV h[b]? bs[b]?
theorem bQ {n:Nat} {r r2:PV} {h bs:PH} (L:List Nat) (hL:L.length+n=bs.length) (nd:L.Nodup) (Lh:∀b∈L,n≤b) (hs:∀b,b<n→bX h bs b) (K:kc (fun _=>False) (fun i=>if i<n then i else L.getD (i- n) 0) h bs 0 bs) (V:Vg (fun _=>False) (fun i=>if i<n then i else L.getD (i- n) 0) h bs r r2):Db n r h r2 bs:=by
 have getD:∀i,n≤i→i<bs.length→L[i- n]?=some (L.getD (i- n) 0):=fun i h1 h2=>by
  rw [List.getD_eq_getElem?_getD,asl (by omega)];rfl
 have KK:iF (fun _=>False) (fun i=>if i<n then i else L.getD (i- n) 0) h bs:=by
  refine ⟨fun i P e=>by simpa using K.ok i P e,fun i j hi hj _ _ e=> ?_,fun _ _ _ q=>q⟩
  by_cases h1:i<n
  · rw [if_pos h1]at e
    by_cases h2:j<n
    · rwa [if_pos h2]at e
    · rw [if_neg h2]at e
      have:=Lh _ (asq (getD j (by omega) hj))
      omega
  · rw [if_neg h1]at e
    by_cases h2:j<n
    · rw [if_pos h2]at e
      have:=Lh _ (asq (getD i (by omega) hi))
      omega
    · rw [if_neg h2]at e
      have a1:=getD i (by omega) hi
      have a2:=getD j (by omega) hj
      rw [e]at a1
      have key:∀(L:List Nat),L.Nodup→∀(i j b:Nat),L[i]?=some b→L[j]?=some b→i=j:=by
       intro L
       induction L with
       |nil=>intro _ i j b e;simp at e
       |cons x L ih=>
        intro nd i j b e e'
        rw [List.nodup_cons]at nd
        cases i with
        |zero=>cases j with
         |zero=>rfl
         |succ j=>simp at e e';subst e;exact absurd (asq e') nd.1
        |succ i=>cases j with
         |zero=>simp at e e';subst e';exact absurd (asq e) nd.1
         |succ j=>rw [ih nd.2 i j b (by simpa using e) (by simpa using e')]
      have:=key L nd _ _ _ a1 a2
      omega
 refine JE _ KK V (by omega) (fun b hb=>⟨if_pos hb, ?_, ?_⟩) (fun b h1 h2=> ?_) (fun b hb t ht=> ?_)
 · rcases hs b hb with q|q
   · left;unfold da;rw [q]
   · right
     unfold KV at q
     split at q
     · rename_i z cs z' dF e1 e2
       unfold da;rw [e1,e2];simp only [q]
     · exact q.elim
 · rintro ⟨es,e⟩
   rcases hs b hb with q|q
   · rw [q]at e;cases e
   · rw [e]at q;unfold KV at q;split at q
     · rename_i e2;cases e2
     · exact q.elim
 · rw [if_neg (by omega)]
   exact Lh _ (asq (getD b h1 h2))
 · intro z cs e
   rcases hs b hb with q|q
   · rw [q]at e;cases e
   · rw [e]at q
     unfold KV at q
     split at q
     · rename_i z1 cs1 z2 cs2 e1 e2
       cases e2
       have:=ht _ _ e1
       omega
     · exact q.elim
theorem JF {n:Nat} {r r2:PV} {h bs:PH} (K:iF (fun _=>False) id h bs) (V:Vg (fun _=>False) id h bs r r2) (hn:n≤bs.length) (hs:∀b,b<n→da bs b=da h b∧(c7 bs b→c7 h b)):Db n r h r2 bs:=by
 intro F H φ x S R
 refine ⟨_,_,K.ok S,V F H φ x S R,fun C0 h0 T=>?_⟩
 have tl:∀{h:PH} {b t:Nat},At h b t↔da h b=some t:=by
  intro h b t
  constructor
  ·rintro ⟨z,cs,e,rfl⟩;unfold da;rw [e]
  ·intro e;exact (lU e).2 rfl
 refine ⟨T.n0,T.nx,fun y hy=>⟨.inl (T.fz y hy).1,(T.fz y hy).2⟩,fun y hy hi hd=>?_,T.out,fun b hb=>T.loc b (K.aY hb),fun _=>hn,fun b hb hl t ht=>?_,fun b hb hl t ht ha=>?_,fun b hb hl ha=>T.vA b hb hl ((hs b hb).2 ha)⟩
 ·rcases hd with hd|⟨b,q,_⟩
  ·exact T.fo y hy hi hd
  ·exact q.elim
 ·intro z cs e
  have a1:da bs b=some cs.length:=by unfold da;rw [show bs[b]?=_ from e]
  have:=T.le b hb hl t ht
  exact (lV ((hs b hb).1▸a1)).1 this
 ·exact T.uV b hb hl t ht (tl.2 ((hs b hb).1▸tl.1 ha))
theorem NU {n m:Nat} {r:PV} {h:PH} (Sw:n≤m) (hm:m≤h.length) (K:kc (fun _=>False) id h (h.take m) 0 (h.take m)) (V:Vg (fun _=>False) id h (h.take m) r r):Db n r h r (h.take m):=by
 refine JF (iF.id' K) V (by simp;omega) fun b hb=>?_
 have e:(h.take m)[b]?=h[b]?:=by rw [List.getElem?_take,if_pos (by omega)]
 exact ⟨by unfold da;rw [e],fun q=>(fC e).1 q⟩
theorem GI {r r2:PV} {h:PH} (V:Vg qw id h [] r r2):Db 0 r h r2 []:=ud _ _ (iF.none _ _ _) V
theorem NV {sz b n:Nat} {h:PH} {cs qs:List PV} (hb:h[b]?=some (.cells sz cs)) (V:mf (· ≠b) (fun _=>b) h [.cells sz qs] cs qs):Db 0 (.sl sz b 0 n n) h (.sl sz 0 0 n n) [.cells sz qs]:=by
 have hl:=V.length
 have e1:da h b=some cs.length:=by unfold da;rw [hb]
 have e2:da [PB.cells sz qs] 0=some cs.length:=by unfold da;simp [hl]
 refine ud (· ≠b) (fun _=>b) ⟨fun i P e=>?_,fun i j hi hj _ _ _=>by simp at hi hj;omega,fun i hi s=>by simp⟩ (aa6 e1 e2 rfl)
 cases i with
 |zero=>simp at e;subst e;exact .inr ⟨cs,hb,V⟩
 |succ i=>simp at e
theorem NW (sz:Nat) (h:PH):Db 0 (.v (.slice none 0 0)) h (.sl sz 0 0 0 0) [.cells sz []]:=by
 refine ud (fun _=>False) id ⟨fun i P e=>?_,fun i j hi hj _ _ _=>by simp at hi hj;omega,fun i hi s=>by simp⟩ (Dd rfl)
 cases i with
 |zero=>simp at e;subst e;exact .inl rfl
 |succ i=>simp at e
def PF.uK:List (Nat×PV)→PF
 |[]=>⟨fun _=>.any⟩
 |(t,p)::l=>⟨fun a=>if a=t then p else(PF.uK l).g a⟩
@[simp]theorem acF (a:Nat):(PF.uK []).get a= .any:=rfl
@[simp]theorem ze (t a:Nat) (p:PV) (l:List (Nat×PV)):(PF.uK ((t,p)::l)).get a=if a=t then p else(PF.uK l).get a:=rfl
def qW (A:Nat→Prop) (σ:Nat→Nat) (h bs:PH) (fr:PF):List (Nat×PV)→Prop
 |[]=>True
 |(t,p)::l=>Vg A σ h bs (fr.get t) p∧qW A σ h bs fr l
@[simp]theorem Zv (A:Nat→Prop) (σ:Nat→Nat) (h bs:PH) (fr:PF):qW A σ h bs fr []↔True:=Iff.rfl
@[simp]theorem Vy (A:Nat→Prop) (σ:Nat→Nat) (h bs:PH) (fr:PF) (t:Nat) (p:PV) (l:List (Nat×PV)):qW A σ h bs fr ((t,p)::l)↔Vg A σ h bs (fr.get t) p∧qW A σ h bs fr l:=Iff.rfl
theorem qW.ok {A:Nat→Prop} {σ:Nat→Nat} {h bs:PH} {fr:PF}:∀{l:List (Nat×PV)},qW A σ h bs fr l→∀t,Vg A σ h bs (fr.get t) ((PF.uK l).get t)
 |[],_,t=>Jx _
 |(a,p)::l,k,t=>by
  rw [ze]
  split
  ·rename_i e;subst e;exact k.1
  ·exact qW.ok k.2 t
theorem Bf {fr:PF} {h h2:PH} (A:Nat→Prop) (σ:Nat→Nat) (l:List (Nat×PV)) (K:iF A σ h h2) (V:qW A σ h h2 fr l):Gh 0 fr h (PF.uK l) h2:=by
 intro F H φ af S R
 exact ⟨_,_,K.ok S,fun t=>V.ok t F H φ _ S (R t),fun C0 h0 T=>zd K h0 T⟩
end Go.Proofs.YtppcmpmnglaleaaGreatDoor.A.P
namespace Go.Proofs.YtppcmpmnglaleaaGreatDoor.A.P
open Go Go.RowKit
mutual
def qX:PV→Bool
 | .v _=>true
 | .fs _ _=>true
 | .fp _=>true
 | .agg cs=>dL cs
 | .gA cs=>dL cs
 | .fn _ a b=>dL a&&dL b
 | .qS _ p=>qX p
 |_=>false
def dL:List PV→Bool
 |[]=>true
 |p::ps=>qX p&&dL ps
end
attribute [simp] sh zY ox kb
@[simp]theorem alR (x:Value):qX (.v x)=true↔True:=⟨fun _=>trivial,fun _=>rfl⟩
@[simp]theorem aiy (sz:Nat) (rows:List (List PV)):qX (.fs sz rows)=true↔True:=⟨fun _=>trivial,fun _=>rfl⟩
@[simp]theorem acG (cs:List PV):qX (.agg cs)=true↔dL cs=true:=by rw [qX]
@[simp]theorem acH (cs:List PV):qX (.gA cs)=true↔dL cs=true:=by rw [qX]
@[simp]theorem acI (t:Nat) (p:PV):qX (.qS t p)=true↔qX p=true:=by rw [qX]
@[simp]theorem aiz:dL []=true↔True:=⟨fun _=>trivial,fun _=>rfl⟩
@[simp]theorem qY (p:PV) (ps:List PV):dL (p::ps)=true↔qX p=true∧dL ps=true:=by rw [dL,aso]
theorem mP:∀l:List PV,dL l=l.all qX
 |[]=>rfl
 |p::l=>by simp [dL,mP l]
theorem aj (a b:List PV):dL (a++b)=true↔dL a=true∧dL b=true:=by simp [mP]
theorem zf {p:PV} (hp:qX p=true):∀{l:List PV} {k:Nat},dL l=true→dL (l.set k p)=true
 |[],k,_=>rfl
 |q::l,0,h=>by rw [qY]at h;exact (qY _ _).2 ⟨hp,h.2⟩
 |q::l,k+1,h=>by rw [qY]at h;exact (qY _ _).2 ⟨h.1,zf hp h.2⟩
attribute [simp] zf
mutual
theorem Bg (k:Nat):∀{p:PV},qX p=true→sh k p=p
 | .v _,_=>rfl
 | .fs _ _,_=>rfl
 | .fp _,_=>rfl
 | .agg cs,h=>by rw [sh,jA k (by simpa using h)]
 | .gA cs,h=>by rw [sh,jA k (by simpa using h)]
 | .fn f a b,h=>by
  simp only [qX,aso]at h
  rw [sh,jA k h.1,jA k h.2]
 | .qS t p,h=>by rw [sh,Bg k (by simpa using h)]
theorem jA (k:Nat):∀{l:List PV},dL l=true→zY k l=l
 |[],_=>rfl
 |p::l,h=>by
  simp only [dL,aso]at h
  rw [zY,Bg k h.1,jA k h.2]
end
section
variable{A:Nat→Prop} {σ:Nat→Nat} {h bs:PH}
mutual
theorem ue:∀{p:PV},qX p=true→Vg A σ h bs p p
 | .v _,_=>(aiw _).2 trivial
 | .fs _ _,_=>(Jy _ _).2 trivial
 | .fp _,_=>(Zt _).2 trivial
 | .agg cs,h=>JA (jB (by simpa using h))
 | .gA cs,h=>Be (jB (by simpa using h))
 | .fn f a b,h=>by
  simp only [qX,aso]at h
  exact Zu (jB h.1) (jB h.2)
 | .qS t p,h=>Tt (ue (by simpa using h))
theorem jB:∀{l:List PV},dL l=true→mf A σ h bs l l
 |[],_=>trivial
 |p::l,h=>by
  simp only [dL,aso]at h
  exact ⟨ue h.1,jB h.2⟩
end
@[simp]theorem Zw {l:List PV} (k:dL l=true):mf A σ h bs l l↔True:=⟨fun _=>trivial,fun _=>jB k⟩
@[simp]theorem acJ {p:PV} (k:qX p=true):Vg A σ h bs p p↔True:=⟨fun _=>trivial,fun _=>ue k⟩
theorem Dh {b i:Nat} (k:KV h[b]? bs[i]?):∃T,da h b=some T∧da bs i=some T:=by
 unfold KV at k
 split at k
 ·rename_i z cs z' dF e1 e2
  exact ⟨cs.length,by unfold da;rw [e1],by unfold da;rw [e2,k]⟩
 ·exact k.elim
@[simp]theorem Tz {b i sz o n c:Nat} (hs:σ i=b) (k:KV h[b]? bs[i]?):Vg A σ h bs (.sl sz b o n c) (.sl sz i o n c)↔True:=⟨fun _=>trivial,fun _=>by
 obtain ⟨T,h1,h2⟩:=Dh k
 exact aa6 h1 h2 hs⟩
@[simp]theorem acK {b i o t:Nat} (hs:σ i=b) (k:KV h[b]? bs[i]?):Vg A σ h bs (.ref b o t) (.ref i o t)↔True:=⟨fun _=>trivial,fun _=>by
 obtain ⟨T,h1,h2⟩:=Dh k
 exact Tu h1 h2 hs⟩
def isVoid (bs:PH) (i:Nat):Bool:=match bs[i]? with
 |some (.cells _ [])=>true
 |_=>false
@[simp]theorem Zx {sz i:Nat} (k:isVoid bs i=true):Vg A σ h bs (.v (.slice none 0 0)) (.sl sz i 0 0 0)↔True:=⟨fun _=>trivial,fun _=>by
 unfold isVoid at k
 split at k
 ·rename_i z e;exact Dd e
 ·cases k⟩
@[simp]theorem acL (ps qs:List PV) (k:mf A σ h bs ps qs):Vg A σ h bs (.agg ps) (.agg qs)↔True:=⟨fun _=>trivial,fun _=>JA k⟩
@[simp]theorem acM (ps qs:List PV) (k:mf A σ h bs ps qs):Vg A σ h bs (.gA ps) (.gA qs)↔True:=⟨fun _=>trivial,fun _=>Be k⟩
def uf:PV→Bool
 | .v _=>true
 | .fs _ _=>true
 |_=>false
theorem TA {p:PV} (k:uf p=true):Vz A h p p:=by
 cases p<;>first
  |exact Tr _
  |exact Jv _ _
  |cases k
theorem kC:∀{l:List PV},l.all uf=true→Fa A h l l
 |[],_=>trivial
 |p::l,k=>by
  simp only [List.all_cons,aso]at k
  exact ⟨TA k.1,kC k.2⟩
theorem NX {p:PV} (k:uf p=true):qX p=true:=by cases p<;>first|rfl|cases k
theorem qe {l:List PV} (k:l.all uf=true):dL l=true:=by
 rw [mP,asB]at*
 exact fun p hp=>NX (k p hp)
end
section
variable{E:Env} {O:kj} {n:Nat} {Q:Ex→PF→PH→Prop} {ks:List Kp} {fr:PF} {h:PH} {m:Mp} {l:List AO} {d:Option Nat}
def Fz (E:Env) (O:kj) (f:Nat) (args:List PV) (r:PV):Prop:=fP E O f args [] (fun r' h'=>r'=r∧h'=[]∧qX r=true)
def Fo (E:Env) (O:kj) (f:Nat) (args:List PV) (sz k:Nat) (cs:List PV):Prop:=fP E O f args [] (fun r' h'=>r'= .sl sz 0 0 k k∧h'=[.cells sz cs]∧dL cs=true∧cs.length=k*sz)
def NY (res:List RS) (r:PV):Ex→PF→PH→Prop
 | .exit _,_,_=>False
 |_,fr,h=>(wZ.all fr h res).map mO=some r
@[simp]theorem aiA (res:List RS) (r:PV):NY res r .normal fr h=((wZ.all fr h res).map mO=some r):=rfl
@[simp]theorem aiB (res:List RS) (r:PV):NY res r .ret fr h=((wZ.all fr h res).map mO=some r):=rfl
theorem PK.P5 {Q Q':Ex→PF→PH→Prop} (hq:∀ex fr h,Q ex fr h→Q' ex fr h) {cf:Cf} {fr:PF} {h:PH} (k:PK E O n Q cf fr h):PK E O n Q' cf fr h:=by
 induction k with
 |skip _ ih=>exact .skip ih
 |ret _ ih=>exact .ret ih
 |exit _ ih=>exact .exit ih
 |bR _ ih=>exact .bR ih
 |bA _ ih=>exact .bA ih
 |seq _ ih=>exact .seq ih
 |block _ ih=>exact .block ih
 |cond e _ ih=>exact .cond e ih
 |loop I k _ g hI ih=>exact .loop I k ih g hI
 |NO _ ih=>exact .NO ih
 |y8 e _ ih=>exact .y8 e ih
 |C9 _ ih=>exact .C9 ih
 |Da _ ih=>exact .Da ih
 |op e _ ih=>exact .op e ih
 |Zi e w _ ih=>exact .Zi e w ih
 |Jp e w _ ih=>exact .Jp e w ih
 |call c _ ih=>exact .call c ih
 |callv e c _ ih=>exact .callv e c ih
 |NP q=>exact .NP (hq _ _ _ q)
 |dns _ ih=>exact .dns ih
 |dnb _ ih=>exact .dnb ih
 |Zj a b c=>exact .Zj a b c
 |des _ ih=>exact .des ih
 |Jq _ ih=>exact .Jq ih
 |NQ e _ ih=>exact .NQ e ih
 |del _ ih=>exact .del ih
 |NS _ ih=>exact .NS ih
theorem Fz.body {f:Nat} {F:AF} {args:List PV} {r:PV} (ho:O f=none) (he:E f=some F) (hl:args.length=F.np) (hr:qX r=true) (k:PK E O 0 (NY F.res r) (.code F.body []) (PF.of args) []):Fz E O f args r:=by
 refine fP.body ho he hl (PK.P5 ?_ k)
 intro ex fr h q
 have:∀ex,NY F.res r ex fr h→(∀i,ex≠ .exit i)→∃vs,wZ.all fr h F.res=some vs∧∃r2 h2,Db 0 (mO vs) h r2 h2∧r2=r∧h2=[]∧qX r=true:=by
  intro ex q hx
  have q':(wZ.all fr h F.res).map mO=some r:=by
   cases ex with
   |exit i=>exact absurd rfl (hx i)
   |normal=>exact q
   |ret=>exact q
  obtain ⟨vs,e,e2⟩:=asv.1 q'
  exact ⟨vs,e,r,[],by rw [e2];exact GI (ue hr),rfl,rfl,hr⟩
 cases ex with
 |exit i=>exact q
 |normal=>exact this _ q (fun i=>by simp)
 |ret=>exact this _ q (fun i=>by simp)
def vE (h:PH) (sz k:Nat) (cs:List PV):PV→Prop
 | .sl ij b o n' c=>ij=sz∧o=0∧n'=k∧c=k∧h[b]?=some (.cells sz cs)
 | .v (.slice none 0 0)=>k=0∧cs=[]
 |_=>False
def TB (res:List RS) (sz k:Nat) (cs:List PV):Ex→PF→PH→Prop
 | .exit _,_,_=>False
 |_,fr,h=>∃vs,wZ.all fr h res=some vs∧vE h sz k cs (mO vs)
@[simp]theorem aiC (res:List RS) (sz k:Nat) (cs:List PV):TB res sz k cs .normal fr h=∃vs,wZ.all fr h res=some vs∧vE h sz k cs (mO vs):=rfl
@[simp]theorem aiD (res:List RS) (sz k:Nat) (cs:List PV):TB res sz k cs .ret fr h=∃vs,wZ.all fr h res=some vs∧vE h sz k cs (mO vs):=rfl
theorem Fo.body {f:Nat} {F:AF} {args:List PV} {sz k:Nat} {cs:List PV} (ho:O f=none) (he:E f=some F) (hl:args.length=F.np) (hz:dL cs=true) (hc:cs.length=k*sz) (q:PK E O 0 (TB F.res sz k cs) (.code F.body []) (PF.of args) []):Fo E O f args sz k cs:=by
 refine fP.body ho he hl (PK.P5 ?_ q)
 intro ex fr h q
 have key:∀vs,vE h sz k cs (mO vs)→∃r2 h2,Db 0 (mO vs) h r2 h2∧r2= .sl sz 0 0 k k∧h2=[.cells sz cs]∧dL cs=true∧cs.length=k*sz:=by
  intro vs o
  refine ⟨_,_,?_,rfl,rfl,hz,hc⟩
  revert o
  generalize mO vs=p
  intro o
  unfold vE at o
  split at o
  ·obtain ⟨rfl,rfl,rfl,rfl,hb⟩:=o
   exact NV hb (jB hz)
  ·obtain ⟨rfl,rfl⟩:=o
   exact NW _ _
  ·exact o.elim
 cases ex with
 |exit i=>exact q
 |normal=>obtain ⟨vs,e,o⟩:=q;exact ⟨vs,e,key vs o⟩
 |ret=>obtain ⟨vs,e,o⟩:=q;exact ⟨vs,e,key vs o⟩
theorem Fz.call {f:Nat} {args gC:List PV} {r:PV} (k:Fz E O f gC r) (L:List Nat) (hv:mf (· ∈L) id h [] args gC):E9 E O f args h (· ∈[]) (fun r' h'=>r'=r∧h'=bO h L):=
 (fP.pure L k hv).mono (by
  rintro r' h' ⟨r0,bs,⟨rfl,rfl,hz⟩,rfl,rfl⟩
  exact ⟨Bg _ hz,by simp⟩)
theorem aN {f:Nat} {«as»:List X} {args:List PV} {r:PV} (k:Fz E O f args r) (ha:«as».map (gh fr)=args) (hz:dL args=true) (next:PK E O n Q (.ops (m.up [] (fr.aU d r) h) l ks) (fr.aU d r) h):PK E O n Q (.ops m (⟨none,d,.call f «as»⟩::l) ks) fr h:=
 j7 (W:=[]) ha ((k.call [] (jB hz)).mono (by rintro r' h' ⟨rfl,rfl⟩;exact next))
theorem ug {f:Nat} {«as»:List X} {args:List PV} {r:PV} (L:List Nat) (k:Fz E O f args r) (hv:mf (· ∈L) id h [] («as».map (gh fr)) args) (next:PK E O n Q (.ops (m.up [] (fr.aU d r) (bO h L)) l ks) (fr.aU d r) (bO h L)):PK E O n Q (.ops m (⟨none,d,.call f «as»⟩::l) ks) fr h:=
 j7 (W:=[]) rfl ((k.call L hv).mono (by rintro r' h' ⟨rfl,rfl⟩;exact next))
theorem qZ {f:Nat} {«as»:List X} {args:List PV} {r:PV} (k:Fz E O f args r) (hv:mf qw id h [] («as».map (gh fr)) args) (hf:ox r=true) (next:PK E O n Q (.ops (m.up [] (fr.aU d r) h) l ks) (fr.aU d r) h):PK E O n Q (.ops m (⟨none,d,.call f «as»⟩::l) ks) fr h:=
 j7 (W:=[]) rfl ((fP.flat k hv (by rintro r' bs ⟨rfl,_⟩;exact hf)).mono (by rintro r' h' ⟨⟨_,rfl,_⟩,rfl⟩;exact next))
theorem Fo.call {f:Nat} {args gC:List PV} {sz k:Nat} {cs:List PV} (q:Fo E O f gC sz k cs) (L:List Nat) (hv:mf (· ∈L) id h [] args gC):E9 E O f args h (· ∈[]) (fun r' h'=>r'= .sl sz h.length 0 k k∧h'=bO h L++[.cells sz cs]):=
 (fP.pure L q hv).mono (by
  rintro r' h' ⟨r0,bs,⟨rfl,rfl,hz,_⟩,rfl,rfl⟩
  exact ⟨by simp,by simp [ub,jA _ hz]⟩)
theorem qf {f:Nat} {«as»:List X} {args:List PV} {sz k:Nat} {cs:List PV} (q:Fo E O f args sz k cs) (ha:«as».map (gh fr)=args) (hz:dL args=true) (next:PK E O n Q (.ops (m.up [] (fr.aU d (.sl sz h.length 0 k k)) (h++[.cells sz cs])) l ks) (fr.aU d (.sl sz h.length 0 k k)) (h++[.cells sz cs])):PK E O n Q (.ops m (⟨none,d,.call f «as»⟩::l) ks) fr h:=
 j7 (W:=[]) ha ((q.call [] (jB hz)).mono (by rintro r' h' ⟨rfl,rfl⟩;exact next))
theorem TC {f:Nat} {«as»:List X} {args:List PV} {sz k:Nat} {cs:List PV} (L:List Nat) (q:Fo E O f args sz k cs) (hv:mf (· ∈L) id h [] («as».map (gh fr)) args) (next:PK E O n Q (.ops (m.up [] (fr.aU d (.sl sz h.length 0 k k)) (bO h L++[.cells sz cs])) l ks) (fr.aU d (.sl sz h.length 0 k k)) (bO h L++[.cells sz cs])):PK E O n Q (.ops m (⟨none,d,.call f «as»⟩::l) ks) fr h:=
 j7 (W:=[]) rfl ((q.call L hv).mono (by rintro r' h' ⟨rfl,rfl⟩;exact next))
end
@[simp]theorem aiE:IntKind.i64.wrap 0=0:=ai ⟨by omega,by omega⟩
@[simp]theorem aiF:IntKind.i64.wrap 1=1:=ai ⟨by omega,by omega⟩
abbrev pi (n:Int):PV:=.v (.int .i64 n)
abbrev pb (b:Bool):PV:=.v (.bool b)
abbrev ps (s:ByteArray):PV:=.v (.string s)
abbrev hZ:PV:=.v (.slice none 0 0)
def ir (l:List Int):List (List PV):=l.map fun n=>[pi n]
@[simp]theorem VA (l:List Int):(ir l).length=l.length:=by simp [ir]
theorem JG (l:List Int) (i:Nat):(ir l)[i]?=(l[i]?).map fun n=>[pi n]:=by simp [ir]
@[simp]theorem NZ (l:List Int):(ir l).flatten=l.map pi:=by
 induction l with
 |nil=>rfl
 |cons a l ih=>simp_all [ir]
abbrev iG (l:List Int):PV:=.fs 1 (ir l)
theorem nE {A:Nat→Prop} {h:PH} {sz b n:Nat} {rows:List (List PV)} (hA:A b) (hb:h[b]?=some (.cells sz rows.flatten)) (hz:0<sz) (hl:rows.length=n) (hr:∀r∈rows,r.length=sz) (hv:Fa A h rows.flatten rows.flatten):Vz A h (.sl sz b 0 n n) (.fs sz rows):=by
 have e:rows.flatten.length=n*sz:=by
  rw [←hl]
  clear hb hv hl
  induction rows with
  |nil=>simp
  |cons r rows ih=>
   have:=hr r (by simp)
   rw [List.flatten_cons,asu,ih (fun q hq=>hr q (by simp [hq])),List.length_cons,Nat.succ_mul]
   omega
 exact Dc hA hb (by rw [Nat.zero_add,e]) hz (asp _) (asp _) hl hr (by rw [Nat.zero_mul,List.drop_zero,←e,List.take_length];exact hv)
theorem Bh {A:Nat→Prop} {h:PH} {b:Nat} {l:List Int} (hA:A b) (hb:h[b]?=some (.cells 1 (l.map pi))):Vz A h (.sl 1 b 0 l.length l.length) (iG l):=
 nE hA (by rw [NZ];exact hb) Nat.one_pos (by simp) (by simp [ir]) (kC (by simp [uf]))
@[simp]theorem aiG {A:Nat→Prop} {σ:Nat→Nat} {h bs:PH} {b:Nat} {l:List Int} (hA:A b) (hb:h[b]?=some (.cells 1 (l.map pi))):Vg A σ h bs (.sl 1 b 0 l.length l.length) (.fs 1 (ir l))↔True:=⟨fun _=>trivial,fun _=>qV (Bh hA hb)⟩
attribute [simp] Zh pck Jg Th E8 NN y7 wX Tg Nq
attribute [simp] isVoid vE
end Go.Proofs.YtppcmpmnglaleaaGreatDoor.A.P
