/- Texts that stand one behind the other: Abs5. -/
import Derived.Test.YtppcmpmnglaleaaGreatDoorG4
import Derived.Laws.StructEq
set_option linter.unusedVariables false
set_option linter.unusedSimpArgs false
namespace Go.Proofs.YtppcmpmnglaleaaGreatDoor.A
open Go Go.RowKit
section
variable{P:Program} {w0 w:World} {φ:bl} {H:AH}
theorem CA {op:BinOp} {k:IntKind} {a b:Int} {v:Value} (h:eX op k a b=some v) (t:TypeId) (w:World):(binOp op t (.int k a) (.int k b)).run P w= .ok v w:=by
 cases op<;>simp only [eX]at h<;>first
  |(cases h;simp [binOp,Op.intArith,Op.intBits,Op.intCmp];done)
  |(split at h
    · cases h
    · rename_i hb
      cases h
      simp [binOp,Op.intDiv,hb])
  |cases h
theorem CB {op:BinOp} {x y v:Value} (h:bq op x y=some v) (t:TypeId) (w:World):(binOp op t x y).run P w= .ok v w:=by
 unfold bq at h
 split at h
 ·rename_i k a k' b
  unfold cd at h
  split at h
  ·split at h
   ·cases h
   ·rename_i hb;cases h;simp [binOp,Op.shift,hb]
  ·split at h
   ·cases h
   ·rename_i hb;cases h;simp [binOp,Op.shift,hb]
  ·split at h
   ·rename_i hk;subst hk;exact CA h t w
   ·cases h
 ·rename_i a b
  unfold sR at h
  split at h
  ·split at h
   ·cases h
   ·rename_i hb
    cases h
    have jW:a.size+b.size≤9223372036854775807:=by
     have:IntKind.i64.max=9223372036854775807:=rfl
     rw [this]at hb
     omega
    simp [binOp,run_string_add_sum w a b jW]
  ·cases h;simp [binOp,Op.stringOp,ByteArray.toList_eq]
  ·cases h;simp [binOp,Op.stringOp,ByteArray.toList_eq]
  ·cases h
 ·cases h
theorem AK {op:BinOp} {k:IntKind} {a b:Int} {v:Value} (h:eX op k a b=some v):flat v=true:=by
 cases op<;>simp only [eX]at h<;>first
  |(cases h;rfl)
  |(split at h
    · cases h
    · cases h;rfl)
  |cases h
theorem LB {op:BinOp} {x y x' y' v:Value} (h:bq op x y=some v) (hx:V φ x x') (hy:V φ y y'):x'=x∧y'=y∧flat v=true∧(∀c,x≠ .agg c)∧x≠ .nilIface:=by
 unfold bq at h
 split at h
 ·rename_i k a k' b
  refine ⟨hx.int,hy.int,?_,by simp,by simp⟩
  unfold cd at h
  split at h
  ·split at h
   ·cases h
   ·cases h;rfl
  ·split at h
   ·cases h
   ·cases h;rfl
  ·split at h
   ·exact AK h
   ·cases h
 ·rename_i a b
  refine ⟨hx.string,hy.string,?_,by simp,by simp⟩
  unfold sR at h
  split at h
  ·split at h
   ·cases h
   ·cases h;rfl
  ·cases h;rfl
  ·cases h;rfl
  ·cases h
 ·cases h
theorem rV {op:BinOp} {t:TypeId} {x y:Operand} {a b:Value} (ha:∀c,a≠ .agg c) (hn:a≠ .nilIface) (w:World):(eqGuard op t x y a b).run P w= .ok () w:=by
 unfold eqGuard
 cases a<;>first
  |exact absurd rfl hn
  |exact absurd rfl (ha _)
  |rfl
  |(simp;done)
  |(simp;split<;>rfl)
theorem LC {op:BinOp} {x y x' y' v:Value} (R:Rel w0 φ H w) (h:bq op x y=some v) (hx:V φ x x') (hy:V φ y y') (t:TypeId) (xo yo:Operand) {r:Result Next}
 (e:r=((do eqGuard op t xo yo x' y';binOp op t x' y':Sem Value).run P w).andThen fun v w=>.ok (.value v) w):ff w0 φ H w (.v v) H r:=by
 obtain ⟨rfl,rfl,hf,h1,h2⟩:=LB h hx hy
 refine .pure R (.same hf) ?_
 rw [e,Sem.run_bind,rV h1 h2 w]
 simp only [Result.andThen_ok]
 rw [CB h t w]
 rfl
theorem GW (d:Nat) {k:Nat} {x y x' y':Value} {b:Bool} {t:TypeId} (hk:pW P t=some k) (h:fv k x y=some b) (hx:V φ x x') (hy:V φ y y') (w:World):
 (Op.equalIn (d+1) t x' y').run P w= .ok b w:=by
 unfold pW at hk
 cases hu:P.underlying t with
 |none=>simp [hu]at hk
 |some ds=>
  cases ds<;>simp [hu]at hk<;>subst hk<;>simp only [Op.equalIn,Sem.run_bind,run_underlying hu,Result.andThen_ok]
  case bool=>
   cases hx<;>cases hy<;>first
    |(simp [fv]at h;done)
    |skip
   cases x<;>first
    |(simp [fv]at h;done)
    |skip
   cases y<;>first
    |(simp [fv]at h;done)
    |skip
   simp [fv]at h
   subst h
   rfl
  case pointer e=>
   cases hx with
   |same hv=>
    cases x<;>first
     |(simp [fv]at h;done)
     |skip
    rename_i a
    cases a with
    |some a=>simp [flat]at hv
    |none=>
     cases hy with
     |same AL=>
      cases y<;>first
       |(simp [fv]at h;done)
       |skip
      simp [fv]at h;subst h;rfl
     |ptr _=>simp [fv]at h;subst h;rfl
     |_=>simp [fv]at h
   |ptr _=>
    cases hy with
    |same AL=>
     cases y<;>first
      |(simp [fv]at h;done)
      |skip
     rename_i c
     cases c<;>simp [fv]at h
     subst h;rfl
    |_=>simp [fv]at h
   |_=>simp [fv]at h
  case slice e=>
   cases hx with
   |same hv=>
    cases x<;>first
     |(simp [fv]at h;done)
     |skip
    rename_i a _ _
    cases a with
    |some a=>simp [flat]at hv
    |none=>
     cases hy with
     |same AL=>
      cases y<;>first
       |(simp [fv]at h;done)
       |skip
      simp [fv]at h;subst h;rfl
     |sl _ _ _ _=>simp [fv]at h;subst h;rfl
     |dead=>simp [fv]at h;subst h;rfl
     |_=>simp [fv]at h
   |sl _ _ _ _=>
    cases hy with
    |same AL=>
     cases y<;>first
      |(simp [fv]at h;done)
      |skip
     rename_i c _ _
     cases c<;>simp [fv]at h
     subst h;rfl
    |_=>simp [fv]at h
   |dead=>
    cases hy with
    |same AL=>
     cases y<;>first
      |(simp [fv]at h;done)
      |skip
     rename_i c _ _
     cases c<;>simp [fv]at h
     subst h;rfl
    |_=>simp [fv]at h
   |_=>simp [fv]at h
  case func p q r=>
   cases hx with
   |same hv=>
    cases x<;>first
     |(simp [fv]at h;done)
     |skip
    ·simp [flat]at hv
    ·cases hy with
     |same AL=>
      cases y<;>first
       |(simp [fv]at h;done)
       |skip
      simp [fv]at h;subst h;rfl
     |_=>simp [fv]at h
   |fn _ _=>
    cases hy with
    |same AL=>
     cases y<;>first
      |(simp [fv]at h;done)
      |skip
     simp [fv]at h;subst h;rfl
    |_=>simp [fv]at h
   |_=>simp [fv]at h
  case map kt e=>
   cases hx with
   |same hv=>
    cases x<;>first
     |(simp [fv]at h;done)
     |skip
    rename_i a
    cases a with
    |some a=>simp [flat]at hv
    |none=>
     cases hy with
     |same AL=>
      cases y<;>first
       |(simp [fv]at h;done)
       |skip
      simp [fv]at h;subst h;rfl
     |mp _=>simp [fv]at h;subst h;rfl
     |_=>simp [fv]at h
   |mp _=>
    cases hy with
    |same AL=>
     cases y<;>first
      |(simp [fv]at h;done)
      |skip
     rename_i c
     cases c<;>simp [fv]at h
     subst h;rfl
    |_=>simp [fv]at h
   |_=>simp [fv]at h
theorem CC {k:Nat} {x y x':Value} {b:Bool} (h:fv k x y=some b) (hx:V φ x x'):
 (∀c,x'≠ .agg c)∧x'≠ .nilIface∧∀(t:TypeId) (y':Value) (w:World),(binOp .eql t x' y').run P w=((Op.equal t x' y').run P w).andThen (fun b w=>.ok (.bool b) w)∧(binOp .neq t x' y').run P w=((Op.equal t x' y').run P w).andThen (fun b w=>.ok (.bool (!b)) w):=by
 cases hx with
 |same hv=>
  cases x<;>first
   |(rcases k with _|_|_|_|_|k<;>simp [fv]at h;done)
   |exact ⟨by simp,by simp,fun t y' w=>⟨by simp [binOp],by simp [binOp]⟩⟩
 |ptr _=>exact ⟨by simp,by simp,fun t y' w=>⟨by simp [binOp],by simp [binOp]⟩⟩
 |sl _ _ _ _=>exact ⟨by simp,by simp,fun t y' w=>⟨by simp [binOp],by simp [binOp]⟩⟩
 |dead=>exact ⟨by simp,by simp,fun t y' w=>⟨by simp [binOp],by simp [binOp]⟩⟩
 |mp _=>exact ⟨by simp,by simp,fun t y' w=>⟨by simp [binOp],by simp [binOp]⟩⟩
 |fn _ _=>exact ⟨by simp,by simp,fun t y' w=>⟨by simp [binOp],by simp [binOp]⟩⟩
 |_=>rcases k with _|_|_|_|_|k<;>simp [fv]at h
theorem LD {k:Nat} {neg:Bool} {x y x' y':Value} {b:Bool} {t:TypeId} (R:Rel w0 φ H w) (hk:pW P t=some k) (h:fv k x y=some b) (hx:V φ x x') (hy:V φ y y') (xo yo:Operand) {r:Result Next} {op:BinOp} (pr:op=bif neg then .neq else .eql)
 (e:r=((do eqGuard op t xo yo x' y';binOp op t x' y':Sem Value).run P w).andThen fun v w=>.ok (.value v) w):ff w0 φ H w (.v (.bool (bif neg then !b else b))) H r:=by
 have h1:=GW (P:=P) 9999 hk h hx hy w
 obtain ⟨h2,h3,h4⟩:=CC (P:=P) h hx
 refine .pure R (.same rfl) ?_
 rw [e,Sem.run_bind,rV h2 h3 w]
 simp only [Result.andThen_ok]
 have Gv:(Op.equal t x' y').run P w= .ok b w:=h1
 subst pr
 cases neg
 ·show((binOp .eql t x' y').run P w).andThen _=_
  rw [(h4 t y' w).1,Gv]
  rfl
 ·show((binOp .neq t x' y').run P w).andThen _=_
  rw [(h4 t y' w).2,Gv]
  rfl
end
end Go.Proofs.YtppcmpmnglaleaaGreatDoor.A
