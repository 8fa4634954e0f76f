/- Texts that stand one behind the other: Abs5. -/
import Derived.Test.YtediokhgklkhnaaG4
import Derived.Laws.StructEq
set_option linter.unusedVariables false
set_option linter.unusedSimpArgs false
namespace Go.Proofs.Ytediokhgklkhnaa.A
open Go Go.RowKit
section
variable{P:Program} {w0 w:World} {φ:aF} {H:AH}
theorem re {op:BinOp} {k:IntKind} {a b:Int} {v:Value} (h:fD op k a b=some v) (t:TypeId) (w:World):(binOp op t (.int k a) (.int k b)).run P w= .ok v w:=by
 cases op<;>simp only [fD]at h<;>first
  |(cases h;simp [binOp,Op.intArith,Op.intBits,Op.intCmp];done)
  |(split at h
    · cases h
    · rename_i c
      cases h
      simp [binOp,Op.intDiv,c])
  |cases h
theorem rf {op:BinOp} {x y v:Value} (h:ba op x y=some v) (t:TypeId) (w:World):(binOp op t x y).run P w= .ok v w:=by
 unfold ba at h;split at h
 ·rename_i k a f b
  unfold cg at h;split at h
  ·split at h
   ·cases h
   ·rename_i c;cases h;simp [binOp,Op.shift,c]
  ·split at h
   ·cases h
   ·rename_i c;cases h;simp [binOp,Op.shift,c]
  ·split at h
   ·rename_i d;subst d;exact re h t w
   ·cases h
 ·rename_i a b
  unfold ng at h;split at h
  ·split at h
   ·cases h
   ·rename_i c
    cases h
    have e:a.size+b.size≤9223372036854775807:=by
     have:IntKind.i64.max=9223372036854775807:=rfl;rw [this]at c;omega
    simp [binOp,run_string_add_sum w a b e]
  ·cases h;simp [binOp,Op.stringOp,ByteArray.toList_eq]
  ·cases h;simp [binOp,Op.stringOp,ByteArray.toList_eq]
  ·cases h
 ·cases h
theorem qa {op:BinOp} {k:IntKind} {a b:Int} {v:Value} (h:fD op k a b=some v):flat v=true:=by
 cases op<;>simp only [fD]at h<;>first
  |(cases h;rfl)
  |(split at h
    · cases h
    · cases h;rfl)
  |cases h
theorem xF {op:BinOp} {x y x' d v:Value} (h:ba op x y=some v) (f:V φ x x') (e:V φ y d):x'=x∧d=y∧flat v=true∧(∀c,x≠ .agg c)∧x≠ .nilIface:=by
 unfold ba at h;split at h
 ·rename_i k a g b
  refine ⟨f.int,e.int,?_,by simp,by simp⟩;unfold cg at h;split at h
  ·split at h
   ·cases h
   ·cases h;rfl
  ·split at h
   ·cases h
   ·cases h;rfl
  ·split at h
   ·exact qa h
   ·cases h
 ·rename_i a b
  refine ⟨f.string,e.string,?_,by simp,by simp⟩;unfold ng at h;split at h
  ·split at h
   ·cases h
   ·cases h;rfl
  ·cases h;rfl
  ·cases h;rfl
  ·cases h
 ·cases h
theorem kj {op:BinOp} {t:TypeId} {x y:Operand} {a b:Value} (e:∀c,a≠ .agg c) (d:a≠ .nilIface) (w:World):(eqGuard op t x y a b).run P w= .ok () w:=by
 unfold eqGuard
 cases a<;>first
  |exact absurd rfl d
  |exact absurd rfl (e _)
  |rfl
  |(simp;done)
  |(simp;split<;>rfl)
theorem xG {op:BinOp} {x y x' a v:Value} (R:Rel w0 φ H w) (h:ba op x y=some v) (f:V φ x x') (d:V φ y a) (t:TypeId) (c b:Operand) {r:Result Next}
 (e:r=((do eqGuard op t c b x' a;binOp op t x' a:Sem Value).run P w).andThen fun v w=>.ok (.value v) w):cw w0 φ H w (.v v) H r:=by
 obtain ⟨rfl,rfl,g,i,h2⟩:=xF h f d;refine .pure R (.same g) ?_;rw [e,Sem.run_bind,kj i h2 w];simp only [Result.andThen_ok];rw [rf h t w];rfl
theorem ui (d:Nat) {k:Nat} {x y x' n:Value} {b:Bool} {t:TypeId} (l:jg P t=some k) (h:cH k x y=some b) (j:V φ x x') (f:V φ y n) (w:World):
 (Op.equalIn (d+1) t x' n).run P w= .ok b w:=by
 unfold jg at l
 cases m:P.underlying t with
 |none=>simp [m]at l
 |some o=>
  cases o<;>simp [m]at l<;>subst l<;>simp only [Op.equalIn,Sem.run_bind,run_underlying m,Result.andThen_ok]
  case bool=>
   cases j<;>cases f<;>first
    |(simp [cH]at h;done)
    |skip
   cases x<;>first
    |(simp [cH]at h;done)
    |skip
   cases y<;>first
    |(simp [cH]at h;done)
    |skip
   simp [cH]at h;subst h;rfl
  case pointer e=>
   cases j with
   |same i=>
    cases x<;>first
     |(simp [cH]at h;done)
     |skip
    rename_i a
    cases a with
    |some a=>simp [flat]at i
    |none=>
     cases f with
     |same g=>
      cases y<;>first
       |(simp [cH]at h;done)
       |skip
      simp [cH]at h;subst h;rfl
     |ptr _=>simp [cH]at h;subst h;rfl
     |_=>simp [cH]at h
   |ptr _=>
    cases f with
    |same g=>
     cases y<;>first
      |(simp [cH]at h;done)
      |skip
     rename_i c;cases c<;>simp [cH]at h;subst h;rfl
    |_=>simp [cH]at h
   |_=>simp [cH]at h
  case slice e=>
   cases j with
   |same i=>
    cases x<;>first
     |(simp [cH]at h;done)
     |skip
    rename_i a _ _
    cases a with
    |some a=>simp [flat]at i
    |none=>
     cases f with
     |same g=>
      cases y<;>first
       |(simp [cH]at h;done)
       |skip
      simp [cH]at h;subst h;rfl
     |sl _ _ _ _=>simp [cH]at h;subst h;rfl
     |dead=>simp [cH]at h;subst h;rfl
     |_=>simp [cH]at h
   |sl _ _ _ _=>
    cases f with
    |same g=>
     cases y<;>first
      |(simp [cH]at h;done)
      |skip
     rename_i c _ _;cases c<;>simp [cH]at h;subst h;rfl
    |_=>simp [cH]at h
   |dead=>
    cases f with
    |same g=>
     cases y<;>first
      |(simp [cH]at h;done)
      |skip
     rename_i c _ _;cases c<;>simp [cH]at h;subst h;rfl
    |_=>simp [cH]at h
   |_=>simp [cH]at h
  case func p q r=>
   cases j with
   |same i=>
    cases x<;>first
     |(simp [cH]at h;done)
     |skip
    ·simp [flat]at i
    ·cases f with
     |same g=>
      cases y<;>first
       |(simp [cH]at h;done)
       |skip
      simp [cH]at h;subst h;rfl
     |_=>simp [cH]at h
   |fn _ _=>
    cases f with
    |same g=>
     cases y<;>first
      |(simp [cH]at h;done)
      |skip
     simp [cH]at h;subst h;rfl
    |_=>simp [cH]at h
   |_=>simp [cH]at h
  case map kt e=>
   cases j with
   |same i=>
    cases x<;>first
     |(simp [cH]at h;done)
     |skip
    rename_i a
    cases a with
    |some a=>simp [flat]at i
    |none=>
     cases f with
     |same g=>
      cases y<;>first
       |(simp [cH]at h;done)
       |skip
      simp [cH]at h;subst h;rfl
     |mp _=>simp [cH]at h;subst h;rfl
     |_=>simp [cH]at h
   |mp _=>
    cases f with
    |same g=>
     cases y<;>first
      |(simp [cH]at h;done)
      |skip
     rename_i c;cases c<;>simp [cH]at h;subst h;rfl
    |_=>simp [cH]at h
   |_=>simp [cH]at h
theorem rh {k:Nat} {x y x':Value} {b:Bool} (h:cH k x y=some b) (d:V φ x x'):
 (∀c,x'≠ .agg c)∧x'≠ .nilIface∧∀(t:TypeId) (a:Value) (w:World),(binOp .eql t x' a).run P w=((Op.equal t x' a).run P w).andThen (fun b w=>.ok (.bool b) w)∧(binOp .neq t x' a).run P w=((Op.equal t x' a).run P w).andThen (fun b w=>.ok (.bool (!b)) w):=by
 cases d with
 |same e=>
  cases x<;>first
   |(rcases k with _|_|_|_|_|k<;>simp [cH]at h;done)
   |exact ⟨by simp,by simp,fun t a w=>⟨by simp [binOp],by simp [binOp]⟩⟩
 |ptr _=>exact ⟨by simp,by simp,fun t a w=>⟨by simp [binOp],by simp [binOp]⟩⟩
 |sl _ _ _ _=>exact ⟨by simp,by simp,fun t a w=>⟨by simp [binOp],by simp [binOp]⟩⟩
 |dead=>exact ⟨by simp,by simp,fun t a w=>⟨by simp [binOp],by simp [binOp]⟩⟩
 |mp _=>exact ⟨by simp,by simp,fun t a w=>⟨by simp [binOp],by simp [binOp]⟩⟩
 |fn _ _=>exact ⟨by simp,by simp,fun t a w=>⟨by simp [binOp],by simp [binOp]⟩⟩
 |_=>rcases k with _|_|_|_|_|k<;>simp [cH]at h
theorem xH {k:Nat} {neg:Bool} {x y x' a:Value} {b:Bool} {t:TypeId} (R:Rel w0 φ H w) (m:jg P t=some k) (h:cH k x y=some b) (c:V φ x x') (j:V φ y a) (i g:Operand) {r:Result Next} {op:BinOp} (l:op=bif neg then .neq else .eql)
 (e:r=((do eqGuard op t i g x' a;binOp op t x' a:Sem Value).run P w).andThen fun v w=>.ok (.value v) w):cw w0 φ H w (.v (.bool (bif neg then !b else b))) H r:=by
 have o:=ui (P:=P) 9999 m h c j w;obtain ⟨h2,n,d⟩:=rh (P:=P) h c;refine .pure R (.same rfl) ?_;rw [e,Sem.run_bind,kj h2 n w];simp only [Result.andThen_ok];have f:(Op.equal t x' a).run P w= .ok b w:=o;subst l;cases neg
 ·show((binOp .eql t x' a).run P w).andThen _=_
  rw [(d t a w).1,f];rfl
 ·show((binOp .neq t x' a).run P w).andThen _=_
  rw [(d t a w).2,f];rfl
end
end Go.Proofs.Ytediokhgklkhnaa.A
