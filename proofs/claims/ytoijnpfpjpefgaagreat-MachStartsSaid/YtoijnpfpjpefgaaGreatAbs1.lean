/- From the loaded program's code to the deterministic machine's code. -/
import Derived.Test.YtoijnpfpjpefgaaGreatAbs0
set_option linter.unusedVariables false
set_option linter.unusedSimpArgs false
namespace Go.Proofs.YtoijnpfpjpefgaaGreat.A
open Go

section
variable (P : Program)
def cX : Operand → Option X
  | .tmp t => some (.t t)
  | .const v => if flat2 v then some (.k v) else none
  | .func f => some (.f f)
  | .global _ => none
def cXs : List Operand → Option (List X)
  | [] => some []
  | x :: l => match cX x, cXs l with | some y, some m => some (y :: m) | _, _ => none
def cXo : Option Operand → Option (Option X)
  | none => some none
  | some x => (cX x).map some
def tsize (t : TypeId) : Option Nat := (P.info? t).map (·.size)
def tzero (t : TypeId) : Option (List Value) := (P.info? t).bind fun i => i.zero.bind fun v => let l := v.cells.toList; if l.all flat && l.length == i.size then some l else none
def tagg (t : TypeId) : Option Bool := match P.underlying t with | some (.struct _) => some true | some (.array _ _) => some true | some _ => some false | none => none
def cParts (place : Nat → Option (Nat × Nat)) : List (Nat × Operand) → Option (List (Nat × Nat × X))
  | [] => some []
  | (i, x) :: l => match place i, cX x, cParts place l with | some (o, n), some y, some m => some ((o, n, y) :: m) | _, _, _ => none
def keyKind (t : TypeId) : Option Nat := match P.underlying t with | some (.int _) => some 0 | some .string => some 1 | some .bool => some 2 | _ => none
def eqKind (t : TypeId) : Option Nat := match P.underlying t with
  | some .bool => some 0 | some (.pointer _) => some 1 | some (.slice _) => some 2 | some (.func _ _ _) => some 3 | some (.map _ _) => some 4 | _ => none
def cCall (c : Call) : Option AOp :=
  match c.callee with
  | .value (.func f) => (cXs c.args.toList).map fun as => .call f as
  | .value x => match cX x, cXs c.args.toList with | some y, some as => some (.callv y as) | _, _ => none
  | .invoke _ _ => none
  | .builtin b => match b, c.args.toList, c.argTypes.toList with
    | .len, [x], t :: _ => match P.underlying t, cX x with
      | some .string, some y => some (.lens y)
      | some (.slice _), some y => some (.lenl y)
      | some (.array n _), some _ => some (.mv (.k (goInt n)))
      | _, _ => none
    | .append, [s, x], [t, u] => match P.underlying t, P.underlying u, cX s, cX x with
      | some (.slice e), some (.slice _), some y, some z | some (.slice e), some .string, some y, some z => match P.info? e with
        | some i => if i.size = 0 ∨ i.bytes = 0 ∨ (tzero P e).isNone then none else some (.app i.size i.bytes y z)
        | none => none
      | _, _, _, _ => none
    | .copy, [s, x], [t, _] => match P.underlying t, cX s, cX x with
      | some (.slice e), some y, some z => (tsize P e).map fun n => .copy n y z
      | _, _, _ => none
    | .max, x :: l, _ => match cX x, cXs l with | some a, some b => some (.mxl a b) | _, _ => none
    | .min, x :: l, _ => match cX x, cXs l with | some a, some b => some (.mnl a b) | _, _ => none
    | _, _, _ => none
def sameOperand : Operand → Operand → Bool
  | .tmp a, .tmp b => a == b
  | .const (.int k a), .const (.int k' b) => k == k' && a == b
  | _, _ => false
def cOp (o : Oper) : Option AOp :=
  match o.op with
  | .move x | .assign x => (cX x).map .mv
  | .pick c a b => match cX c, cX a, cX b with | some x, some y, some z => some (.pick x y z) | _, _, _ => none
  | .alloc e => (tzero P e).map .alloc
  | .box _ x => (cX x).map .box
  | .build t ps => match P.underlying t, tzero P t with
    | some (.struct fs), some z => match fs.toList.mapM (fun f => (P.info? f.type).map fun i => (f.offset, i.size)) with | some pl => (cParts (fun i => pl[i]?) ps.toList).map fun l => .build z l | none => none
    | some (.array _ e), some z => match tsize P e with | some n => (cParts (fun i => some (i * n, n)) ps.toList).map fun l => .build z l | none => none
    | _, _ => none
  | .buildSlice t len ps => match P.underlying t with
    | some (.slice e) => match tsize P e, tzero P e with
      | some n, some z => if len * n > 2 ^ 24 ∨ n = 0 then none else (cParts (fun i => some (i * n, n)) ps.toList).map fun l => .bsl len n (List.replicate len z).flatten l
      | _, _ => none
    | _ => none
  | .load t a => match tagg P t, cX a with
    | some true, some x => (tsize P t).map fun n => .ldn n x
    | some false, some x => some (.ld x)
    | _, _ => none
  | .store t a v => match cX a, cX v with | some x, some y => (tsize P t).map fun n => .st n x y | _, _ => none
  | .nilCheck x => (cX x).map .nilc
  | .binOp op t x y _ => match cX x, cX y with
    | some a, some b => match P.underlying t with
      | some (.int _) | some .string => some (.bin op a b)
      | some (.struct fs) => if (fs.toList.all fun f => f.name != "_" && (keyKind P f.type).isSome) && !P.stoodInHeld t && !P.eqGuardType P.depth t then
          (match op with
          | .eql => some (.eqs false (fs.toList.map fun f => (f.offset, (keyKind P f.type).getD 9)) a b)
          | .neq => some (.eqs true (fs.toList.map fun f => (f.offset, (keyKind P f.type).getD 9)) a b)
          | _ => none) else none
      | _ => match eqKind P t, op with
        | some k, .eql => some (.eqk k false a b)
        | some k, .neq => some (.eqk k true a b)
        | _, _ => none
    | _, _ => none
  | .unOp op _ x => (cX x).map (.un op)
  | .convert src dst x => match P.underlying src, P.underlying dst, cX x with
    | some (.int _), some (.int k), some y => some (.cvi k y)
    | some (.int _), some .string, some y => some (.cvs y)
    | _, _, _ => none
  | .makeFunc (.func f) first cap => match cXs first.toList, cXs cap.toList with | some a, some b => some (.mkf f a b) | _, _ => none
  | .makeMap _ none => some .mkmap
  | .makeSlice t l c => match P.underlying t with
    | some (.slice e) => match P.info? e, tzero P e, cX l with
      | some i, some z, some x => if sameOperand l c ∧ i.size ≠ 0 ∧ i.bytes ≠ 0 then some (.mksl i.size i.bytes z x) else none
      | _, _, _ => none
    | _ => none
  | .slice t x lo hi mx => match cX x, cXo lo, cXo hi, cXo mx with
    | some a, some b, some c, some d => match P.underlying t with
      | some .string => some (.sl 0 a b c d)
      | some (.slice e) => match tsize P e with | some n => if n = 0 then none else some (.sl n a b c d) | none => none
      | _ => none
    | _, _, _, _ => none
  | .fieldAddr s x f => match P.underlying s, cX x with
    | some (.struct fs), some y => match fs[f]? with
      | some g => match tsize P g.type with | some n => if n = 0 then none else some (.fa g.offset y) | none => none
      | none => none
    | _, _ => none
  | .indexAddr t x i => match P.underlying t, cX x, cX i with
    | some (.slice e), some a, some b => (tsize P e).map fun n => .ia n a b
    | some (.array len e), some a, some b => (tsize P e).map fun n => .iaa len n a b
    | _, _, _ => none
  | .index t x i => match P.underlying t, cX x, cX i with
    | some .string, some a, some b => some (.ix a b)
    | _, _, _ => none
  | .lookup t x k ok => match P.underlying t, cX x, cX k with
    | some (.map kt e), some a, some b => match (P.info? e).bind (·.zero) with
      | some z => match keyKind P kt with | some kk => if flat2 z then some (.look kk z a b ok) else none | none => none
      | none => none
    | _, _, _ => none
  | .mapUpdate t m k x | .insert t m k x => match P.underlying t, cX m, cX k, cX x with
    | some (.map kt _), some a, some b, some c => (keyKind P kt).map fun kk => .mup kk a b c
    | _, _, _, _ => none
  | .makeInterface t x => match P.underlying t, cX x with
    | some (.interface _), _ => none
    | some _, some y => some (.mki t y)
    | _, _ => none
  | .extract x i => (cX x).map fun y => .ext y i
  | .call c => cCall P c
  | _ => none

/-- What an operation may be in a region that draws its order. -/
inductive Knd where
  | pure | load | alloc | eff | read | st
  deriving DecidableEq
def knd : AOp → Knd
  | .ld _ | .ldn _ _ => .load
  | .alloc _ | .box _ | .bsl _ _ _ _ | .mkmap | .mksl _ _ _ _ => .alloc
  | .st _ _ _ => .st
  | .mup _ _ _ _ | .call _ _ | .callv _ _ | .app _ _ _ _ | .copy _ _ _ => .eff
  | .look _ _ _ _ _ | .sl _ _ (some _) _ _ => .read
  | _ => .pure
def cGuard (ops : Array Oper) : Option (Nat × Bool) → Option (Option (Nat × Bool))
  | none => some none
  | some (j, b) => match (ops[j]?).bind (·.dst) with | some t => some (some (t, b)) | none => none
def dstOk (nt : Nat) : Option Nat → Bool
  | some d => decide (d < nt)
  | none => true
def cAO (nt : Nat) (ops : Array Oper) (o : Oper) : Option AO :=
  match cOp P o, cGuard ops o.guard with
  | some a, some g => bif dstOk nt o.dst then some ⟨g, o.dst, a⟩ else none
  | _, _ => none
def cAOs (nt : Nat) (ops : Array Oper) : List Oper → Option (List AO)
  | [] => some []
  | o :: l => match cAO P nt ops o, cAOs nt ops l with | some a, some m => some (a :: m) | _, _ => none
def force {α : Type} (n : Nat) (k : Nat → α) : α := match n with
  | 0 => k 0
  | m + 1 => k (m + 1)
theorem force_eq {α : Type} (n : Nat) (k : Nat → α) : force n k = k n := by cases n <;> rfl
def memN (n : Nat) : List Nat → Bool
  | [] => false
  | x :: l => Nat.beq x n || memN n l
def Knd.floats : Knd → Bool
  | .eff | .st => false
  | _ => true
/-- May the second stand ahead of the first, no edge between them? -/
def mayFloat : Knd → Knd → Bool
  | .read, .eff => false
  | k, .eff => k.floats
  | .st, .st => true
  | .st, _ => false
  | .eff, _ => false
  | _, _ => true
def X.tmp : X → Option Nat
  | .t n => some n
  | _ => none
def tmpsOf (o : AO) : List Nat := (match o.g with | some (t, _) => [t] | none => []) ++ o.o.xs.filterMap X.tmp
def apartM (x y : AO) : Bool := match x.d with
  | some d => !memN d (tmpsOf y) && (match y.d with | some e => !Nat.beq e d | none => true)
  | none => true
def dps (o : Oper) : List Nat := o.after.toList.filterMap fun e => bif Region.binds .any e then some e.on else none
def firstR (fl : Bool) (L : Nat) : Nat → List (Knd × List Nat) → Option Nat
  | _, [] => none
  | i, (k, d) :: l => bif !L.testBit i && k.floats == fl && d.all (fun e => L.testBit e) then some i else firstR fl L (i + 1) l
/-- The order that the machine keeps: what may stand anywhere as early as it can. -/
def greedy (tb : List (Knd × List Nat)) : Nat → Nat → List Nat
  | 0, _ => []
  | f + 1, L => match firstR true L 0 tb with
    | some i => i :: force (L ||| 1 <<< i) (greedy tb f)
    | none => match firstR false L 0 tb with
      | some i => i :: force (L ||| 1 <<< i) (greedy tb f)
      | none => []
structure Row where
  o : AO
  k : Knd
  j : Nat
  dep : List Nat
  m : Nat
def lookM (e : Nat) : List (Nat × Nat) → Nat
  | [] => 0
  | (j, m) :: l => bif Nat.beq j e then m else lookM e l
def maskOf (am : List (Nat × Nat)) : List Nat → Nat
  | [] => 0
  | e :: l => maskOf am l ||| (1 <<< e ||| lookM e am)
def rowsK {α : Type} (l : List AO) (dp : List (List Nat)) : List Nat → List (Nat × Nat) → (List Row → α) → α
  | [], _, k => k []
  | j :: r, am, k => match nth l j, nth dp j with
    | some o, some d => force (maskOf am d) fun m => rowsK l dp r ((j, m) :: am) fun rs => k (⟨o, knd o.o, j, d, m⟩ :: rs)
    | _, _ => k []
def linOk : List Row → List Nat → Bool
  | [], _ => true
  | y :: l, done => !memN y.j done && y.dep.all (fun e => memN e done) && linOk l (y.j :: done)
def pairB (x y : Row) : Bool := y.m.testBit x.j || (apartM x.o y.o && apartM y.o x.o && mayFloat x.k y.k)
def pw : List Row → Bool
  | [] => true
  | x :: l => l.all (pairB x) && pw l
def con1 (p q : Nat) (x y : Row) : List (Nat × Nat × Nat) :=
  bif y.m.testBit x.j then [] else match x.k, y.k with
    | .load, .eff => [(0, p, q)]
    | .alloc, .eff => [(1, p, q)]
    | .load, .st | .read, .st | .st, .st => [(2, p, q)]
    | _, _ => []
def conRow (p : Nat) (x : Row) : Nat → List Row → List (Nat × Nat × Nat)
  | _, [] => []
  | q, y :: l => con1 p q x y ++ conRow p x (q + 1) l
def consD : Nat → List Row → List (Nat × Nat × Nat)
  | _, [] => []
  | p, x :: l => conRow p x (p + 1) l ++ consD (p + 1) l
def upTo : Nat → List Nat
  | 0 => []
  | n + 1 => n :: upTo n
def xok : X → Bool
  | .k v => flat2 v
  | _ => true
def rowsOk (n : Nat) (rs : List Row) : Bool := rs.all (fun r => r.o.o.xs.all xok) && Nat.beq rs.length n && (upTo n).all (fun i => memN i (rs.map (·.j))) && linOk rs [] && pw rs
def cDraw (l : List AO) (dp : List (List Nat)) : Option AC :=
  rowsK l dp (greedy ((l.map fun o => knd o.o).zip dp) l.length 0) [] fun rs => bif rowsOk l.length rs then some (.regd (rs.map (·.o)) (consD 0 rs)) else none
def cCode (nt : Nat) : Code → Option AC
  | .skip => some .skip
  | .region _ ops false => (cAOs P nt ops ops.toList).map .reg
  | .region _ ops true => match cAOs P nt ops ops.toList with
    | some l => cDraw l (ops.toList.map dps)
    | none => none
  | .seq a b => match cCode nt a, cCode nt b with | some x, some y => some (.seq x y) | _, _ => none
  | .cond c a b => match cX c, cCode nt a, cCode nt b with | some z, some x, some y => some (.cond z x y) | _, _, _ => none
  | .block i a => (cCode nt a).map (.block i)
  | .loop a => (cCode nt a).map .loop
  | .exit i => some (.exit i)
  | .ret => some .ret
  | _ => none
def cRes : List ResultVar → Option (List RS)
  | [] => some []
  | .tmp t :: l => (cRes l).map fun m => .tmp t :: m
  | .cell t ty :: l => match tagg P ty, tsize P ty, cRes l with
    | some true, some n, some m => some (.cells t n :: m)
    | some false, some n, some m => some (.cell t n :: m)
    | _, _, _ => none
def cFunc (fn : Func) : Option AF :=
  match fn.body with
  | some c => match cCode P fn.ntmps c, cRes P fn.results.toList with
    | some x, some r => if fn.name == "runtime.NumGoroutine" || decide (fn.ntmps < fn.params.size + fn.nfree) then none else some ⟨fn.params.size + fn.nfree, fn.ntmps, r, x⟩
    | _, _ => none
  | none => none
end
end Go.Proofs.YtoijnpfpjpefgaaGreat.A
