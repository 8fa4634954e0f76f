/- The calculus once more, for one run of simp: one rule for each kind of operation, ways side by side. -/
import Derived.Test.YtoijnpfpjpefgaaGreatAbsO
set_option linter.unusedVariables false
set_option linter.unusedSimpArgs false
namespace Go.Proofs.YtoijnpfpjpefgaaGreat.A
open Go
section
variable {E : Env} {O : Orc} {ks : List Ko} {fr : Fr} {H : AH} {Q : Ex → Fr → AH → Prop}
/-- A region: plain, or one that draws its order (with the states so far, the last first). -/
inductive Md where
  | pl
  | dr (l0 : List AO) (ck : List (Nat × Nat × Nat)) (acc : List (Fr × AH))
def Md.up : Md → Fr → AH → Md
  | .pl, _, _ => .pl
  | .dr l0 ck acc, fr, H => .dr l0 ck ((fr, H) :: acc)
@[simp] theorem up_pl : Md.up .pl fr H = .pl := rfl
@[simp] theorem up_dr (l0 : List AO) (ck : List (Nat × Nat × Nat)) (acc : List (Fr × AH)) : Md.up (.dr l0 ck acc) fr H = .dr l0 ck ((fr, H) :: acc) := rfl
def Vx (E : Env) (O : Orc) (m : Md) (l : List AO) (ks : List Ko) (fr : Fr) (H : AH) (Q : Ex → Fr → AH → Prop) : Prop := match m with
  | .pl => Wr E O l ks fr H Q
  | .dr l0 ck acc => Wd E O l0 ck acc l ks fr H Q
def Vk (E : Env) (O : Orc) (c : AC) (ks : List Ko) (fr : Fr) (H : AH) (Q : Ex → Fr → AH → Prop) : Prop := Wk E O c ks fr H Q
def Vn (E : Env) (O : Orc) (ex : Ex) (ks : List Ko) (fr : Fr) (H : AH) (Q : Ex → Fr → AH → Prop) : Prop := Un E O ex ks fr H Q
@[simp] theorem Vn_nil (ex : Ex) : Vn E O ex [] fr H Q = Q ex fr H := Un_nil _
@[simp] theorem Vn_ns (b : AC) : Vn E O .normal (.seq b :: ks) fr H Q = Vk E O b ks fr H Q := rfl
@[simp] theorem Vn_nb (i : Nat) : Vn E O .normal (.blk i :: ks) fr H Q = Vn E O .normal ks fr H Q := rfl
@[simp] theorem Vn_es (j : Nat) (b : AC) : Vn E O (.exit j) (.seq b :: ks) fr H Q = Vn E O (.exit j) ks fr H Q := rfl
@[simp] theorem Vn_eb1 (i : Nat) : Vn E O (.exit i) (.blk i :: ks) fr H Q = Vn E O .normal ks fr H Q := Un_eb1 _
@[simp] theorem Vn_eb0 (i j : Nat) (h : j ≠ i) : Vn E O (.exit j) (.blk i :: ks) fr H Q = Vn E O (.exit j) ks fr H Q := Un_eb0 _ _ h
@[simp] theorem Vn_r (k : Ko) : Vn E O .ret (k :: ks) fr H Q = Vn E O .ret ks fr H Q := Un_r _
@[simp] theorem Vk_skip : Vk E O .skip ks fr H Q ↔ Vn E O .normal ks fr H Q := Wk_skip
@[simp] theorem Vk_ret : Vk E O .ret ks fr H Q ↔ Vn E O .ret ks fr H Q := Wk_ret
@[simp] theorem Vk_exit (i : Nat) : Vk E O (.exit i) ks fr H Q ↔ Vn E O (.exit i) ks fr H Q := Wk_exit _
@[simp] theorem Vk_reg (l : List AO) : Vk E O (.reg l) ks fr H Q ↔ Vx E O .pl l ks fr H Q := Wk_reg _
@[simp] theorem Vk_seq (a b : AC) : Vk E O (.seq a b) ks fr H Q ↔ Vk E O a (.seq b :: ks) fr H Q := Wk_seq _ _
@[simp] theorem Vk_block (i : Nat) (a : AC) : Vk E O (.block i a) ks fr H Q ↔ Vk E O a (.blk i :: ks) fr H Q := Wk_block _ _
theorem Vk_c {x : X} {a b : AC} : Vk E O (.cond x a b) ks fr H Q ↔ isBl (x.ev fr) = true ∧ br (wantV true (x.ev fr) = true) (Vk E O a ks fr H Q) (Vk E O b ks fr H Q) := Wk_c
theorem opsT_last {call : Cl} : ∀ {l : List AO} {fr : Fr} {H : AH} {ss : List (Fr × AH)}, opsT call l fr H = some ss → ops call l fr H = some (lastS (fr, H) ss)
  | [], fr, H, ss, h => by simp only [opsT, Option.some.injEq] at h; subst h; rfl
  | o :: l, fr, H, ss, h => by
    simp only [opsT] at h
    simp only [ops]
    cases h1 : aone call o fr H with
    | none => simp [h1] at h
    | some r =>
      obtain ⟨fr1, H1⟩ := r
      simp only [h1] at h ⊢
      cases h2 : opsT call l fr1 H1 with
      | none => simp [h2] at h
      | some ss' =>
        simp only [h2, Option.some.injEq] at h
        subst h
        rw [opsT_last h2]
        rfl
@[simp] theorem Vk_regd (l : List AO) (ck : List (Nat × Nat × Nat)) : Vk E O (.regd l ck) ks fr H Q ↔ Vx E O (.dr l ck [(fr, H)]) l ks fr H Q := by
  refine ⟨?_, fun h => Wk_regd _ _ h⟩
  rintro ⟨n, ex, fr', H', e, q⟩
  cases n with
  | zero => simp [codeR] at e
  | succ n =>
    simp only [codeR, opsD] at e
    cases h1 : opsT (runF E O (n + 1)) l fr H with
    | none => simp [h1] at e
    | some ss =>
      simp only [h1] at e
      cases h2 : chain ((fr, H) :: ss) && ck.all (chk1 l ((fr, H) :: ss)) with
      | false => simp [h2] at e
      | true =>
        simp only [h2, cond_true, Option.some.injEq, Prod.mk.injEq] at e
        obtain ⟨rfl, rfl, rfl⟩ := e
        refine ⟨n + 1, ss, h1, ?_, q⟩
        unfold okD
        simpa using h2
@[simp] theorem Vx_nil : Vx E O .pl [] ks fr H Q ↔ Vn E O .normal ks fr H Q := Wr_nil
@[simp] theorem Vx_nild {l0 : List AO} {ck : List (Nat × Nat × Nat)} {acc : List (Fr × AH)} : Vx E O (.dr l0 ck acc) [] ks fr H Q ↔ okD l0 ck acc = true ∧ Vn E O .normal ks fr H Q := Wd_nil
theorem Vx_g {m : Md} (t : Nat) (b : Bool) (d : Option Nat) (p : AOp) (l : List AO) : Vx E O m (⟨some (t, b), d, p⟩ :: l) ks fr H Q ↔
    br (wantV b (fr.get t) = true) (Vx E O m (⟨none, d, p⟩ :: l) ks fr H Q) (Vx E O (m.up (fr.putO d undef) H) l ks (fr.putO d undef) H Q) := by
  cases m
  · exact Wr_g _ _ _ _ _
  · exact Wd_g _ _ _ _ _
/-- A condition that is looked at: the two ways stay closed till it is known. -/
def CV (E : Env) (O : Orc) (v : Value) (a b : AC) (ks : List Ko) (fr : Fr) (H : AH) (Q : Ex → Fr → AH → Prop) : Prop :=
  isBl v = true ∧ br (wantV true v = true) (Vk E O a ks fr H Q) (Vk E O b ks fr H Q)
@[simp] theorem Vk_cv {x : X} {a b : AC} : Vk E O (.cond x a b) ks fr H Q ↔ CV E O (x.ev fr) a b ks fr H Q := Vk_c
variable {a b : AC}
@[simp] theorem CV_T : CV E O (.bool true) a b ks fr H Q ↔ Vk E O a ks fr H Q := by simp [CV]
@[simp] theorem CV_F : CV E O (.bool false) a b ks fr H Q ↔ Vk E O b ks fr H Q := by simp [CV]
@[simp] theorem CV_d (c : Prop) [Decidable c] : CV E O (.bool (decide c)) a b ks fr H Q ↔ br c (Vk E O a ks fr H Q) (Vk E O b ks fr H Q) := by simp [CV]
@[simp] theorem CV_n (c : Bool) : CV E O (.bool (!c)) a b ks fr H Q ↔ CV E O (.bool c) b a ks fr H Q := by cases c <;> simp
def GV (E : Env) (O : Orc) (v : Value) (b : Bool) (m : Md) (d : Option Nat) (p : AOp) (l : List AO) (ks : List Ko) (fr : Fr) (H : AH) (Q : Ex → Fr → AH → Prop) : Prop :=
  br (wantV b v = true) (Vx E O m (⟨none, d, p⟩ :: l) ks fr H Q) (Vx E O (m.up (fr.putO d undef) H) l ks (fr.putO d undef) H Q)
@[simp] theorem Vx_gv {m : Md} (t : Nat) (b : Bool) (d : Option Nat) (p : AOp) (l : List AO) : Vx E O m (⟨some (t, b), d, p⟩ :: l) ks fr H Q ↔ GV E O (fr.get t) b m d p l ks fr H Q := Vx_g _ _ _ _ _
section
variable {m : Md} {d : Option Nat} {p : AOp} {l : List AO}
@[simp] theorem GV_TT : GV E O (.bool true) true m d p l ks fr H Q ↔ Vx E O m (⟨none, d, p⟩ :: l) ks fr H Q := by simp [GV]
@[simp] theorem GV_FF : GV E O (.bool false) false m d p l ks fr H Q ↔ Vx E O m (⟨none, d, p⟩ :: l) ks fr H Q := by simp [GV]
@[simp] theorem GV_TF : GV E O (.bool true) false m d p l ks fr H Q ↔ Vx E O (m.up (fr.putO d undef) H) l ks (fr.putO d undef) H Q := by simp [GV]
@[simp] theorem GV_FT : GV E O (.bool false) true m d p l ks fr H Q ↔ Vx E O (m.up (fr.putO d undef) H) l ks (fr.putO d undef) H Q := by simp [GV]
@[simp] theorem GV_U (b : Bool) : GV E O undef b m d p l ks fr H Q ↔ Vx E O (m.up (fr.putO d undef) H) l ks (fr.putO d undef) H Q := by simp [GV]
@[simp] theorem GV_dT (c : Prop) [Decidable c] : GV E O (.bool (decide c)) true m d p l ks fr H Q ↔ br c (Vx E O m (⟨none, d, p⟩ :: l) ks fr H Q) (Vx E O (m.up (fr.putO d undef) H) l ks (fr.putO d undef) H Q) := by simp [GV]
@[simp] theorem GV_dF (c : Prop) [Decidable c] : GV E O (.bool (decide c)) false m d p l ks fr H Q ↔ br c (Vx E O (m.up (fr.putO d undef) H) l ks (fr.putO d undef) H Q) (Vx E O m (⟨none, d, p⟩ :: l) ks fr H Q) := by
  by_cases h : c <;> simp [h]
@[simp] theorem GV_nT (c : Bool) : GV E O (.bool (!c)) true m d p l ks fr H Q ↔ GV E O (.bool c) false m d p l ks fr H Q := by cases c <;> simp
@[simp] theorem GV_nF (c : Bool) : GV E O (.bool (!c)) false m d p l ks fr H Q ↔ GV E O (.bool c) true m d p l ks fr H Q := by cases c <;> simp
end
theorem CV_b (c : Bool) : CV E O (.bool c) a b ks fr H Q ↔ br (c = true) (Vk E O a ks fr H Q) (Vk E O b ks fr H Q) := by simp [CV]
@[simp] theorem CV_strEq (x y : ByteArray) : CV E O (.bool (strEq x y)) a b ks fr H Q ↔ br (strEq x y = true) (Vk E O a ks fr H Q) (Vk E O b ks fr H Q) := CV_b _
theorem GV_bT (c : Bool) {m : Md} {d : Option Nat} {p : AOp} {l : List AO} : GV E O (.bool c) true m d p l ks fr H Q ↔ br (c = true) (Vx E O m (⟨none, d, p⟩ :: l) ks fr H Q) (Vx E O (m.up (fr.putO d undef) H) l ks (fr.putO d undef) H Q) := by simp [GV]
theorem GV_bF (c : Bool) {m : Md} {d : Option Nat} {p : AOp} {l : List AO} : GV E O (.bool c) false m d p l ks fr H Q ↔ br (c = true) (Vx E O (m.up (fr.putO d undef) H) l ks (fr.putO d undef) H Q) (Vx E O m (⟨none, d, p⟩ :: l) ks fr H Q) := by cases c <;> simp
@[simp] theorem GV_strEqT (x y : ByteArray) {m : Md} {d : Option Nat} {p : AOp} {l : List AO} : GV E O (.bool (strEq x y)) true m d p l ks fr H Q ↔ br (strEq x y = true) (Vx E O m (⟨none, d, p⟩ :: l) ks fr H Q) (Vx E O (m.up (fr.putO d undef) H) l ks (fr.putO d undef) H Q) := GV_bT _
@[simp] theorem GV_strEqF (x y : ByteArray) {m : Md} {d : Option Nat} {p : AOp} {l : List AO} : GV E O (.bool (strEq x y)) false m d p l ks fr H Q ↔ br (strEq x y = true) (Vx E O (m.up (fr.putO d undef) H) l ks (fr.putO d undef) H Q) (Vx E O m (⟨none, d, p⟩ :: l) ks fr H Q) := GV_bF _
theorem Vx_o {m : Md} (d : Nat) (p : AOp) (l : List AO) (h : p.isCall = false) : Vx E O m (⟨none, some d, p⟩ :: l) ks fr H Q ↔
    isV (aop p (X.ev fr) H) = true ∧ Vx E O (m.up (fr.put d (valOf (aop p (X.ev fr) H))) (heapOf H (aop p (X.ev fr) H))) l ks (fr.put d (valOf (aop p (X.ev fr) H))) (heapOf H (aop p (X.ev fr) H)) Q := by
  cases m
  · exact Wr_o _ _ _ h
  · exact Wd_o _ _ _ h
theorem Vx_s {m : Md} (p : AOp) (l : List AO) (h : p.isCall = false) : Vx E O m (⟨none, none, p⟩ :: l) ks fr H Q ↔
    isV (aop p (X.ev fr) H) = true ∧ Vx E O (m.up fr (heapOf H (aop p (X.ev fr) H))) l ks fr (heapOf H (aop p (X.ev fr) H)) Q := by
  cases m
  · exact Wr_s _ _ h
  · exact Wd_s _ _ h
theorem Vx_val {m : Md} {d : Nat} {p : AOp} {l : List AO} (h : p.isCall = false) {r : Option Value} (e : aop p (X.ev fr) H = r.map fun v => (.v v, H)) : Vx E O m (⟨none, some d, p⟩ :: l) ks fr H Q ↔
    r.isSome = true ∧ Vx E O (m.up (fr.put d (r.getD undef)) H) l ks (fr.put d (r.getD undef)) H Q := by
  rw [Vx_o _ _ _ h, e]
  cases r <;> simp [isV]
/-! ### What values give -/
def pickV : Value → Value → Value → Option Value
  | .bool t, a, b => some (bif t then a else b)
  | _, _, _ => none
@[simp] theorem pickV_b (t : Bool) (a b : Value) : pickV (.bool t) a b = some (bif t then a else b) := rfl
def ldV (H : AH) : Value → Option Value
  | .pointer (some a) => H.ld a
  | _ => none
@[simp] theorem ldV_p (a : Addr) : ldV H (.pointer (some a)) = H.ld a := rfl
def ldnV (n : Nat) (H : AH) : Value → Option Value
  | .pointer (some a) => (H.ldn a n).map fun l => .agg l.toArray
  | _ => none
@[simp] theorem ldnV_p (n : Nat) (a : Addr) : ldnV n H (.pointer (some a)) = (H.ldn a n).map fun l => .agg l.toArray := rfl
def stV (n : Nat) (H : AH) : Value → Value → Option AH
  | .pointer (some a), v => bif Nat.beq (vcells v).length n && !isTup v then H.st a (vcells v) else none
  | _, _ => none
@[simp] theorem stV_p (n : Nat) (a : Addr) (v : Value) : stV n H (.pointer (some a)) v = if (vcells v).length = n ∧ isTup v = false then H.st a (vcells v) else none := by
  unfold stV
  simp only [nb, Bool.cond_eq_ite, Bool.and_eq_true, decide_eq_true_eq, Bool.not_eq_true']
@[simp] theorem vcells_int (k : IntKind) (n : Int) : vcells (.int k n) = [.int k n] := rfl
@[simp] theorem vcells_bool (b : Bool) : vcells (.bool b) = [.bool b] := rfl
@[simp] theorem vcells_string (b : ByteArray) : vcells (.string b) = [.string b] := rfl
@[simp] theorem vcells_slice (a : Option Addr) (n c : Nat) : vcells (.slice a n c) = [.slice a n c] := rfl
@[simp] theorem vcells_pointer (a : Option Addr) : vcells (.pointer a) = [.pointer a] := rfl
@[simp] theorem vcells_map (a : Option Nat) : vcells (.map a) = [.map a] := rfl
@[simp] theorem vcells_func (f : Fn) (a b : Array Value) : vcells (.func f a b) = [.func f a b] := rfl
@[simp] theorem vcells_nilFunc : vcells .nilFunc = [.nilFunc] := rfl
@[simp] theorem isTup_int (k : IntKind) (n : Int) : isTup (.int k n) = false := rfl
@[simp] theorem isTup_bool (b : Bool) : isTup (.bool b) = false := rfl
@[simp] theorem isTup_string (b : ByteArray) : isTup (.string b) = false := rfl
@[simp] theorem isTup_slice (a : Option Addr) (n c : Nat) : isTup (.slice a n c) = false := rfl
@[simp] theorem isTup_pointer (a : Option Addr) : isTup (.pointer a) = false := rfl
@[simp] theorem isTup_map (a : Option Nat) : isTup (.map a) = false := rfl
@[simp] theorem isTup_func (f : Fn) (a b : Array Value) : isTup (.func f a b) = false := rfl
@[simp] theorem isTup_nilFunc : isTup .nilFunc = false := rfl
def nilcV : Value → Option Value
  | .pointer (some a) => some (.pointer (some a))
  | _ => none
@[simp] theorem nilcV_p (a : Addr) : nilcV (.pointer (some a)) = some (.pointer (some a)) := rfl
def cviV (k : IntKind) : Value → Option Value
  | .int _ n => some (.int k (k.wrap n))
  | _ => none
@[simp] theorem cviV_i (k k' : IntKind) (n : Int) : cviV k (.int k' n) = some (.int k (k.wrap n)) := rfl
def cvsV : Value → Option Value
  | .int _ n => some (.string (Utf8.encode n))
  | _ => none
@[simp] theorem cvsV_i (k' : IntKind) (n : Int) : cvsV (.int k' n) = some (.string (Utf8.encode n)) := rfl
def faV (off : Nat) : Value → Option Value
  | .pointer (some a) => bif a.spot.isNone then some (.pointer (some ⟨a.block, a.off + off, none⟩)) else none
  | _ => none
@[simp] theorem faV_p (off b o : Nat) : faV off (.pointer (some ⟨b, o, none⟩)) = some (.pointer (some ⟨b, o + off, none⟩)) := rfl
def iaV (sz : Nat) : Value → Value → Option Value
  | .slice (some a) len _, .int _ n => if 0 ≤ n ∧ n < len then (bif a.spot.isNone then some (.pointer (some ⟨a.block, a.off + n.toNat * sz, none⟩)) else none) else none
  | _, _ => none
@[simp] theorem iaV_p (sz b o len c : Nat) (k : IntKind) (n : Int) : iaV sz (.slice (some ⟨b, o, none⟩) len c) (.int k n) = if 0 ≤ n ∧ n < len then some (.pointer (some ⟨b, o + n.toNat * sz, none⟩)) else none := rfl
def iaaV (len sz : Nat) : Value → Value → Option Value
  | .pointer (some a), .int _ n => if 0 ≤ n ∧ n < len then (bif a.spot.isNone then some (.pointer (some ⟨a.block, a.off + n.toNat * sz, none⟩)) else none) else none
  | _, _ => none
@[simp] theorem iaaV_p (sz b o len : Nat) (k : IntKind) (n : Int) : iaaV len sz (.pointer (some ⟨b, o, none⟩)) (.int k n) = if 0 ≤ n ∧ n < len then some (.pointer (some ⟨b, o + n.toNat * sz, none⟩)) else none := rfl
def ixV : Value → Value → Option Value
  | .string s, .int _ n => if 0 ≤ n then (match s[n.toNat]? with | some b => some (.int .u8 b.toNat) | none => none) else none
  | _, _ => none
theorem ixV_p {s : ByteArray} {k : IntKind} {n : Nat} (h : n < s.size) : ixV (.string s) (.int k n) = some (.int .u8 (byteAt s n)) := by
  have : s[n]? = some s[n] := getElem?_pos s n h
  simp only [ixV, Int.toNat_natCast]
  rw [if_pos (by omega), this]
  unfold byteAt
  rw [this]
  rfl
def extV : Value → Nat → Option Value
  | .tuple vs, i => vs.toList[i]?
  | _, _ => none
@[simp] theorem extV_t (vs : Array Value) (i : Nat) : extV (.tuple vs) i = vs.toList[i]? := rfl
def lensV : Value → Option Value
  | .string s => some (.int .i64 s.size)
  | _ => none
@[simp] theorem lensV_s (s : ByteArray) : lensV (.string s) = some (.int .i64 s.size) := rfl
def lenlV : Value → Option Value
  | .slice _ n _ => some (.int .i64 n)
  | _ => none
@[simp] theorem lenlV_s (a : Option Addr) (n c : Nat) : lenlV (.slice a n c) = some (.int .i64 n) := rfl
def eqV (k : Nat) (neg : Bool) (x y : Value) : Option Value := (aeq k x y).map fun b => .bool (bif neg then !b else b)
@[simp] theorem eqV_b (neg a b : Bool) : eqV 0 neg (.bool a) (.bool b) = some (.bool (bif neg then !(a == b) else (a == b))) := rfl
@[simp] theorem eqV_pn (neg : Bool) (b : Option Addr) : eqV 1 neg (.pointer none) (.pointer b) = some (.bool (bif neg then !b.isNone else b.isNone)) := rfl
@[simp] theorem eqV_ps (neg : Bool) (b : Addr) : eqV 1 neg (.pointer (some b)) (.pointer none) = some (.bool neg) := by cases neg <;> rfl
@[simp] theorem eqV_sn (neg : Bool) (n c n' c' : Nat) (b : Option Addr) : eqV 2 neg (.slice none n c) (.slice b n' c') = some (.bool (bif neg then !b.isNone else b.isNone)) := rfl
@[simp] theorem eqV_ss (neg : Bool) (n c n' c' : Nat) (b : Addr) : eqV 2 neg (.slice (some b) n c) (.slice none n' c') = some (.bool neg) := by cases neg <;> rfl
@[simp] theorem eqV_fn (neg : Bool) : eqV 3 neg .nilFunc .nilFunc = some (.bool (!neg)) := by cases neg <;> rfl
@[simp] theorem eqV_ff (neg : Bool) (f : Fn) (a b : Array Value) : eqV 3 neg (.func f a b) .nilFunc = some (.bool neg) := by cases neg <;> rfl
@[simp] theorem eqV_mn (neg : Bool) (b : Option Nat) : eqV 4 neg (.map none) (.map b) = some (.bool (bif neg then !b.isNone else b.isNone)) := rfl
@[simp] theorem eqV_ms (neg : Bool) (b : Nat) : eqV 4 neg (.map (some b)) (.map none) = some (.bool neg) := by cases neg <;> rfl
def eqsV (neg : Bool) (offs : List (Nat × Nat)) : Value → Value → Option Value
  | .agg cs, .agg ds => (eqCells cs.toList ds.toList offs).map fun b => .bool (bif neg then !b else b)
  | _, _ => none
@[simp] theorem eqsV_a (neg : Bool) (offs : List (Nat × Nat)) (cs ds : Array Value) : eqsV neg offs (.agg cs) (.agg ds) = (eqCells cs.toList ds.toList offs).map fun b => .bool (bif neg then !b else b) := rfl
def lookV (kk : Nat) (z : Value) (H : AH) (x k : Value) (ok : Bool) : Option Value :=
  match x with
  | .map none => bif keyOk kk k then some (bif ok then .tuple #[z, .bool false] else z) else none
  | .map (some r) => match H.get r with
    | some (.map es) => bif keyOk kk k && decide (H.n0 ≤ r) then (match findA k es with
      | some (some v) => some (bif ok then .tuple #[v, .bool true] else v)
      | some none => some (bif ok then .tuple #[z, .bool false] else z)
      | none => none) else none
    | _ => none
  | _ => none
/-! ### Operations -/
section
variable {m : Md} {l : List AO} (d : Nat)
@[simp] theorem Vx_mv (x : X) : Vx E O m (⟨none, some d, .mv x⟩ :: l) ks fr H Q ↔ Vx E O (m.up (fr.put d (x.ev fr)) H) l ks (fr.put d (x.ev fr)) H Q := by
  rw [Vx_val (r := some (x.ev fr)) rfl rfl]; simp
@[simp] theorem Vx_pick (c a b : X) : Vx E O m (⟨none, some d, .pick c a b⟩ :: l) ks fr H Q ↔ (pickV (c.ev fr) (a.ev fr) (b.ev fr)).isSome = true ∧ Vx E O (m.up (fr.put d ((pickV (c.ev fr) (a.ev fr) (b.ev fr)).getD undef)) H) l ks (fr.put d ((pickV (c.ev fr) (a.ev fr) (b.ev fr)).getD undef)) H Q :=
  Vx_val rfl (by simp only [aop]; cases c.ev fr <;> rfl)
@[simp] theorem Vx_ld (x : X) : Vx E O m (⟨none, some d, .ld x⟩ :: l) ks fr H Q ↔ (ldV H (x.ev fr)).isSome = true ∧ Vx E O (m.up (fr.put d ((ldV H (x.ev fr)).getD undef)) H) l ks (fr.put d ((ldV H (x.ev fr)).getD undef)) H Q :=
  Vx_val rfl (by
    simp only [aop]
    cases x.ev fr with
    | pointer a => cases a <;> rfl
    | _ => rfl)
@[simp] theorem Vx_ldn (n : Nat) (x : X) : Vx E O m (⟨none, some d, .ldn n x⟩ :: l) ks fr H Q ↔ (ldnV n H (x.ev fr)).isSome = true ∧ Vx E O (m.up (fr.put d ((ldnV n H (x.ev fr)).getD undef)) H) l ks (fr.put d ((ldnV n H (x.ev fr)).getD undef)) H Q :=
  Vx_val rfl (by
    simp only [aop]
    cases x.ev fr with
    | pointer a =>
      cases a with
      | none => rfl
      | some a => simp only [ldnV]; cases H.ldn a n <;> rfl
    | _ => rfl)
@[simp] theorem Vx_nilc (x : X) : Vx E O m (⟨none, some d, .nilc x⟩ :: l) ks fr H Q ↔ (nilcV (x.ev fr)).isSome = true ∧ Vx E O (m.up (fr.put d ((nilcV (x.ev fr)).getD undef)) H) l ks (fr.put d ((nilcV (x.ev fr)).getD undef)) H Q :=
  Vx_val rfl (by
    simp only [aop]
    cases x.ev fr with
    | pointer a => cases a <;> rfl
    | _ => rfl)
@[simp] theorem Vx_bin (op : BinOp) (x y : X) : Vx E O m (⟨none, some d, .bin op x y⟩ :: l) ks fr H Q ↔ (abin op (x.ev fr) (y.ev fr)).isSome = true ∧ Vx E O (m.up (fr.put d ((abin op (x.ev fr) (y.ev fr)).getD undef)) H) l ks (fr.put d ((abin op (x.ev fr) (y.ev fr)).getD undef)) H Q :=
  Vx_val rfl rfl
@[simp] theorem Vx_eqk (k : Nat) (neg : Bool) (x y : X) : Vx E O m (⟨none, some d, .eqk k neg x y⟩ :: l) ks fr H Q ↔ (eqV k neg (x.ev fr) (y.ev fr)).isSome = true ∧ Vx E O (m.up (fr.put d ((eqV k neg (x.ev fr) (y.ev fr)).getD undef)) H) l ks (fr.put d ((eqV k neg (x.ev fr) (y.ev fr)).getD undef)) H Q :=
  Vx_val rfl (by simp only [aop, eqV]; cases aeq k (x.ev fr) (y.ev fr) <;> rfl)
@[simp] theorem Vx_eqs (neg : Bool) (offs : List (Nat × Nat)) (x y : X) : Vx E O m (⟨none, some d, .eqs neg offs x y⟩ :: l) ks fr H Q ↔ (eqsV neg offs (x.ev fr) (y.ev fr)).isSome = true ∧ Vx E O (m.up (fr.put d ((eqsV neg offs (x.ev fr) (y.ev fr)).getD undef)) H) l ks (fr.put d ((eqsV neg offs (x.ev fr) (y.ev fr)).getD undef)) H Q :=
  Vx_val rfl (by
    simp only [aop]
    cases x.ev fr <;> cases y.ev fr <;> first
      | rfl
      | (simp only [eqsV]; rename_i a b; cases eqCells a.toList b.toList offs <;> rfl))
@[simp] theorem Vx_un (op : UnOp) (x : X) : Vx E O m (⟨none, some d, .un op x⟩ :: l) ks fr H Q ↔ (aun op (x.ev fr)).isSome = true ∧ Vx E O (m.up (fr.put d ((aun op (x.ev fr)).getD undef)) H) l ks (fr.put d ((aun op (x.ev fr)).getD undef)) H Q :=
  Vx_val rfl rfl
@[simp] theorem Vx_cvi (k : IntKind) (x : X) : Vx E O m (⟨none, some d, .cvi k x⟩ :: l) ks fr H Q ↔ (cviV k (x.ev fr)).isSome = true ∧ Vx E O (m.up (fr.put d ((cviV k (x.ev fr)).getD undef)) H) l ks (fr.put d ((cviV k (x.ev fr)).getD undef)) H Q :=
  Vx_val rfl (by simp only [aop]; cases x.ev fr <;> rfl)
@[simp] theorem Vx_cvs (x : X) : Vx E O m (⟨none, some d, .cvs x⟩ :: l) ks fr H Q ↔ (cvsV (x.ev fr)).isSome = true ∧ Vx E O (m.up (fr.put d ((cvsV (x.ev fr)).getD undef)) H) l ks (fr.put d ((cvsV (x.ev fr)).getD undef)) H Q :=
  Vx_val rfl (by simp only [aop]; cases x.ev fr <;> rfl)
@[simp] theorem Vx_fa (off : Nat) (x : X) : Vx E O m (⟨none, some d, .fa off x⟩ :: l) ks fr H Q ↔ (faV off (x.ev fr)).isSome = true ∧ Vx E O (m.up (fr.put d ((faV off (x.ev fr)).getD undef)) H) l ks (fr.put d ((faV off (x.ev fr)).getD undef)) H Q :=
  Vx_val rfl (by
    simp only [aop]
    cases x.ev fr with
    | pointer a =>
      cases a with
      | none => rfl
      | some a => simp only [faV]; cases a.spot.isNone <;> rfl
    | _ => rfl)
@[simp] theorem Vx_ia (sz : Nat) (x i : X) : Vx E O m (⟨none, some d, .ia sz x i⟩ :: l) ks fr H Q ↔ (iaV sz (x.ev fr) (i.ev fr)).isSome = true ∧ Vx E O (m.up (fr.put d ((iaV sz (x.ev fr) (i.ev fr)).getD undef)) H) l ks (fr.put d ((iaV sz (x.ev fr) (i.ev fr)).getD undef)) H Q :=
  Vx_val rfl (by
    simp only [aop]
    cases x.ev fr with
    | slice a len c =>
      cases a with
      | none => rfl
      | some a =>
        cases i.ev fr <;> first
          | rfl
          | (simp only [iaV]; split <;> first | rfl | (cases a.spot.isNone <;> rfl))
    | _ => rfl)
@[simp] theorem Vx_iaa (len sz : Nat) (x i : X) : Vx E O m (⟨none, some d, .iaa len sz x i⟩ :: l) ks fr H Q ↔ (iaaV len sz (x.ev fr) (i.ev fr)).isSome = true ∧ Vx E O (m.up (fr.put d ((iaaV len sz (x.ev fr) (i.ev fr)).getD undef)) H) l ks (fr.put d ((iaaV len sz (x.ev fr) (i.ev fr)).getD undef)) H Q :=
  Vx_val rfl (by
    simp only [aop]
    cases x.ev fr with
    | pointer a =>
      cases a with
      | none => rfl
      | some a =>
        cases i.ev fr <;> first
          | rfl
          | (simp only [iaaV]; split <;> first | rfl | (cases a.spot.isNone <;> rfl))
    | _ => rfl)
@[simp] theorem Vx_ix (x i : X) : Vx E O m (⟨none, some d, .ix x i⟩ :: l) ks fr H Q ↔ (ixV (x.ev fr) (i.ev fr)).isSome = true ∧ Vx E O (m.up (fr.put d ((ixV (x.ev fr) (i.ev fr)).getD undef)) H) l ks (fr.put d ((ixV (x.ev fr) (i.ev fr)).getD undef)) H Q :=
  Vx_val rfl (by
    simp only [aop]
    cases x.ev fr with
    | string s =>
      cases i.ev fr <;> first
        | rfl
        | (simp only [ixV]; rename_i n; cases s[n.toNat]? <;> (split <;> rfl))
    | _ => rfl)
@[simp] theorem Vx_ext (x : X) (i : Nat) : Vx E O m (⟨none, some d, .ext x i⟩ :: l) ks fr H Q ↔ (extV (x.ev fr) i).isSome = true ∧ Vx E O (m.up (fr.put d ((extV (x.ev fr) i).getD undef)) H) l ks (fr.put d ((extV (x.ev fr) i).getD undef)) H Q :=
  Vx_val rfl (by
    simp only [aop]
    cases x.ev fr with
    | tuple vs => simp only [extV]; cases vs.toList[i]? <;> rfl
    | _ => rfl)
@[simp] theorem Vx_lens (x : X) : Vx E O m (⟨none, some d, .lens x⟩ :: l) ks fr H Q ↔ (lensV (x.ev fr)).isSome = true ∧ Vx E O (m.up (fr.put d ((lensV (x.ev fr)).getD undef)) H) l ks (fr.put d ((lensV (x.ev fr)).getD undef)) H Q :=
  Vx_val rfl (by simp only [aop]; cases x.ev fr <;> rfl)
@[simp] theorem Vx_lenl (x : X) : Vx E O m (⟨none, some d, .lenl x⟩ :: l) ks fr H Q ↔ (lenlV (x.ev fr)).isSome = true ∧ Vx E O (m.up (fr.put d ((lenlV (x.ev fr)).getD undef)) H) l ks (fr.put d ((lenlV (x.ev fr)).getD undef)) H Q :=
  Vx_val rfl (by simp only [aop]; cases x.ev fr <;> rfl)
@[simp] theorem Vx_look (kk : Nat) (z : Value) (x k : X) (ok : Bool) : Vx E O m (⟨none, some d, .look kk z x k ok⟩ :: l) ks fr H Q ↔ (lookV kk z H (x.ev fr) (k.ev fr) ok).isSome = true ∧ Vx E O (m.up (fr.put d ((lookV kk z H (x.ev fr) (k.ev fr) ok).getD undef)) H) l ks (fr.put d ((lookV kk z H (x.ev fr) (k.ev fr) ok).getD undef)) H Q :=
  Vx_val rfl (by
    simp only [aop, lookV]
    cases x.ev fr with
    | map r =>
      cases r with
      | none => dsimp only; cases keyOk kk (k.ev fr) <;> rfl
      | some r =>
        dsimp only
        cases H.get r with
        | none => rfl
        | some b =>
          cases b with
          | cells => rfl
          | map es =>
            dsimp only
            cases keyOk kk (k.ev fr) && decide (H.n0 ≤ r)
            · rfl
            · cases findA (k.ev fr) es with
              | none => rfl
              | some q => cases q <;> rfl
    | _ => rfl)
@[simp] theorem Vx_mkf (f : Nat) (a b : List X) : Vx E O m (⟨none, some d, .mkf f a b⟩ :: l) ks fr H Q ↔ Vx E O (m.up (fr.put d (.func (.func f) (a.map (X.ev fr)).toArray (b.map (X.ev fr)).toArray)) H) l ks (fr.put d (.func (.func f) (a.map (X.ev fr)).toArray (b.map (X.ev fr)).toArray)) H Q := by
  rw [Vx_val (r := some (.func (.func f) (a.map (X.ev fr)).toArray (b.map (X.ev fr)).toArray)) rfl rfl]; simp
@[simp] theorem Vx_mki (t : Nat) (x : X) : Vx E O m (⟨none, some d, .mki t x⟩ :: l) ks fr H Q ↔ Vx E O (m.up (fr.put d (.iface t (x.ev fr))) H) l ks (fr.put d (.iface t (x.ev fr))) H Q := by
  rw [Vx_val (r := some (.iface t (x.ev fr))) rfl rfl]; simp
@[simp] theorem Vx_sl (sz : Nat) (x : X) (lo hi mx : Option X) : Vx E O m (⟨none, some d, .sl sz x lo hi mx⟩ :: l) ks fr H Q ↔ (aslice sz H (x.ev fr) (lo.map (X.ev fr)) (hi.map (X.ev fr)) (mx.map (X.ev fr))).isSome = true ∧ Vx E O (m.up (fr.put d ((aslice sz H (x.ev fr) (lo.map (X.ev fr)) (hi.map (X.ev fr)) (mx.map (X.ev fr))).getD undef)) H) l ks (fr.put d ((aslice sz H (x.ev fr) (lo.map (X.ev fr)) (hi.map (X.ev fr)) (mx.map (X.ev fr))).getD undef)) H Q :=
  Vx_val rfl rfl
@[simp] theorem Vx_mxl (x : X) (as : List X) : Vx E O m (⟨none, some d, .mxl x as⟩ :: l) ks fr H Q ↔ (mxA (x.ev fr) (as.map (X.ev fr))).isSome = true ∧ Vx E O (m.up (fr.put d ((mxA (x.ev fr) (as.map (X.ev fr))).getD undef)) H) l ks (fr.put d ((mxA (x.ev fr) (as.map (X.ev fr))).getD undef)) H Q :=
  Vx_val rfl rfl
@[simp] theorem Vx_mnl (x : X) (as : List X) : Vx E O m (⟨none, some d, .mnl x as⟩ :: l) ks fr H Q ↔ (mnA (x.ev fr) (as.map (X.ev fr))).isSome = true ∧ Vx E O (m.up (fr.put d ((mnA (x.ev fr) (as.map (X.ev fr))).getD undef)) H) l ks (fr.put d ((mnA (x.ev fr) (as.map (X.ev fr))).getD undef)) H Q :=
  Vx_val rfl rfl
def buildV (z : List Value) (ps : List (Nat × Nat × Value)) : Option Value := (fillA z ps).map fun c => .agg c.toArray
@[simp] theorem Vx_build (z : List Value) (ps : List (Nat × Nat × X)) : Vx E O m (⟨none, some d, .build z ps⟩ :: l) ks fr H Q ↔ (buildV z (ps.map fun p => (p.1, p.2.1, p.2.2.ev fr))).isSome = true ∧ Vx E O (m.up (fr.put d ((buildV z (ps.map fun p => (p.1, p.2.1, p.2.2.ev fr))).getD undef)) H) l ks (fr.put d ((buildV z (ps.map fun p => (p.1, p.2.1, p.2.2.ev fr))).getD undef)) H Q :=
  Vx_val rfl (by simp only [aop, buildV]; cases fillA z (ps.map fun p => (p.1, p.2.1, p.2.2.ev fr)) <;> rfl)
/-! those that make memory, or write -/
@[simp] theorem Vx_alloc (z : List Value) : Vx E O m (⟨none, some d, .alloc z⟩ :: l) ks fr H Q ↔ Vx E O (m.up (fr.put d (.pointer (some ⟨H.nx, 0, none⟩))) (H.alloc (.cells z.length z))) l ks (fr.put d (.pointer (some ⟨H.nx, 0, none⟩))) (H.alloc (.cells z.length z)) Q := by
  rw [Vx_o _ _ _ rfl]; simp [aop]
@[simp] theorem Vx_box (x : X) : Vx E O m (⟨none, some d, .box x⟩ :: l) ks fr H Q ↔ isTup (x.ev fr) = false ∧ Vx E O (m.up (fr.put d (.pointer (some ⟨H.nx, 0, none⟩))) (H.alloc (.cells (vcells (x.ev fr)).length (vcells (x.ev fr))))) l ks (fr.put d (.pointer (some ⟨H.nx, 0, none⟩))) (H.alloc (.cells (vcells (x.ev fr)).length (vcells (x.ev fr)))) Q := by
  rw [Vx_o _ _ _ rfl]
  simp only [aop]
  cases isTup (x.ev fr) <;> simp [isV]
@[simp] theorem Vx_mkmap : Vx E O m (⟨none, some d, .mkmap⟩ :: l) ks fr H Q ↔ Vx E O (m.up (fr.put d (.map (some H.nx))) (H.alloc (.map []))) l ks (fr.put d (.map (some H.nx))) (H.alloc (.map [])) Q := by
  rw [Vx_o _ _ _ rfl]; simp [aop]
@[simp] theorem Vx_st (n : Nat) (x v : X) : Vx E O m (⟨none, none, .st n x v⟩ :: l) ks fr H Q ↔ (stV n H (x.ev fr) (v.ev fr)).isSome = true ∧ Vx E O (m.up fr ((stV n H (x.ev fr) (v.ev fr)).getD H)) l ks fr ((stV n H (x.ev fr) (v.ev fr)).getD H) Q := by
  rw [Vx_s _ _ rfl]
  have e : aop (.st n x v) (X.ev fr) H = (stV n H (x.ev fr) (v.ev fr)).map fun H' => (.v undef, H') := by
    simp only [aop]
    cases x.ev fr with
    | pointer a =>
      cases a with
      | none => rfl
      | some a =>
        simp only [stV]
        cases (Nat.beq (vcells (v.ev fr)).length n && !isTup (v.ev fr)) <;> simp
    | _ => rfl
  rw [e]
  cases stV n H (x.ev fr) (v.ev fr) <;> simp [isV, heapOf]
def isSm : Option (Value × AH) → Bool
  | some _ => true
  | none => false
def v1 : Option (Value × AH) → Value
  | some (v, _) => v
  | none => undef
def h2 (H : AH) : Option (Value × AH) → AH
  | some (_, H') => H'
  | none => H
@[simp] theorem isSm_s (r : Value × AH) : isSm (some r) = true := rfl
@[simp] theorem v1_s (v : Value) (H' : AH) : v1 (some (v, H')) = v := rfl
@[simp] theorem h2_s (v : Value) (H' : AH) : h2 H (some (v, H')) = H' := rfl
theorem Vx_vh {p : AOp} (h : p.isCall = false) {r : Option (Value × AH)} (e : aop p (X.ev fr) H = r.map fun q => (.v q.1, q.2)) : Vx E O m (⟨none, some d, p⟩ :: l) ks fr H Q ↔
    isSm r = true ∧ Vx E O (m.up (fr.put d (v1 r)) (h2 H r)) l ks (fr.put d (v1 r)) (h2 H r) Q := by
  rw [Vx_o _ _ _ h, e]
  cases r with
  | none => simp [isSm, isV]
  | some q => obtain ⟨v, H'⟩ := q; simp
@[simp] theorem Vx_app (sz bytes : Nat) (s x : X) : Vx E O m (⟨none, some d, .app sz bytes s x⟩ :: l) ks fr H Q ↔ isSm (aappend sz bytes H (s.ev fr) (x.ev fr)) = true ∧ Vx E O (m.up (fr.put d (v1 (aappend sz bytes H (s.ev fr) (x.ev fr)))) (h2 H (aappend sz bytes H (s.ev fr) (x.ev fr)))) l ks (fr.put d (v1 (aappend sz bytes H (s.ev fr) (x.ev fr)))) (h2 H (aappend sz bytes H (s.ev fr) (x.ev fr))) Q :=
  Vx_vh _ rfl rfl
@[simp] theorem Vx_copy (sz : Nat) (s x : X) : Vx E O m (⟨none, some d, .copy sz s x⟩ :: l) ks fr H Q ↔ isSm (acopy sz H (s.ev fr) (x.ev fr)) = true ∧ Vx E O (m.up (fr.put d (v1 (acopy sz H (s.ev fr) (x.ev fr)))) (h2 H (acopy sz H (s.ev fr) (x.ev fr)))) l ks (fr.put d (v1 (acopy sz H (s.ev fr) (x.ev fr)))) (h2 H (acopy sz H (s.ev fr) (x.ev fr))) Q :=
  Vx_vh _ rfl rfl
def mkslV (sz bytes : Nat) (z : List Value) (H : AH) : Value → Option (Value × AH)
  | .int _ n => bif decide (0 ≤ n) && decide (IntKind.i64.wrap n = n) && decide (bytes * n ≤ 2 ^ 47) then some (.slice (some ⟨H.nx, 0, none⟩) n.toNat n.toNat, H.alloc (.cells sz (List.replicate n.toNat z).flatten)) else none
  | _ => none
@[simp] theorem Vx_mksl (sz bytes : Nat) (z : List Value) (x : X) : Vx E O m (⟨none, some d, .mksl sz bytes z x⟩ :: l) ks fr H Q ↔ isSm (mkslV sz bytes z H (x.ev fr)) = true ∧ Vx E O (m.up (fr.put d (v1 (mkslV sz bytes z H (x.ev fr)))) (h2 H (mkslV sz bytes z H (x.ev fr)))) l ks (fr.put d (v1 (mkslV sz bytes z H (x.ev fr)))) (h2 H (mkslV sz bytes z H (x.ev fr))) Q :=
  Vx_vh _ rfl (by
    simp only [aop]
    cases x.ev fr <;> first
      | rfl
      | (simp only [mkslV]; rename_i k n; cases (decide (0 ≤ n) && decide (IntKind.i64.wrap n = n) && decide (bytes * n ≤ 2 ^ 47)) <;> rfl))
def bslV (len sz : Nat) (z : List Value) (H : AH) (ps : List (Nat × Nat × Value)) : Option (Value × AH) := (fillA z ps).map fun c => (.slice (some ⟨H.nx, 0, none⟩) len len, H.alloc (.cells sz c))
@[simp] theorem Vx_bsl (len sz : Nat) (z : List Value) (ps : List (Nat × Nat × X)) : Vx E O m (⟨none, some d, .bsl len sz z ps⟩ :: l) ks fr H Q ↔ isSm (bslV len sz z H (ps.map fun p => (p.1, p.2.1, p.2.2.ev fr))) = true ∧ Vx E O (m.up (fr.put d (v1 (bslV len sz z H (ps.map fun p => (p.1, p.2.1, p.2.2.ev fr))))) (h2 H (bslV len sz z H (ps.map fun p => (p.1, p.2.1, p.2.2.ev fr))))) l ks (fr.put d (v1 (bslV len sz z H (ps.map fun p => (p.1, p.2.1, p.2.2.ev fr))))) (h2 H (bslV len sz z H (ps.map fun p => (p.1, p.2.1, p.2.2.ev fr)))) Q :=
  Vx_vh _ rfl (by simp only [aop, bslV]; cases fillA z (ps.map fun p => (p.1, p.2.1, p.2.2.ev fr)) <;> rfl)
def mupV (kk : Nat) (H : AH) (x k v : Value) : Option AH :=
  match x with
  | .map (some r) => match H.get r with
    | some (.map es) => bif keyOk kk k && decide (H.n0 ≤ r) && !isTup v then (updA k v es).map fun es' => H.put r (some (.map es')) else none
    | _ => none
  | _ => none
@[simp] theorem Vx_mup (kk : Nat) (x k v : X) : Vx E O m (⟨none, none, .mup kk x k v⟩ :: l) ks fr H Q ↔ (mupV kk H (x.ev fr) (k.ev fr) (v.ev fr)).isSome = true ∧ Vx E O (m.up fr ((mupV kk H (x.ev fr) (k.ev fr) (v.ev fr)).getD H)) l ks fr ((mupV kk H (x.ev fr) (k.ev fr) (v.ev fr)).getD H) Q := by
  rw [Vx_s _ _ rfl]
  have e : aop (.mup kk x k v) (X.ev fr) H = (mupV kk H (x.ev fr) (k.ev fr) (v.ev fr)).map fun H' => (.v undef, H') := by
    simp only [aop, mupV]
    cases x.ev fr with
    | map r =>
      cases r with
      | none => rfl
      | some r =>
        dsimp only
        cases H.get r with
        | none => rfl
        | some b =>
          cases b with
          | cells => rfl
          | map es =>
            dsimp only
            cases (keyOk kk (k.ev fr) && decide (H.n0 ≤ r) && !isTup (v.ev fr))
            · rfl
            · simp only [cond_true]
              cases updA (k.ev fr) (v.ev fr) es <;> rfl
    | _ => rfl
  rw [e]
  cases mupV kk H (x.ev fr) (k.ev fr) (v.ev fr) <;> simp [isV, heapOf]
/-! calls -/
theorem Vx_call {d f : Nat} {as : List X} {vs : List Value} {R : Value → AH → Prop} (ha : as.map (X.ev fr) = vs) (h : Ca E O f vs H R) (k : ∀ x H', R x H' → Vx E O (m.up (fr.put d x) H') l ks (fr.put d x) H' Q) : Vx E O m (⟨none, some d, .call f as⟩ :: l) ks fr H Q := by
  subst ha
  cases m
  · exact Wr_call (h.mono k)
  · exact Wd_call (h.mono k)
theorem Vx_callM {d f : Nat} {as : List X} {vs : List Value} (ha : as.map (X.ev fr) = vs) (h : Ca E O f vs H fun x H' => Vx E O (m.up (fr.put d x) H') l ks (fr.put d x) H' Q) : Vx E O m (⟨none, some d, .call f as⟩ :: l) ks fr H Q := Vx_call ha h fun _ _ k => k
theorem Vx_scall {f : Nat} {as : List X} {vs : List Value} {R : Value → AH → Prop} (ha : as.map (X.ev fr) = vs) (h : Ca E O f vs H R) (k : ∀ x H', R x H' → Vx E O (m.up fr H') l ks fr H' Q) : Vx E O m (⟨none, none, .call f as⟩ :: l) ks fr H Q := by
  subst ha
  cases m
  · exact Wr_scall (h.mono k)
  · show Wd E O _ _ _ _ _ _ _ _
    rw [Wd_cons1, Wo1_on _ _ _ _ rfl]
    exact h.mono k
theorem Vx_scallM {f : Nat} {as : List X} {vs : List Value} (ha : as.map (X.ev fr) = vs) (h : Ca E O f vs H fun x H' => Vx E O (m.up fr H') l ks fr H' Q) : Vx E O m (⟨none, none, .call f as⟩ :: l) ks fr H Q := Vx_scall ha h fun _ _ k => k
theorem Vx_callv {d f : Nat} {x : X} {as : List X} {first cap : Array Value} {vs : List Value} {R : Value → AH → Prop} (hx : x.ev fr = .func (.func f) first cap) (ha : first.toList ++ as.map (X.ev fr) ++ cap.toList = vs) (h : Ca E O f vs H R) (k : ∀ x H', R x H' → Vx E O (m.up (fr.put d x) H') l ks (fr.put d x) H' Q) : Vx E O m (⟨none, some d, .callv x as⟩ :: l) ks fr H Q := by
  subst ha
  have e : aop (.callv x as) (X.ev fr) H = some (.enter f (first.toList ++ as.map (X.ev fr) ++ cap.toList), H) := by simp only [aop, hx]
  cases m
  · show Wo E O _ _ _ _
    rw [Wo_cons1, Wo1_on _ _ _ _ rfl, e]
    exact h.mono k
  · show Wd E O _ _ _ _ _ _ _ _
    rw [Wd_cons1, Wo1_on _ _ _ _ rfl, e]
    exact h.mono k
theorem Vx_callvM {d f : Nat} {x : X} {as : List X} {first cap : Array Value} {vs : List Value} (hx : x.ev fr = .func (.func f) first cap) (ha : first.toList ++ as.map (X.ev fr) ++ cap.toList = vs) (h : Ca E O f vs H fun x H' => Vx E O (m.up (fr.put d x) H') l ks (fr.put d x) H' Q) : Vx E O m (⟨none, some d, .callv x as⟩ :: l) ks fr H Q := Vx_callv hx ha h fun _ _ k => k
theorem Vx_scallv {f : Nat} {x : X} {as : List X} {first cap : Array Value} {vs : List Value} {R : Value → AH → Prop} (hx : x.ev fr = .func (.func f) first cap) (ha : first.toList ++ as.map (X.ev fr) ++ cap.toList = vs) (h : Ca E O f vs H R) (k : ∀ x H', R x H' → Vx E O (m.up fr H') l ks fr H' Q) : Vx E O m (⟨none, none, .callv x as⟩ :: l) ks fr H Q := by
  subst ha
  have e : aop (.callv x as) (X.ev fr) H = some (.enter f (first.toList ++ as.map (X.ev fr) ++ cap.toList), H) := by simp only [aop, hx]
  cases m
  · show Wo E O _ _ _ _
    rw [Wo_cons1, Wo1_on _ _ _ _ rfl, e]
    exact h.mono k
  · show Wd E O _ _ _ _ _ _ _ _
    rw [Wd_cons1, Wo1_on _ _ _ _ rfl, e]
    exact h.mono k
end
theorem Vx_scallvM {m : Md} {l : List AO} {f : Nat} {x : X} {as : List X} {first cap : Array Value} {vs : List Value} (hx : x.ev fr = .func (.func f) first cap) (ha : first.toList ++ as.map (X.ev fr) ++ cap.toList = vs) (h : Ca E O f vs H fun x H' => Vx E O (m.up fr H') l ks fr H' Q) : Vx E O m (⟨none, none, .callv x as⟩ :: l) ks fr H Q := Vx_scallv hx ha h fun _ _ k => k
/-! ### What a region that draws must hold -/
def wan : AO → Fr → Bool
  | ⟨none, _, _⟩, _ => true
  | ⟨some (t, b), _, _⟩, fr => wantV b (fr.get t)
@[simp] theorem wan_n (d : Option Nat) (p : AOp) (fr : Fr) : wan ⟨none, d, p⟩ fr = true := rfl
@[simp] theorem wan_s (t : Nat) (b : Bool) (d : Option Nat) (p : AOp) (fr : Fr) : wan ⟨some (t, b), d, p⟩ fr = wantV b (fr.get t) := rfl
theorem wan_eq (o : AO) (fr : Fr) : o.wanted fr = wan o fr := by
  obtain ⟨g, d, p⟩ := o
  cases g with
  | none => rfl
  | some q => obtain ⟨t, b⟩ := q; exact wanted_eq _ _ _ _
def ldA (H : AH) (n : Nat) : Value → Option (Addr × List Value)
  | .pointer (some a) => (H.ldn a n).map fun l => (a, l)
  | _ => none
@[simp] theorem ldA_p (n : Nat) (a : Addr) : ldA H n (.pointer (some a)) = (H.ldn a n).map fun l => (a, l) := rfl
def ldO : AOp → Fr → AH → Option (Addr × List Value)
  | .ld x, fr, H => ldA H 1 (x.ev fr)
  | .ldn n x, fr, H => ldA H n (x.ev fr)
  | _, _, _ => none
@[simp] theorem ldO_ld (x : X) : ldO (.ld x) fr H = ldA H 1 (x.ev fr) := rfl
@[simp] theorem ldO_ldn (n : Nat) (x : X) : ldO (.ldn n x) fr H = ldA H n (x.ev fr) := rfl
def samO (H' : AH) : Option (Addr × List Value) → Bool
  | some x => sameAt H' x
  | none => false
@[simp] theorem samO_s (x : Addr × List Value) : samO H (some x) = sameAt H x := rfl
theorem sameAt_ldn {a : Addr} {l m : List Value} (h : H.ldn a l.length = some m) : sameAt H (a, l) = sameL m l := by
  unfold sameAt; rw [h]
def samL : Option (List Value) → List Value → Bool
  | some m, l => sameL m l
  | none, _ => false
@[simp] theorem samL_s (m l : List Value) : samL (some m) l = sameL m l := rfl
@[simp] theorem sameAt_p (a : Addr) (l : List Value) : sameAt H (a, l) = samL (H.ldn a l.length) l := by
  unfold sameAt samL
  dsimp only
  cases H.ldn a l.length <;> rfl
@[simp] theorem sameL_n : sameL [] [] = true := rfl
@[simp] theorem sameL_c (x y : Value) (l m : List Value) : sameL (x :: l) (y :: m) = (same1 x y && sameL l m) := rfl
@[simp] theorem same1_i (k : IntKind) (n : Int) : same1 (.int k n) (.int k n) = true := by simp [same1]
@[simp] theorem same1_b (b : Bool) : same1 (.bool b) (.bool b) = true := by simp [same1]
@[simp] theorem same1_t (b : ByteArray) : same1 (.string b) (.string b) = true := by simp [same1]
@[simp] theorem same1_p (a : Option Addr) : same1 (.pointer a) (.pointer a) = true := by simp [same1]
@[simp] theorem same1_s (a : Option Addr) (n c : Nat) : same1 (.slice a n c) (.slice a n c) = true := by simp [same1]
@[simp] theorem same1_m (a : Option Nat) : same1 (.map a) (.map a) = true := by simp [same1]
def ckO (l : List AO) : Nat → Option AO → Option (Fr × AH) → Option (Fr × AH) → Option AO → Option (Fr × AH) → Option (Fr × AH) → Bool
  | k, some op, some (fp, Hp), some (_, Hp'), some oq, some (fq, _), some (_, Hq') =>
    !wan op fp || !wan oq fq || (match k with
      | 0 => samO Hq' (ldO op.o fp Hp)
      | 1 => sameB (Hp'.get Hp.nx) (Hq'.get Hp.nx)
      | _ => match adrOf op fp, adrOf oq fq with | some b, some b' => !Nat.beq b b' | _, _ => true)
  | _, _, _, _, _, _, _ => false
@[simp] theorem ckO_0 (l : List AO) (op oq : AO) (fp fq f1 f2 : Fr) (Hp Hp' H1 Hq' : AH) : ckO l 0 (some op) (some (fp, Hp)) (some (f1, Hp')) (some oq) (some (fq, H1)) (some (f2, Hq')) = (!wan op fp || !wan oq fq || samO Hq' (ldO op.o fp Hp)) := rfl
@[simp] theorem ckO_1 (l : List AO) (op oq : AO) (fp fq f1 f2 : Fr) (Hp Hp' H1 Hq' : AH) : ckO l 1 (some op) (some (fp, Hp)) (some (f1, Hp')) (some oq) (some (fq, H1)) (some (f2, Hq')) = (!wan op fp || !wan oq fq || sameB (Hp'.get Hp.nx) (Hq'.get Hp.nx)) := rfl
theorem ckO_2 (l : List AO) (op oq : AO) (fp fq f1 f2 : Fr) (Hp Hp' H1 Hq' : AH) : ckO l 2 (some op) (some (fp, Hp)) (some (f1, Hp')) (some oq) (some (fq, H1)) (some (f2, Hq')) = (!wan op fp || !wan oq fq || (match adrOf op fp, adrOf oq fq with | some b, some b' => !Nat.beq b b' | _, _ => true)) := rfl
theorem chk1_eq (l : List AO) (ss : List (Fr × AH)) (k p q : Nat) : chk1 l ss (k, p, q) = ckO l k (nth l p) (nth ss p) (nth ss (p + 1)) (nth l q) (nth ss q) (nth ss (q + 1)) := by
  unfold chk1
  dsimp only
  cases nth l p with
  | none => rfl
  | some op =>
    cases nth ss p with
    | none => rfl
    | some a =>
      cases nth ss (p + 1) with
      | none => rfl
      | some b =>
        cases nth l q with
        | none => rfl
        | some oq =>
          cases nth ss q with
          | none => rfl
          | some c =>
            cases nth ss (q + 1) with
            | none => rfl
            | some d =>
              obtain ⟨a1, a2⟩ := a
              obtain ⟨b1, b2⟩ := b
              obtain ⟨c1, c2⟩ := c
              obtain ⟨d1, d2⟩ := d
              simp only [ckO, wan_eq]
              congr 1
              match k with
              | 0 =>
                obtain ⟨g, dd, p⟩ := op
                cases p <;> first
                  | rfl
                  | (simp only [loadOf, ldO]
                     rename_i x
                     cases x.ev a1 with
                     | pointer z =>
                       cases z with
                       | none => rfl
                       | some z => simp only [ldA]; cases AH.ldn a2 z _ <;> rfl
                     | _ => rfl)
              | 1 => rfl
              | k + 2 => rfl
theorem okD_eq (l : List AO) (ck : List (Nat × Nat × Nat)) (acc : List (Fr × AH)) : okD l ck acc = (chain acc.reverse && ck.all fun c => ckO l c.1 (nth l c.2.1) (nth acc.reverse c.2.1) (nth acc.reverse (c.2.1 + 1)) (nth l c.2.2) (nth acc.reverse c.2.2) (nth acc.reverse (c.2.2 + 1))) := by
  unfold okD
  congr 1
  congr 1
  funext c
  obtain ⟨k, p, q⟩ := c
  exact chk1_eq _ _ _ _ _
theorem okD_of (l : List AO) (ck : List (Nat × Nat × Nat)) (acc : List (Fr × AH)) : okD l ck acc = true ↔ chain acc.reverse = true ∧ ck.all (fun c => ckO l c.1 (nth l c.2.1) (nth acc.reverse c.2.1) (nth acc.reverse (c.2.1 + 1)) (nth l c.2.2) (nth acc.reverse c.2.2) (nth acc.reverse (c.2.2 + 1))) = true := by
  rw [okD_eq, Bool.and_eq_true]
theorem chain_2 (a b : Fr × AH) (l : List (Fr × AH)) : chain (a :: b :: l) = true ↔ (a.2.n0 = b.2.n0 ∧ a.2.nx ≤ b.2.nx) ∧ chain (b :: l) = true := by
  simp only [chain, Bool.and_eq_true, Nat.beq_eq, Nat.ble_eq]
theorem chain_1 (a : Fr × AH) : chain [a] = true := rfl
@[simp] theorem nth_z {α : Type} (x : α) (l : List α) : nth (x :: l) 0 = some x := rfl
@[simp] theorem nth_s {α : Type} (x : α) (l : List α) (n : Nat) : nth (x :: l) (n + 1) = nth l n := rfl
theorem nth_l {α : Type} : ∀ (l : List α) (n : Nat), nth l n = l[n]?
  | [], n => by cases n <;> rfl
  | x :: l, 0 => rfl
  | x :: l, n + 1 => by simp [nth_l l n]
/-! ### Functions and loops -/
/-- Code with another end behind its first so many parts; that end. -/
def spine : Nat → AC → AC → AC
  | 0, _, r => r
  | k + 1, .seq a b, r => .seq a (spine k b r)
  | _, c, _ => c
def tailOf : Nat → AC → AC
  | 0, c => c
  | k + 1, .seq _ b => tailOf k b
  | _, c => c
theorem spine_0 (c r : AC) : spine 0 c r = r := by cases c <;> rfl
theorem spine_s (k : Nat) (a b r : AC) : spine (k + 1) (.seq a b) r = .seq a (spine k b r) := rfl
theorem spine_1 (a b r : AC) : spine 1 (.seq a b) r = .seq a r := by cases b <;> rfl
theorem spine_2 (a b r : AC) : spine 2 (.seq a b) r = .seq a (spine 1 b r) := rfl
theorem spine_3 (a b r : AC) : spine 3 (.seq a b) r = .seq a (spine 2 b r) := rfl
theorem spine_4 (a b r : AC) : spine 4 (.seq a b) r = .seq a (spine 3 b r) := rfl
theorem spine_5 (a b r : AC) : spine 5 (.seq a b) r = .seq a (spine 4 b r) := rfl
theorem spine_6 (a b r : AC) : spine 6 (.seq a b) r = .seq a (spine 5 b r) := rfl
theorem spine_7 (a b r : AC) : spine 7 (.seq a b) r = .seq a (spine 6 b r) := rfl
theorem spine_8 (a b r : AC) : spine 8 (.seq a b) r = .seq a (spine 7 b r) := rfl
attribute [simp] spine_1 spine_2 spine_3 spine_4 spine_5 spine_6 spine_7 spine_8
/-! ### A fact at a place of the code -/
inductive Stp where
  | l
  | r
def subAt : List Stp → AC → AC
  | [], c => c
  | .l :: p, .seq a _ => subAt p a
  | .r :: p, .seq _ b => subAt p b
  | .l :: p, .block _ a => subAt p a
  | _, c => c
def plug : List Stp → AC → AC → AC
  | [], _, r => r
  | .l :: p, .seq a b, r => .seq (plug p a r) b
  | .r :: p, .seq a b, r => .seq a (plug p b r)
  | .l :: p, .block i a, r => .block i (plug p a r)
  | _, c, _ => c
def ctxK : List Stp → AC → List Ko → List Ko
  | [], _, ks => ks
  | .l :: p, .seq a b, ks => ctxK p a (.seq b :: ks)
  | .r :: p, .seq _ b, ks => ctxK p b ks
  | .l :: p, .block i a, ks => ctxK p a (.blk i :: ks)
  | _, _, ks => ks
@[simp] theorem subAt_n (c : AC) : subAt [] c = c := by cases c <;> rfl
@[simp] theorem subAt_l (p : List Stp) (a b : AC) : subAt (.l :: p) (.seq a b) = subAt p a := rfl
@[simp] theorem subAt_r (p : List Stp) (a b : AC) : subAt (.r :: p) (.seq a b) = subAt p b := rfl
@[simp] theorem subAt_b (p : List Stp) (i : Nat) (a : AC) : subAt (.l :: p) (.block i a) = subAt p a := rfl
@[simp] theorem plug_n (c r : AC) : plug [] c r = r := by cases c <;> rfl
@[simp] theorem plug_l (p : List Stp) (a b r : AC) : plug (.l :: p) (.seq a b) r = .seq (plug p a r) b := rfl
@[simp] theorem plug_r (p : List Stp) (a b r : AC) : plug (.r :: p) (.seq a b) r = .seq a (plug p b r) := rfl
@[simp] theorem plug_b (p : List Stp) (i : Nat) (a r : AC) : plug (.l :: p) (.block i a) r = .block i (plug p a r) := rfl
@[simp] theorem ctxK_n (c : AC) (ks : List Ko) : ctxK [] c ks = ks := by cases c <;> rfl
@[simp] theorem ctxK_l (p : List Stp) (a b : AC) (ks : List Ko) : ctxK (.l :: p) (.seq a b) ks = ctxK p a (.seq b :: ks) := rfl
@[simp] theorem ctxK_r (p : List Stp) (a b : AC) (ks : List Ko) : ctxK (.r :: p) (.seq a b) ks = ctxK p b ks := rfl
@[simp] theorem ctxK_b (p : List Stp) (i : Nat) (a : AC) (ks : List Ko) : ctxK (.l :: p) (.block i a) ks = ctxK p a (.blk i :: ks) := rfl
def ksSub : Nat → List Stp → List Ko → AC
  | 0, p, .seq c :: _ => subAt p c
  | j + 1, p, _ :: ks => ksSub j p ks
  | _, _, _ => .skip
def ksPlug : Nat → List Stp → List Ko → AC → List Ko
  | 0, p, .seq c :: ks, r => .seq (plug p c r) :: ks
  | j + 1, p, k :: ks, r => k :: ksPlug j p ks r
  | _, _, ks, _ => ks
def ksCtx : Nat → List Stp → List Ko → List Ko
  | 0, p, .seq c :: ks => ctxK p c ks
  | j + 1, p, _ :: ks => ksCtx j p ks
  | _, _, ks => ks
/-- This holds wherever the code comes to that place; and from there on all goes well. -/
theorem Vk_at {c : AC} (p : List Stp) (P : Fr → AH → Prop) (hp : plug p c (subAt p c) = c) (h2 : ∀ fr H, P fr H → Vk E O (subAt p c) (ctxK p c ks) fr H Q) (h1 : ∀ rest, (∀ fr H, P fr H → Vk E O rest (ctxK p c ks) fr H Q) → Vk E O (plug p c rest) ks fr H Q) : Vk E O c ks fr H Q := by
  have := h1 _ h2
  rwa [hp] at this
theorem Vx_at {m : Md} {l : List AO} (j : Nat) (p : List Stp) (P : Fr → AH → Prop) (hp : ksPlug j p ks (ksSub j p ks) = ks) (h2 : ∀ fr H, P fr H → Vk E O (ksSub j p ks) (ksCtx j p ks) fr H Q) (h1 : ∀ rest, (∀ fr H, P fr H → Vk E O rest (ksCtx j p ks) fr H Q) → Vx E O m l (ksPlug j p ks rest) fr H Q) : Vx E O m l ks fr H Q := by
  have := h1 _ h2
  rwa [hp] at this
/-- A function's body, cut behind its first so many parts. -/
theorem Ca.bodyT {f : Nat} {F : AF} {as : List Value} {H : AH} {Q : Value → AH → Prop} (k : Nat) (ho : O f = none) (he : E f = some F) (hl : as.length = F.np) (hk : spine k F.body (tailOf k F.body) = F.body) (h : Vk E O (spine k F.body (tailOf k F.body)) [] (Fr.of as) H (retQ F.res Q)) : Ca E O f as H Q := Ca.bodyK ho he hl (hk ▸ h)
theorem Ca.bodyV {f : Nat} {F : AF} {as : List Value} {H : AH} {Q : Value → AH → Prop} (ho : O f = none) (he : E f = some F) (hl : as.length = F.np) (h : Vk E O F.body [] (Fr.of as) H (retQ F.res Q)) : Ca E O f as H Q := Ca.bodyK ho he hl h
/-- What must hold behind a loop's body. -/
def loopV (E : Env) (O : Orc) (I : Nat → Fr → AH → Prop) (k : Nat) (ks : List Ko) (Q : Ex → Fr → AH → Prop) : Ex → Fr → AH → Prop
  | .normal, fr, H => ∃ j, j < k ∧ I j fr H
  | .exit i, fr, H => Vn E O (.exit i) ks fr H Q
  | .ret, fr, H => Vn E O .ret ks fr H Q
@[simp] theorem loopV_n (I : Nat → Fr → AH → Prop) (k : Nat) : loopV E O I k ks Q .normal fr H = ∃ j, j < k ∧ I j fr H := rfl
@[simp] theorem loopV_e (I : Nat → Fr → AH → Prop) (k i : Nat) : loopV E O I k ks Q (.exit i) fr H = Vn E O (.exit i) ks fr H Q := rfl
@[simp] theorem loopV_r (I : Nat → Fr → AH → Prop) (k : Nat) : loopV E O I k ks Q .ret fr H = Vn E O .ret ks fr H Q := rfl
theorem Vk_loop {a : AC} (I : Nat → Fr → AH → Prop) (step : ∀ k fr H, I k fr H → Vk E O a [] fr H (loopV E O I k ks Q)) (k : Nat) (h : I k fr H) : Vk E O (.loop a) ks fr H Q := by
  refine Wk_loop I (fun k fr H hI => ?_) k h
  have := step k fr H hI
  unfold Vk at this
  have e : loopV E O I k ks Q = loopQ E O I k ks Q := by
    funext ex fr H
    cases ex <;> rfl
  rw [e] at this
  exact this
@[simp] theorem X_t (n : Nat) : X.ev fr (.t n) = fr.get n := rfl
@[simp] theorem X_k (v : Value) : X.ev fr (.k v) = v := rfl
@[simp] theorem X_f (n : Nat) : X.ev fr (.f n) = .func (.func n) #[] #[] := rfl
end
end Go.Proofs.YtoijnpfpjpefgaaGreat.A
