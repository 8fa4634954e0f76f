/- Texts that stand one behind the other: AbsP, S15, S16, S17, S18, S19, S20, S21, AbsQ. -/
import Derived.Test.YtoijnpfpjpefgaaGreatG10
/- The calculus once more, for one run of simp: one rule for each kind of operation, ways side by side. -/
set_option linter.unusedVariables false
set_option linter.unusedSimpArgs false
namespace Go.Proofs.YtoijnpfpjpefgaaGreat.A
open Go
section
variable {E : Env} {O : Orc} {ks : List Ko} {fr : Fr} {H : AH} {Q : Ex → Fr → AH → Prop}
/-- A region: plain, or one that draws its order (with the states so far, the last first). -/
inductive Md where
  | pl
  | dr (l0 : List AO) (ck : List (Nat × Nat × Nat)) (acc : List (Fr × AH))
def Md.up : Md → Fr → AH → Md
  | .pl, _, _ => .pl
  | .dr l0 ck acc, fr, H => .dr l0 ck ((fr, H) :: acc)
@[simp] theorem up_pl : Md.up .pl fr H = .pl := rfl
@[simp] theorem up_dr (l0 : List AO) (ck : List (Nat × Nat × Nat)) (acc : List (Fr × AH)) : Md.up (.dr l0 ck acc) fr H = .dr l0 ck ((fr, H) :: acc) := rfl
def Vx (E : Env) (O : Orc) (m : Md) (l : List AO) (ks : List Ko) (fr : Fr) (H : AH) (Q : Ex → Fr → AH → Prop) : Prop := match m with
  | .pl => Wr E O l ks fr H Q
  | .dr l0 ck acc => Wd E O l0 ck acc l ks fr H Q
def Vk (E : Env) (O : Orc) (c : AC) (ks : List Ko) (fr : Fr) (H : AH) (Q : Ex → Fr → AH → Prop) : Prop := Wk E O c ks fr H Q
def Vn (E : Env) (O : Orc) (ex : Ex) (ks : List Ko) (fr : Fr) (H : AH) (Q : Ex → Fr → AH → Prop) : Prop := Un E O ex ks fr H Q
@[simp] theorem Vn_nil (ex : Ex) : Vn E O ex [] fr H Q = Q ex fr H := Un_nil _
@[simp] theorem Vn_ns (b : AC) : Vn E O .normal (.seq b :: ks) fr H Q = Vk E O b ks fr H Q := rfl
@[simp] theorem Vn_nb (i : Nat) : Vn E O .normal (.blk i :: ks) fr H Q = Vn E O .normal ks fr H Q := rfl
@[simp] theorem Vn_es (j : Nat) (b : AC) : Vn E O (.exit j) (.seq b :: ks) fr H Q = Vn E O (.exit j) ks fr H Q := rfl
@[simp] theorem Vn_eb1 (i : Nat) : Vn E O (.exit i) (.blk i :: ks) fr H Q = Vn E O .normal ks fr H Q := Un_eb1 _
@[simp] theorem Vn_eb0 (i j : Nat) (h : j ≠ i) : Vn E O (.exit j) (.blk i :: ks) fr H Q = Vn E O (.exit j) ks fr H Q := Un_eb0 _ _ h
@[simp] theorem Vn_r (k : Ko) : Vn E O .ret (k :: ks) fr H Q = Vn E O .ret ks fr H Q := Un_r _
@[simp] theorem Vk_skip : Vk E O .skip ks fr H Q ↔ Vn E O .normal ks fr H Q := Wk_skip
@[simp] theorem Vk_ret : Vk E O .ret ks fr H Q ↔ Vn E O .ret ks fr H Q := Wk_ret
@[simp] theorem Vk_exit (i : Nat) : Vk E O (.exit i) ks fr H Q ↔ Vn E O (.exit i) ks fr H Q := Wk_exit _
@[simp] theorem Vk_reg (l : List AO) : Vk E O (.reg l) ks fr H Q ↔ Vx E O .pl l ks fr H Q := Wk_reg _
@[simp] theorem Vk_seq (a b : AC) : Vk E O (.seq a b) ks fr H Q ↔ Vk E O a (.seq b :: ks) fr H Q := Wk_seq _ _
@[simp] theorem Vk_block (i : Nat) (a : AC) : Vk E O (.block i a) ks fr H Q ↔ Vk E O a (.blk i :: ks) fr H Q := Wk_block _ _
theorem Vk_c {x : X} {a b : AC} : Vk E O (.cond x a b) ks fr H Q ↔ isBl (x.ev fr) = true ∧ br (wantV true (x.ev fr) = true) (Vk E O a ks fr H Q) (Vk E O b ks fr H Q) := Wk_c
theorem opsT_last {call : Cl} : ∀ {l : List AO} {fr : Fr} {H : AH} {ss : List (Fr × AH)}, opsT call l fr H = some ss → ops call l fr H = some (lastS (fr, H) ss)
  | [], fr, H, ss, h => by simp only [opsT, Option.some.injEq] at h; subst h; rfl
  | o :: l, fr, H, ss, h => by
    simp only [opsT] at h
    simp only [ops]
    cases h1 : aone call o fr H with
    | none => simp [h1] at h
    | some r =>
      obtain ⟨fr1, H1⟩ := r
      simp only [h1] at h ⊢
      cases h2 : opsT call l fr1 H1 with
      | none => simp [h2] at h
      | some ss' =>
        simp only [h2, Option.some.injEq] at h
        subst h
        rw [opsT_last h2]
        rfl
@[simp] theorem Vk_regd (l : List AO) (ck : List (Nat × Nat × Nat)) : Vk E O (.regd l ck) ks fr H Q ↔ Vx E O (.dr l ck [(fr, H)]) l ks fr H Q := by
  refine ⟨?_, fun h => Wk_regd _ _ h⟩
  rintro ⟨n, ex, fr', H', e, q⟩
  cases n with
  | zero => simp [codeR] at e
  | succ n =>
    simp only [codeR, opsD] at e
    cases h1 : opsT (runF E O (n + 1)) l fr H with
    | none => simp [h1] at e
    | some ss =>
      simp only [h1] at e
      cases h2 : chain ((fr, H) :: ss) && ck.all (chk1 l ((fr, H) :: ss)) with
      | false => simp [h2] at e
      | true =>
        simp only [h2, cond_true, Option.some.injEq, Prod.mk.injEq] at e
        obtain ⟨rfl, rfl, rfl⟩ := e
        refine ⟨n + 1, ss, h1, ?_, q⟩
        unfold okD
        simpa using h2
@[simp] theorem Vx_nil : Vx E O .pl [] ks fr H Q ↔ Vn E O .normal ks fr H Q := Wr_nil
@[simp] theorem Vx_nild {l0 : List AO} {ck : List (Nat × Nat × Nat)} {acc : List (Fr × AH)} : Vx E O (.dr l0 ck acc) [] ks fr H Q ↔ okD l0 ck acc = true ∧ Vn E O .normal ks fr H Q := Wd_nil
theorem Vx_g {m : Md} (t : Nat) (b : Bool) (d : Option Nat) (p : AOp) (l : List AO) : Vx E O m (⟨some (t, b), d, p⟩ :: l) ks fr H Q ↔
    br (wantV b (fr.get t) = true) (Vx E O m (⟨none, d, p⟩ :: l) ks fr H Q) (Vx E O (m.up (fr.putO d undef) H) l ks (fr.putO d undef) H Q) := by
  cases m
  · exact Wr_g _ _ _ _ _
  · exact Wd_g _ _ _ _ _
/-- A condition that is looked at: the two ways stay closed till it is known. -/
def CV (E : Env) (O : Orc) (v : Value) (a b : AC) (ks : List Ko) (fr : Fr) (H : AH) (Q : Ex → Fr → AH → Prop) : Prop :=
  isBl v = true ∧ br (wantV true v = true) (Vk E O a ks fr H Q) (Vk E O b ks fr H Q)
@[simp] theorem Vk_cv {x : X} {a b : AC} : Vk E O (.cond x a b) ks fr H Q ↔ CV E O (x.ev fr) a b ks fr H Q := Vk_c
variable {a b : AC}
@[simp] theorem CV_T : CV E O (.bool true) a b ks fr H Q ↔ Vk E O a ks fr H Q := by simp [CV]
@[simp] theorem CV_F : CV E O (.bool false) a b ks fr H Q ↔ Vk E O b ks fr H Q := by simp [CV]
@[simp] theorem CV_d (c : Prop) [Decidable c] : CV E O (.bool (decide c)) a b ks fr H Q ↔ br c (Vk E O a ks fr H Q) (Vk E O b ks fr H Q) := by simp [CV]
@[simp] theorem CV_n (c : Bool) : CV E O (.bool (!c)) a b ks fr H Q ↔ CV E O (.bool c) b a ks fr H Q := by cases c <;> simp
def GV (E : Env) (O : Orc) (v : Value) (b : Bool) (m : Md) (d : Option Nat) (p : AOp) (l : List AO) (ks : List Ko) (fr : Fr) (H : AH) (Q : Ex → Fr → AH → Prop) : Prop :=
  br (wantV b v = true) (Vx E O m (⟨none, d, p⟩ :: l) ks fr H Q) (Vx E O (m.up (fr.putO d undef) H) l ks (fr.putO d undef) H Q)
@[simp] theorem Vx_gv {m : Md} (t : Nat) (b : Bool) (d : Option Nat) (p : AOp) (l : List AO) : Vx E O m (⟨some (t, b), d, p⟩ :: l) ks fr H Q ↔ GV E O (fr.get t) b m d p l ks fr H Q := Vx_g _ _ _ _ _
section
variable {m : Md} {d : Option Nat} {p : AOp} {l : List AO}
@[simp] theorem GV_TT : GV E O (.bool true) true m d p l ks fr H Q ↔ Vx E O m (⟨none, d, p⟩ :: l) ks fr H Q := by simp [GV]
@[simp] theorem GV_FF : GV E O (.bool false) false m d p l ks fr H Q ↔ Vx E O m (⟨none, d, p⟩ :: l) ks fr H Q := by simp [GV]
@[simp] theorem GV_TF : GV E O (.bool true) false m d p l ks fr H Q ↔ Vx E O (m.up (fr.putO d undef) H) l ks (fr.putO d undef) H Q := by simp [GV]
@[simp] theorem GV_FT : GV E O (.bool false) true m d p l ks fr H Q ↔ Vx E O (m.up (fr.putO d undef) H) l ks (fr.putO d undef) H Q := by simp [GV]
@[simp] theorem GV_U (b : Bool) : GV E O undef b m d p l ks fr H Q ↔ Vx E O (m.up (fr.putO d undef) H) l ks (fr.putO d undef) H Q := by simp [GV]
@[simp] theorem GV_dT (c : Prop) [Decidable c] : GV E O (.bool (decide c)) true m d p l ks fr H Q ↔ br c (Vx E O m (⟨none, d, p⟩ :: l) ks fr H Q) (Vx E O (m.up (fr.putO d undef) H) l ks (fr.putO d undef) H Q) := by simp [GV]
@[simp] theorem GV_dF (c : Prop) [Decidable c] : GV E O (.bool (decide c)) false m d p l ks fr H Q ↔ br c (Vx E O (m.up (fr.putO d undef) H) l ks (fr.putO d undef) H Q) (Vx E O m (⟨none, d, p⟩ :: l) ks fr H Q) := by
  by_cases h : c <;> simp [h]
@[simp] theorem GV_nT (c : Bool) : GV E O (.bool (!c)) true m d p l ks fr H Q ↔ GV E O (.bool c) false m d p l ks fr H Q := by cases c <;> simp
@[simp] theorem GV_nF (c : Bool) : GV E O (.bool (!c)) false m d p l ks fr H Q ↔ GV E O (.bool c) true m d p l ks fr H Q := by cases c <;> simp
end
theorem CV_b (c : Bool) : CV E O (.bool c) a b ks fr H Q ↔ br (c = true) (Vk E O a ks fr H Q) (Vk E O b ks fr H Q) := by simp [CV]
@[simp] theorem CV_strEq (x y : ByteArray) : CV E O (.bool (strEq x y)) a b ks fr H Q ↔ br (strEq x y = true) (Vk E O a ks fr H Q) (Vk E O b ks fr H Q) := CV_b _
theorem GV_bT (c : Bool) {m : Md} {d : Option Nat} {p : AOp} {l : List AO} : GV E O (.bool c) true m d p l ks fr H Q ↔ br (c = true) (Vx E O m (⟨none, d, p⟩ :: l) ks fr H Q) (Vx E O (m.up (fr.putO d undef) H) l ks (fr.putO d undef) H Q) := by simp [GV]
theorem GV_bF (c : Bool) {m : Md} {d : Option Nat} {p : AOp} {l : List AO} : GV E O (.bool c) false m d p l ks fr H Q ↔ br (c = true) (Vx E O (m.up (fr.putO d undef) H) l ks (fr.putO d undef) H Q) (Vx E O m (⟨none, d, p⟩ :: l) ks fr H Q) := by cases c <;> simp
@[simp] theorem GV_strEqT (x y : ByteArray) {m : Md} {d : Option Nat} {p : AOp} {l : List AO} : GV E O (.bool (strEq x y)) true m d p l ks fr H Q ↔ br (strEq x y = true) (Vx E O m (⟨none, d, p⟩ :: l) ks fr H Q) (Vx E O (m.up (fr.putO d undef) H) l ks (fr.putO d undef) H Q) := GV_bT _
@[simp] theorem GV_strEqF (x y : ByteArray) {m : Md} {d : Option Nat} {p : AOp} {l : List AO} : GV E O (.bool (strEq x y)) false m d p l ks fr H Q ↔ br (strEq x y = true) (Vx E O (m.up (fr.putO d undef) H) l ks (fr.putO d undef) H Q) (Vx E O m (⟨none, d, p⟩ :: l) ks fr H Q) := GV_bF _
theorem Vx_o {m : Md} (d : Nat) (p : AOp) (l : List AO) (h : p.isCall = false) : Vx E O m (⟨none, some d, p⟩ :: l) ks fr H Q ↔
    isV (aop p (X.ev fr) H) = true ∧ Vx E O (m.up (fr.put d (valOf (aop p (X.ev fr) H))) (heapOf H (aop p (X.ev fr) H))) l ks (fr.put d (valOf (aop p (X.ev fr) H))) (heapOf H (aop p (X.ev fr) H)) Q := by
  cases m
  · exact Wr_o _ _ _ h
  · exact Wd_o _ _ _ h
theorem Vx_s {m : Md} (p : AOp) (l : List AO) (h : p.isCall = false) : Vx E O m (⟨none, none, p⟩ :: l) ks fr H Q ↔
    isV (aop p (X.ev fr) H) = true ∧ Vx E O (m.up fr (heapOf H (aop p (X.ev fr) H))) l ks fr (heapOf H (aop p (X.ev fr) H)) Q := by
  cases m
  · exact Wr_s _ _ h
  · exact Wd_s _ _ h
theorem Vx_val {m : Md} {d : Nat} {p : AOp} {l : List AO} (h : p.isCall = false) {r : Option Value} (e : aop p (X.ev fr) H = r.map fun v => (.v v, H)) : Vx E O m (⟨none, some d, p⟩ :: l) ks fr H Q ↔
    r.isSome = true ∧ Vx E O (m.up (fr.put d (r.getD undef)) H) l ks (fr.put d (r.getD undef)) H Q := by
  rw [Vx_o _ _ _ h, e]
  cases r <;> simp [isV]
/-! ### What values give -/
def pickV : Value → Value → Value → Option Value
  | .bool t, a, b => some (bif t then a else b)
  | _, _, _ => none
@[simp] theorem pickV_b (t : Bool) (a b : Value) : pickV (.bool t) a b = some (bif t then a else b) := rfl
def ldV (H : AH) : Value → Option Value
  | .pointer (some a) => H.ld a
  | _ => none
@[simp] theorem ldV_p (a : Addr) : ldV H (.pointer (some a)) = H.ld a := rfl
def ldnV (n : Nat) (H : AH) : Value → Option Value
  | .pointer (some a) => (H.ldn a n).map fun l => .agg l.toArray
  | _ => none
@[simp] theorem ldnV_p (n : Nat) (a : Addr) : ldnV n H (.pointer (some a)) = (H.ldn a n).map fun l => .agg l.toArray := rfl
def stV (n : Nat) (H : AH) : Value → Value → Option AH
  | .pointer (some a), v => bif Nat.beq (vcells v).length n && !isTup v then H.st a (vcells v) else none
  | _, _ => none
@[simp] theorem stV_p (n : Nat) (a : Addr) (v : Value) : stV n H (.pointer (some a)) v = if (vcells v).length = n ∧ isTup v = false then H.st a (vcells v) else none := by
  unfold stV
  simp only [nb, Bool.cond_eq_ite, Bool.and_eq_true, decide_eq_true_eq, Bool.not_eq_true']
@[simp] theorem vcells_int (k : IntKind) (n : Int) : vcells (.int k n) = [.int k n] := rfl
@[simp] theorem vcells_bool (b : Bool) : vcells (.bool b) = [.bool b] := rfl
@[simp] theorem vcells_string (b : ByteArray) : vcells (.string b) = [.string b] := rfl
@[simp] theorem vcells_slice (a : Option Addr) (n c : Nat) : vcells (.slice a n c) = [.slice a n c] := rfl
@[simp] theorem vcells_pointer (a : Option Addr) : vcells (.pointer a) = [.pointer a] := rfl
@[simp] theorem vcells_map (a : Option Nat) : vcells (.map a) = [.map a] := rfl
@[simp] theorem vcells_func (f : Fn) (a b : Array Value) : vcells (.func f a b) = [.func f a b] := rfl
@[simp] theorem vcells_nilFunc : vcells .nilFunc = [.nilFunc] := rfl
@[simp] theorem isTup_int (k : IntKind) (n : Int) : isTup (.int k n) = false := rfl
@[simp] theorem isTup_bool (b : Bool) : isTup (.bool b) = false := rfl
@[simp] theorem isTup_string (b : ByteArray) : isTup (.string b) = false := rfl
@[simp] theorem isTup_slice (a : Option Addr) (n c : Nat) : isTup (.slice a n c) = false := rfl
@[simp] theorem isTup_pointer (a : Option Addr) : isTup (.pointer a) = false := rfl
@[simp] theorem isTup_map (a : Option Nat) : isTup (.map a) = false := rfl
@[simp] theorem isTup_func (f : Fn) (a b : Array Value) : isTup (.func f a b) = false := rfl
@[simp] theorem isTup_nilFunc : isTup .nilFunc = false := rfl
def nilcV : Value → Option Value
  | .pointer (some a) => some (.pointer (some a))
  | _ => none
@[simp] theorem nilcV_p (a : Addr) : nilcV (.pointer (some a)) = some (.pointer (some a)) := rfl
def cviV (k : IntKind) : Value → Option Value
  | .int _ n => some (.int k (k.wrap n))
  | _ => none
@[simp] theorem cviV_i (k k' : IntKind) (n : Int) : cviV k (.int k' n) = some (.int k (k.wrap n)) := rfl
def cvsV : Value → Option Value
  | .int _ n => some (.string (Utf8.encode n))
  | _ => none
@[simp] theorem cvsV_i (k' : IntKind) (n : Int) : cvsV (.int k' n) = some (.string (Utf8.encode n)) := rfl
def faV (off : Nat) : Value → Option Value
  | .pointer (some a) => bif a.spot.isNone then some (.pointer (some ⟨a.block, a.off + off, none⟩)) else none
  | _ => none
@[simp] theorem faV_p (off b o : Nat) : faV off (.pointer (some ⟨b, o, none⟩)) = some (.pointer (some ⟨b, o + off, none⟩)) := rfl
def iaV (sz : Nat) : Value → Value → Option Value
  | .slice (some a) len _, .int _ n => if 0 ≤ n ∧ n < len then (bif a.spot.isNone then some (.pointer (some ⟨a.block, a.off + n.toNat * sz, none⟩)) else none) else none
  | _, _ => none
@[simp] theorem iaV_p (sz b o len c : Nat) (k : IntKind) (n : Int) : iaV sz (.slice (some ⟨b, o, none⟩) len c) (.int k n) = if 0 ≤ n ∧ n < len then some (.pointer (some ⟨b, o + n.toNat * sz, none⟩)) else none := rfl
def iaaV (len sz : Nat) : Value → Value → Option Value
  | .pointer (some a), .int _ n => if 0 ≤ n ∧ n < len then (bif a.spot.isNone then some (.pointer (some ⟨a.block, a.off + n.toNat * sz, none⟩)) else none) else none
  | _, _ => none
@[simp] theorem iaaV_p (sz b o len : Nat) (k : IntKind) (n : Int) : iaaV len sz (.pointer (some ⟨b, o, none⟩)) (.int k n) = if 0 ≤ n ∧ n < len then some (.pointer (some ⟨b, o + n.toNat * sz, none⟩)) else none := rfl
def ixV : Value → Value → Option Value
  | .string s, .int _ n => if 0 ≤ n then (match s[n.toNat]? with | some b => some (.int .u8 b.toNat) | none => none) else none
  | _, _ => none
theorem ixV_p {s : ByteArray} {k : IntKind} {n : Nat} (h : n < s.size) : ixV (.string s) (.int k n) = some (.int .u8 (byteAt s n)) := by
  have : s[n]? = some s[n] := getElem?_pos s n h
  simp only [ixV, Int.toNat_natCast]
  rw [if_pos (by omega), this]
  unfold byteAt
  rw [this]
  rfl
def extV : Value → Nat → Option Value
  | .tuple vs, i => vs.toList[i]?
  | _, _ => none
@[simp] theorem extV_t (vs : Array Value) (i : Nat) : extV (.tuple vs) i = vs.toList[i]? := rfl
def lensV : Value → Option Value
  | .string s => some (.int .i64 s.size)
  | _ => none
@[simp] theorem lensV_s (s : ByteArray) : lensV (.string s) = some (.int .i64 s.size) := rfl
def lenlV : Value → Option Value
  | .slice _ n _ => some (.int .i64 n)
  | _ => none
@[simp] theorem lenlV_s (a : Option Addr) (n c : Nat) : lenlV (.slice a n c) = some (.int .i64 n) := rfl
def eqV (k : Nat) (neg : Bool) (x y : Value) : Option Value := (aeq k x y).map fun b => .bool (bif neg then !b else b)
@[simp] theorem eqV_b (neg a b : Bool) : eqV 0 neg (.bool a) (.bool b) = some (.bool (bif neg then !(a == b) else (a == b))) := rfl
@[simp] theorem eqV_pn (neg : Bool) (b : Option Addr) : eqV 1 neg (.pointer none) (.pointer b) = some (.bool (bif neg then !b.isNone else b.isNone)) := rfl
@[simp] theorem eqV_ps (neg : Bool) (b : Addr) : eqV 1 neg (.pointer (some b)) (.pointer none) = some (.bool neg) := by cases neg <;> rfl
@[simp] theorem eqV_sn (neg : Bool) (n c n' c' : Nat) (b : Option Addr) : eqV 2 neg (.slice none n c) (.slice b n' c') = some (.bool (bif neg then !b.isNone else b.isNone)) := rfl
@[simp] theorem eqV_ss (neg : Bool) (n c n' c' : Nat) (b : Addr) : eqV 2 neg (.slice (some b) n c) (.slice none n' c') = some (.bool neg) := by cases neg <;> rfl
@[simp] theorem eqV_fn (neg : Bool) : eqV 3 neg .nilFunc .nilFunc = some (.bool (!neg)) := by cases neg <;> rfl
@[simp] theorem eqV_ff (neg : Bool) (f : Fn) (a b : Array Value) : eqV 3 neg (.func f a b) .nilFunc = some (.bool neg) := by cases neg <;> rfl
@[simp] theorem eqV_mn (neg : Bool) (b : Option Nat) : eqV 4 neg (.map none) (.map b) = some (.bool (bif neg then !b.isNone else b.isNone)) := rfl
@[simp] theorem eqV_ms (neg : Bool) (b : Nat) : eqV 4 neg (.map (some b)) (.map none) = some (.bool neg) := by cases neg <;> rfl
def eqsV (neg : Bool) (offs : List (Nat × Nat)) : Value → Value → Option Value
  | .agg cs, .agg ds => (eqCells cs.toList ds.toList offs).map fun b => .bool (bif neg then !b else b)
  | _, _ => none
@[simp] theorem eqsV_a (neg : Bool) (offs : List (Nat × Nat)) (cs ds : Array Value) : eqsV neg offs (.agg cs) (.agg ds) = (eqCells cs.toList ds.toList offs).map fun b => .bool (bif neg then !b else b) := rfl
def lookV (kk : Nat) (z : Value) (H : AH) (x k : Value) (ok : Bool) : Option Value :=
  match x with
  | .map none => bif keyOk kk k then some (bif ok then .tuple #[z, .bool false] else z) else none
  | .map (some r) => match H.get r with
    | some (.map es) => bif keyOk kk k && decide (H.n0 ≤ r) then (match findA k es with
      | some (some v) => some (bif ok then .tuple #[v, .bool true] else v)
      | some none => some (bif ok then .tuple #[z, .bool false] else z)
      | none => none) else none
    | _ => none
  | _ => none
/-! ### Operations -/
section
variable {m : Md} {l : List AO} (d : Nat)
@[simp] theorem Vx_mv (x : X) : Vx E O m (⟨none, some d, .mv x⟩ :: l) ks fr H Q ↔ Vx E O (m.up (fr.put d (x.ev fr)) H) l ks (fr.put d (x.ev fr)) H Q := by
  rw [Vx_val (r := some (x.ev fr)) rfl rfl]; simp
@[simp] theorem Vx_pick (c a b : X) : Vx E O m (⟨none, some d, .pick c a b⟩ :: l) ks fr H Q ↔ (pickV (c.ev fr) (a.ev fr) (b.ev fr)).isSome = true ∧ Vx E O (m.up (fr.put d ((pickV (c.ev fr) (a.ev fr) (b.ev fr)).getD undef)) H) l ks (fr.put d ((pickV (c.ev fr) (a.ev fr) (b.ev fr)).getD undef)) H Q :=
  Vx_val rfl (by simp only [aop]; cases c.ev fr <;> rfl)
@[simp] theorem Vx_ld (x : X) : Vx E O m (⟨none, some d, .ld x⟩ :: l) ks fr H Q ↔ (ldV H (x.ev fr)).isSome = true ∧ Vx E O (m.up (fr.put d ((ldV H (x.ev fr)).getD undef)) H) l ks (fr.put d ((ldV H (x.ev fr)).getD undef)) H Q :=
  Vx_val rfl (by
    simp only [aop]
    cases x.ev fr with
    | pointer a => cases a <;> rfl
    | _ => rfl)
@[simp] theorem Vx_ldn (n : Nat) (x : X) : Vx E O m (⟨none, some d, .ldn n x⟩ :: l) ks fr H Q ↔ (ldnV n H (x.ev fr)).isSome = true ∧ Vx E O (m.up (fr.put d ((ldnV n H (x.ev fr)).getD undef)) H) l ks (fr.put d ((ldnV n H (x.ev fr)).getD undef)) H Q :=
  Vx_val rfl (by
    simp only [aop]
    cases x.ev fr with
    | pointer a =>
      cases a with
      | none => rfl
      | some a => simp only [ldnV]; cases H.ldn a n <;> rfl
    | _ => rfl)
@[simp] theorem Vx_nilc (x : X) : Vx E O m (⟨none, some d, .nilc x⟩ :: l) ks fr H Q ↔ (nilcV (x.ev fr)).isSome = true ∧ Vx E O (m.up (fr.put d ((nilcV (x.ev fr)).getD undef)) H) l ks (fr.put d ((nilcV (x.ev fr)).getD undef)) H Q :=
  Vx_val rfl (by
    simp only [aop]
    cases x.ev fr with
    | pointer a => cases a <;> rfl
    | _ => rfl)
@[simp] theorem Vx_bin (op : BinOp) (x y : X) : Vx E O m (⟨none, some d, .bin op x y⟩ :: l) ks fr H Q ↔ (abin op (x.ev fr) (y.ev fr)).isSome = true ∧ Vx E O (m.up (fr.put d ((abin op (x.ev fr) (y.ev fr)).getD undef)) H) l ks (fr.put d ((abin op (x.ev fr) (y.ev fr)).getD undef)) H Q :=
  Vx_val rfl rfl
@[simp] theorem Vx_eqk (k : Nat) (neg : Bool) (x y : X) : Vx E O m (⟨none, some d, .eqk k neg x y⟩ :: l) ks fr H Q ↔ (eqV k neg (x.ev fr) (y.ev fr)).isSome = true ∧ Vx E O (m.up (fr.put d ((eqV k neg (x.ev fr) (y.ev fr)).getD undef)) H) l ks (fr.put d ((eqV k neg (x.ev fr) (y.ev fr)).getD undef)) H Q :=
  Vx_val rfl (by simp only [aop, eqV]; cases aeq k (x.ev fr) (y.ev fr) <;> rfl)
@[simp] theorem Vx_eqs (neg : Bool) (offs : List (Nat × Nat)) (x y : X) : Vx E O m (⟨none, some d, .eqs neg offs x y⟩ :: l) ks fr H Q ↔ (eqsV neg offs (x.ev fr) (y.ev fr)).isSome = true ∧ Vx E O (m.up (fr.put d ((eqsV neg offs (x.ev fr) (y.ev fr)).getD undef)) H) l ks (fr.put d ((eqsV neg offs (x.ev fr) (y.ev fr)).getD undef)) H Q :=
  Vx_val rfl (by
    simp only [aop]
    cases x.ev fr <;> cases y.ev fr <;> first
      | rfl
      | (simp only [eqsV]; rename_i a b; cases eqCells a.toList b.toList offs <;> rfl))
@[simp] theorem Vx_un (op : UnOp) (x : X) : Vx E O m (⟨none, some d, .un op x⟩ :: l) ks fr H Q ↔ (aun op (x.ev fr)).isSome = true ∧ Vx E O (m.up (fr.put d ((aun op (x.ev fr)).getD undef)) H) l ks (fr.put d ((aun op (x.ev fr)).getD undef)) H Q :=
  Vx_val rfl rfl
@[simp] theorem Vx_cvi (k : IntKind) (x : X) : Vx E O m (⟨none, some d, .cvi k x⟩ :: l) ks fr H Q ↔ (cviV k (x.ev fr)).isSome = true ∧ Vx E O (m.up (fr.put d ((cviV k (x.ev fr)).getD undef)) H) l ks (fr.put d ((cviV k (x.ev fr)).getD undef)) H Q :=
  Vx_val rfl (by simp only [aop]; cases x.ev fr <;> rfl)
@[simp] theorem Vx_cvs (x : X) : Vx E O m (⟨none, some d, .cvs x⟩ :: l) ks fr H Q ↔ (cvsV (x.ev fr)).isSome = true ∧ Vx E O (m.up (fr.put d ((cvsV (x.ev fr)).getD undef)) H) l ks (fr.put d ((cvsV (x.ev fr)).getD undef)) H Q :=
  Vx_val rfl (by simp only [aop]; cases x.ev fr <;> rfl)
@[simp] theorem Vx_fa (off : Nat) (x : X) : Vx E O m (⟨none, some d, .fa off x⟩ :: l) ks fr H Q ↔ (faV off (x.ev fr)).isSome = true ∧ Vx E O (m.up (fr.put d ((faV off (x.ev fr)).getD undef)) H) l ks (fr.put d ((faV off (x.ev fr)).getD undef)) H Q :=
  Vx_val rfl (by
    simp only [aop]
    cases x.ev fr with
    | pointer a =>
      cases a with
      | none => rfl
      | some a => simp only [faV]; cases a.spot.isNone <;> rfl
    | _ => rfl)
@[simp] theorem Vx_ia (sz : Nat) (x i : X) : Vx E O m (⟨none, some d, .ia sz x i⟩ :: l) ks fr H Q ↔ (iaV sz (x.ev fr) (i.ev fr)).isSome = true ∧ Vx E O (m.up (fr.put d ((iaV sz (x.ev fr) (i.ev fr)).getD undef)) H) l ks (fr.put d ((iaV sz (x.ev fr) (i.ev fr)).getD undef)) H Q :=
  Vx_val rfl (by
    simp only [aop]
    cases x.ev fr with
    | slice a len c =>
      cases a with
      | none => rfl
      | some a =>
        cases i.ev fr <;> first
          | rfl
          | (simp only [iaV]; split <;> first | rfl | (cases a.spot.isNone <;> rfl))
    | _ => rfl)
@[simp] theorem Vx_iaa (len sz : Nat) (x i : X) : Vx E O m (⟨none, some d, .iaa len sz x i⟩ :: l) ks fr H Q ↔ (iaaV len sz (x.ev fr) (i.ev fr)).isSome = true ∧ Vx E O (m.up (fr.put d ((iaaV len sz (x.ev fr) (i.ev fr)).getD undef)) H) l ks (fr.put d ((iaaV len sz (x.ev fr) (i.ev fr)).getD undef)) H Q :=
  Vx_val rfl (by
    simp only [aop]
    cases x.ev fr with
    | pointer a =>
      cases a with
      | none => rfl
      | some a =>
        cases i.ev fr <;> first
          | rfl
          | (simp only [iaaV]; split <;> first | rfl | (cases a.spot.isNone <;> rfl))
    | _ => rfl)
@[simp] theorem Vx_ix (x i : X) : Vx E O m (⟨none, some d, .ix x i⟩ :: l) ks fr H Q ↔ (ixV (x.ev fr) (i.ev fr)).isSome = true ∧ Vx E O (m.up (fr.put d ((ixV (x.ev fr) (i.ev fr)).getD undef)) H) l ks (fr.put d ((ixV (x.ev fr) (i.ev fr)).getD undef)) H Q :=
  Vx_val rfl (by
    simp only [aop]
    cases x.ev fr with
    | string s =>
      cases i.ev fr <;> first
        | rfl
        | (simp only [ixV]; rename_i n; cases s[n.toNat]? <;> (split <;> rfl))
    | _ => rfl)
@[simp] theorem Vx_ext (x : X) (i : Nat) : Vx E O m (⟨none, some d, .ext x i⟩ :: l) ks fr H Q ↔ (extV (x.ev fr) i).isSome = true ∧ Vx E O (m.up (fr.put d ((extV (x.ev fr) i).getD undef)) H) l ks (fr.put d ((extV (x.ev fr) i).getD undef)) H Q :=
  Vx_val rfl (by
    simp only [aop]
    cases x.ev fr with
    | tuple vs => simp only [extV]; cases vs.toList[i]? <;> rfl
    | _ => rfl)
@[simp] theorem Vx_lens (x : X) : Vx E O m (⟨none, some d, .lens x⟩ :: l) ks fr H Q ↔ (lensV (x.ev fr)).isSome = true ∧ Vx E O (m.up (fr.put d ((lensV (x.ev fr)).getD undef)) H) l ks (fr.put d ((lensV (x.ev fr)).getD undef)) H Q :=
  Vx_val rfl (by simp only [aop]; cases x.ev fr <;> rfl)
@[simp] theorem Vx_lenl (x : X) : Vx E O m (⟨none, some d, .lenl x⟩ :: l) ks fr H Q ↔ (lenlV (x.ev fr)).isSome = true ∧ Vx E O (m.up (fr.put d ((lenlV (x.ev fr)).getD undef)) H) l ks (fr.put d ((lenlV (x.ev fr)).getD undef)) H Q :=
  Vx_val rfl (by simp only [aop]; cases x.ev fr <;> rfl)
@[simp] theorem Vx_look (kk : Nat) (z : Value) (x k : X) (ok : Bool) : Vx E O m (⟨none, some d, .look kk z x k ok⟩ :: l) ks fr H Q ↔ (lookV kk z H (x.ev fr) (k.ev fr) ok).isSome = true ∧ Vx E O (m.up (fr.put d ((lookV kk z H (x.ev fr) (k.ev fr) ok).getD undef)) H) l ks (fr.put d ((lookV kk z H (x.ev fr) (k.ev fr) ok).getD undef)) H Q :=
  Vx_val rfl (by
    simp only [aop, lookV]
    cases x.ev fr with
    | map r =>
      cases r with
      | none => dsimp only; cases keyOk kk (k.ev fr) <;> rfl
      | some r =>
        dsimp only
        cases H.get r with
        | none => rfl
        | some b =>
          cases b with
          | cells => rfl
          | map es =>
            dsimp only
            cases keyOk kk (k.ev fr) && decide (H.n0 ≤ r)
            · rfl
            · cases findA (k.ev fr) es with
              | none => rfl
              | some q => cases q <;> rfl
    | _ => rfl)
@[simp] theorem Vx_mkf (f : Nat) (a b : List X) : Vx E O m (⟨none, some d, .mkf f a b⟩ :: l) ks fr H Q ↔ Vx E O (m.up (fr.put d (.func (.func f) (a.map (X.ev fr)).toArray (b.map (X.ev fr)).toArray)) H) l ks (fr.put d (.func (.func f) (a.map (X.ev fr)).toArray (b.map (X.ev fr)).toArray)) H Q := by
  rw [Vx_val (r := some (.func (.func f) (a.map (X.ev fr)).toArray (b.map (X.ev fr)).toArray)) rfl rfl]; simp
@[simp] theorem Vx_mki (t : Nat) (x : X) : Vx E O m (⟨none, some d, .mki t x⟩ :: l) ks fr H Q ↔ Vx E O (m.up (fr.put d (.iface t (x.ev fr))) H) l ks (fr.put d (.iface t (x.ev fr))) H Q := by
  rw [Vx_val (r := some (.iface t (x.ev fr))) rfl rfl]; simp
@[simp] theorem Vx_sl (sz : Nat) (x : X) (lo hi mx : Option X) : Vx E O m (⟨none, some d, .sl sz x lo hi mx⟩ :: l) ks fr H Q ↔ (aslice sz H (x.ev fr) (lo.map (X.ev fr)) (hi.map (X.ev fr)) (mx.map (X.ev fr))).isSome = true ∧ Vx E O (m.up (fr.put d ((aslice sz H (x.ev fr) (lo.map (X.ev fr)) (hi.map (X.ev fr)) (mx.map (X.ev fr))).getD undef)) H) l ks (fr.put d ((aslice sz H (x.ev fr) (lo.map (X.ev fr)) (hi.map (X.ev fr)) (mx.map (X.ev fr))).getD undef)) H Q :=
  Vx_val rfl rfl
@[simp] theorem Vx_mxl (x : X) («as» : List X) : Vx E O m (⟨none, some d, .mxl x «as»⟩ :: l) ks fr H Q ↔ (mxA (x.ev fr) («as».map (X.ev fr))).isSome = true ∧ Vx E O (m.up (fr.put d ((mxA (x.ev fr) («as».map (X.ev fr))).getD undef)) H) l ks (fr.put d ((mxA (x.ev fr) («as».map (X.ev fr))).getD undef)) H Q :=
  Vx_val rfl rfl
@[simp] theorem Vx_mnl (x : X) («as» : List X) : Vx E O m (⟨none, some d, .mnl x «as»⟩ :: l) ks fr H Q ↔ (mnA (x.ev fr) («as».map (X.ev fr))).isSome = true ∧ Vx E O (m.up (fr.put d ((mnA (x.ev fr) («as».map (X.ev fr))).getD undef)) H) l ks (fr.put d ((mnA (x.ev fr) («as».map (X.ev fr))).getD undef)) H Q :=
  Vx_val rfl rfl
def buildV (z : List Value) (ps : List (Nat × Nat × Value)) : Option Value := (fillA z ps).map fun c => .agg c.toArray
@[simp] theorem Vx_build (z : List Value) (ps : List (Nat × Nat × X)) : Vx E O m (⟨none, some d, .build z ps⟩ :: l) ks fr H Q ↔ (buildV z (ps.map fun p => (p.1, p.2.1, p.2.2.ev fr))).isSome = true ∧ Vx E O (m.up (fr.put d ((buildV z (ps.map fun p => (p.1, p.2.1, p.2.2.ev fr))).getD undef)) H) l ks (fr.put d ((buildV z (ps.map fun p => (p.1, p.2.1, p.2.2.ev fr))).getD undef)) H Q :=
  Vx_val rfl (by simp only [aop, buildV]; cases fillA z (ps.map fun p => (p.1, p.2.1, p.2.2.ev fr)) <;> rfl)
/-! those that make memory, or write -/
@[simp] theorem Vx_alloc (z : List Value) : Vx E O m (⟨none, some d, .alloc z⟩ :: l) ks fr H Q ↔ Vx E O (m.up (fr.put d (.pointer (some ⟨H.nx, 0, none⟩))) (H.alloc (.cells z.length z))) l ks (fr.put d (.pointer (some ⟨H.nx, 0, none⟩))) (H.alloc (.cells z.length z)) Q := by
  rw [Vx_o _ _ _ rfl]; simp [aop]
@[simp] theorem Vx_box (x : X) : Vx E O m (⟨none, some d, .box x⟩ :: l) ks fr H Q ↔ isTup (x.ev fr) = false ∧ Vx E O (m.up (fr.put d (.pointer (some ⟨H.nx, 0, none⟩))) (H.alloc (.cells (vcells (x.ev fr)).length (vcells (x.ev fr))))) l ks (fr.put d (.pointer (some ⟨H.nx, 0, none⟩))) (H.alloc (.cells (vcells (x.ev fr)).length (vcells (x.ev fr)))) Q := by
  rw [Vx_o _ _ _ rfl]
  simp only [aop]
  cases isTup (x.ev fr) <;> simp [isV]
@[simp] theorem Vx_mkmap : Vx E O m (⟨none, some d, .mkmap⟩ :: l) ks fr H Q ↔ Vx E O (m.up (fr.put d (.map (some H.nx))) (H.alloc (.map []))) l ks (fr.put d (.map (some H.nx))) (H.alloc (.map [])) Q := by
  rw [Vx_o _ _ _ rfl]; simp [aop]
@[simp] theorem Vx_st (n : Nat) (x v : X) : Vx E O m (⟨none, none, .st n x v⟩ :: l) ks fr H Q ↔ (stV n H (x.ev fr) (v.ev fr)).isSome = true ∧ Vx E O (m.up fr ((stV n H (x.ev fr) (v.ev fr)).getD H)) l ks fr ((stV n H (x.ev fr) (v.ev fr)).getD H) Q := by
  rw [Vx_s _ _ rfl]
  have e : aop (.st n x v) (X.ev fr) H = (stV n H (x.ev fr) (v.ev fr)).map fun H' => (.v undef, H') := by
    simp only [aop]
    cases x.ev fr with
    | pointer a =>
      cases a with
      | none => rfl
      | some a =>
        simp only [stV]
        cases (Nat.beq (vcells (v.ev fr)).length n && !isTup (v.ev fr)) <;> simp
    | _ => rfl
  rw [e]
  cases stV n H (x.ev fr) (v.ev fr) <;> simp [isV, heapOf]
def isSm : Option (Value × AH) → Bool
  | some _ => true
  | none => false
def v1 : Option (Value × AH) → Value
  | some (v, _) => v
  | none => undef
def h2 (H : AH) : Option (Value × AH) → AH
  | some (_, H') => H'
  | none => H
@[simp] theorem isSm_s (r : Value × AH) : isSm (some r) = true := rfl
@[simp] theorem v1_s (v : Value) (H' : AH) : v1 (some (v, H')) = v := rfl
@[simp] theorem h2_s (v : Value) (H' : AH) : h2 H (some (v, H')) = H' := rfl
theorem Vx_vh {p : AOp} (h : p.isCall = false) {r : Option (Value × AH)} (e : aop p (X.ev fr) H = r.map fun q => (.v q.1, q.2)) : Vx E O m (⟨none, some d, p⟩ :: l) ks fr H Q ↔
    isSm r = true ∧ Vx E O (m.up (fr.put d (v1 r)) (h2 H r)) l ks (fr.put d (v1 r)) (h2 H r) Q := by
  rw [Vx_o _ _ _ h, e]
  cases r with
  | none => simp [isSm, isV]
  | some q => obtain ⟨v, H'⟩ := q; simp
@[simp] theorem Vx_app (sz bytes : Nat) (s x : X) : Vx E O m (⟨none, some d, .app sz bytes s x⟩ :: l) ks fr H Q ↔ isSm (aappend sz bytes H (s.ev fr) (x.ev fr)) = true ∧ Vx E O (m.up (fr.put d (v1 (aappend sz bytes H (s.ev fr) (x.ev fr)))) (h2 H (aappend sz bytes H (s.ev fr) (x.ev fr)))) l ks (fr.put d (v1 (aappend sz bytes H (s.ev fr) (x.ev fr)))) (h2 H (aappend sz bytes H (s.ev fr) (x.ev fr))) Q :=
  Vx_vh _ rfl rfl
@[simp] theorem Vx_copy (sz : Nat) (s x : X) : Vx E O m (⟨none, some d, .copy sz s x⟩ :: l) ks fr H Q ↔ isSm (acopy sz H (s.ev fr) (x.ev fr)) = true ∧ Vx E O (m.up (fr.put d (v1 (acopy sz H (s.ev fr) (x.ev fr)))) (h2 H (acopy sz H (s.ev fr) (x.ev fr)))) l ks (fr.put d (v1 (acopy sz H (s.ev fr) (x.ev fr)))) (h2 H (acopy sz H (s.ev fr) (x.ev fr))) Q :=
  Vx_vh _ rfl rfl
def mkslV (sz bytes : Nat) (z : List Value) (H : AH) : Value → Option (Value × AH)
  | .int _ n => bif decide (0 ≤ n) && decide (IntKind.i64.wrap n = n) && decide (bytes * n ≤ 2 ^ 47) then some (.slice (some ⟨H.nx, 0, none⟩) n.toNat n.toNat, H.alloc (.cells sz (List.replicate n.toNat z).flatten)) else none
  | _ => none
@[simp] theorem Vx_mksl (sz bytes : Nat) (z : List Value) (x : X) : Vx E O m (⟨none, some d, .mksl sz bytes z x⟩ :: l) ks fr H Q ↔ isSm (mkslV sz bytes z H (x.ev fr)) = true ∧ Vx E O (m.up (fr.put d (v1 (mkslV sz bytes z H (x.ev fr)))) (h2 H (mkslV sz bytes z H (x.ev fr)))) l ks (fr.put d (v1 (mkslV sz bytes z H (x.ev fr)))) (h2 H (mkslV sz bytes z H (x.ev fr))) Q :=
  Vx_vh _ rfl (by
    simp only [aop]
    cases x.ev fr <;> first
      | rfl
      | (simp only [mkslV]; rename_i k n; cases (decide (0 ≤ n) && decide (IntKind.i64.wrap n = n) && decide (bytes * n ≤ 2 ^ 47)) <;> rfl))
def bslV (len sz : Nat) (z : List Value) (H : AH) (ps : List (Nat × Nat × Value)) : Option (Value × AH) := (fillA z ps).map fun c => (.slice (some ⟨H.nx, 0, none⟩) len len, H.alloc (.cells sz c))
@[simp] theorem Vx_bsl (len sz : Nat) (z : List Value) (ps : List (Nat × Nat × X)) : Vx E O m (⟨none, some d, .bsl len sz z ps⟩ :: l) ks fr H Q ↔ isSm (bslV len sz z H (ps.map fun p => (p.1, p.2.1, p.2.2.ev fr))) = true ∧ Vx E O (m.up (fr.put d (v1 (bslV len sz z H (ps.map fun p => (p.1, p.2.1, p.2.2.ev fr))))) (h2 H (bslV len sz z H (ps.map fun p => (p.1, p.2.1, p.2.2.ev fr))))) l ks (fr.put d (v1 (bslV len sz z H (ps.map fun p => (p.1, p.2.1, p.2.2.ev fr))))) (h2 H (bslV len sz z H (ps.map fun p => (p.1, p.2.1, p.2.2.ev fr)))) Q :=
  Vx_vh _ rfl (by simp only [aop, bslV]; cases fillA z (ps.map fun p => (p.1, p.2.1, p.2.2.ev fr)) <;> rfl)
def mupV (kk : Nat) (H : AH) (x k v : Value) : Option AH :=
  match x with
  | .map (some r) => match H.get r with
    | some (.map es) => bif keyOk kk k && decide (H.n0 ≤ r) && !isTup v then (updA k v es).map fun es' => H.put r (some (.map es')) else none
    | _ => none
  | _ => none
@[simp] theorem Vx_mup (kk : Nat) (x k v : X) : Vx E O m (⟨none, none, .mup kk x k v⟩ :: l) ks fr H Q ↔ (mupV kk H (x.ev fr) (k.ev fr) (v.ev fr)).isSome = true ∧ Vx E O (m.up fr ((mupV kk H (x.ev fr) (k.ev fr) (v.ev fr)).getD H)) l ks fr ((mupV kk H (x.ev fr) (k.ev fr) (v.ev fr)).getD H) Q := by
  rw [Vx_s _ _ rfl]
  have e : aop (.mup kk x k v) (X.ev fr) H = (mupV kk H (x.ev fr) (k.ev fr) (v.ev fr)).map fun H' => (.v undef, H') := by
    simp only [aop, mupV]
    cases x.ev fr with
    | map r =>
      cases r with
      | none => rfl
      | some r =>
        dsimp only
        cases H.get r with
        | none => rfl
        | some b =>
          cases b with
          | cells => rfl
          | map es =>
            dsimp only
            cases (keyOk kk (k.ev fr) && decide (H.n0 ≤ r) && !isTup (v.ev fr))
            · rfl
            · simp only [cond_true]
              cases updA (k.ev fr) (v.ev fr) es <;> rfl
    | _ => rfl
  rw [e]
  cases mupV kk H (x.ev fr) (k.ev fr) (v.ev fr) <;> simp [isV, heapOf]
/-! calls -/
theorem Vx_call {d f : Nat} {«as» : List X} {vs : List Value} {R : Value → AH → Prop} (ha : «as».map (X.ev fr) = vs) (h : Ca E O f vs H R) (k : ∀ x H', R x H' → Vx E O (m.up (fr.put d x) H') l ks (fr.put d x) H' Q) : Vx E O m (⟨none, some d, .call f «as»⟩ :: l) ks fr H Q := by
  subst ha
  cases m
  · exact Wr_call (h.mono k)
  · exact Wd_call (h.mono k)
theorem Vx_callM {d f : Nat} {«as» : List X} {vs : List Value} (ha : «as».map (X.ev fr) = vs) (h : Ca E O f vs H fun x H' => Vx E O (m.up (fr.put d x) H') l ks (fr.put d x) H' Q) : Vx E O m (⟨none, some d, .call f «as»⟩ :: l) ks fr H Q := Vx_call ha h fun _ _ k => k
theorem Vx_scall {f : Nat} {«as» : List X} {vs : List Value} {R : Value → AH → Prop} (ha : «as».map (X.ev fr) = vs) (h : Ca E O f vs H R) (k : ∀ x H', R x H' → Vx E O (m.up fr H') l ks fr H' Q) : Vx E O m (⟨none, none, .call f «as»⟩ :: l) ks fr H Q := by
  subst ha
  cases m
  · exact Wr_scall (h.mono k)
  · show Wd E O _ _ _ _ _ _ _ _
    rw [Wd_cons1, Wo1_on _ _ _ _ rfl]
    exact h.mono k
theorem Vx_scallM {f : Nat} {«as» : List X} {vs : List Value} (ha : «as».map (X.ev fr) = vs) (h : Ca E O f vs H fun x H' => Vx E O (m.up fr H') l ks fr H' Q) : Vx E O m (⟨none, none, .call f «as»⟩ :: l) ks fr H Q := Vx_scall ha h fun _ _ k => k
theorem Vx_callv {d f : Nat} {x : X} {«as» : List X} {first cap : Array Value} {vs : List Value} {R : Value → AH → Prop} (hx : x.ev fr = .func (.func f) first cap) (ha : first.toList ++ «as».map (X.ev fr) ++ cap.toList = vs) (h : Ca E O f vs H R) (k : ∀ x H', R x H' → Vx E O (m.up (fr.put d x) H') l ks (fr.put d x) H' Q) : Vx E O m (⟨none, some d, .callv x «as»⟩ :: l) ks fr H Q := by
  subst ha
  have e : aop (.callv x «as») (X.ev fr) H = some (.enter f (first.toList ++ «as».map (X.ev fr) ++ cap.toList), H) := by simp only [aop, hx]
  cases m
  · show Wo E O _ _ _ _
    rw [Wo_cons1, Wo1_on _ _ _ _ rfl, e]
    exact h.mono k
  · show Wd E O _ _ _ _ _ _ _ _
    rw [Wd_cons1, Wo1_on _ _ _ _ rfl, e]
    exact h.mono k
theorem Vx_callvM {d f : Nat} {x : X} {«as» : List X} {first cap : Array Value} {vs : List Value} (hx : x.ev fr = .func (.func f) first cap) (ha : first.toList ++ «as».map (X.ev fr) ++ cap.toList = vs) (h : Ca E O f vs H fun x H' => Vx E O (m.up (fr.put d x) H') l ks (fr.put d x) H' Q) : Vx E O m (⟨none, some d, .callv x «as»⟩ :: l) ks fr H Q := Vx_callv hx ha h fun _ _ k => k
theorem Vx_scallv {f : Nat} {x : X} {«as» : List X} {first cap : Array Value} {vs : List Value} {R : Value → AH → Prop} (hx : x.ev fr = .func (.func f) first cap) (ha : first.toList ++ «as».map (X.ev fr) ++ cap.toList = vs) (h : Ca E O f vs H R) (k : ∀ x H', R x H' → Vx E O (m.up fr H') l ks fr H' Q) : Vx E O m (⟨none, none, .callv x «as»⟩ :: l) ks fr H Q := by
  subst ha
  have e : aop (.callv x «as») (X.ev fr) H = some (.enter f (first.toList ++ «as».map (X.ev fr) ++ cap.toList), H) := by simp only [aop, hx]
  cases m
  · show Wo E O _ _ _ _
    rw [Wo_cons1, Wo1_on _ _ _ _ rfl, e]
    exact h.mono k
  · show Wd E O _ _ _ _ _ _ _ _
    rw [Wd_cons1, Wo1_on _ _ _ _ rfl, e]
    exact h.mono k
end
theorem Vx_scallvM {m : Md} {l : List AO} {f : Nat} {x : X} {«as» : List X} {first cap : Array Value} {vs : List Value} (hx : x.ev fr = .func (.func f) first cap) (ha : first.toList ++ «as».map (X.ev fr) ++ cap.toList = vs) (h : Ca E O f vs H fun x H' => Vx E O (m.up fr H') l ks fr H' Q) : Vx E O m (⟨none, none, .callv x «as»⟩ :: l) ks fr H Q := Vx_scallv hx ha h fun _ _ k => k
/-! ### What a region that draws must hold -/
def wan : AO → Fr → Bool
  | ⟨none, _, _⟩, _ => true
  | ⟨some (t, b), _, _⟩, fr => wantV b (fr.get t)
@[simp] theorem wan_n (d : Option Nat) (p : AOp) (fr : Fr) : wan ⟨none, d, p⟩ fr = true := rfl
@[simp] theorem wan_s (t : Nat) (b : Bool) (d : Option Nat) (p : AOp) (fr : Fr) : wan ⟨some (t, b), d, p⟩ fr = wantV b (fr.get t) := rfl
theorem wan_eq (o : AO) (fr : Fr) : o.wanted fr = wan o fr := by
  obtain ⟨g, d, p⟩ := o
  cases g with
  | none => rfl
  | some q => obtain ⟨t, b⟩ := q; exact wanted_eq _ _ _ _
def ldA (H : AH) (n : Nat) : Value → Option (Addr × List Value)
  | .pointer (some a) => (H.ldn a n).map fun l => (a, l)
  | _ => none
@[simp] theorem ldA_p (n : Nat) (a : Addr) : ldA H n (.pointer (some a)) = (H.ldn a n).map fun l => (a, l) := rfl
def ldO : AOp → Fr → AH → Option (Addr × List Value)
  | .ld x, fr, H => ldA H 1 (x.ev fr)
  | .ldn n x, fr, H => ldA H n (x.ev fr)
  | _, _, _ => none
@[simp] theorem ldO_ld (x : X) : ldO (.ld x) fr H = ldA H 1 (x.ev fr) := rfl
@[simp] theorem ldO_ldn (n : Nat) (x : X) : ldO (.ldn n x) fr H = ldA H n (x.ev fr) := rfl
def samO (H' : AH) : Option (Addr × List Value) → Bool
  | some x => sameAt H' x
  | none => false
@[simp] theorem samO_s (x : Addr × List Value) : samO H (some x) = sameAt H x := rfl
theorem sameAt_ldn {a : Addr} {l m : List Value} (h : H.ldn a l.length = some m) : sameAt H (a, l) = sameL m l := by
  unfold sameAt; rw [h]
def samL : Option (List Value) → List Value → Bool
  | some m, l => sameL m l
  | none, _ => false
@[simp] theorem samL_s (m l : List Value) : samL (some m) l = sameL m l := rfl
@[simp] theorem sameAt_p (a : Addr) (l : List Value) : sameAt H (a, l) = samL (H.ldn a l.length) l := by
  unfold sameAt samL
  dsimp only
  cases H.ldn a l.length <;> rfl
@[simp] theorem sameL_n : sameL [] [] = true := rfl
@[simp] theorem sameL_c (x y : Value) (l m : List Value) : sameL (x :: l) (y :: m) = (same1 x y && sameL l m) := rfl
@[simp] theorem same1_i (k : IntKind) (n : Int) : same1 (.int k n) (.int k n) = true := by simp [same1]
@[simp] theorem same1_b (b : Bool) : same1 (.bool b) (.bool b) = true := by simp [same1]
@[simp] theorem same1_t (b : ByteArray) : same1 (.string b) (.string b) = true := by simp [same1]
@[simp] theorem same1_p (a : Option Addr) : same1 (.pointer a) (.pointer a) = true := by simp [same1]
@[simp] theorem same1_s (a : Option Addr) (n c : Nat) : same1 (.slice a n c) (.slice a n c) = true := by simp [same1]
@[simp] theorem same1_m (a : Option Nat) : same1 (.map a) (.map a) = true := by simp [same1]
def ckO (l : List AO) : Nat → Option AO → Option (Fr × AH) → Option (Fr × AH) → Option AO → Option (Fr × AH) → Option (Fr × AH) → Bool
  | k, some op, some (fp, Hp), some (_, Hp'), some oq, some (fq, _), some (_, Hq') =>
    !wan op fp || !wan oq fq || (match k with
      | 0 => samO Hq' (ldO op.o fp Hp)
      | 1 => sameB (Hp'.get Hp.nx) (Hq'.get Hp.nx)
      | _ => match adrOf op fp, adrOf oq fq with | some b, some b' => !Nat.beq b b' | _, _ => true)
  | _, _, _, _, _, _, _ => false
@[simp] theorem ckO_0 (l : List AO) (op oq : AO) (fp fq f1 f2 : Fr) (Hp Hp' H1 Hq' : AH) : ckO l 0 (some op) (some (fp, Hp)) (some (f1, Hp')) (some oq) (some (fq, H1)) (some (f2, Hq')) = (!wan op fp || !wan oq fq || samO Hq' (ldO op.o fp Hp)) := rfl
@[simp] theorem ckO_1 (l : List AO) (op oq : AO) (fp fq f1 f2 : Fr) (Hp Hp' H1 Hq' : AH) : ckO l 1 (some op) (some (fp, Hp)) (some (f1, Hp')) (some oq) (some (fq, H1)) (some (f2, Hq')) = (!wan op fp || !wan oq fq || sameB (Hp'.get Hp.nx) (Hq'.get Hp.nx)) := rfl
theorem ckO_2 (l : List AO) (op oq : AO) (fp fq f1 f2 : Fr) (Hp Hp' H1 Hq' : AH) : ckO l 2 (some op) (some (fp, Hp)) (some (f1, Hp')) (some oq) (some (fq, H1)) (some (f2, Hq')) = (!wan op fp || !wan oq fq || (match adrOf op fp, adrOf oq fq with | some b, some b' => !Nat.beq b b' | _, _ => true)) := rfl
theorem chk1_eq (l : List AO) (ss : List (Fr × AH)) (k p q : Nat) : chk1 l ss (k, p, q) = ckO l k (nth l p) (nth ss p) (nth ss (p + 1)) (nth l q) (nth ss q) (nth ss (q + 1)) := by
  unfold chk1
  dsimp only
  cases nth l p with
  | none => rfl
  | some op =>
    cases nth ss p with
    | none => rfl
    | some a =>
      cases nth ss (p + 1) with
      | none => rfl
      | some b =>
        cases nth l q with
        | none => rfl
        | some oq =>
          cases nth ss q with
          | none => rfl
          | some c =>
            cases nth ss (q + 1) with
            | none => rfl
            | some d =>
              obtain ⟨a1, a2⟩ := a
              obtain ⟨b1, b2⟩ := b
              obtain ⟨c1, c2⟩ := c
              obtain ⟨d1, d2⟩ := d
              simp only [ckO, wan_eq]
              congr 1
              match k with
              | 0 =>
                obtain ⟨g, dd, p⟩ := op
                cases p <;> first
                  | rfl
                  | (simp only [loadOf, ldO]
                     rename_i x
                     cases x.ev a1 with
                     | pointer z =>
                       cases z with
                       | none => rfl
                       | some z => simp only [ldA]; cases AH.ldn a2 z _ <;> rfl
                     | _ => rfl)
              | 1 => rfl
              | k + 2 => rfl
theorem okD_eq (l : List AO) (ck : List (Nat × Nat × Nat)) (acc : List (Fr × AH)) : okD l ck acc = (chain acc.reverse && ck.all fun c => ckO l c.1 (nth l c.2.1) (nth acc.reverse c.2.1) (nth acc.reverse (c.2.1 + 1)) (nth l c.2.2) (nth acc.reverse c.2.2) (nth acc.reverse (c.2.2 + 1))) := by
  unfold okD
  congr 1
  congr 1
  funext c
  obtain ⟨k, p, q⟩ := c
  exact chk1_eq _ _ _ _ _
theorem okD_of (l : List AO) (ck : List (Nat × Nat × Nat)) (acc : List (Fr × AH)) : okD l ck acc = true ↔ chain acc.reverse = true ∧ ck.all (fun c => ckO l c.1 (nth l c.2.1) (nth acc.reverse c.2.1) (nth acc.reverse (c.2.1 + 1)) (nth l c.2.2) (nth acc.reverse c.2.2) (nth acc.reverse (c.2.2 + 1))) = true := by
  rw [okD_eq, Bool.and_eq_true]
theorem chain_2 (a b : Fr × AH) (l : List (Fr × AH)) : chain (a :: b :: l) = true ↔ (a.2.n0 = b.2.n0 ∧ a.2.nx ≤ b.2.nx) ∧ chain (b :: l) = true := by
  simp only [chain, Bool.and_eq_true, Nat.beq_eq, Nat.ble_eq]
theorem chain_1 (a : Fr × AH) : chain [a] = true := rfl
@[simp] theorem nth_z {α : Type} (x : α) (l : List α) : nth (x :: l) 0 = some x := rfl
@[simp] theorem nth_s {α : Type} (x : α) (l : List α) (n : Nat) : nth (x :: l) (n + 1) = nth l n := rfl
theorem nth_l {α : Type} : ∀ (l : List α) (n : Nat), nth l n = l[n]?
  | [], n => by cases n <;> rfl
  | x :: l, 0 => rfl
  | x :: l, n + 1 => by simp [nth_l l n]
/-! ### Functions and loops -/
/-- Code with another end behind its first so many parts; that end. -/
def spine : Nat → AC → AC → AC
  | 0, _, r => r
  | k + 1, .seq a b, r => .seq a (spine k b r)
  | _, c, _ => c
def tailOf : Nat → AC → AC
  | 0, c => c
  | k + 1, .seq _ b => tailOf k b
  | _, c => c
theorem spine_0 (c r : AC) : spine 0 c r = r := by cases c <;> rfl
theorem spine_s (k : Nat) (a b r : AC) : spine (k + 1) (.seq a b) r = .seq a (spine k b r) := rfl
theorem spine_1 (a b r : AC) : spine 1 (.seq a b) r = .seq a r := by cases b <;> rfl
theorem spine_2 (a b r : AC) : spine 2 (.seq a b) r = .seq a (spine 1 b r) := rfl
theorem spine_3 (a b r : AC) : spine 3 (.seq a b) r = .seq a (spine 2 b r) := rfl
theorem spine_4 (a b r : AC) : spine 4 (.seq a b) r = .seq a (spine 3 b r) := rfl
theorem spine_5 (a b r : AC) : spine 5 (.seq a b) r = .seq a (spine 4 b r) := rfl
theorem spine_6 (a b r : AC) : spine 6 (.seq a b) r = .seq a (spine 5 b r) := rfl
theorem spine_7 (a b r : AC) : spine 7 (.seq a b) r = .seq a (spine 6 b r) := rfl
theorem spine_8 (a b r : AC) : spine 8 (.seq a b) r = .seq a (spine 7 b r) := rfl
attribute [simp] spine_1 spine_2 spine_3 spine_4 spine_5 spine_6 spine_7 spine_8
/-! ### A fact at a place of the code -/
inductive Stp where
  | l
  | r
def subAt : List Stp → AC → AC
  | [], c => c
  | .l :: p, .seq a _ => subAt p a
  | .r :: p, .seq _ b => subAt p b
  | .l :: p, .block _ a => subAt p a
  | .l :: p, .cond _ a _ => subAt p a
  | .r :: p, .cond _ _ b => subAt p b
  | _, c => c
def plug : List Stp → AC → AC → AC
  | [], _, r => r
  | .l :: p, .seq a b, r => .seq (plug p a r) b
  | .r :: p, .seq a b, r => .seq a (plug p b r)
  | .l :: p, .block i a, r => .block i (plug p a r)
  | .l :: p, .cond x a b, r => .cond x (plug p a r) b
  | .r :: p, .cond x a b, r => .cond x a (plug p b r)
  | _, c, _ => c
def ctxK : List Stp → AC → List Ko → List Ko
  | [], _, ks => ks
  | .l :: p, .seq a b, ks => ctxK p a (.seq b :: ks)
  | .r :: p, .seq _ b, ks => ctxK p b ks
  | .l :: p, .block i a, ks => ctxK p a (.blk i :: ks)
  | .l :: p, .cond _ a _, ks => ctxK p a ks
  | .r :: p, .cond _ _ b, ks => ctxK p b ks
  | _, _, ks => ks
@[simp] theorem subAt_n (c : AC) : subAt [] c = c := by cases c <;> rfl
@[simp] theorem subAt_l (p : List Stp) (a b : AC) : subAt (.l :: p) (.seq a b) = subAt p a := rfl
@[simp] theorem subAt_r (p : List Stp) (a b : AC) : subAt (.r :: p) (.seq a b) = subAt p b := rfl
@[simp] theorem subAt_b (p : List Stp) (i : Nat) (a : AC) : subAt (.l :: p) (.block i a) = subAt p a := rfl
@[simp] theorem subAt_cl (p : List Stp) (x : X) (a b : AC) : subAt (.l :: p) (.cond x a b) = subAt p a := rfl
@[simp] theorem subAt_cr (p : List Stp) (x : X) (a b : AC) : subAt (.r :: p) (.cond x a b) = subAt p b := rfl
@[simp] theorem plug_cl (p : List Stp) (x : X) (a b r : AC) : plug (.l :: p) (.cond x a b) r = .cond x (plug p a r) b := rfl
@[simp] theorem plug_cr (p : List Stp) (x : X) (a b r : AC) : plug (.r :: p) (.cond x a b) r = .cond x a (plug p b r) := rfl
@[simp] theorem ctxK_cl (p : List Stp) (x : X) (a b : AC) (ks : List Ko) : ctxK (.l :: p) (.cond x a b) ks = ctxK p a ks := rfl
@[simp] theorem ctxK_cr (p : List Stp) (x : X) (a b : AC) (ks : List Ko) : ctxK (.r :: p) (.cond x a b) ks = ctxK p b ks := rfl
@[simp] theorem plug_n (c r : AC) : plug [] c r = r := by cases c <;> rfl
@[simp] theorem plug_l (p : List Stp) (a b r : AC) : plug (.l :: p) (.seq a b) r = .seq (plug p a r) b := rfl
@[simp] theorem plug_r (p : List Stp) (a b r : AC) : plug (.r :: p) (.seq a b) r = .seq a (plug p b r) := rfl
@[simp] theorem plug_b (p : List Stp) (i : Nat) (a r : AC) : plug (.l :: p) (.block i a) r = .block i (plug p a r) := rfl
@[simp] theorem ctxK_n (c : AC) (ks : List Ko) : ctxK [] c ks = ks := by cases c <;> rfl
@[simp] theorem ctxK_l (p : List Stp) (a b : AC) (ks : List Ko) : ctxK (.l :: p) (.seq a b) ks = ctxK p a (.seq b :: ks) := rfl
@[simp] theorem ctxK_r (p : List Stp) (a b : AC) (ks : List Ko) : ctxK (.r :: p) (.seq a b) ks = ctxK p b ks := rfl
@[simp] theorem ctxK_b (p : List Stp) (i : Nat) (a : AC) (ks : List Ko) : ctxK (.l :: p) (.block i a) ks = ctxK p a (.blk i :: ks) := rfl
def ksSub : Nat → List Stp → List Ko → AC
  | 0, p, .seq c :: _ => subAt p c
  | j + 1, p, _ :: ks => ksSub j p ks
  | _, _, _ => .skip
def ksPlug : Nat → List Stp → List Ko → AC → List Ko
  | 0, p, .seq c :: ks, r => .seq (plug p c r) :: ks
  | j + 1, p, k :: ks, r => k :: ksPlug j p ks r
  | _, _, ks, _ => ks
def ksCtx : Nat → List Stp → List Ko → List Ko
  | 0, p, .seq c :: ks => ctxK p c ks
  | j + 1, p, _ :: ks => ksCtx j p ks
  | _, _, ks => ks
/-- This holds wherever the code comes to that place; and from there on all goes well. -/
theorem Vk_at {c : AC} (p : List Stp) (P : Fr → AH → Prop) (hp : plug p c (subAt p c) = c) (h2 : ∀ fr H, P fr H → Vk E O (subAt p c) (ctxK p c ks) fr H Q) (h1 : ∀ rest, (∀ fr H, P fr H → Vk E O rest (ctxK p c ks) fr H Q) → Vk E O (plug p c rest) ks fr H Q) : Vk E O c ks fr H Q := by
  have := h1 _ h2
  rwa [hp] at this
theorem Vx_at {m : Md} {l : List AO} (j : Nat) (p : List Stp) (P : Fr → AH → Prop) (hp : ksPlug j p ks (ksSub j p ks) = ks) (h2 : ∀ fr H, P fr H → Vk E O (ksSub j p ks) (ksCtx j p ks) fr H Q) (h1 : ∀ rest, (∀ fr H, P fr H → Vk E O rest (ksCtx j p ks) fr H Q) → Vx E O m l (ksPlug j p ks rest) fr H Q) : Vx E O m l ks fr H Q := by
  have := h1 _ h2
  rwa [hp] at this
/-- A function's body, cut behind its first so many parts. -/
theorem Ca.bodyT {f : Nat} {F : AF} {«as» : List Value} {H : AH} {Q : Value → AH → Prop} (k : Nat) (ho : O f = none) (he : E f = some F) (hl : «as».length = F.np) (hk : spine k F.body (tailOf k F.body) = F.body) (h : Vk E O (spine k F.body (tailOf k F.body)) [] (Fr.of «as») H (retQ F.res Q)) : Ca E O f «as» H Q := Ca.bodyK ho he hl (hk ▸ h)
theorem Ca.bodyV {f : Nat} {F : AF} {«as» : List Value} {H : AH} {Q : Value → AH → Prop} (ho : O f = none) (he : E f = some F) (hl : «as».length = F.np) (h : Vk E O F.body [] (Fr.of «as») H (retQ F.res Q)) : Ca E O f «as» H Q := Ca.bodyK ho he hl h
/-- What must hold behind a loop's body. -/
def loopV (E : Env) (O : Orc) (I : Nat → Fr → AH → Prop) (k : Nat) (ks : List Ko) (Q : Ex → Fr → AH → Prop) : Ex → Fr → AH → Prop
  | .normal, fr, H => ∃ j, j < k ∧ I j fr H
  | .exit i, fr, H => Vn E O (.exit i) ks fr H Q
  | .ret, fr, H => Vn E O .ret ks fr H Q
@[simp] theorem loopV_n (I : Nat → Fr → AH → Prop) (k : Nat) : loopV E O I k ks Q .normal fr H = ∃ j, j < k ∧ I j fr H := rfl
@[simp] theorem loopV_e (I : Nat → Fr → AH → Prop) (k i : Nat) : loopV E O I k ks Q (.exit i) fr H = Vn E O (.exit i) ks fr H Q := rfl
@[simp] theorem loopV_r (I : Nat → Fr → AH → Prop) (k : Nat) : loopV E O I k ks Q .ret fr H = Vn E O .ret ks fr H Q := rfl
theorem Vk_loop {a : AC} (I : Nat → Fr → AH → Prop) (step : ∀ k fr H, I k fr H → Vk E O a [] fr H (loopV E O I k ks Q)) (k : Nat) (h : I k fr H) : Vk E O (.loop a) ks fr H Q := by
  refine Wk_loop I (fun k fr H hI => ?_) k h
  have := step k fr H hI
  unfold Vk at this
  have e : loopV E O I k ks Q = loopQ E O I k ks Q := by
    funext ex fr H
    cases ex <;> rfl
  rw [e] at this
  exact this
@[simp] theorem X_t (n : Nat) : X.ev fr (.t n) = fr.get n := rfl
@[simp] theorem X_k (v : Value) : X.ev fr (.k v) = v := rfl
@[simp] theorem X_f (n : Nat) : X.ev fr (.f n) = .func (.func n) #[] #[] := rfl
end
end Go.Proofs.YtoijnpfpjpefgaaGreat.A
/- Specs: the program's names, headings. -/
set_option linter.unusedVariables false
set_option linter.unusedSimpArgs false
set_option maxRecDepth 10000
namespace Go.Proofs.YtoijnpfpjpefgaaGreat.A
open Go
theorem inName_ca (c : Int) (H : AH) : Ca E O 133 [.int .u8 c] H (fun x H' => x = .bool (nameByte c) ∧ H' = H) := by
  refine Ca.bodyV (F := a133) rfl rfl rfl ?_
  simp (maxSteps := 4000000) -implicitDefEqProofs +contextual [-X.ev, a133]
  simp [br, nameByte, isLetter, isDigit]
  by_cases h1 : 97 ≤ c <;> by_cases h2 : c ≤ 122 <;> by_cases h3 : 48 ≤ c <;> by_cases h4 : c ≤ 57 <;> simp [*] <;> omega
theorem nameByte_letter {c : Int} (h : isLetter c = true) : nameByte c = true := by simp [nameByte, h]
theorem strEq_nil {s : ByteArray} : strEq s ⟨#[]⟩ = decide (s.size = 0) := by
  rw [Bool.eq_iff_iff, strEq_iff]
  constructor
  · rintro rfl; rfl
  · intro h; simp at h; exact h
theorem isName_ca (s : ByteArray) (hsz : s.size < 2 ^ 60) (H : AH) : Ca E O 118 [.string s] H (fun x H' => x = .bool (isName s) ∧ H' = H) := by
  refine Ca.bodyV (F := a118) rfl rfl rfl ?_
  by_cases h1 : s.size = 0
  · simp (maxSteps := 4000000) -implicitDefEqProofs +contextual [-X.ev, a118, strEq_nil, h1, isName]
  have h1' : 0 < s.size := by omega
  have ix0 : ixV (.string s) (.int .i64 0) = some (.int .u8 (byteAt s 0)) := ixV_p (n := 0) h1'
  have ltr : isLetter (byteAt s 0) = (decide (97 ≤ byteAt s 0) && decide (byteAt s 0 ≤ 122)) := rfl
  obtain ⟨b0, ltr0⟩ : ∃ b, byteAt s 0 = b := ⟨_, rfl⟩
  rw [ltr0] at ix0 ltr
  simp (maxSteps := 4000000) -implicitDefEqProofs +contextual [-X.ev, a118, strEq_nil, h1, ix0]
  refine br_i (fun q => ?_) (fun q => br_i (fun q1 => ?_) (fun q1 => br_i (fun q2 => ?_) (fun q2 => ?_)))
  · have : ¬ s.size ≤ 12 := by omega
    simp [isName, this]
  · have q1' : ¬ 97 ≤ b0 := by omega
    simp [isName, ltr0, ltr, q1']
  · have q2' : ¬ b0 ≤ 122 := by omega
    simp [isName, ltr0, ltr, q2']
  refine Vk_loop (fun k fr H' => H' = H ∧ ∃ i : Nat, i + k = s.size ∧ fr.get 0 = .string s ∧ fr.get 3 = .int .i64 i ∧ ∀ j, j < i → nameByte (byteAt s j) = true) ?_ s.size ⟨rfl, 0, by simp, by simp, by simp, fun j hj => by omega⟩
  rintro k fr H' ⟨rfl, i, hi, f0, f3, hall⟩
  by_cases h : i < s.size
  · have ixi : ixV (.string s) (.int .i64 i) = some (.int .u8 (byteAt s i)) := ixV_p h
    simp (maxSteps := 4000000) -implicitDefEqProofs +contextual [-X.ev, f0, f3, h, ixi]
    apply Vx_callM
    · (simp -implicitDefEqProofs [-X.ev]; rfl)
    refine (inName_ca (byteAt s i) H').mono ?_
    rintro x H1 ⟨rfl, rfl⟩
    cases h5 : nameByte (byteAt s i) with
    | true =>
      simp (maxSteps := 4000000) -implicitDefEqProofs +contextual [-X.ev, f0, f3]
      rw [wrap_in ⟨by omega, by omega⟩]
      refine ⟨k - 1, by omega, i + 1, by omega, by simp, fun j hj => ?_⟩
      by_cases e : j = i
      · subst e; exact h5
      · exact hall j (by omega)
    | false =>
      simp (maxSteps := 4000000) -implicitDefEqProofs +contextual [-X.ev]
      simp [isName]
      intro _ _ _ _
      exact ⟨i, h, h5⟩
  · have hall' : ((List.range s.size).all fun i => nameByte (byteAt s i)) = true := by simpa using fun j hj => hall j (by omega)
    have z1 : 1 ≤ s.size := by omega
    have z2 : s.size ≤ 12 := by omega
    have z3 : isLetter (byteAt s 0) = true := by rw [ltr0, ltr]; simp; omega
    have e : isName s = !isTaken s := by simp [isName, hall', z1, z2, z3]
    simp (maxSteps := 4000000) -implicitDefEqProofs +contextual [-X.ev, f0, f3, h, e, isTaken]
end Go.Proofs.YtoijnpfpjpefgaaGreat.A
/- Specs: the program's headings. -/
set_option linter.unusedVariables false
set_option linter.unusedSimpArgs false
set_option maxRecDepth 10000
namespace Go.Proofs.YtoijnpfpjpefgaaGreat.A
open Go
/-- A map whose keys are texts. -/
def smap (l : List (ByteArray × Value)) : List (Value × Value) := l.map fun p => (.string p.1, p.2)
theorem findA_s (s : ByteArray) : ∀ l : List (ByteArray × Value), findA (.string s) (smap l) = some ((l.find? fun p => strEq s p.1).map (·.2))
  | [] => rfl
  | p :: l => by
    have ih := findA_s s l
    unfold smap at ih ⊢
    simp only [List.map_cons, findA, veq?, List.find?_cons]
    change (match some (strEq s p.1) with | some true => _ | some false => _ | none => _) = _
    cases strEq s p.1
    · exact ih
    · rfl
theorem updA_s (s : ByteArray) (v : Value) : ∀ l : List (ByteArray × Value), (∀ p ∈ l, strEq s p.1 = false) → updA (.string s) v (smap l) = some (smap (l ++ [(s, v)]))
  | [], _ => rfl
  | p :: l, h => by
    have ih := updA_s s v l fun q hq => h q (by simp [hq])
    unfold smap at ih ⊢
    simp only [List.map_cons, updA, veq?, List.cons_append]
    change (match some (strEq s p.1) with | some true => _ | some false => _ | none => _) = _
    rw [h p (by simp)]
    simp [ih]
theorem lookV_f {kk m : Nat} {z k v : Value} {H : AH} {es : List (Value × Value)} (hg : H.get m = some (.map es)) (h0 : H.n0 ≤ m) (hk : keyOk kk k = true) (hf : findA k es = some (some v)) : lookV kk z H (.map (some m)) k false = some v := by
  simp [lookV, hg, h0, hk, hf]
theorem lookV_n {kk m : Nat} {z k : Value} {H : AH} {es : List (Value × Value)} (hg : H.get m = some (.map es)) (h0 : H.n0 ≤ m) (hk : keyOk kk k = true) (hf : findA k es = some none) : lookV kk z H (.map (some m)) k false = some z := by
  simp [lookV, hg, h0, hk, hf]
theorem mupV_m {kk m : Nat} {k v : Value} {H : AH} {es es' : List (Value × Value)} (hg : H.get m = some (.map es)) (h0 : H.n0 ≤ m) (hk : keyOk kk k = true) (ht : isTup v = false) (hu : updA k v es = some es') :
    ∃ H2, mupV kk H (.map (some m)) k v = some H2 ∧ Mod (fun x => x = m) H H2 ∧ H2.nx = H.nx ∧ H2.n0 = H.n0 ∧ H2.get m = some (.map es') := by
  have hb := AH.get_lt hg
  refine ⟨H.put m (some (.map es')), by simp [mupV, hg, h0, hk, ht, hu], ⟨rfl, Nat.le_refl _, fun x hx hs => ?_⟩, rfl, rfl, ?_⟩
  · rw [AH.get_put _ _ _ _ hb, if_neg hs]
  · rw [AH.get_put _ _ _ _ hb, if_pos rfl]
def namesM (l : List Vr) : List (ByteArray × Value) := l.map fun v => (v.name, .bool true)
theorem namesM_find (l : List Vr) (s : ByteArray) : ((namesM l).find? fun p => strEq s p.1).map (·.2) = if l.any (fun v => strEq v.name s) = true then some (.bool true) else none := by
  induction l with
  | nil => rfl
  | cons v l ih =>
    simp only [namesM, List.map_cons, List.find?_cons, List.any_cons]
    have e : strEq s v.name = strEq v.name s := by
      rw [Bool.eq_iff_iff, strEq_iff, strEq_iff]; exact eq_comm
    rcases Bool.eq_false_or_eq_true (strEq v.name s) with q | q
    · rw [q] at e
      simp [e, q]
    · rw [q] at e
      simp only [e, q, Bool.false_or]
      simpa [namesM] using ih
theorem any_take {l : List Vr} {i : Nat} {y : Vr} (hy : l[i]? = some y) : ((l.take i).any fun v => strEq v.name y.name) = !decide (findV l y.name = i) := by
  have hi := (List.getElem?_eq_some_iff.1 hy).1
  cases q : (l.take i).any fun v => strEq v.name y.name with
  | false =>
    have : findV l y.name = i := findV_some hy (by rw [strEq_iff]) fun j z hj hz => by
      rw [List.any_eq_false] at q
      have := q z (List.mem_of_getElem? (i := j) (by rw [List.getElem?_take, if_pos hj]; exact hz))
      simpa using this
    simp [this]
  | true =>
    rw [List.any_eq_true] at q
    obtain ⟨z, hz, hs⟩ := q
    obtain ⟨j, hj, e⟩ := List.mem_iff_getElem.1 hz
    have : ¬ findV l y.name = i := by
      intro hf
      unfold findV at hf
      split at hf
      · rename_i k hk
        rw [List.findIdx?_eq_some_iff_getElem] at hk
        obtain ⟨_, _, hk⟩ := hk
        have hji : j < i := by simp at hj; omega
        have := hk j (by omega)
        rw [List.getElem_take] at e
        rw [e, hs] at this
        simp at this
      · omega
    simp [this]
def okAt (l : List Vr) (i : Nat) : Bool := match l[i]? with | some v => okVar l i v | none => true
theorem isHeading_eq (w : Int) (l : List Vr) : isHeading w l = (isWidth w && (decide (1 ≤ l.length) && (decide (l.length ≤ 18) && ((List.range l.length).all (okAt l) && decide (wsum (l.map (·.cells)) ≤ 48))))) := rfl
theorem okAt_some {l : List Vr} {i : Nat} {y : Vr} (h : l[i]? = some y) : okAt l i = okVar l i y := by unfold okAt; rw [h]
set_option maxHeartbeats 1000000 in
theorem Head_ca {v : Value} {l : List Vr} {H : AH} (hw : H.n0 ≤ H.nx) (hv : Vars H v l) (hok : VarsOk l) (w : Int) : Ca E O 102 [.int .i64 w, v] H (fun x H' => x = .int .i64 (if isHeading w l = true then 0 else 1) ∧ Ext H H') := by
  refine Ca.bodyV (F := a102) rfl rfl rfl ?_
  obtain ⟨a, c, hva⟩ := hv.len
  have hsz := hok.1
  have X0 := Ext.alloc H (.map [])
  have g0 := get_new H (.map [])
  generalize hH0 : H.alloc (.map []) = H0 at X0 g0
  simp (maxSteps := 4000000) -implicitDefEqProofs +contextual [-X.ev, a102, hva, hH0]
  have z1 : isHeading w l = true → 1 ≤ w ∧ w ≤ 8 ∧ 1 ≤ l.length ∧ l.length ≤ 18 := by
    intro h; simp [isHeading, isWidth] at h; omega
  have nf : ¬ (1 ≤ w ∧ w ≤ 8 ∧ 1 ≤ l.length ∧ l.length ≤ 18) → isHeading w l = false := fun q => by
    rw [Bool.eq_false_iff]; exact fun h => q (z1 h)
  refine br_i (fun q => ?_) (fun q1 => br_i (fun q => ?_) (fun q2 => br_i (fun q => ?_) (fun q3 => br_i (fun q => ?_) (fun q4 => ?_))))
  · exact ⟨nf (by omega), Ext.refl _⟩
  · exact ⟨nf (by omega), Ext.refl _⟩
  · exact ⟨nf (by omega), Ext.refl _⟩
  · exact ⟨nf (by omega), Ext.refl _⟩
  refine Vk_loop (fun k fr H1 => Ext H H1 ∧ H1.get H.nx = some (.map (smap (namesM (l.take (l.length - k))))) ∧ k ≤ l.length ∧ ∃ i : Nat, i + k = l.length ∧ fr.get 26 = v ∧ fr.get 27 = .int .i64 l.length ∧ fr.get 28 = .int .i64 i ∧ fr.get 5 = .map (some H.nx) ∧ fr.get 6 = .int .i64 (wsum ((l.take i).map (·.cells))) ∧ ∀ j y, j < i → l[j]? = some y → okVar l j y = true) ?_ l.length ⟨X0, by simpa [namesM, smap] using g0, Nat.le_refl _, 0, by simp, by simp [hva], by simp, by simp, by simp, by simp [wsum], fun j y hj => by omega⟩
  rintro k fr H1 ⟨X1, gm, hk, i, hi, f26, f27, f28, f5, f6, hall⟩
  rw [show l.length - k = i by omega] at gm
  have hw1 := X1.wf hw
  have hn0 : H1.n0 ≤ H.nx := by rw [X1.n0]; exact hw
  have notOk : ∀ y, l[i]? = some y → okVar l i y = false → isHeading w l = false := by
    intro y hy hn
    have : ((List.range l.length).all (okAt l)) = false := by
      rw [List.all_eq_false]
      refine ⟨i, ?_, ?_⟩
      · have := (List.getElem?_eq_some_iff.1 hy).1; simpa using this
      · rw [okAt_some hy]; simp [hn]
    simp only [isHeading_eq, this, Bool.false_and, Bool.and_false]
  by_cases h : i < l.length
  · obtain ⟨y, hy⟩ : ∃ y, l[i]? = some y := ⟨_, List.getElem?_eq_getElem h⟩
    obtain ⟨b, o, c', hv', hldn, _⟩ := (hv.ext X1).at hy
    have hname := hok.2 y (List.mem_of_getElem? hy)
    have f26v := f26
    rw [hv'] at f26
    obtain ⟨H2, sH2, X2, nxH2, n0H2, d, lH2⟩ := st_new (H := H1) hw1 (z := 3) (c := [.string ⟨#[]⟩, .int .i64 0, .int .i64 0]) (vs := [.string y.name, .int .i64 y.level, .int .i64 y.cells]) rfl
    have d0 : H2.ld ⟨H1.nx, 0, none⟩ = some (.string y.name) := lH2 0 _ rfl
    have d1 : H2.ld ⟨H1.nx, 1, none⟩ = some (.int .i64 y.level) := lH2 1 _ rfl
    have d2 : H2.ld ⟨H1.nx, 2, none⟩ = some (.int .i64 y.cells) := lH2 2 _ rfl
    clear lH2
    replace d : H2.ldn ⟨H1.nx, 0, none⟩ 3 = some [.string y.name, .int .i64 y.level, .int .i64 y.cells] := d
    have hwH2 := X2.wf hw1
    have gm2 := X2.get gm
    have h0 : H2.n0 ≤ H.nx := by rw [n0H2]; exact hn0
    have key : isHeading w l = true → okVar l i y = true := fun hh => by
      cases e : okVar l i y with
      | true => rfl
      | false => rw [notOk y hy e] at hh; cases hh
    have lk : lookV 1 (.bool false) H2 (.map (some H.nx)) (.string y.name) false = some (.bool (!decide (findV l y.name = i))) := by
      have hf := findA_s y.name (namesM (l.take i))
      rw [namesM_find, any_take hy] at hf
      by_cases e : findV l y.name = i
      · rw [lookV_n gm2 h0 rfl (by simpa [e] using hf)]; simp [e]
      · rw [lookV_f gm2 h0 rfl (by simpa [e] using hf)]; simp [e]
    simp (maxSteps := 4000000) -implicitDefEqProofs +contextual [-X.ev, f26, f27, f28, f5, f6, h, hldn, Vr.row, sH2, d0]
    apply Vx_callM
    · (simp -implicitDefEqProofs [-X.ev]; rfl)
    refine (isName_ca y.name hname H2).mono ?_
    rintro x H3 ⟨rfl, rfl⟩
    have X3 := X1.trans X2
    cases n1 : isName y.name with
    | false =>
      simp (maxSteps := 4000000) -implicitDefEqProofs +contextual [-X.ev, f26, f27, f28, f5, f6]
      rw [notOk y hy (by simp [okVar, n1])]
      exact ⟨rfl, X3⟩
    | true =>
      by_cases hok1 : okVar l i y = true
      · obtain ⟨_, m1, m2, m3, m4, m5⟩ : isName y.name = true ∧ 0 ≤ y.level ∧ y.level ≤ 47 ∧ 1 ≤ y.cells ∧ y.cells ≤ 8 ∧ findV l y.name = i := by simpa [okVar] using hok1
        have m1' : ¬ y.level < 0 := by omega
        have m2' : ¬ 47 < y.level := by omega
        have m3' : ¬ y.cells < 1 := by omega
        have m4' : ¬ 8 < y.cells := by omega
        obtain ⟨H4, sm, X4, nx4, n04, gm4⟩ := mupV_m (v := .bool true) gm2 h0 (kk := 1) (k := .string y.name) rfl rfl (updA_s y.name (.bool true) (namesM (l.take i)) (by
          have := any_take hy
          simp only [m5, decide_true, Bool.not_true] at this
          rw [List.any_eq_false] at this
          intro p hp
          unfold namesM at hp
          obtain ⟨z, hz, rfl⟩ := List.mem_map.1 hp
          have := this z hz
          have e : strEq y.name z.name = strEq z.name y.name := by
            rw [Bool.eq_iff_iff, strEq_iff, strEq_iff]; exact eq_comm
          simpa [e] using this))
        have hne : ¬ H1.nx = H.nx := by have := AH.get_lt gm; omega
        have d2' := X4.ld (a := ⟨H1.nx, 2, none⟩) hne d2
        simp (maxSteps := 4000000) -implicitDefEqProofs +contextual [-X.ev, f26, f27, f28, f5, f6, d0, d1, d2, lk, m5, m1', m2', m3', m4', sm, d2']
        have hbd : -9223372036854775808 ≤ (i : Int) + 1 ∧ (i : Int) + 1 ≤ 9223372036854775807 := by omega
        rw [wrap_in (n := (i : Int) + 1) hbd]
        refine ⟨k - 1, by omega, X3.mod X4 (by rintro x rfl; exact Nat.le_refl _), ?_, by omega, i + 1, by omega, hv'.symm, by simp, ?_, ?_⟩
        · rw [gm4, show l.length - (k - 1) = i + 1 by omega, List.take_add_one, hy]
          simp [namesM]
        · rw [List.take_add_one]
          simp [wsum, List.getElem?_map, hy, List.foldl_append]
        · intro j z hj hz
          by_cases e : j = i
          · subst e; rw [hy] at hz; cases hz; exact hok1
          · exact hall j z (by omega) hz
      · have hok2 : okVar l i y = false := by simpa using hok1
        have hno := notOk y hy hok2
        have hor : ¬ (findV l y.name = i ∧ ¬ y.level < 0 ∧ ¬ 47 < y.level ∧ ¬ y.cells < 1 ∧ ¬ 8 < y.cells) := by
          rintro ⟨a1, a2, a3, a4, a5⟩
          apply hok1
          simp [okVar, n1, a1]
          omega
        by_cases p1 : findV l y.name = i
        case neg => 
          simp (maxSteps := 4000000) -implicitDefEqProofs +contextual [-X.ev, f26, f27, f28, f5, f6, d0, d1, d2, lk, p1, hno, X3]
        by_cases p2 : y.level < 0
        case pos => 
          simp (maxSteps := 4000000) -implicitDefEqProofs +contextual [-X.ev, f26, f27, f28, f5, f6, d0, d1, d2, lk, p1, p2, hno, X3]
        by_cases p3 : 47 < y.level
        case pos => 
          simp (maxSteps := 4000000) -implicitDefEqProofs +contextual [-X.ev, f26, f27, f28, f5, f6, d0, d1, d2, lk, p1, p2, p3, hno, X3]
        by_cases p4 : y.cells < 1
        case pos => 
          simp (maxSteps := 4000000) -implicitDefEqProofs +contextual [-X.ev, f26, f27, f28, f5, f6, d0, d1, d2, lk, p1, p2, p3, p4, hno, X3]
        have p5 : 8 < y.cells := by
          rcases Int.lt_or_le 8 y.cells with e | e
          · exact e
          · exact absurd ⟨p1, p2, p3, p4, by omega⟩ hor
        simp (maxSteps := 4000000) -implicitDefEqProofs +contextual [-X.ev, f26, f27, f28, f5, f6, d0, d1, d2, lk, p1, p2, p3, p4, p5, hno, X3]
  · have hl : i = l.length := by omega
    have hc : isHeading w l = decide (wsum (l.map (·.cells)) ≤ 48) := by
      have a1 : isWidth w = true := by simp [isWidth]; omega
      have a2 : ((List.range l.length).all (okAt l)) = true := by
        rw [List.all_eq_true]
        intro j hj
        cases e : l[j]? with
        | none => unfold okAt; rw [e]
        | some y => rw [okAt_some e]; exact hall j y (by simp at hj; omega) e
      have a3 : 1 ≤ l.length := by omega
      have a4 : l.length ≤ 18 := by omega
      simp only [isHeading_eq, a1, a2, a3, a4, decide_true, Bool.true_and]
    rw [hl, List.take_length] at f6
    simp (maxSteps := 4000000) -implicitDefEqProofs +contextual [-X.ev, f26, f27, f28, f5, f6, h, X1, hc]
end Go.Proofs.YtoijnpfpjpefgaaGreat.A
/- Specs: the program's expressions: sizes, arities. -/
set_option linter.unusedVariables false
set_option linter.unusedSimpArgs false
set_option maxRecDepth 10000
namespace Go.Proofs.YtoijnpfpjpefgaaGreat.A
open Go
theorem nodesL_take {l : List Exp} {i : Nat} {y : Exp} (h : l[i]? = some y) : nodesL (l.take (i + 1)) = nodesL (l.take i) + nodesE y := by
  induction l generalizing i with
  | nil => simp at h
  | cons x l ih =>
    cases i with
    | zero => simp at h; subst h; simp [nodesL]
    | succ i => simp only [List.take_succ_cons, nodesL]; rw [ih (by simpa using h)]; omega
theorem nodesL_take_le (l : List Exp) (i : Nat) : 0 ≤ nodesL (l.take i) ∧ nodesL (l.take i) ≤ nodesL l := by
  induction l generalizing i with
  | nil => simp [nodesL]
  | cons x l ih =>
    have h1 := nodesE_pos x
    have h2 := nodesL_pos l
    cases i with
    | zero => simp only [List.take_zero, nodesL]; omega
    | succ i => simp only [List.take_succ_cons, nodesL]; have := ih i; omega
/-- An expression's place in a row in memory. -/
theorem ExL.row {H : AH} {v : Value} {rows : List (List Value)} {l : List Exp} (hr : Rows H 4 v rows) (hl : ExL H rows l) {i : Nat} {y : Exp} (hy : l[i]? = some y) :
    ∃ b o c va r, v = .slice (some ⟨b, o, none⟩) l.length c ∧ H.ldn ⟨b, o + i * 4, none⟩ 4 = some [.int .i64 y.op, .int .i64 y.n, .int .i64 y.cp, va] ∧ r = [.int .i64 y.op, .int .i64 y.n, .int .i64 y.cp, va] ∧ ExC H r y := by
  obtain ⟨r, hr1, hey⟩ := hl.at hy
  obtain ⟨b, o, c', hv', hldn⟩ := hr.at hr1
  rw [hl.length] at hv'
  cases hey with | @mk op n cp va rows args i1 i2 i3 hlen hr hll =>
  exact ⟨b, o, c', va, _, hv', hldn, rfl, .mk i1 i2 i3 hlen hr hll⟩
theorem ENodes_ca : ∀ (N : Nat) (e : Exp) (c : List Value) (H : AH), SizeOf.sizeOf e < N → H.n0 ≤ H.nx → ExC H c e → nodesE e < 2 ^ 60 →
    Ca E O 109 [.agg c.toArray] H (fun x H' => x = .int .i64 (nodesE e) ∧ Ext H H') := by
  intro N
  induction N with
  | zero => intro e c H h; omega
  | succ N ih =>
    intro e c H hN hw he hm
    cases he with | @mk op n cp v rows args i1 i2 i3 hlen hr hl =>
    refine Ca.bodyV (F := a109) rfl rfl rfl ?_
    have X1 := Ext.alloc H (.cells 4 [.int .i64 op, .int .i64 n, .int .i64 cp, v])
    have d0 : (H.alloc (.cells 4 [.int .i64 op, .int .i64 n, .int .i64 cp, v])).ld ⟨H.nx, 0, none⟩ = some (.int .i64 op) := ld_new hw rfl
    have d1 : (H.alloc (.cells 4 [.int .i64 op, .int .i64 n, .int .i64 cp, v])).ld ⟨H.nx, 1, none⟩ = some (.int .i64 n) := ld_new hw rfl
    have d2 : (H.alloc (.cells 4 [.int .i64 op, .int .i64 n, .int .i64 cp, v])).ld ⟨H.nx, 2, none⟩ = some (.int .i64 cp) := ld_new hw rfl
    have d3 : (H.alloc (.cells 4 [.int .i64 op, .int .i64 n, .int .i64 cp, v])).ld ⟨H.nx, 3, none⟩ = some v := ld_new hw rfl
    have d : (H.alloc (.cells 4 [.int .i64 op, .int .i64 n, .int .i64 cp, v])).ldn ⟨H.nx, 0, none⟩ 4 = some [.int .i64 op, .int .i64 n, .int .i64 cp, v] := ld_box hw 4 rfl
    generalize hH1 : H.alloc (.cells 4 [.int .i64 op, .int .i64 n, .int .i64 cp, v]) = H1 at X1 d0 d1 d2 d3 d
    have hwH1 := X1.wf hw
    rw [nodesE] at hm
    obtain ⟨a0, c0, hv⟩ := hr.len
    rw [hl.length] at hv
    have D3 := d3
    rw [hv] at D3
    simp (maxSteps := 4000000) -implicitDefEqProofs +contextual [-X.ev, a109, hH1, D3]
    refine Vk_loop (fun k fr H' => Ext H1 H' ∧ ∃ i : Nat, i + k = args.length ∧ fr.get 7 = v ∧ fr.get 8 = .int .i64 args.length ∧ fr.get 9 = .int .i64 i ∧ fr.get 3 = .int .i64 (1 + nodesL (args.take i))) ?_ args.length ⟨Ext.refl _, 0, by simp, by simp [hv], by simp, by simp, by simp [nodesL]⟩
    rintro k fr H2 ⟨X2, i, hi, f7, f8, f9, f3⟩
    have X02 := X1.trans X2
    have hw2 := X02.wf hw
    by_cases h : i < args.length
    · obtain ⟨y, hy⟩ : ∃ y, args[i]? = some y := ⟨_, List.getElem?_eq_getElem h⟩
      obtain ⟨b, o, c', va, r, hv', hldn, rfl, hey⟩ := ExL.row (hr.ext X02) (hl.ext X02) hy
      have f7v := f7
      rw [hv'] at f7
      obtain ⟨H3, sH3, X3, nxH3, n0H3, q, lH3⟩ := st_new (H := H2) hw2 (z := 4) (c := [.int .i64 0, .int .i64 0, .int .i64 0, .slice none 0 0]) (vs := [.int .i64 y.op, .int .i64 y.n, .int .i64 y.cp, va]) rfl
      have q0 : H3.ld ⟨H2.nx, 0, none⟩ = some (.int .i64 y.op) := lH3 0 _ rfl
      have q1 : H3.ld ⟨H2.nx, 1, none⟩ = some (.int .i64 y.n) := lH3 1 _ rfl
      have q2 : H3.ld ⟨H2.nx, 2, none⟩ = some (.int .i64 y.cp) := lH3 2 _ rfl
      have q3 : H3.ld ⟨H2.nx, 3, none⟩ = some va := lH3 3 _ rfl
      clear lH3
      replace q : H3.ldn ⟨H2.nx, 0, none⟩ 4 = some [.int .i64 y.op, .int .i64 y.n, .int .i64 y.cp, va] := q
      have hwH3 := X3.wf hw2
      have t1 := nodesL_take hy
      have t2 := nodesL_take_le args (i + 1)
      have t3 := nodesL_take_le args i
      have t4 := nodesE_pos y
      have hs := size_arg (op := op) (n := n) (cp := cp) hy
      simp (maxSteps := 4000000) -implicitDefEqProofs +contextual [-X.ev, f7, f8, f9, f3, h, hldn, sH3, q]
      apply Vx_callM
      · (simp -implicitDefEqProofs [-X.ev]; rfl)
      refine (ih y _ H3 (by omega) hwH3 (hey.ext X3) (by omega)).mono ?_
      rintro x H4 ⟨rfl, X4⟩
      simp (maxSteps := 4000000) -implicitDefEqProofs +contextual [-X.ev, f7, f8, f9, f3]
      rw [wrap_in (n := (i : Int) + 1) ⟨by omega, by omega⟩, wrap_in ⟨by omega, by omega⟩]
      exact ⟨k - 1, by omega, X2.trans (X3.trans X4), i + 1, by omega, hv'.symm, by simp, by omega⟩
    · simp (maxSteps := 4000000) -implicitDefEqProofs +contextual [-X.ev, f7, f8, f9, f3, h]
      rw [List.take_of_length_le (by omega)]
      exact ⟨by rw [nodesE], X02⟩
/-- An operator's arity, as the program has it. -/
def arityP (V : List Vr) (op n : Int) : Int :=
  if op = 0 then 0 else if op = 1 ∧ 0 ≤ n ∧ n < V.length then (if 1 < cellsAt V n then 1 else 0) else
  if (2 ≤ op ∧ op ≤ 11) ∨ op = 13 ∨ op = 14 then 2 else if op = 12 then 1 else if op = 15 then 3 else -1
theorem arity_ca {w kk op n cp : Int} {vv va : Value} {V : List Vr} {H : AH} (hw : H.n0 ≤ H.nx) (hv : Vars H vv V) :
    Ca E O 144 [.agg #[.int .i64 w, vv, .int .i64 kk], .agg #[.int .i64 op, .int .i64 n, .int .i64 cp, va]] H (fun x H' => x = .int .i64 (arityP V op n) ∧ Ext H H') := by
  refine Ca.bodyV (F := a144) rfl rfl rfl ?_
  have X1 := Ext.alloc H (.cells 3 [.int .i64 w, vv, .int .i64 kk])
  have d0 : (H.alloc (.cells 3 [.int .i64 w, vv, .int .i64 kk])).ld ⟨H.nx, 0, none⟩ = some (.int .i64 w) := ld_new hw rfl
  have d1 : (H.alloc (.cells 3 [.int .i64 w, vv, .int .i64 kk])).ld ⟨H.nx, 1, none⟩ = some vv := ld_new hw rfl
  have d2 : (H.alloc (.cells 3 [.int .i64 w, vv, .int .i64 kk])).ld ⟨H.nx, 2, none⟩ = some (.int .i64 kk) := ld_new hw rfl
  have d : (H.alloc (.cells 3 [.int .i64 w, vv, .int .i64 kk])).ldn ⟨H.nx, 0, none⟩ 3 = some [.int .i64 w, vv, .int .i64 kk] := ld_box hw 3 rfl
  generalize hH1 : H.alloc (.cells 3 [.int .i64 w, vv, .int .i64 kk]) = H1 at X1 d0 d1 d2 d
  have hwH1 := X1.wf hw
  have X2 := Ext.alloc H1 (.cells 4 [.int .i64 op, .int .i64 n, .int .i64 cp, va])
  have e0 : (H1.alloc (.cells 4 [.int .i64 op, .int .i64 n, .int .i64 cp, va])).ld ⟨H1.nx, 0, none⟩ = some (.int .i64 op) := ld_new hwH1 rfl
  have e1 : (H1.alloc (.cells 4 [.int .i64 op, .int .i64 n, .int .i64 cp, va])).ld ⟨H1.nx, 1, none⟩ = some (.int .i64 n) := ld_new hwH1 rfl
  have e2 : (H1.alloc (.cells 4 [.int .i64 op, .int .i64 n, .int .i64 cp, va])).ld ⟨H1.nx, 2, none⟩ = some (.int .i64 cp) := ld_new hwH1 rfl
  have e3 : (H1.alloc (.cells 4 [.int .i64 op, .int .i64 n, .int .i64 cp, va])).ld ⟨H1.nx, 3, none⟩ = some va := ld_new hwH1 rfl
  have e : (H1.alloc (.cells 4 [.int .i64 op, .int .i64 n, .int .i64 cp, va])).ldn ⟨H1.nx, 0, none⟩ 4 = some [.int .i64 op, .int .i64 n, .int .i64 cp, va] := ld_box hwH1 4 rfl
  generalize hH2 : H1.alloc (.cells 4 [.int .i64 op, .int .i64 n, .int .i64 cp, va]) = H2 at X2 e0 e1 e2 e3 e
  have hwH2 := X2.wf hwH1
  have X := X1.trans X2
  replace d1 := X2.ld d1
  by_cases h1 : 0 ≤ n ∧ n < V.length
  · obtain ⟨h1, h2⟩ := h1
    obtain ⟨y, hy⟩ : ∃ y, V[n.toNat]? = some y := ⟨_, List.getElem?_eq_getElem (by omega)⟩
    obtain ⟨b, o, c', hv', _, _, _, hld⟩ := (hv.ext X).at hy
    have hc : cellsAt V n = y.cells := by simp [cellsAt, hy]
    rw [hv'] at d1
    simp (maxSteps := 4000000) -implicitDefEqProofs +contextual [-X.ev, a144, hH1, hH2, d1, e0, e1, h1, h2, hld, X, hc, arityP]
  · have hc : arityP V op n = if op = 0 then 0 else if (2 ≤ op ∧ op ≤ 11) ∨ op = 13 ∨ op = 14 then 2 else if op = 12 then 1 else if op = 15 then 3 else -1 := by
      unfold arityP
      simp only [h1, and_false, if_false]
    obtain ⟨a1, c1, hvv⟩ := hv.len
    rw [hvv] at d1
    by_cases h2 : 0 ≤ n
    · have h3 : ¬ n < V.length := fun q => h1 ⟨h2, q⟩
      simp (maxSteps := 4000000) -implicitDefEqProofs +contextual [-X.ev, a144, hH1, hH2, d1, e0, e1, h2, h3, X, hc]
    · simp (maxSteps := 4000000) -implicitDefEqProofs +contextual [-X.ev, a144, hH1, hH2, d1, e0, e1, h2, X, hc]
end Go.Proofs.YtoijnpfpjpefgaaGreat.A
/- Specs: the program's expressions: their form. -/
set_option linter.unusedVariables false
set_option linter.unusedSimpArgs false
set_option maxRecDepth 10000
namespace Go.Proofs.YtoijnpfpjpefgaaGreat.A
open Go
/-- What the program asks of a node beside its arity. -/
def caseP (w k : Int) (op n cp : Int) : Bool :=
  if op = 0 then !decide (n < 0) && (!decide (2 ^ w.toNat ≤ n) && decide (cp = 0)) else if op = 1 then !decide (cp < 0) && !decide (k ≤ cp) else decide (n = 0) && decide (cp = 0)
theorem node_eq {w k : Int} (hw : 1 ≤ w ∧ w ≤ 8) (V : List Vr) (op n cp : Int) (na : Nat) : nodeOk w V k op n cp na = (decide (arityP V op n = na) && caseP w k op n cp) := by
  have w1 : isWidth w = true := by simp [isWidth, hw]
  unfold nodeOk caseP arityP
  by_cases h0 : op = 0
  · subst h0
    simp only [isWord, w1, Bool.true_and]
    have : argsOf 0 = 0 := rfl
    rw [Bool.eq_iff_iff]
    simp [this]
    omega
  by_cases h1 : op = 1
  · subst h1
    have z0 : ¬ ((1 : Int) = 0) := by omega
    have z1 : ¬ ((2 ≤ (1 : Int) ∧ (1 : Int) ≤ 11) ∨ (1 : Int) = 13 ∨ (1 : Int) = 14) := by omega
    have z2 : ¬ ((1 : Int) = 12) := by omega
    have z3 : ¬ ((1 : Int) = 15) := by omega
    simp only [if_true, if_neg z0, if_neg z1, if_neg z2, if_neg z3, true_and]
    rw [Bool.eq_iff_iff]
    generalize (if 1 < cellsAt V n then (1 : Int) else 0) = z
    by_cases h2 : 0 ≤ n ∧ n < V.length
    · rw [if_pos h2]
      simp only [Bool.and_eq_true, Bool.not_eq_true', Bool.or_eq_false_iff, decide_eq_false_iff_not, decide_eq_true_eq]
      omega
    · rw [if_neg h2]
      simp only [Bool.and_eq_true, Bool.not_eq_true', Bool.or_eq_false_iff, decide_eq_false_iff_not, decide_eq_true_eq]
      omega
  · simp only [if_neg h0, if_neg h1, false_and, if_false]
    have e : argsOf op = if (2 ≤ op ∧ op ≤ 11) ∨ op = 13 ∨ op = 14 then 2 else if op = 12 then 1 else if op = 15 then 3 else -1 := by
      unfold argsOf isTwo
      rw [if_neg h0]
      by_cases a : op = 12
      · subst a; simp
      by_cases b : op = 15
      · subst b; simp
      rw [if_neg a, if_neg b, if_neg a, if_neg b]
      by_cases c : (2 ≤ op ∧ op ≤ 11) ∨ op = 13 ∨ op = 14
      · rw [if_pos c, if_pos (by simpa using c)]
      · rw [if_neg c, if_neg (by simpa using c)]
    rw [e, if_neg (show ¬ (op = 1 ∧ 0 ≤ n ∧ n < V.length) from fun h => h1 h.1)]
    generalize (if (2 ≤ op ∧ op ≤ 11) ∨ op = 13 ∨ op = 14 then (2 : Int) else if op = 12 then 1 else if op = 15 then 3 else -1) = z
    rw [Bool.eq_iff_iff]
    simp
    constructor
    · rintro ⟨⟨a, b⟩, c⟩; exact ⟨b.symm, c, a⟩
    · rintro ⟨a, b, c⟩; exact ⟨⟨c, a.symm⟩, b⟩
def fineOk (w : Int) (V : List Vr) (k : Int) (e : Exp) (deep left : Int) : Bool := decide (nodesE e ≤ left) && (decide (deep + depthE e ≤ 17) && formE w V k e)
theorem shl_w {w : Int} (hw : 1 ≤ w ∧ w ≤ 8) : abin .shl (.int .i64 1) (.int .u64 (IntKind.u64.wrap w)) = some (.int .i64 (2 ^ w.toNat)) := by
  obtain ⟨h1, h2⟩ := hw
  obtain ⟨n, rfl⟩ : ∃ n : Nat, w = n := ⟨w.toNat, by omega⟩
  have : n = 1 ∨ n = 2 ∨ n = 3 ∨ n = 4 ∨ n = 5 ∨ n = 6 ∨ n = 7 ∨ n = 8 := by omega
  rcases this with rfl | rfl | rfl | rfl | rfl | rfl | rfl | rfl <;> rfl
theorem depthL_mem : ∀ {l : List Exp} {k : Int} {y : Exp}, y ∈ l → depthE y ≤ depthL l k
  | x :: l, k, y, h => by
    rw [depthL]
    rcases List.mem_cons.1 h with rfl | h
    · have : ∀ (l : List Exp) (k : Int), k ≤ depthL l k := by
        intro l
        induction l with
        | nil => intro k; rw [depthL]; omega
        | cons z l ih => intro k; rw [depthL]; have := ih (max k (depthE z)); omega
      have := this l (max k (depthE y))
      omega
    · exact depthL_mem h
theorem depthL_le {l : List Exp} {k m : Int} (hk : k ≤ m) (h : ∀ y ∈ l, depthE y ≤ m) : depthL l k ≤ m := by
  induction l generalizing k with
  | nil => rw [depthL]; exact hk
  | cons x l ih =>
    rw [depthL]
    have := h x (by simp)
    exact ih (by omega) fun y hy => h y (by simp [hy])
set_option maxHeartbeats 2000000 in
theorem fine_ca {w k : Int} (hw8 : 1 ≤ w ∧ w ≤ 8) {vv : Value} {V : List Vr} : ∀ (N : Nat) (e : Exp) (c : List Value) (G H : AH) (deep left : Int) (b : Nat), SizeOf.sizeOf e < N → H.n0 ≤ H.nx → Ext G H → G.nx ≤ b → Vars G vv V → ExC G c e →
    H.get b = some (.cells 1 [.int .i64 left]) → H.n0 ≤ b → 0 ≤ left ∧ left ≤ 1000 → 1 ≤ deep ∧ deep ≤ 17 →
    Ca E O 139 [.agg #[.int .i64 w, vv, .int .i64 k], .agg c.toArray, .int .i64 deep, .pointer (some ⟨b, 0, none⟩)] H (fun x H' => x = .bool (fineOk w V k e deep left) ∧ Mod (fun x => x = b) H H' ∧ ∃ left', H'.get b = some (.cells 1 [.int .i64 left']) ∧ (fineOk w V k e deep left = true → left' = left - nodesE e)) := by
  intro N
  induction N with
  | zero => intro e c G H deep left b h; omega
  | succ N ih =>
    intro e c G H deep left b hN hw GX gb hv he hb hb0 hleft hdeep
    have hbH := AH.get_lt hb
    cases he with | @mk op n cp va rows args i1 i2 i3 hlen hr hl =>
    refine Ca.bodyT 4 (F := a139) rfl rfl rfl rfl ?_
    obtain ⟨rest, hrest⟩ : ∃ r, tailOf 4 a139.body = r := ⟨_, rfl⟩
    rw [hrest]
    have X1 := Ext.alloc H (.cells 3 [.int .i64 w, vv, .int .i64 k])
    have d0 : (H.alloc (.cells 3 [.int .i64 w, vv, .int .i64 k])).ld ⟨H.nx, 0, none⟩ = some (.int .i64 w) := ld_new hw rfl
    have d1 : (H.alloc (.cells 3 [.int .i64 w, vv, .int .i64 k])).ld ⟨H.nx, 1, none⟩ = some vv := ld_new hw rfl
    have d2 : (H.alloc (.cells 3 [.int .i64 w, vv, .int .i64 k])).ld ⟨H.nx, 2, none⟩ = some (.int .i64 k) := ld_new hw rfl
    have d : (H.alloc (.cells 3 [.int .i64 w, vv, .int .i64 k])).ldn ⟨H.nx, 0, none⟩ 3 = some [.int .i64 w, vv, .int .i64 k] := ld_box hw 3 rfl
    generalize hH1 : H.alloc (.cells 3 [.int .i64 w, vv, .int .i64 k]) = H1 at X1 d0 d1 d2 d
    have hwH1 := X1.wf hw
    have X2 := Ext.alloc H1 (.cells 4 [.int .i64 op, .int .i64 n, .int .i64 cp, va])
    have e0 : (H1.alloc (.cells 4 [.int .i64 op, .int .i64 n, .int .i64 cp, va])).ld ⟨H1.nx, 0, none⟩ = some (.int .i64 op) := ld_new hwH1 rfl
    have e1 : (H1.alloc (.cells 4 [.int .i64 op, .int .i64 n, .int .i64 cp, va])).ld ⟨H1.nx, 1, none⟩ = some (.int .i64 n) := ld_new hwH1 rfl
    have e2 : (H1.alloc (.cells 4 [.int .i64 op, .int .i64 n, .int .i64 cp, va])).ld ⟨H1.nx, 2, none⟩ = some (.int .i64 cp) := ld_new hwH1 rfl
    have e3 : (H1.alloc (.cells 4 [.int .i64 op, .int .i64 n, .int .i64 cp, va])).ld ⟨H1.nx, 3, none⟩ = some va := ld_new hwH1 rfl
    have e : (H1.alloc (.cells 4 [.int .i64 op, .int .i64 n, .int .i64 cp, va])).ldn ⟨H1.nx, 0, none⟩ 4 = some [.int .i64 op, .int .i64 n, .int .i64 cp, va] := ld_box hwH1 4 rfl
    generalize hH2 : H1.alloc (.cells 4 [.int .i64 op, .int .i64 n, .int .i64 cp, va]) = H2 at X2 e0 e1 e2 e3 e
    have hwH2 := X2.wf hwH1
    replace d0 := X2.ld d0
    replace d1 := X2.ld d1
    replace d2 := X2.ld d2
    replace d := X2.ldn d
    have X := X1.trans X2
    have gb2 := X.get hb
    have hb2 : H2.n0 ≤ b := by rw [X.n0]; exact hb0
    have lb2 := ld_get gb2 hb2 (k := 0) rfl
    obtain ⟨H3, s3, M3, nx3, n03, gb3⟩ := st_get gb2 hb2 (k := 0) (vs := [.int .i64 (left - 1)]) (by simp)
    have hb3 : H3.n0 ≤ b := by rw [n03]; exact hb2
    have gb3 : H3.get b = some (.cells 1 [.int .i64 (left - 1)]) := gb3
    have lb3 := ld_get gb3 hb3 (k := 0) rfl
    have ne1 : ¬ H.nx = b := by omega
    have ne2 : ¬ H1.nx = b := by have := X1.nx; omega
    have D0 := M3.ld (a := ⟨H.nx, 0, none⟩) ne1 d0
    have D2 := M3.ld (a := ⟨H.nx, 2, none⟩) ne1 d2
    have D := M3.ldn (a := ⟨H.nx, 0, none⟩) ne1 d
    have E0 := M3.ld (a := ⟨H1.nx, 0, none⟩) ne2 e0
    have E1 := M3.ld (a := ⟨H1.nx, 1, none⟩) ne2 e1
    have E2 := M3.ld (a := ⟨H1.nx, 2, none⟩) ne2 e2
    have E3 := M3.ld (a := ⟨H1.nx, 3, none⟩) ne2 e3
    have EE := M3.ldn (a := ⟨H1.nx, 0, none⟩) ne2 e
    have hw3 := M3.wf hwH2
    have MX : Mod (fun x => x = b) H H3 := (Mod.of_ext X).trans M3
    have GX3 : Ext G H3 := GX.mod MX (by rintro x rfl; exact gb)
    have hnE := nodesL_pos args
    have hdE := depthE_bound (.mk op n cp args)
    obtain ⟨a3, c3, hva⟩ := hr.len
    rw [hl.length] at hva
    have FE := E3
    rw [hva] at FE
    have wl : IntKind.i64.wrap (left - 1) = left - 1 := wrap_in ⟨by omega, by omega⟩
    have no : ∀ q : ¬ (1 ≤ left ∧ deep ≤ 16 ∧ nodeOk w V k op n cp args.length = true), fineOk w V k (.mk op n cp args) deep left = false := by
      intro q
      rw [Bool.eq_false_iff]
      intro h
      have : nodesE (.mk op n cp args) ≤ left ∧ deep + depthE (.mk op n cp args) ≤ 17 ∧ formE w V k (.mk op n cp args) = true := by simpa [fineOk] using h
      rw [nodesE, formE, Bool.and_eq_true] at this
      exact q ⟨by omega, by omega, this.2.2.1⟩
    rw [node_eq hw8] at no
    obtain ⟨F, hF⟩ : ∃ F, fineOk w V k (.mk op n cp args) deep left = F := ⟨_, rfl⟩
    rw [hF] at no ⊢
    obtain ⟨NE, hNE⟩ : ∃ F, nodesE (.mk op n cp args) = F := ⟨_, rfl⟩
    rw [hNE]
    by_cases q1 : left - 1 < 0
    · have hno := no (by omega)
      simp (maxSteps := 4000000) -implicitDefEqProofs +contextual [-X.ev, a139, hH1, hH2, lb2, wl, s3, lb3, q1, okD_of, chain_2, chain_1, hno, MX]
      exact ⟨_, gb3⟩
    by_cases q2 : 16 < deep
    · have hno := no (by omega)
      simp (maxSteps := 4000000) -implicitDefEqProofs +contextual [-X.ev, a139, hH1, hH2, lb2, wl, s3, lb3, q1, q2, okD_of, chain_2, chain_1, hno, MX]
      exact ⟨_, gb3⟩
    simp (maxSteps := 4000000) -implicitDefEqProofs +contextual [-X.ev, a139, hH1, hH2, lb2, wl, s3, lb3, q1, q2, D, EE, FE]
    apply Vx_callM
    · (simp -implicitDefEqProofs [-X.ev]; rfl)
    refine (arity_ca hw3 (hv.ext GX3)).mono ?_
    rintro x H4 ⟨rfl, X4⟩
    have MX4 := MX.trans (Mod.of_ext X4)
    have FE4 := X4.ld FE
    have FEn := ld_ldn.1 FE
    have FE4n := ld_ldn.1 FE4
    have gb4 := X4.get gb3
    have ex4 : ∃ left', H4.get b = some (.cells 1 [.int .i64 left']) := ⟨_, gb4⟩
    have hw4 := X4.wf hw3
    have GX4 := GX3.trans X4
    have hb4 : H4.n0 ≤ b := by rw [X4.n0]; exact hb3
    by_cases q3 : arityP V op n = args.length
    case neg =>
      have hno := no (by simp [q3])
      simp (maxSteps := 4000000) -implicitDefEqProofs +contextual [-X.ev, q3, okD_of, chain_2, chain_1, hno, MX4, FEn, FE4n, X4.n0, X4.nx, ex4]
    have hno : caseP w k op n cp = false → F = false := fun h => no (by simp [h])
    have e0 := X4.ld E0
    have e1 := X4.ld E1
    have e2 := X4.ld E2
    have d0 := X4.ld D0
    have d2 := X4.ld D2
    have d := X4.ldn D
    have e := X4.ldn EE
    suffices hloop : ∀ fr : Fr, caseP w k op n cp = true → fr.get 2 = .int .i64 deep → fr.get 3 = .pointer (some ⟨b, 0, none⟩) → fr.get 4 = .pointer (some ⟨H.nx, 0, none⟩) → fr.get 5 = .pointer (some ⟨H1.nx, 0, none⟩) →
        Vk E O rest [] fr H4 (retQ [.tmp 8] fun x H' => x = .bool F ∧ Mod (fun x => x = b) H H' ∧ ∃ left', H'.get b = some (.cells 1 [.int .i64 left']) ∧ (F = true → left' = left - NE)) by
      have sh := shl_w hw8
      simp (maxSteps := 4000000) -implicitDefEqProofs +contextual [-X.ev, q3, okD_of, chain_2, chain_1, hno, MX4, FEn, FE4n, X4.n0, X4.nx, ex4, caseP, hloop, e0, e1, e2, d0, d2, sh]
    intro fr q4 f2 f3 f4 f5
    subst hrest
    have e3 := FE4
    simp (maxSteps := 4000000) -implicitDefEqProofs +contextual [-X.ev, tailOf, a139, f2, f3, f4, f5, e3]
    refine Vk_loop (fun j fr H' => Mod (fun x => x = b) H4 H' ∧ ∃ i : Nat, i + j = args.length ∧ fr.get 2 = .int .i64 deep ∧ fr.get 3 = .pointer (some ⟨b, 0, none⟩) ∧ fr.get 4 = .pointer (some ⟨H.nx, 0, none⟩) ∧ fr.get 75 = va ∧ fr.get 76 = .int .i64 args.length ∧ fr.get 77 = .int .i64 i ∧
      H'.get b = some (.cells 1 [.int .i64 (left - 1 - nodesL (args.take i))]) ∧ 1 + nodesL (args.take i) ≤ left ∧ ∀ y ∈ args.take i, depthE y + deep ≤ 16 ∧ formE w V k y = true) ?_ args.length ⟨Mod.refl _ _, 0, by simp, by simp [f2], by simp [f3], by simp [f4], by simp [hva], by simp, by simp, by simpa [nodesL] using gb4, by simp [nodesL]; omega, by simp⟩
    rintro j fr H5 ⟨M5, i, hi, f2, f3, f4, f75, f76, f77, gb5, hle, hall⟩
    have hw5 := M5.wf hw4
    have M05 := MX4.trans M5
    have GX5 : Ext G H5 := GX.mod M05 (by rintro x rfl; exact gb)
    have dd := M5.ldn (a := ⟨H.nx, 0, none⟩) ne1 d
    by_cases h : i < args.length
    · obtain ⟨y, hy⟩ : ∃ y, args[i]? = some y := ⟨_, List.getElem?_eq_getElem h⟩
      obtain ⟨b2, o2, c2, va2, r, hv', hldn, rfl, hey⟩ := ExL.row hr hl hy
      replace hldn := GX5.ldn hldn
      have f75v := f75
      rw [hv'] at f75
      obtain ⟨H6, sH6, X6, nxH6, n0H6, q, lH6⟩ := st_new (H := H5) hw5 (z := 4) (c := [.int .i64 0, .int .i64 0, .int .i64 0, .slice none 0 0]) (vs := [.int .i64 y.op, .int .i64 y.n, .int .i64 y.cp, va2]) rfl
      have q0 : H6.ld ⟨H5.nx, 0, none⟩ = some (.int .i64 y.op) := lH6 0 _ rfl
      have q1 : H6.ld ⟨H5.nx, 1, none⟩ = some (.int .i64 y.n) := lH6 1 _ rfl
      have q2 : H6.ld ⟨H5.nx, 2, none⟩ = some (.int .i64 y.cp) := lH6 2 _ rfl
      have q3 : H6.ld ⟨H5.nx, 3, none⟩ = some va2 := lH6 3 _ rfl
      clear lH6
      replace q : H6.ldn ⟨H5.nx, 0, none⟩ 4 = some [.int .i64 y.op, .int .i64 y.n, .int .i64 y.cp, va2] := q
      have hwH6 := X6.wf hw5
      replace dd := X6.ldn dd
      have wd : IntKind.i64.wrap (deep + 1) = deep + 1 := wrap_in ⟨by omega, by omega⟩
      have t1 := nodesL_take hy
      have t2 := nodesL_take_le args (i + 1)
      have t3 := nodesL_take_le args i
      have t4 := nodesE_pos y
      have t5 := depthL_mem (k := 0) (List.mem_of_getElem? hy)
      have hs := size_arg (op := op) (n := n) (cp := cp) hy
      have hb6 : H6.n0 ≤ b := by rw [X6.n0, M5.n0]; exact hb4
      simp (maxSteps := 4000000) -implicitDefEqProofs +contextual [-X.ev, f2, f3, f4, f75, f76, f77, h, hldn, sH6, q, dd, wd]
      apply Vx_callM
      · (simp -implicitDefEqProofs [-X.ev]; rfl)
      refine (ih y _ G H6 (deep + 1) (left - 1 - nodesL (args.take i)) b (by omega) hwH6 (GX5.trans X6) gb hv hey (X6.get gb5) hb6 (by omega) (by omega)).mono ?_
      rintro x H7 ⟨rfl, M7, left', gb7, hl7⟩
      have M67 := (Mod.of_ext X6).trans M7
      cases q5 : fineOk w V k y (deep + 1) (left - 1 - nodesL (args.take i)) with
      | true =>
        have hl7 := hl7 q5
        have q5' : nodesE y ≤ left - 1 - nodesL (args.take i) ∧ deep + 1 + depthE y ≤ 17 ∧ formE w V k y = true := by simpa [fineOk] using q5
        simp (maxSteps := 4000000) -implicitDefEqProofs +contextual [-X.ev, f2, f3, f4, f75, f76, f77, h]
        rw [wrap_in (n := (i : Int) + 1) ⟨by omega, by omega⟩]
        refine ⟨j - 1, by omega, M5.trans M67, i + 1, by omega, hv'.symm, by simp, ?_, by omega, fun z hz => ?_⟩
        · rw [gb7, hl7, t1]
          rw [show left - 1 - nodesL (args.take i) - nodesE y = left - 1 - (nodesL (args.take i) + nodesE y) by omega]
        · rw [List.take_add_one, hy] at hz
          rcases List.mem_append.1 hz with hz | hz
          · exact hall z hz
          · simp at hz; subst hz; exact ⟨by omega, q5'.2.2⟩
      | false =>
        have hF0 : F = false := by
          rw [Bool.eq_false_iff]
          intro hT
          rw [hT] at hF
          have hF : nodesE (.mk op n cp args) ≤ left ∧ deep + depthE (.mk op n cp args) ≤ 17 ∧ formE w V k (.mk op n cp args) = true := by simpa [fineOk] using hF
          rw [nodesE, depthE, formE, Bool.and_eq_true] at hF
          have := formL_all.1 hF.2.2.2 y (List.mem_of_getElem? hy)
          have : fineOk w V k y (deep + 1) (left - 1 - nodesL (args.take i)) = true := by simp [fineOk, this]; omega
          rw [q5] at this
          cases this
        simp (maxSteps := 4000000) -implicitDefEqProofs +contextual [-X.ev, f2, f3, f4, f75, f76, f77, h, hF0, M05.trans M67]
        exact ⟨_, gb7⟩
    · have hF1 : F = true := by
        rw [← hF]
        rw [List.take_of_length_le (by omega)] at hle hall
        have hfl := formL_all.2 fun y hy => (hall y hy).2
        have hdl : depthL args 0 ≤ 16 - deep := depthL_le (by omega) fun y hy => by have := (hall y hy).1; omega
        have hno : nodeOk w V k op n cp args.length = true := by rw [node_eq hw8, q4]; simp [q3]
        have : nodesE (.mk op n cp args) ≤ left ∧ deep + depthE (.mk op n cp args) ≤ 17 ∧ formE w V k (.mk op n cp args) = true := by
          rw [nodesE, depthE, formE, hfl, hno]
          exact ⟨by omega, by omega, rfl⟩
        simp [fineOk, this]
      rw [List.take_of_length_le (by omega)] at gb5
      rw [nodesE] at hNE
      simp (maxSteps := 4000000) -implicitDefEqProofs +contextual [-X.ev, f2, f3, f4, f75, f76, f77, h, hF1, M05]
      rw [gb5, show left - 1 - nodesL args = left - NE by omega]
end Go.Proofs.YtoijnpfpjpefgaaGreat.A
/- Specs: the program's expressions checked; arguments of statements. -/
set_option linter.unusedVariables false
set_option linter.unusedSimpArgs false
set_option maxRecDepth 10000
namespace Go.Proofs.YtoijnpfpjpefgaaGreat.A
open Go
theorem isHeading_w {w : Int} {V : List Vr} (h : isHeading w V = true) : 1 ≤ w ∧ w ≤ 8 ∧ 1 ≤ V.length ∧ V.length ≤ 18 := by
  simp [isHeading, isWidth] at h; omega
theorem isHeading_cells {w : Int} {V : List Vr} (h : isHeading w V = true) {i : Nat} {v : Vr} (hi : V[i]? = some v) : 1 ≤ v.cells ∧ v.cells ≤ 8 := by
  rw [isHeading_eq] at h
  simp only [Bool.and_eq_true, List.all_eq_true] at h
  have := h.2.2.2.1 i (by simpa using (List.getElem?_eq_some_iff.1 hi).1)
  rw [okAt_some hi] at this
  exact okVar_cells this
theorem fineOk_isExp (w : Int) (V : List Vr) (k : Int) (e : Exp) : fineOk w V k e 1 400 = isExp w V k e := by
  unfold fineOk isExp
  rw [show decide (1 + depthE e ≤ 17) = decide (depthE e ≤ 16) by rw [Bool.eq_iff_iff]; simp; omega]
def chkE (w : Int) (V : List Vr) (k : Int) (e : Exp) : Int := if isHeading w V = true then (if k < 1 then 1 else if 3 < k then 1 else if isExp w V k e = true then 0 else 20) else 1
theorem check_ca {w k : Int} {vv : Value} {V : List Vr} {e : Exp} {c : List Value} {H : AH} (hw : H.n0 ≤ H.nx) (hv : Vars H vv V) (hok : VarsOk V) (he : ExC H c e) :
    Ca E O 134 [.agg #[.int .i64 w, vv, .int .i64 k], .agg c.toArray] H (fun x H' => x = .int .i64 (chkE w V k e) ∧ Ext H H') := by
  refine Ca.bodyV (F := a134) rfl rfl rfl ?_
  have hc : c.length = 4 := by cases he; rfl
  have X1 := Ext.alloc H (.cells 3 [.int .i64 w, vv, .int .i64 k])
  have d0 : (H.alloc (.cells 3 [.int .i64 w, vv, .int .i64 k])).ld ⟨H.nx, 0, none⟩ = some (.int .i64 w) := ld_new hw rfl
  have d1 : (H.alloc (.cells 3 [.int .i64 w, vv, .int .i64 k])).ld ⟨H.nx, 1, none⟩ = some vv := ld_new hw rfl
  have d2 : (H.alloc (.cells 3 [.int .i64 w, vv, .int .i64 k])).ld ⟨H.nx, 2, none⟩ = some (.int .i64 k) := ld_new hw rfl
  have d : (H.alloc (.cells 3 [.int .i64 w, vv, .int .i64 k])).ldn ⟨H.nx, 0, none⟩ 3 = some [.int .i64 w, vv, .int .i64 k] := ld_box hw 3 rfl
  generalize hH1 : H.alloc (.cells 3 [.int .i64 w, vv, .int .i64 k]) = H1 at X1 d0 d1 d2 d
  have hwH1 := X1.wf hw
  have X2 := Ext.alloc H1 (.cells c.length c)
  have q : (H1.alloc (.cells c.length c)).ldn ⟨H1.nx, 0, none⟩ 4 = some c := ld_box hwH1 4 (by assumption)
  generalize hH2 : H1.alloc (.cells c.length c) = H2 at X2 q
  have hwH2 := X2.wf hwH1
  replace d0 := X2.ld d0
  replace d1 := X2.ld d1
  replace d2 := X2.ld d2
  replace d := X2.ldn d
  have X := X1.trans X2
  simp (maxSteps := 4000000) -implicitDefEqProofs +contextual [-X.ev, a134, hH1, hH2, d0, d1]
  apply Vx_callM
  · (simp -implicitDefEqProofs [-X.ev]; rfl)
  refine (Head_ca hwH2 (hv.ext X) hok w).mono ?_
  rintro x H3 ⟨rfl, X3⟩
  replace d2 := X3.ld d2
  replace d := X3.ldn d
  replace q := X3.ldn q
  have X03 := X.trans X3
  cases h1 : isHeading w V with
  | false =>
    simp (maxSteps := 4000000) -implicitDefEqProofs +contextual [-X.ev, h1, chkE, X03]
  | true =>
    by_cases h2 : k < 1
    · simp (maxSteps := 4000000) -implicitDefEqProofs +contextual [-X.ev, h1, h2, d2, chkE, X03]
    by_cases h3 : 3 < k
    · simp (maxSteps := 4000000) -implicitDefEqProofs +contextual [-X.ev, h1, h2, h3, d2, chkE, X03]
    have hw8 := isHeading_w h1
    have hw3 := X3.wf hwH2
    obtain ⟨H4, s4, X4, nx4, n04, gb⟩ := var_new hw3 (z := 1) (c := [.int .i64 0]) (vs := [.int .i64 400]) rfl
    replace d := X4.ldn d
    replace q := X4.ldn q
    simp (maxSteps := 4000000) -implicitDefEqProofs +contextual [-X.ev, h1, h2, h3, d2, s4, d, q]
    have hw4 := X4.wf hw3
    apply Vx_callM
    · (simp -implicitDefEqProofs [-X.ev]; rfl)
    refine (fine_ca ⟨hw8.1, hw8.2.1⟩ _ e c H3 H4 1 400 H3.nx (Nat.lt_succ_self _) hw4 X4 (Nat.le_refl _) (hv.ext X03) (he.ext X03) gb (by rw [n04]; exact hw3) (by omega) (by omega)).mono ?_
    rintro x H5 ⟨rfl, M5, left', gb5, hl5⟩
    have X5 : Ext H H5 := X03.trans (X4.mod M5 (by rintro x rfl; exact Nat.le_refl _))
    rw [fineOk_isExp]
    cases h4 : isExp w V k e with
    | true => 
      simp (maxSteps := 4000000) -implicitDefEqProofs +contextual [-X.ev, h1, h2, h3, h4, chkE, X5]
    | false => 
      simp (maxSteps := 4000000) -implicitDefEqProofs +contextual [-X.ev, h1, h2, h3, h4, chkE, X5]
theorem ECheck_ca {w k : Int} {vv : Value} {V : List Vr} {e : Exp} {c : List Value} {H : AH} (hw : H.n0 ≤ H.nx) (hv : Vars H vv V) (hok : VarsOk V) (he : ExC H c e) :
    Ca E O 120 [.int .i64 w, vv, .int .i64 k, .agg c.toArray] H (fun x H' => x = .int .i64 (chkE w V k e) ∧ Ext H H') := by
  refine Ca.bodyV (F := a120) rfl rfl rfl ?_
  have hc : c.length = 4 := by cases he; rfl
  have X1 := Ext.alloc H (.cells c.length c)
  have q : (H.alloc (.cells c.length c)).ldn ⟨H.nx, 0, none⟩ 4 = some c := ld_box hw 4 (by assumption)
  generalize hH1 : H.alloc (.cells c.length c) = H1 at X1 q
  have hwH1 := X1.wf hw
  have hb : buildV [.int .i64 0, .slice none 0 0, .int .i64 0] [(0, 1, .int .i64 w), (1, 1, vv), (2, 1, .int .i64 k)] = some (.agg #[.int .i64 w, vv, .int .i64 k]) := by
    obtain ⟨a, c, hvv⟩ := hv.len
    rw [hvv]
    rfl
  simp (maxSteps := 4000000) -implicitDefEqProofs +contextual [-X.ev, a120, hH1, q, hb]
  apply Vx_callM
  · (simp -implicitDefEqProofs [-X.ev]; rfl)
  refine (check_ca hwH1 (hv.ext X1) hok (he.ext X1)).mono ?_
  rintro x H2 ⟨rfl, X2⟩
  simp (maxSteps := 4000000) -implicitDefEqProofs +contextual [-X.ev, X1.trans X2]
/-- How many Args a statement has, as the program has it. -/
def argsP (V : List Vr) (op n : Int) : Int :=
  let z := if 0 ≤ n ∧ n < V.length then cellsAt V n else 0
  if op = 0 then (if z = 0 then -1 else if 1 < z then 2 else 1) else if op = 4 then (if z = 0 then -1 else if 1 < z then 1 else 0) else
  if op = 3 then (if n < 0 then -1 else if 47 < n then -1 else 1) else
  if op = 1 then (if n = 0 then 1 else -1) else if op = 2 then (if n = 0 then 1 else -1) else if op = 5 then (if n = 0 then 1 else -1) else if op = 6 then (if n = 0 then 1 else -1) else -1
theorem argsP_ca {w op n : Int} {vv vb va vt ve : Value} {V : List Vr} {H : AH} (hw : H.n0 ≤ H.nx) (hv : Vars H vv V) :
    Ca E O 119 [.agg #[.int .i64 w, vv, vb], .agg #[.int .i64 op, .int .i64 n, va, vt, ve]] H (fun x H' => x = .int .i64 (argsP V op n) ∧ Ext H H') := by
  refine Ca.bodyV (F := a119) rfl rfl rfl ?_
  have X1 := Ext.alloc H (.cells 3 [.int .i64 w, vv, vb])
  have d0 : (H.alloc (.cells 3 [.int .i64 w, vv, vb])).ld ⟨H.nx, 0, none⟩ = some (.int .i64 w) := ld_new hw rfl
  have d1 : (H.alloc (.cells 3 [.int .i64 w, vv, vb])).ld ⟨H.nx, 1, none⟩ = some vv := ld_new hw rfl
  have d2 : (H.alloc (.cells 3 [.int .i64 w, vv, vb])).ld ⟨H.nx, 2, none⟩ = some vb := ld_new hw rfl
  have d : (H.alloc (.cells 3 [.int .i64 w, vv, vb])).ldn ⟨H.nx, 0, none⟩ 3 = some [.int .i64 w, vv, vb] := ld_box hw 3 rfl
  generalize hH1 : H.alloc (.cells 3 [.int .i64 w, vv, vb]) = H1 at X1 d0 d1 d2 d
  have hwH1 := X1.wf hw
  have X2 := Ext.alloc H1 (.cells 5 [.int .i64 op, .int .i64 n, va, vt, ve])
  have e0 : (H1.alloc (.cells 5 [.int .i64 op, .int .i64 n, va, vt, ve])).ld ⟨H1.nx, 0, none⟩ = some (.int .i64 op) := ld_new hwH1 rfl
  have e1 : (H1.alloc (.cells 5 [.int .i64 op, .int .i64 n, va, vt, ve])).ld ⟨H1.nx, 1, none⟩ = some (.int .i64 n) := ld_new hwH1 rfl
  have e2 : (H1.alloc (.cells 5 [.int .i64 op, .int .i64 n, va, vt, ve])).ld ⟨H1.nx, 2, none⟩ = some va := ld_new hwH1 rfl
  have e3 : (H1.alloc (.cells 5 [.int .i64 op, .int .i64 n, va, vt, ve])).ld ⟨H1.nx, 3, none⟩ = some vt := ld_new hwH1 rfl
  have e4 : (H1.alloc (.cells 5 [.int .i64 op, .int .i64 n, va, vt, ve])).ld ⟨H1.nx, 4, none⟩ = some ve := ld_new hwH1 rfl
  have e : (H1.alloc (.cells 5 [.int .i64 op, .int .i64 n, va, vt, ve])).ldn ⟨H1.nx, 0, none⟩ 5 = some [.int .i64 op, .int .i64 n, va, vt, ve] := ld_box hwH1 5 rfl
  generalize hH2 : H1.alloc (.cells 5 [.int .i64 op, .int .i64 n, va, vt, ve]) = H2 at X2 e0 e1 e2 e3 e4 e
  have hwH2 := X2.wf hwH1
  replace d1 := X2.ld d1
  have X := X1.trans X2
  have w1 : IntKind.i64.wrap 1 = 1 := by rfl
  have w2 : IntKind.i64.wrap 2 = 2 := by rfl
  by_cases h1 : 0 ≤ n ∧ n < V.length
  · obtain ⟨y, hy⟩ : ∃ y, V[n.toNat]? = some y := ⟨_, List.getElem?_eq_getElem (by omega)⟩
    obtain ⟨b, o, c', hv', _, _, _, hld⟩ := (hv.ext X).at hy
    have hc : cellsAt V n = y.cells := by simp [cellsAt, hy]
    have hz : (if 0 ≤ n ∧ n < V.length then cellsAt V n else 0) = y.cells := by rw [if_pos h1, hc]
    obtain ⟨F, hF⟩ : ∃ F, argsP V op n = F := ⟨_, rfl⟩
    rw [hF]
    unfold argsP at hF
    rw [hz] at hF
    rw [hv'] at d1
    obtain ⟨h1, h2⟩ := h1
    simp (maxSteps := 4000000) -implicitDefEqProofs +contextual [-X.ev, a119, hH1, hH2, d1, e0, e1, h1, h2, hld, X, w1, w2, ← hF]
  · have hz : (if 0 ≤ n ∧ n < V.length then cellsAt V n else 0) = 0 := if_neg h1
    obtain ⟨F, hF⟩ : ∃ F, argsP V op n = F := ⟨_, rfl⟩
    rw [hF]
    unfold argsP at hF
    rw [hz] at hF
    obtain ⟨a1, c1, hvv⟩ := hv.len
    rw [hvv] at d1
    by_cases h2 : 0 ≤ n
    · have h3 : ¬ n < V.length := fun q => h1 ⟨h2, q⟩
      simp (maxSteps := 4000000) -implicitDefEqProofs +contextual [-X.ev, a119, hH1, hH2, d1, e0, e1, h2, h3, X, w1, w2, ← hF]
    · simp (maxSteps := 4000000) -implicitDefEqProofs +contextual [-X.ev, a119, hH1, hH2, d1, e0, e1, h2, X, w1, w2, ← hF]
end Go.Proofs.YtoijnpfpjpefgaaGreat.A
/- Specs: the program's statements checked. -/
set_option linter.unusedVariables false
set_option linter.unusedSimpArgs false
set_option maxRecDepth 10000
namespace Go.Proofs.YtoijnpfpjpefgaaGreat.A
open Go
mutual
def countSt : Stm → Int
  | .mk _ _ _ thn els => 1 + countS thn + countS els
def countS : List Stm → Int
  | [] => 0
  | s :: ss => countSt s + countS ss
end
theorem nodesS_take {l : List Stm} {i : Nat} {y : Stm} (h : l[i]? = some y) : nodesS (l.take (i + 1)) = nodesS (l.take i) + nodesSt y := by
  induction l generalizing i with
  | nil => simp at h
  | cons x l ih =>
    cases i with
    | zero => simp at h; subst h; simp [nodesS]
    | succ i => simp only [List.take_succ_cons, nodesS]; rw [ih (by simpa using h)]; omega
theorem countS_take {l : List Stm} {i : Nat} {y : Stm} (h : l[i]? = some y) : countS (l.take (i + 1)) = countS (l.take i) + countSt y := by
  induction l generalizing i with
  | nil => simp at h
  | cons x l ih =>
    cases i with
    | zero => simp at h; subst h; simp [countS]
    | succ i => simp only [List.take_succ_cons, countS]; rw [ih (by simpa using h)]; omega
theorem nodesS_pos (l : List Stm) : 0 ≤ nodesS l := (leftSts_eq l).1
theorem nodesSt_pos : ∀ s : Stm, 1 ≤ nodesSt s
  | .mk op n args thn els => by
    rw [nodesSt]; have := nodesL_pos args; have := nodesS_pos thn; have := nodesS_pos els; omega
theorem nodesS_take_le (l : List Stm) (i : Nat) : 0 ≤ nodesS (l.take i) ∧ nodesS (l.take i) ≤ nodesS l := by
  induction l generalizing i with
  | nil => simp [nodesS]
  | cons x l ih =>
    have h1 := nodesSt_pos x
    have h2 := nodesS_pos l
    cases i with
    | zero => simp only [List.take_zero, nodesS]; omega
    | succ i => simp only [List.take_succ_cons, nodesS]; have := ih i; omega
theorem countS_bound : ∀ l : List Stm, 0 ≤ countS l ∧ countS l ≤ nodesS l := stm_rec fun l ih => by
  induction l with
  | nil => simp [countS, nodesS]
  | cons s ss ihl =>
    obtain ⟨op, n, args, thn, els⟩ := s
    have h1 := ih op n args thn els (by simp)
    have h2 := ihl fun op n args thn els h => ih op n args thn els (by simp [h])
    have := nodesL_pos args
    rw [countS, countSt, nodesS, nodesSt]
    omega
theorem countS_take_le (l : List Stm) (i : Nat) : 0 ≤ countS (l.take i) ∧ countS (l.take i) ≤ nodesS (l.take i) := countS_bound _
theorem depthS_mem {op n : Int} {args : List Exp} {thn els : List Stm} : ∀ {l : List Stm} {k : Int}, Stm.mk op n args thn els ∈ l → 1 + depthS thn 0 ≤ depthS l k ∧ 1 + depthS els 0 ≤ depthS l k
  | x :: l, k, h => by
    rw [depthS]
    have mono : ∀ (l : List Stm) (k : Int), k ≤ depthS l k := by
      intro l
      induction l with
      | nil => intro k; rw [depthS]; omega
      | cons z l ih =>
        obtain ⟨op, n, args, thn, els⟩ := z
        intro k; rw [depthS, depthSt]; have := ih (max (max k (1 + depthS thn 0)) (1 + depthS els 0)); omega
    rcases List.mem_cons.1 h with rfl | h
    · have := mono l (depthSt (.mk op n args thn els) k)
      rw [depthSt] at this ⊢
      omega
    · exact depthS_mem h
theorem depthS_le {l : List Stm} {k m : Int} (hk : k ≤ m) (h : ∀ op n args thn els, Stm.mk op n args thn els ∈ l → 1 + depthS thn 0 ≤ m ∧ 1 + depthS els 0 ≤ m) : depthS l k ≤ m := by
  induction l generalizing k with
  | nil => rw [depthS]; exact hk
  | cons x l ih =>
    obtain ⟨op, n, args, thn, els⟩ := x
    rw [depthS, depthSt]
    have := h op n args thn els (by simp)
    exact ih (by omega) fun op n args thn els hy => h op n args thn els (by simp [hy])
/-- What the program asks of a statement's shape. -/
def shapeP (op : Int) (nt ne : Nat) : Bool := !(decide (0 < nt) && (!decide (op = 1) && !decide (op = 2))) && !(decide (0 < ne) && !decide (op = 1))
theorem headOk_eq {w : Int} {V : List Vr} (hV : isHeading w V = true) (op n : Int) (na nt ne : Nat) : headOk V op n na nt ne = (decide (argsP V op n = na) && shapeP op nt ne) := by
  have hz : ∀ more : Int, 0 ≤ more → varOk V n na more = decide ((if (if 0 ≤ n ∧ n < V.length then cellsAt V n else 0) = 0 then -1 else if 1 < (if 0 ≤ n ∧ n < V.length then cellsAt V n else 0) then more + 1 else more) = (na : Int)) := by
    intro more hm
    unfold varOk
    by_cases h : 0 ≤ n ∧ n < V.length
    · obtain ⟨y, hy⟩ : ∃ y, V[n.toNat]? = some y := ⟨_, List.getElem?_eq_getElem (by omega)⟩
      have hc : cellsAt V n = y.cells := by simp [cellsAt, hy]
      have := isHeading_cells hV hy
      have z0 : ¬ y.cells = 0 := by omega
      rw [if_pos h, hc, if_neg z0]
      simp only [h.1, h.2, decide_true, Bool.true_and]
      by_cases h2 : 1 < y.cells
      · rw [if_pos h2, if_pos h2]; rw [Bool.eq_iff_iff]; simp; omega
      · rw [if_neg h2, if_neg h2]; rw [Bool.eq_iff_iff]; simp; omega
    · rw [if_neg h, if_pos rfl]
      rw [Bool.eq_iff_iff]
      simp
      omega
  unfold headOk argsP shapeP
  by_cases o0 : op = 0
  · subst o0
    rw [hz 1 (by omega)]
    simp only [if_true]
    rw [show (1 : Int) + 1 = 2 by rfl]
    generalize decide ((if (if 0 ≤ n ∧ n < V.length then cellsAt V n else 0) = 0 then (-1 : Int) else if 1 < (if 0 ≤ n ∧ n < V.length then cellsAt V n else 0) then 2 else 1) = na) = A
    rw [Bool.eq_iff_iff]
    cases A <;> simp
  by_cases o4 : op = 4
  · subst o4
    rw [hz 0 (by omega)]
    simp only [if_true, if_neg (show ¬ (4 : Int) = 0 by omega), if_neg (show ¬ (4 : Int) = 1 by omega), if_neg (show ¬ (4 : Int) = 2 by omega), if_neg (show ¬ (4 : Int) = 3 by omega)]
    rw [show (0 : Int) + 1 = 1 by rfl]
    generalize decide ((if (if 0 ≤ n ∧ n < V.length then cellsAt V n else 0) = 0 then (-1 : Int) else if 1 < (if 0 ≤ n ∧ n < V.length then cellsAt V n else 0) then 1 else 0) = na) = A
    rw [Bool.eq_iff_iff]
    cases A <;> simp
  simp only [if_neg o0, if_neg o4]
  rw [Bool.eq_iff_iff]
  by_cases o3 : op = 3
  · subst o3
    rw [if_neg (by omega), if_neg (by omega), if_pos rfl, if_pos rfl]
    by_cases a : n < 0
    · rw [if_pos a]; simp; omega
    · by_cases b : 47 < n
      · rw [if_neg a, if_pos b]; simp; omega
      · rw [if_neg a, if_neg b]; simp; omega
  by_cases o1 : op = 1
  · subst o1
    by_cases a : n = 0
    · simp [a] <;> omega
    · simp [a]
  by_cases o2 : op = 2
  · subst o2
    by_cases a : n = 0
    · simp [a] <;> omega
    · simp [a]
  by_cases o5 : op = 5
  · subst o5
    by_cases a : n = 0
    · simp [a] <;> omega
    · simp [a]
  by_cases o6 : op = 6
  · subst o6
    by_cases a : n = 0
    · simp [a] <;> omega
    · simp [a]
  simp [o3, o1, o2, o5, o6]
theorem argsP_le (V : List Vr) (op n : Int) : argsP V op n ≤ 2 := by
  unfold argsP
  dsimp only
  repeat' split
  all_goals omega
end Go.Proofs.YtoijnpfpjpefgaaGreat.A
/- Specs: the program's statements checked and counted. -/
set_option linter.unusedVariables false
set_option linter.unusedSimpArgs false
set_option maxRecDepth 10000
namespace Go.Proofs.YtoijnpfpjpefgaaGreat.A
open Go
def fineS (w : Int) (V : List Vr) (l : List Stm) (deep nodes : Int) : Bool := decide (nodes + nodesS l ≤ 400) && (decide (deep + depthS l 0 ≤ 17) && rowsS w V l)
theorem fineS_iff {w : Int} {V : List Vr} {l : List Stm} {deep nodes : Int} : fineS w V l deep nodes = true ↔ nodes + nodesS l ≤ 400 ∧ deep + depthS l 0 ≤ 17 ∧ rowsS w V l = true := by simp [fineS]
/-- A statement's place in a row. -/
theorem chk_exp {w : Int} {V : List Vr} (h : isHeading w V = true) (e : Exp) : chkE w V 1 e = if isExp w V 1 e = true then 0 else 20 := by simp [chkE, h]
theorem fineS_ca {w : Int} {vv vb : Value} {V : List Vr} (hV : isHeading w V = true) (hok : VarsOk V) : ∀ (N : Nat) (l : List Stm) (vl : Value) (rows : List (List Value)) (G H : AH) (deep stmts nodes : Int) (b : Nat), SizeOf.sizeOf l < N → H.n0 ≤ H.nx → Ext G H → G.nx ≤ b → Vars G vv V → l.length < 2 ^ 60 → Rows G 5 vl rows → StL G rows l →
    H.get b = some (.cells 2 [.int .i64 stmts, .int .i64 nodes]) → H.n0 ≤ b → 0 ≤ stmts ∧ stmts ≤ nodes → nodes ≤ 2000 → 1 ≤ deep ∧ deep ≤ 17 →
    Ca E O 103 [.pointer (some ⟨b, 0, none⟩), .agg #[.int .i64 w, vv, vb], vl, .int .i64 deep] H (fun x H' => x = .bool (fineS w V l deep nodes) ∧ Mod (fun x => x = b) H H' ∧ ∃ s' n', H'.get b = some (.cells 2 [.int .i64 s', .int .i64 n']) ∧ (fineS w V l deep nodes = true → s' = stmts + countS l ∧ n' = nodes + nodesS l)) := by
  intro N
  induction N with
  | zero => intro l vl rows G H deep stmts nodes b h; omega
  | succ N ih =>
    intro l vl rows G H deep stmts nodes b hN hw GX gb hv hlen hr hl hb hb0 hst hno hdeep
    have hbH := AH.get_lt hb
    refine Ca.bodyV (F := a103) rfl rfl rfl ?_
    obtain ⟨F, hF⟩ : ∃ F, fineS w V l deep nodes = F := ⟨_, rfl⟩
    rw [hF]
    have fno : ¬ (nodes + nodesS l ≤ 400 ∧ deep + depthS l 0 ≤ 17 ∧ rowsS w V l = true) → F = false := by
      intro q; rw [Bool.eq_false_iff, ← hF]; exact fun h => q (fineS_iff.1 h)
    have X1 := Ext.alloc H (.cells 3 [.int .i64 w, vv, vb])
    have d0 : (H.alloc (.cells 3 [.int .i64 w, vv, vb])).ld ⟨H.nx, 0, none⟩ = some (.int .i64 w) := ld_new hw rfl
    have d1 : (H.alloc (.cells 3 [.int .i64 w, vv, vb])).ld ⟨H.nx, 1, none⟩ = some vv := ld_new hw rfl
    have d2 : (H.alloc (.cells 3 [.int .i64 w, vv, vb])).ld ⟨H.nx, 2, none⟩ = some vb := ld_new hw rfl
    have d : (H.alloc (.cells 3 [.int .i64 w, vv, vb])).ldn ⟨H.nx, 0, none⟩ 3 = some [.int .i64 w, vv, vb] := ld_box hw 3 rfl
    generalize hH1 : H.alloc (.cells 3 [.int .i64 w, vv, vb]) = H1 at X1 d0 d1 d2 d
    have hwH1 := X1.wf hw
    have gb1 := X1.get hb
    have ex1 : ∃ s' n' : Int, H1.get b = some (.cells 2 [.int .i64 s', .int .i64 n']) := ⟨_, _, gb1⟩
    have hb1 : H1.n0 ≤ b := by rw [X1.n0]; exact hb0
    have GX1 := GX.trans X1
    have ne1 : ¬ H.nx = b := by omega
    obtain ⟨a0, c0, hvl⟩ := hr.len
    rw [hl.length] at hvl
    have MX1 : Mod (fun x => x = b) H H1 := Mod.of_ext X1
    by_cases z0 : 0 < l.length ∧ 16 < deep
    case pos =>
      obtain ⟨z1, z2⟩ := z0
      have hF0 : F = false := fno (by
        rintro ⟨_, q, _⟩
        obtain ⟨⟨op, n, args, thn, els⟩, hy⟩ : ∃ y, l[0]? = some y := ⟨_, List.getElem?_eq_getElem z1⟩
        have := depthS_mem (k := 0) (List.mem_of_getElem? hy)
        have := (depthS_bound thn 0 (by omega)).1
        omega)
      simp (maxSteps := 4000000) -implicitDefEqProofs +contextual [-X.ev, a103, hvl, hH1, z1, z2, hF0, ex1, MX1]
    refine Vk_at [.r, .r] (fun fr H' => H' = H1 ∧ fr.get 0 = .pointer (some ⟨b, 0, none⟩) ∧ fr.get 2 = .slice a0 l.length c0 ∧ fr.get 3 = .int .i64 deep ∧ fr.get 5 = .pointer (some ⟨H.nx, 0, none⟩)) rfl ?_ ?_
    case refine_2 =>
      intro rest hrest
      simp only [a103, ctxK_r, ctxK_n] at hrest
      by_cases z1 : 0 < l.length
      · have z2 : ¬ 16 < deep := fun q => z0 ⟨z1, q⟩
        simp (maxSteps := 4000000) -implicitDefEqProofs +contextual [-X.ev, a103, hvl, hH1, z1, z2, hrest]
      · simp (maxSteps := 4000000) -implicitDefEqProofs +contextual [-X.ev, a103, hvl, hH1, z1, hrest]
    rintro fr H' ⟨rfl, f0, f2, f3, f5⟩
    have gp := nodesS_take_le l
    simp (maxSteps := 4000000) -implicitDefEqProofs +contextual [-X.ev, a103, f0, f2, f3, f5]
    refine Vk_loop (fun j fr H2 => Mod (fun x => x = b) H' H2 ∧ ∃ i : Nat, i + j = l.length ∧ fr.get 0 = .pointer (some ⟨b, 0, none⟩) ∧ fr.get 3 = .int .i64 deep ∧ fr.get 5 = .pointer (some ⟨H.nx, 0, none⟩) ∧ fr.get 20 = vl ∧ fr.get 21 = .int .i64 l.length ∧ fr.get 22 = .int .i64 i ∧
      H2.get b = some (.cells 2 [.int .i64 (stmts + countS (l.take i)), .int .i64 (nodes + nodesS (l.take i))]) ∧ nodes + nodesS (l.take i) ≤ 2000 ∧ (0 < i → nodes + nodesS (l.take i) ≤ 400) ∧
      ∀ op n args thn els, Stm.mk op n args thn els ∈ l.take i → (deep + 1 + depthS thn 0 ≤ 17 ∧ deep + 1 + depthS els 0 ≤ 17) ∧ rowSt w V (.mk op n args thn els) = true) ?_ l.length ⟨Mod.refl _ _, 0, by simp, by simp [f0], by simp [f3], by simp [f5], by simp [hvl], by simp, by simp, by simpa [countS, nodesS] using gb1, by simp [nodesS]; omega, by simp, by simp⟩
    rintro j fr H2 ⟨M2, i, hi, f0, f3, f5, f20, f21, f22, gb2, hle, hle0, hall⟩
    have M02 := MX1.trans M2
    have hw2 := M2.wf hwH1
    have GX2 : Ext G H2 := GX.mod M02 (by rintro x rfl; exact gb)
    have hb2 : H2.n0 ≤ b := by rw [M2.n0]; exact hb1
    have D0 := M2.ld (a := ⟨H.nx, 0, none⟩) ne1 d0
    have D1 := M2.ld (a := ⟨H.nx, 1, none⟩) ne1 d1
    have D := M2.ldn (a := ⟨H.nx, 0, none⟩) ne1 d
    by_cases h : i < l.length
    case neg =>
      have ht : l.take i = l := List.take_of_length_le (by omega)
      rw [ht] at hle0 hall gb2 hle
      have hF1 : F = decide (nodes + nodesS l ≤ 400) := by
        have p1 := depthS_le (l := l) (k := 0) (m := 17 - deep) (by omega) fun op n args thn els hm => by have := (hall op n args thn els hm).1; omega
        have p2 : decide (deep + depthS l 0 ≤ 17) = true := by simp; omega
        have p3 : rowsS w V l = true := rowsS_all.2 fun e he => by obtain ⟨op, n, args, thn, els⟩ := e; exact (hall op n args thn els he).2
        rw [← hF, fineS, p2, p3]
        simp
      have l2 := ld_get gb2 hb2 (k := 1) rfl
      simp (maxSteps := 4000000) -implicitDefEqProofs +contextual [-X.ev, f0, f3, f5, f20, f21, f22, h, l2]
      exact ⟨hF1.symm, M02, _, _, gb2, fun _ => ⟨rfl, rfl⟩⟩
    obtain ⟨⟨op, n, args, thn, els⟩, hy⟩ : ∃ y, l[i]? = some y := ⟨_, List.getElem?_eq_getElem h⟩
    have hs := size_thn hy
    have hmem := List.mem_of_getElem? hy
    have t1 := nodesS_take hy
    have t2 := countS_take hy
    have t3 := gp (i + 1)
    have t4 := countS_take_le l i
    have t5 := gp i
    rw [nodesSt] at t1
    rw [countSt] at t2
    have u1 := nodesL_pos args
    have u2 := nodesS_pos thn
    have u3 := nodesS_pos els
    have u4 := countS_bound thn
    have u5 := countS_bound els
    obtain ⟨b2, o2, c2, va, vt, ve, ra, rt, re, hv', hldn, _, _, _, _, _, i1, i2, i3, i4, i5, g1, g2, g3, g4, g5, g6⟩ := StL.row hr hl hy
    replace hldn := GX2.ldn hldn
    rw [hv'] at f20
    obtain ⟨aa, ca, hva⟩ := g1.len
    obtain ⟨at_, ct, hvt⟩ := g3.len
    obtain ⟨ae, ce, hve⟩ := g5.len
    rw [g2.length] at hva
    rw [g4.length] at hvt
    rw [g6.length] at hve
    obtain ⟨nt, hnt⟩ : ∃ nt, thn.length = nt := ⟨_, rfl⟩
    obtain ⟨ne_, hne⟩ : ∃ nt, els.length = nt := ⟨_, rfl⟩
    rw [hnt] at hvt
    rw [hne] at hve
    have hdp : deep ≤ 16 := by
      rcases Int.lt_or_le 16 deep with q | q
      · exact absurd ⟨by omega, q⟩ z0
      · exact q
    have hrow : rowsS w V l = true → rowSt w V (.mk op n args thn els) = true := fun q => rowsS_all.1 q _ hmem
    rw [rowSt, headOk_eq hV, hnt, hne] at hrow
    obtain ⟨H3, sH3, X3, nxH3, n0H3, q, lH3⟩ := st_new (H := H2) hw2 (z := 5) (c := [.int .i64 0, .int .i64 0, .slice none 0 0, .slice none 0 0, .slice none 0 0]) (vs := [.int .i64 op, .int .i64 n, va, vt, ve]) rfl
    have q0 : H3.ld ⟨H2.nx, 0, none⟩ = some (.int .i64 op) := lH3 0 _ rfl
    have q1 : H3.ld ⟨H2.nx, 1, none⟩ = some (.int .i64 n) := lH3 1 _ rfl
    have q2 : H3.ld ⟨H2.nx, 2, none⟩ = some va := lH3 2 _ rfl
    have q3 : H3.ld ⟨H2.nx, 3, none⟩ = some vt := lH3 3 _ rfl
    have q4 : H3.ld ⟨H2.nx, 4, none⟩ = some ve := lH3 4 _ rfl
    clear lH3
    replace q : H3.ldn ⟨H2.nx, 0, none⟩ 5 = some [.int .i64 op, .int .i64 n, va, vt, ve] := q
    have hwH3 := X3.wf hw2
    have gb3 := X3.get gb2
    have hb3 : H3.n0 ≤ b := by rw [X3.n0]; exact hb2
    have ne2 : ¬ H2.nx = b := by have := AH.get_lt gb2; omega
    obtain ⟨H4, s4, M4, nx4, n04, gb4⟩ := st_get gb3 hb3 (k := 0) (vs := [.int .i64 (stmts + countS (l.take i) + 1)]) (by simp)
    have gb4 : H4.get b = some (.cells 2 [.int .i64 (stmts + countS (l.take i) + 1), .int .i64 (nodes + nodesS (l.take i))]) := gb4
    have hb4 : H4.n0 ≤ b := by rw [n04]; exact hb3
    obtain ⟨H5, s5, M5, nx5, n05, gb5⟩ := st_get gb4 hb4 (k := 1) (vs := [.int .i64 (nodes + nodesS (l.take i) + 1)]) (by simp)
    have gb5 : H5.get b = some (.cells 2 [.int .i64 (stmts + countS (l.take i) + 1), .int .i64 (nodes + nodesS (l.take i) + 1)]) := gb5
    have hb5 : H5.n0 ≤ b := by rw [n05]; exact hb4
    have M35 := M4.trans M5
    have M25 := (Mod.of_ext X3).trans M35
    have M05 := M02.trans M25
    have GX5 : Ext G H5 := GX.mod M05 (by rintro x rfl; exact gb)
    have hw5 := M05.wf hw
    have l3 := ld_get gb3 hb3 (k := 0) rfl
    have l4 := ld_get gb4 hb4 (k := 1) rfl
    have l5 := ld_get gb5 hb5 (k := 1) rfl
    have Q := M35.ldn (a := ⟨H2.nx, 0, none⟩) ne2 q
    have Q0 := M35.ld (a := ⟨H2.nx, 0, none⟩) ne2 q0
    have Q2 := M35.ld (a := ⟨H2.nx, 2, none⟩) ne2 q2
    have Q3 := M35.ld (a := ⟨H2.nx, 3, none⟩) ne2 q3
    have Q4 := M35.ld (a := ⟨H2.nx, 4, none⟩) ne2 q4
    replace D0 := M25.ld (a := ⟨H.nx, 0, none⟩) ne1 D0
    replace D1 := M25.ld (a := ⟨H.nx, 1, none⟩) ne1 D1
    replace D := M25.ldn (a := ⟨H.nx, 0, none⟩) ne1 D
    have ex5 : ∃ s' n' : Int, H5.get b = some (.cells 2 [.int .i64 s', .int .i64 n']) := ⟨_, _, gb5⟩
    have w1 : IntKind.i64.wrap (stmts + countS (l.take i) + 1) = stmts + countS (l.take i) + 1 := wrap_in ⟨by omega, by omega⟩
    have w2 : IntKind.i64.wrap (nodes + nodesS (l.take i) + 1) = nodes + nodesS (l.take i) + 1 := wrap_in ⟨by omega, by omega⟩
    have Q2s := Q2
    rw [hva] at Q2s
    by_cases k1 : 400 < nodes + nodesS (l.take i) + 1
    · have hF0 : F = false := fno (by rintro ⟨q, _⟩; omega)
      simp (maxSteps := 4000000) -implicitDefEqProofs +contextual [-X.ev, f0, f3, f5, f20, f21, f22, h, hldn, sH3, l3, s4, w1, l4, s5, w2, l5, k1, hF0, okD_of, chain_2, chain_1, ex5, M05]
    simp (maxSteps := 4000000) -implicitDefEqProofs +contextual [-X.ev, f0, f3, f5, f20, f21, f22, h, hldn, sH3, l3, s4, w1, l4, s5, w2, l5, k1, D, Q, Q2s]
    apply Vx_callM
    · (simp -implicitDefEqProofs [-X.ev]; rfl)
    refine (argsP_ca hw5 (hv.ext GX5)).mono ?_
    rintro x H6 ⟨rfl, X6⟩
    have hw6 := X6.wf hw5
    have GX6 := GX5.trans X6
    have M06 := M05.trans (Mod.of_ext X6)
    have gb6 := X6.get gb5
    have hb6 : H6.n0 ≤ b := by rw [X6.n0]; exact hb5
    have ex6 : ∃ s' n' : Int, H6.get b = some (.cells 2 [.int .i64 s', .int .i64 n']) := ⟨_, _, gb6⟩
    have r0 := X6.ld Q0
    have r2 := X6.ld Q2
    have r3 := X6.ld Q3
    have r4 := X6.ld Q4
    replace D0 := X6.ld D0
    replace D1 := X6.ld D1
    replace D := X6.ldn D
    have Q2n := ld_ldn.1 Q2s
    have r2n := ld_ldn.1 (X6.ld Q2s)
    by_cases k2 : argsP V op n = args.length
    case neg =>
      have hF0 : F = false := fno (by rintro ⟨_, _, q⟩; have := hrow q; simp [k2] at this)
      simp (maxSteps := 4000000) -implicitDefEqProofs +contextual [-X.ev, k2, hF0, okD_of, chain_2, chain_1, ex6, M06, Q2n, r2n, X6.n0, X6.nx]
    have hF0 : shapeP op nt ne_ = false → F = false := fun z => fno (by rintro ⟨_, _, q⟩; have := hrow q; simp [z] at this)
    refine Vx_at 1 [.r] (fun fr H' => H' = H6 ∧ shapeP op nt ne_ = true ∧ fr.get 0 = .pointer (some ⟨b, 0, none⟩) ∧ fr.get 3 = .int .i64 deep ∧ fr.get 5 = .pointer (some ⟨H.nx, 0, none⟩) ∧ fr.get 10 = .pointer (some ⟨H2.nx, 0, none⟩) ∧ fr.get 20 = .slice (some ⟨b2, o2, none⟩) l.length c2 ∧ fr.get 21 = .int .i64 l.length ∧ fr.get 22 = .int .i64 i) rfl ?_ ?_
    case refine_2 =>
      intro rest hrest
      rw [hvt] at r3
      rw [hve] at r4
      simp only [ksCtx, ctxK_r, ctxK_n] at hrest
      simp (maxSteps := 4000000) -implicitDefEqProofs +contextual [-X.ev, ksPlug, shapeP, k2, hF0, okD_of, chain_2, chain_1, ex6, M06, Q2n, r2n, X6.n0, X6.nx, r0, r3, r4, hrest, f0, f3, f5, f20, f21, f22]
    simp only [ksCtx, ctxK_r, ctxK_n, ksSub, subAt_r, subAt_n]
    rintro fr' H' ⟨rfl, k3, f0, f3, f5, f10, f20, f21, f22⟩
    rw [hva] at r2
    simp (maxSteps := 4000000) -implicitDefEqProofs +contextual [-X.ev, f0, f3, f5, f10, f20, f21, f22, r2]
    refine Vk_loop (fun j2 fr H7 => Mod (fun x => x = b) H' H7 ∧ ∃ i2 : Nat, i2 + j2 = args.length ∧ fr.get 0 = .pointer (some ⟨b, 0, none⟩) ∧ fr.get 3 = .int .i64 deep ∧ fr.get 5 = .pointer (some ⟨H.nx, 0, none⟩) ∧ fr.get 10 = .pointer (some ⟨H2.nx, 0, none⟩) ∧ fr.get 20 = .slice (some ⟨b2, o2, none⟩) l.length c2 ∧ fr.get 21 = .int .i64 l.length ∧ fr.get 22 = .int .i64 i ∧
      fr.get 80 = va ∧ fr.get 81 = .int .i64 args.length ∧ fr.get 82 = .int .i64 i2 ∧
      H7.get b = some (.cells 2 [.int .i64 (stmts + countS (l.take i) + 1), .int .i64 (nodes + nodesS (l.take i) + 1 + nodesL (args.take i2))]) ∧ nodesL (args.take i2) ≤ 400 * i2 ∧
      ∀ e ∈ args.take i2, isExp w V 1 e = true) ?_ args.length ⟨Mod.refl _ _, 0, by simp, by simp [f0], by simp [f3], by simp [f5], by simp [f10], by simp [f20], by simp [f21], by simp [f22], by simp [hva], by simp, by simp, by simpa [nodesL] using gb6, by simp [nodesL], by simp⟩
    rintro j2 fr H7 ⟨M7, i2, hi2, f0, f3, f5, f10, f20, f21, f22, f80, f81, f82, gb7, hle7, hall7⟩
    have M07 := M06.trans M7
    have hw7 := M07.wf hw
    have GX7 : Ext G H7 := GX.mod M07 (by rintro x rfl; exact gb)
    have hb7 : H7.n0 ≤ b := by rw [M7.n0]; exact hb6
    have hle2 : (args.length : Int) ≤ 2 := by rw [← k2]; exact argsP_le V op n
    have D0' := M7.ld (a := ⟨H.nx, 0, none⟩) ne1 D0
    have D1' := M7.ld (a := ⟨H.nx, 1, none⟩) ne1 D1
    have D' := M7.ldn (a := ⟨H.nx, 0, none⟩) ne1 D
    by_cases h2 : i2 < args.length
    · obtain ⟨y, hy2⟩ : ∃ y, args[i2]? = some y := ⟨_, List.getElem?_eq_getElem h2⟩
      obtain ⟨b3, o3, c3, va3, r, hv3, hldn3, rfl, hey⟩ := ExL.row g1 g2 hy2
      replace hldn3 := GX7.ldn hldn3
      rw [hv3] at f80
      obtain ⟨H8, sH8, X8, nxH8, n0H8, p, lH8⟩ := st_new (H := H7) hw7 (z := 4) (c := [.int .i64 0, .int .i64 0, .int .i64 0, .slice none 0 0]) (vs := [.int .i64 y.op, .int .i64 y.n, .int .i64 y.cp, va3]) rfl
      have p0 : H8.ld ⟨H7.nx, 0, none⟩ = some (.int .i64 y.op) := lH8 0 _ rfl
      have p1 : H8.ld ⟨H7.nx, 1, none⟩ = some (.int .i64 y.n) := lH8 1 _ rfl
      have p2 : H8.ld ⟨H7.nx, 2, none⟩ = some (.int .i64 y.cp) := lH8 2 _ rfl
      have p3 : H8.ld ⟨H7.nx, 3, none⟩ = some va3 := lH8 3 _ rfl
      clear lH8
      replace p : H8.ldn ⟨H7.nx, 0, none⟩ 4 = some [.int .i64 y.op, .int .i64 y.n, .int .i64 y.cp, va3] := p
      have hwH8 := X8.wf hw7
      replace D0' := X8.ld D0'
      replace D1' := X8.ld D1'
      have GX8 := GX7.trans X8
      have gb8 := X8.get gb7
      simp (maxSteps := 4000000) -implicitDefEqProofs +contextual [-X.ev, f0, f3, f5, f10, f20, f21, f22, f80, f81, f82, h2, hldn3, sH8, D0', D1', p]
      apply Vx_callM
      · (simp -implicitDefEqProofs [-X.ev]; rfl)
      refine (ECheck_ca (k := 1) hwH8 (hv.ext GX8) hok (hey.ext GX8)).mono ?_
      rintro x H9 ⟨rfl, X9⟩
      rw [chk_exp hV]
      have M09 := M07.trans ((Mod.of_ext X8).trans (Mod.of_ext X9))
      have gb9 := X9.get gb8
      have ex9 : ∃ s' n' : Int, H9.get b = some (.cells 2 [.int .i64 s', .int .i64 n']) := ⟨_, _, gb9⟩
      cases k4 : isExp w V 1 y with
      | false =>
        have hF1 : F = false := fno (by
          rintro ⟨_, _, q⟩
          have := hrow q
          simp only [Bool.and_eq_true, List.all_eq_true] at this
          have := this.2.2.2 y (List.mem_of_getElem? hy2)
          rw [k4] at this; cases this)
        simp (maxSteps := 4000000) -implicitDefEqProofs +contextual [-X.ev, k4, hF1, ex9, M09]
      | true =>
        have hb9 : H9.n0 ≤ b := by rw [X9.n0, n0H8]; exact hb7
        have l9 := ld_get gb9 hb9 (k := 1) rfl
        have l9n := ld_ldn.1 l9
        have hne9 : nodesE y ≤ 400 := by simp [isExp] at k4; exact k4.1
        have pos9 := nodesE_pos y
        replace p := X9.ldn p
        have hw9 := M09.wf hw
        have GX9 := GX8.trans X9
        simp (maxSteps := 4000000) -implicitDefEqProofs +contextual [-X.ev, k4, f0, f3, f5, f10, f20, f21, f22, f80, f81, f82, l9, p]
        apply Vx_callM
        · (simp -implicitDefEqProofs [-X.ev]; rfl)
        refine (ENodes_ca _ y _ H9 (Nat.lt_succ_self _) hw9 (hey.ext GX9) (by omega)).mono ?_
        rintro x H10 ⟨rfl, X10⟩
        have gb10 := X10.get gb9
        have hb10 : H10.n0 ≤ b := by rw [X10.n0]; exact hb9
        have s1 := nodesL_take hy2
        have l10n := ld_ldn.1 (ld_get gb10 hb10 (k := 1) rfl)
        obtain ⟨H11, s11, M11, nx11, n011, gb11⟩ := st_get gb10 hb10 (k := 1) (vs := [.int .i64 (nodes + nodesS (l.take i) + 1 + nodesL (args.take i2) + nodesE y)]) (by simp)
        have gb11 : H11.get b = some (.cells 2 [.int .i64 (stmts + countS (l.take i) + 1), .int .i64 (nodes + nodesS (l.take i) + 1 + nodesL (args.take i2) + nodesE y)]) := gb11
        have s2 := nodesL_take_le args i2
        have wr : IntKind.i64.wrap (nodes + nodesS (l.take i) + 1 + nodesL (args.take i2) + nodesE y) = nodes + nodesS (l.take i) + 1 + nodesL (args.take i2) + nodesE y := wrap_in ⟨by omega, by omega⟩
        have wi : IntKind.i64.wrap ((i2 : Int) + 1) = (i2 : Int) + 1 := wrap_in ⟨by omega, by omega⟩
        simp (maxSteps := 4000000) -implicitDefEqProofs +contextual [-X.ev, f0, f3, f5, f10, f20, f21, f22, f80, f81, f82, wr, s11, okD_of, chain_2, chain_1, l9n, l10n, X10.n0, X10.nx, n011, nx11, wi]
        refine ⟨j2 - 1, by omega, M7.trans ((Mod.of_ext (X8.trans (X9.trans X10))).trans M11), i2 + 1, by omega, hv3.symm, by simp, ?_, by omega, fun z hz => ?_⟩
        · rw [gb11, s1]
          rw [show nodes + nodesS (l.take i) + 1 + nodesL (args.take i2) + nodesE y = nodes + nodesS (l.take i) + 1 + (nodesL (args.take i2) + nodesE y) by omega]
        · rw [List.take_add_one, hy2] at hz
          rcases List.mem_append.1 hz with hz | hz
          · exact hall7 z hz
          · simp at hz; subst hz; exact k4
    · have ht : args.take i2 = args := List.take_of_length_le (by omega)
      rw [ht] at hle7 hall7 gb7
      have hb7 := hb7
      have q3' := M7.ld (a := ⟨H2.nx, 3, none⟩) ne2 r3
      have q4' := M7.ld (a := ⟨H2.nx, 4, none⟩) ne2 r4
      have wd : IntKind.i64.wrap (deep + 1) = deep + 1 := wrap_in ⟨by omega, by omega⟩
      simp (maxSteps := 4000000) -implicitDefEqProofs +contextual [-X.ev, f0, f3, f5, f10, f20, f21, f22, f80, f81, f82, h2, D', q3', wd]
      have ka : nodesL args ≤ 800 := by omega
      apply Vx_callM
      · (simp -implicitDefEqProofs [-X.ev]; rfl)
      refine (ih thn vt rt G H7 (deep + 1) (stmts + countS (l.take i) + 1) (nodes + nodesS (l.take i) + 1 + nodesL args) b (by omega) hw7 GX7 gb hv i4 g3 g4 gb7 hb7 (by omega) (by omega) (by omega)).mono ?_
      rintro x H8 ⟨rfl, M8, s', n', gb8, hl8⟩
      have M08 := M07.trans M8
      have ex8 : ∃ s' n' : Int, H8.get b = some (.cells 2 [.int .i64 s', .int .i64 n']) := ⟨_, _, gb8⟩
      cases k5 : fineS w V thn (deep + 1) (nodes + nodesS (l.take i) + 1 + nodesL args) with
      | false =>
        have hF1 : F = false := fno (by
          rintro ⟨q1, q2, q⟩
          have := hrow q
          simp only [Bool.and_eq_true] at this
          have r1 := this.2.1
          have r2 := depthS_mem (k := 0) hmem
          have : fineS w V thn (deep + 1) (nodes + nodesS (l.take i) + 1 + nodesL args) = true := fineS_iff.2 ⟨by omega, by omega, r1⟩
          rw [k5] at this; cases this)
        simp (maxSteps := 4000000) -implicitDefEqProofs +contextual [-X.ev, f0, f3, f5, hF1, ex8, M08]
      | true =>
        obtain ⟨rfl, rfl⟩ := hl8 k5
        have k5' := fineS_iff.1 k5
        have hw8 := M08.wf hw
        have GX8 : Ext G H8 := GX.mod M08 (by rintro x rfl; exact gb)
        have hb8 : H8.n0 ≤ b := by rw [M8.n0]; exact hb7
        have D8 := M8.ldn (a := ⟨H.nx, 0, none⟩) ne1 D'
        have q48 := M8.ld (a := ⟨H2.nx, 4, none⟩) ne2 q4'
        simp (maxSteps := 4000000) -implicitDefEqProofs +contextual [-X.ev, f0, f3, f5, f10, f20, f21, f22, D8, q48, wd]
        apply Vx_callM
        · (simp -implicitDefEqProofs [-X.ev]; rfl)
        refine (ih els ve re G H8 (deep + 1) (stmts + countS (l.take i) + 1 + countS thn) (nodes + nodesS (l.take i) + 1 + nodesL args + nodesS thn) b (by omega) hw8 GX8 gb hv i5 g5 g6 gb8 hb8 (by omega) (by omega) (by omega)).mono ?_
        rintro x H9 ⟨rfl, M9, s', n', gb9, hl9⟩
        have M09 := M08.trans M9
        have ex9 : ∃ s' n' : Int, H9.get b = some (.cells 2 [.int .i64 s', .int .i64 n']) := ⟨_, _, gb9⟩
        cases k6 : fineS w V els (deep + 1) (nodes + nodesS (l.take i) + 1 + nodesL args + nodesS thn) with
        | false =>
          have hF1 : F = false := fno (by
            rintro ⟨q1, q2, q⟩
            have := hrow q
            simp only [Bool.and_eq_true] at this
            have r1 := this.2.2.1
            have r2 := depthS_mem (k := 0) hmem
            have : fineS w V els (deep + 1) (nodes + nodesS (l.take i) + 1 + nodesL args + nodesS thn) = true := fineS_iff.2 ⟨by omega, by omega, r1⟩
            rw [k6] at this; cases this)
          simp (maxSteps := 4000000) -implicitDefEqProofs +contextual [-X.ev, f0, f3, f5, hF1, ex9, M09]
        | true =>
          obtain ⟨rfl, rfl⟩ := hl9 k6
          have k6' := fineS_iff.1 k6
          have wi : IntKind.i64.wrap ((i : Int) + 1) = (i : Int) + 1 := wrap_in ⟨by omega, by omega⟩
          simp (maxSteps := 4000000) -implicitDefEqProofs +contextual [-X.ev, f0, f3, f5, f10, f20, f21, f22, wi]
          refine ⟨j - 1, by omega, M2.trans (M25.trans ((Mod.of_ext X6).trans (M7.trans (M8.trans M9)))), i + 1, by omega, hv'.symm, by simp, ?_, by omega, fun _ => by omega, ?_⟩
          · rw [gb9, t1, t2]
            rw [show stmts + countS (l.take i) + 1 + countS thn + countS els = stmts + (countS (l.take i) + (1 + countS thn + countS els)) by omega, show nodes + nodesS (l.take i) + 1 + nodesL args + nodesS thn + nodesS els = nodes + (nodesS (l.take i) + (1 + nodesL args + nodesS thn + nodesS els)) by omega]
          · intro op' n' args' thn' els' hz
            rw [List.take_add_one, hy] at hz
            rcases List.mem_append.1 hz with hz | hz
            · exact hall _ _ _ _ _ hz
            · simp only [Option.toList_some, List.mem_singleton] at hz
              cases hz
              refine ⟨⟨by omega, by omega⟩, ?_⟩
              rw [rowSt, headOk_eq hV, hnt, hne]
              simp only [k2, k3, k5'.2.2, k6'.2.2, decide_true, Bool.true_and, List.all_eq_true]
              exact hall7
end Go.Proofs.YtoijnpfpjpefgaaGreat.A
/- Rows of one's own: append. -/
set_option linter.unusedVariables false
set_option linter.unusedSimpArgs false
namespace Go.Proofs.YtoijnpfpjpefgaaGreat.A
open Go
theorem cleanL_append {n0 : Nat} : ∀ {a b x y : List Value}, cleanL n0 a = some x → cleanL n0 b = some y → cleanL n0 (a ++ b) = some (x ++ y)
  | [], b, x, y, h, k => by simp [cleanL] at h; subst h; simpa using k
  | v :: a, b, x, y, h, k => by
    simp only [cleanL] at h
    split at h
    case h_2 => cases h
    rename_i z m hz hm
    cases h
    have := cleanL_append hm k
    simp only [List.cons_append, cleanL, hz, this]
theorem ldn_append {H : AH} {b o n m : Nat} {x y : List Value} (h : H.ldn ⟨b, o, none⟩ n = some x) (k : H.ldn ⟨b, o + n, none⟩ m = some y) : H.ldn ⟨b, o, none⟩ (n + m) = some (x ++ y) := by
  unfold AH.ldn at h k ⊢
  dsimp only at h k ⊢
  cases hg : H.get b with
  | none => simp [hg] at h
  | some z =>
    cases z with
    | map es => simp [hg] at h
    | cells z c =>
      simp only [hg] at h k ⊢
      obtain ⟨h1, h⟩ := bif_some h
      obtain ⟨k1, k⟩ := bif_some k
      simp only [decide_eq_true_eq] at h1 k1
      have e : (c.drop o).take (n + m) = (c.drop o).take n ++ (c.drop (o + n)).take m := by
        rw [List.take_add, List.drop_drop]
      rw [show decide (o + (n + m) ≤ c.length) = true by simp; omega, cond_true, e]
      cases hd : decide (b < H.n0) with
      | false =>
        rw [hd] at h k
        simp only [cond_false, Option.some.injEq] at h k ⊢
        rw [h, k]
      | true =>
        rw [hd] at h k
        simp only [cond_true] at h k ⊢
        exact cleanL_append h k
theorem Rows.rowlen {H : AH} {sz : Nat} {v : Value} {rows : List (List Value)} (h : Rows H sz v rows) : ∀ r ∈ rows, r.length = sz := by
  intro r hr
  obtain ⟨i, hi, rfl⟩ := List.mem_iff_getElem.1 hr
  obtain ⟨b, o, c, e, hl⟩ := h.at (List.getElem?_eq_getElem hi)
  exact (ldn_some hl).2
theorem flatten_length {sz : Nat} : ∀ {rows : List (List Value)}, (∀ r ∈ rows, r.length = sz) → rows.flatten.length = rows.length * sz
  | [], _ => by simp
  | r :: rows, h => by
    rw [List.flatten_cons, List.length_append, h r (by simp), flatten_length fun q hq => h q (by simp [hq]), List.length_cons, Nat.succ_mul]
    omega
theorem ldn_zero {H : AH} {b o : Nat} {z : Nat} {c : List Value} (hg : H.get b = some (.cells z c)) (ho : o ≤ c.length) : H.ldn ⟨b, o, none⟩ 0 = some [] := by
  unfold AH.ldn
  simp [hg, ho, cleanL]
theorem Rows.whole {H : AH} {sz b o c : Nat} {rows : List (List Value)} (h : Rows H sz (.slice (some ⟨b, o, none⟩) rows.length c) rows) : ∀ k, k ≤ rows.length → 0 < k → H.ldn ⟨b, o, none⟩ (k * sz) = some (rows.take k).flatten := by
  intro k
  induction k with
  | zero => intro _ h; omega
  | succ k ih =>
    intro hk _
    obtain ⟨b', o', c', e, hl⟩ := h.at (i := k) (List.getElem?_eq_getElem (by omega))
    cases e
    rw [List.take_add_one, List.getElem?_eq_getElem (by omega), List.flatten_append]
    by_cases hk0 : k = 0
    · subst hk0
      simpa using hl
    · have := ldn_append (ih (by omega) (by omega)) hl
      rw [show (k + 1) * sz = k * sz + sz by rw [Nat.succ_mul], this]
      simp only [Option.toList_some, List.flatten_cons, List.flatten_nil, List.append_nil]
theorem Rows.src {H : AH} {sz : Nat} {v : Value} {rows : List (List Value)} (h : Rows H sz v rows) : srcA H sz v = some rows.flatten ∧ lenA v = some rows.length := by
  obtain ⟨a, c, rfl, k⟩ := h.is
  refine ⟨?_, rfl⟩
  by_cases e : rows = []
  · subst e
    cases a <;> simp [srcA]
  · have hpos : 0 < rows.length := List.length_pos_iff.2 e
    obtain ⟨b, o, rfl, h2⟩ := k 0 _ (List.getElem?_eq_getElem hpos)
    have := Rows.whole (H := H) (sz := sz) (b := b) (o := o) (c := c) (rows := rows) ⟨_, _, rfl, k⟩ rows.length (Nat.le_refl _) hpos
    simp only [srcA, nb]
    rw [show decide (rows.length = 0) = false by simp [e], cond_false, this, List.take_length]
/-- A block of so many rows, known whole, its slice full. -/
structure Own (H : AH) (sz : Nat) (v : Value) (rows : List (List Value)) : Prop where
  is : (v = .slice none 0 0 ∧ rows = []) ∨ ∃ b, v = .slice (some ⟨b, 0, none⟩) rows.length rows.length ∧ H.n0 ≤ b ∧ H.get b = some (.cells sz rows.flatten)
  len : ∀ r ∈ rows, r.length = sz
/-- The block of a slice. -/
def blk (v : Value) (b : Nat) : Prop := ∃ o n c, v = .slice (some ⟨b, o, none⟩) n c
theorem blk_slice (b b' o n c : Nat) : blk (.slice (some ⟨b, o, none⟩) n c) b' ↔ b' = b := by
  unfold blk
  constructor
  · rintro ⟨o', n', c', e⟩; cases e; rfl
  · rintro rfl; exact ⟨_, _, _, rfl⟩
theorem blk_nil (b n c : Nat) : ¬ blk (.slice none n c) b := by rintro ⟨_, _, _, e⟩; cases e
theorem Own.nil (H : AH) (sz : Nat) : Own H sz (.slice none 0 0) [] := ⟨.inl ⟨rfl, rfl⟩, by simp⟩
theorem Own.lt {H : AH} {sz b : Nat} {v : Value} {rows : List (List Value)} (h : Own H sz v rows) (hb : blk v b) : b < H.nx := by
  rcases h.is with ⟨rfl, _⟩ | ⟨b', rfl, _, hg⟩
  · exact absurd hb (blk_nil _ _ _)
  · rw [(blk_slice _ _ _ _ _).1 hb]; exact AH.get_lt hg
theorem Own.ge {H : AH} {sz b : Nat} {v : Value} {rows : List (List Value)} (h : Own H sz v rows) (hb : blk v b) : H.n0 ≤ b := by
  rcases h.is with ⟨rfl, _⟩ | ⟨b', rfl, h0, hg⟩
  · exact absurd hb (blk_nil _ _ _)
  · rw [(blk_slice _ _ _ _ _).1 hb]; exact h0
theorem Own.shape {H : AH} {sz : Nat} {v : Value} {rows : List (List Value)} (h : Own H sz v rows) : ∃ a c, v = .slice a rows.length c := by
  rcases h.is with ⟨rfl, rfl⟩ | ⟨b, rfl, _⟩
  · exact ⟨_, _, rfl⟩
  · exact ⟨_, _, rfl⟩
theorem drop_flatten {sz : Nat} : ∀ {rows : List (List Value)} {i : Nat} {r : List Value}, (∀ r ∈ rows, r.length = sz) → rows[i]? = some r → ((rows.flatten.drop (i * sz)).take sz) = r ∧ i * sz + sz ≤ rows.flatten.length
  | [], i, r, _, h => by simp at h
  | x :: rows, 0, r, hl, h => by
    simp at h; subst h
    have := hl x (by simp)
    simp [this]
  | x :: rows, i + 1, r, hl, h => by
    have hx := hl x (by simp)
    have ih := drop_flatten (fun q hq => hl q (by simp [hq])) (i := i) (r := r) (rows := rows) (by simpa using h)
    rw [List.flatten_cons, Nat.succ_mul, List.length_append, hx]
    refine ⟨?_, by omega⟩
    rw [show i * sz + sz = x.length + i * sz by omega, ← List.drop_drop, List.drop_left]
    exact ih.1
theorem Own.rows {H : AH} {sz : Nat} {v : Value} {rows : List (List Value)} (h : Own H sz v rows) : Rows H sz v rows := by
  rcases h.is with ⟨rfl, rfl⟩ | ⟨b, rfl, h0, hg⟩
  · exact ⟨_, _, rfl, by simp⟩
  · refine ⟨_, _, rfl, fun i r hi => ⟨b, 0, rfl, ?_⟩⟩
    obtain ⟨e1, e2⟩ := drop_flatten h.len hi
    rw [ldn_get hg h0 (by simpa using e2)]
    simpa using e1
theorem Own.mod {S : Nat → Prop} {H H' : AH} {sz : Nat} {v : Value} {rows : List (List Value)} (h : Own H sz v rows) (M : Mod S H H') (hs : ∀ b, blk v b → ¬ S b) : Own H' sz v rows := by
  refine ⟨?_, h.len⟩
  rcases h.is with ⟨rfl, rfl⟩ | ⟨b, rfl, h0, hg⟩
  · exact .inl ⟨rfl, rfl⟩
  · exact .inr ⟨b, rfl, by rw [M.n0]; exact h0, M.get (hs b ((blk_slice _ _ _ _ _).2 rfl)) hg⟩
theorem Own.ext {H H' : AH} {sz : Nat} {v : Value} {rows : List (List Value)} (h : Own H sz v rows) (X : Ext H H') : Own H' sz v rows := h.mod (Mod.of_ext (S := fun _ => False) X) (by simp)
/-- append to rows of one's own. -/
theorem app_own' {H : AH} {sz bytes : Nat} {s x : Value} {rows new : List (List Value)} (hw : H.n0 ≤ H.nx) (hs : Own H sz s rows) (hx : Rows H sz x new) (hb : (rows.length + new.length) * bytes ≤ 2 ^ 47) (h62 : rows.length + new.length < 2 ^ 62) :
    ∃ s' H', aappend sz bytes H s x = some (s', H') ∧ Own H' sz s' (rows ++ new) ∧ Mod (blk s) H H' ∧ (∀ b, blk s' b → blk s b ∨ H.nx ≤ b) ∧ (new ≠ [] → ∀ b, blk s' b → H.nx ≤ b) := by
  obtain ⟨hsrc, hlen⟩ := hx.src
  have hl := hx.rowlen
  have hlen2 : ∀ r ∈ rows ++ new, r.length = sz := by
    intro r hr
    rcases List.mem_append.1 hr with h | h
    · exact hs.len r h
    · exact hl r h
  by_cases n0 : new = []
  · subst n0
    refine ⟨s, H, ?_, by simpa using hs, Mod.refl _ _, fun b hb => .inl hb, fun h => absurd rfl h⟩
    rcases hs.is with ⟨rfl, rfl⟩ | ⟨b, rfl, h0, hg⟩
    · simp [aappend, hlen]
    · simp [aappend, hlen]
  have npos : 0 < new.length := List.length_pos_iff.2 n0
  have hnz : ¬ new.length = 0 := by omega
  have hnew : new.flatten.length = new.length * sz := flatten_length hl
  by_cases r0 : rows = []
  · subst r0
    simp only [List.length_nil, Nat.zero_add] at hb h62
    refine ⟨.slice (some ⟨H.nx, 0, none⟩) new.length new.length, H.alloc (.cells sz new.flatten), ?_, ⟨.inr ⟨H.nx, rfl, hw, get_new _ _⟩, hlen2⟩, Mod.of_ext (Ext.alloc _ _), fun b hb => .inr (by rw [(blk_slice _ _ _ _ _).1 hb]; exact Nat.le_refl _), fun _ b hb => by rw [(blk_slice _ _ _ _ _).1 hb]; exact Nat.le_refl _⟩
    rcases hs.is with ⟨rfl, _⟩ | ⟨b, rfl, h0, hg⟩
    · simp [aappend, hlen, hsrc, hnz, n0, hb, h62, nb]
    · simp [aappend, hlen, hsrc, hnz, n0, hb, h62, nb]
  have rpos : 0 < rows.length := List.length_pos_iff.2 r0
  rcases hs.is with ⟨rfl, h⟩ | ⟨b, rfl, h0, hg⟩
  · exact absurd h r0
  have hold : H.ldn ⟨b, 0, none⟩ (rows.length * sz) = some rows.flatten := by
    have := flatten_length hs.len
    rw [ldn_get hg h0 (by omega), ← this]
    simp only [List.drop_zero, List.take_length]
  have hzok : H.zok b sz = true := by simp [AH.zok, hg]
  have a1 : ¬ rows.length + new.length ≤ rows.length := by omega
  have a2 : ¬ rows.length = 0 := by omega
  refine ⟨.slice (some ⟨H.nx, 0, none⟩) (rows ++ new).length (rows ++ new).length, (H.put b none).alloc (.cells sz (rows ++ new).flatten), ?_, ⟨.inr ⟨H.nx, rfl, hw, ?_⟩, hlen2⟩, ⟨rfl, Nat.le_succ _, fun c hc hs => ?_⟩, fun c hc => .inr (by rw [(blk_slice _ _ _ _ _).1 hc]; exact Nat.le_refl _), fun _ c hc => by rw [(blk_slice _ _ _ _ _).1 hc]; exact Nat.le_refl _⟩
  · simp [aappend, hlen, hsrc, hnz, n0, r0, hb, h62, a1, a2, h0, hzok, hold]
  · exact get_new (H.put b none) _
  · rw [blk_slice] at hs
    rw [AH.get_alloc, if_neg (by rw [AH.put_nx]; omega), AH.get_kill, if_neg hs]
theorem app_own {H : AH} {sz bytes : Nat} {s x : Value} {rows new : List (List Value)} (hw : H.n0 ≤ H.nx) (hs : Own H sz s rows) (hx : Rows H sz x new) (hb : (rows.length + new.length) * bytes ≤ 2 ^ 47) (h62 : rows.length + new.length < 2 ^ 62) :
    ∃ s' H', aappend sz bytes H s x = some (s', H') ∧ Own H' sz s' (rows ++ new) ∧ Mod (blk s) H H' ∧ ∀ b, blk s' b → blk s b ∨ H.nx ≤ b := by
  obtain ⟨s', H', a, b, c, d, _⟩ := app_own' hw hs hx hb h62
  exact ⟨s', H', a, b, c, d⟩
theorem splice_all (z c : List Value) (h : c.length = z.length) : splice z 0 c = c := by
  have : splice z 0 c = c ++ z.drop c.length := by cases z <;> rfl
  rw [this, List.drop_eq_nil_of_le (by omega)]; simp
theorem bsl1 {sz : Nat} {z : List Value} {H : AH} {v : Value} (hv : (vcells v).length = sz) (ht : isTup v = false) (hz : z.length = sz) :
    bslV 1 sz z H [(0, sz, v)] = some (.slice (some ⟨H.nx, 0, none⟩) 1 1, H.alloc (.cells sz (vcells v))) := by
  simp only [bslV, fillA, nb, hv, hz, ht, Nat.zero_add, decide_true, Nat.le_refl, Bool.not_false, Bool.and_self, cond_true]
  rw [splice_all _ _ (by omega)]
  rfl
/-- append of one row to rows of one's own; the row's own block stands ahead of it. -/
theorem app1_own {H H1 : AH} {sz bytes : Nat} {s : Value} {rows : List (List Value)} {r : List Value} (hw : H.n0 ≤ H.nx) (hs : Own H sz s rows) (hr : r.length = sz) (h1 : H.alloc (.cells sz r) = H1) (hb : (rows.length + 1) * bytes ≤ 2 ^ 47) (h62 : rows.length + 1 < 2 ^ 62) :
    ∃ s' H', aappend sz bytes H1 s (.slice (some ⟨H.nx, 0, none⟩) 1 1) = some (s', H') ∧ Own H' sz s' (rows ++ [r]) ∧ Mod (blk s) H H' ∧ (∀ b, blk s' b → H.nx ≤ b) ∧ H'.n0 = H.n0 ∧ H.nx ≤ H'.nx ∧ H'.n0 ≤ H'.nx ∧ H1.n0 = H.n0 ∧ H.nx ≤ H1.nx ∧ H1.nx ≤ H'.nx := by
  subst h1
  have X := Ext.alloc H (.cells sz r)
  have hx : Rows (H.alloc (.cells sz r)) sz (.slice (some ⟨H.nx, 0, none⟩) 1 1) [r] := ⟨_, _, rfl, fun i q hi => by
    cases i with
    | zero =>
      simp at hi; subst hi
      refine ⟨H.nx, 0, rfl, ?_⟩
      have := ldn_new hw sz r
      rw [hr] at this
      simpa using this
    | succ i => simp at hi⟩
  obtain ⟨s', H', e, o, M, _, k⟩ := app_own' (bytes := bytes) (X.wf hw) (hs.ext X) hx hb h62
  have M' : Mod (blk s) H H' := (Mod.of_ext X).trans M
  exact ⟨s', H', e, o, M', fun b hb => Nat.le_trans X.nx (k (by simp) b hb), M'.n0, M'.nx, M'.wf hw, X.n0, X.nx, M.nx⟩
/-! ### A heap of what stays -/
/-- All of the first heap lies in the second. -/
structure Sub (G H : AH) : Prop where
  n0 : H.n0 = G.n0
  nx : G.nx ≤ H.nx
  get : ∀ b x, G.get b = some x → H.get b = some x
theorem Sub.refl (G : AH) : Sub G G := ⟨rfl, Nat.le_refl _, fun _ _ h => h⟩
theorem Sub.of_ext {G H : AH} (h : Ext G H) : Sub G H := ⟨h.n0, h.nx, fun b x k => h.get k⟩
theorem Sub.trans {a b c : AH} (h : Sub a b) (k : Sub b c) : Sub a c := ⟨k.n0.trans h.n0, Nat.le_trans h.nx k.nx, fun x y e => k.get x y (h.get x y e)⟩
theorem Sub.mod {S : Nat → Prop} {G H H' : AH} (h : Sub G H) (M : Mod S H H') (hs : ∀ b, S b → G.get b = none) : Sub G H' :=
  ⟨M.n0.trans h.n0, Nat.le_trans h.nx M.nx, fun b x k => M.get (fun q => by rw [hs b q] at k; cases k) (h.get b x k)⟩
theorem Sub.exto {G H H' : AH} (h : Sub G H) (X : Ext H H') : Sub G H' := h.trans (Sub.of_ext X)
theorem Sub.ldn {G H : AH} (h : Sub G H) {a : Addr} {n : Nat} {vs : List Value} (k : G.ldn a n = some vs) : H.ldn a n = some vs := by
  obtain ⟨x, hx⟩ := Option.isSome_iff_exists.1 (ldn_some k).1
  rw [← k]
  exact ldn_same (by rw [h.get _ _ hx, hx]) h.n0
theorem Sub.ld {G H : AH} (h : Sub G H) {a : Addr} {v : Value} (k : G.ld a = some v) : H.ld a = some v := ld_ldn.2 (h.ldn (ld_ldn.1 k))
theorem Rows.sub {H H' : AH} (E : Sub H H') {sz : Nat} {v : Value} {rows : List (List Value)} (h : Rows H sz v rows) : Rows H' sz v rows := by
  obtain ⟨a, c, rfl, k⟩ := h.is
  exact ⟨a, c, rfl, fun i r hi => let ⟨b, o, h1, h2⟩ := k i r hi; ⟨b, o, h1, E.ldn h2⟩⟩
theorem Ints.sub {H H' : AH} (E : Sub H H') {v : Value} {l : List Int} (h : Ints H v l) : Ints H' v l := Rows.sub E h
/-- The heap without these blocks. -/
def AH.hide (H : AH) : List Nat → AH
  | [] => H
  | b :: l => (H.put b none).hide l
theorem hide_get : ∀ (l : List Nat) (H : AH) (c : Nat), (H.hide l).get c = if c ∈ l then none else H.get c
  | [], H, c => by simp [AH.hide]
  | b :: l, H, c => by
    rw [AH.hide, hide_get l, AH.get_kill]
    by_cases h1 : c ∈ l
    · simp [h1]
    · by_cases h2 : c = b <;> simp [h1, h2]
theorem hide_n0 : ∀ (l : List Nat) (H : AH), (H.hide l).n0 = H.n0
  | [], H => rfl
  | b :: l, H => by rw [AH.hide, hide_n0 l]; rfl
theorem hide_nx : ∀ (l : List Nat) (H : AH), (H.hide l).nx = H.nx
  | [], H => rfl
  | b :: l, H => by rw [AH.hide, hide_nx l]; rfl
theorem sub_hide (l : List Nat) (H : AH) : Sub (H.hide l) H := ⟨(hide_n0 l H).symm, by rw [hide_nx]; exact Nat.le_refl _, fun b x k => by
  rw [hide_get] at k
  split at k
  · cases k
  · exact k⟩
end Go.Proofs.YtoijnpfpjpefgaaGreat.A
