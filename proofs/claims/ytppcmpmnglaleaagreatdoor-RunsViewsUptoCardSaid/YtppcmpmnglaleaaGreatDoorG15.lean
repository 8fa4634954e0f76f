/- Texts that stand one behind the other: AbsP, S15, S16, S17, S18, S19, S20, S21, AbsQ, S22. -/
import Derived.Test.YtppcmpmnglaleaaGreatDoorG14
set_option linter.unusedVariables false
set_option linter.unusedSimpArgs false
namespace Go.Proofs.YtppcmpmnglaleaaGreatDoor.A
open Go
section
variable{E:Env} {O:iq} {ks:List Ko} {fr:Fr} {H:AH} {Q:Ex→Fr→AH→Prop}
inductive Md where
 |pl
 |dr (l0:List AO) (ck:List (Nat×Nat×Nat)) (acc:List (Fr×AH))
def Md.up:Md→Fr→AH→Md
 | .pl,_,_=>.pl
 | .dr l0 ck acc,fr,H=>.dr l0 ck ((fr,H)::acc)
@[simp]theorem adQ:Md.up .pl fr H= .pl:=rfl
@[simp]theorem adR (l0:List AO) (ck:List (Nat×Nat×Nat)) (acc:List (Fr×AH)):Md.up (.dr l0 ck acc) fr H= .dr l0 ck ((fr,H)::acc):=rfl
def Vx (E:Env) (O:iq) (m:Md) (l:List AO) (ks:List Ko) (fr:Fr) (H:AH) (Q:Ex→Fr→AH→Prop):Prop:=match m with
 | .pl=>Wr E O l ks fr H Q
 | .dr l0 ck acc=>Wd E O l0 ck acc l ks fr H Q
def Vk (E:Env) (O:iq) (c:AC) (ks:List Ko) (fr:Fr) (H:AH) (Q:Ex→Fr→AH→Prop):Prop:=Wk E O c ks fr H Q
def Vn (E:Env) (O:iq) (ex:Ex) (ks:List Ko) (fr:Fr) (H:AH) (Q:Ex→Fr→AH→Prop):Prop:=Un E O ex ks fr H Q
@[simp]theorem ZA (ex:Ex):Vn E O ex [] fr H Q=Q ex fr H:=Dd _
@[simp]theorem adS (b:AC):Vn E O .normal (.seq b::ks) fr H Q=Vk E O b ks fr H Q:=rfl
@[simp]theorem adT (i:Nat):Vn E O .normal (.aN i::ks) fr H Q=Vn E O .normal ks fr H Q:=rfl
@[simp]theorem adU (j:Nat) (b:AC):Vn E O (.exit j) (.seq b::ks) fr H Q=Vn E O (.exit j) ks fr H Q:=rfl
@[simp]theorem ZB (i:Nat):Vn E O (.exit i) (.aN i::ks) fr H Q=Vn E O .normal ks fr H Q:=L8 _
@[simp]theorem ahl (k:Ko):Vn E O .ret (k::ks) fr H Q=Vn E O .ret ks fr H Q:=Yb _
@[simp]theorem U5:Vk E O .skip ks fr H Q↔Vn E O .normal ks fr H Q:=Hq
@[simp]theorem ZC:Vk E O .ret ks fr H Q↔Vn E O .ret ks fr H Q:=L9
@[simp]theorem U6 (i:Nat):Vk E O (.exit i) ks fr H Q↔Vn E O (.exit i) ks fr H Q:=Hr _
@[simp]theorem ZD (l:List AO):Vk E O (.bW l) ks fr H Q↔Vx E O .pl l ks fr H Q:=Ma _
@[simp]theorem ZE (a b:AC):Vk E O (.seq a b) ks fr H Q↔Vk E O a (.seq b::ks) fr H Q:=Mb _ _
@[simp]theorem Rm (i:Nat) (a:AC):Vk E O (.block i a) ks fr H Q↔Vk E O a (.aN i::ks) fr H Q:=De _ _
theorem ZF {x:X} {a b:AC}:Vk E O (.cond x a b) ks fr H Q↔Dz (x.ev fr)=true∧br (dG true (x.ev fr)=true) (Vk E O a ks fr H Q) (Vk E O b ks fr H Q):=Zz
@[simp]theorem U7 (l:List AO) (ck:List (Nat×Nat×Nat)):Vk E O (.bM l ck) ks fr H Q↔Vx E O (.dr l ck [(fr,H)]) l ks fr H Q:=by
 refine ⟨?_,fun h=>Ht _ _ h⟩
 rintro ⟨n,ex,bG,H',e,q⟩
 cases n with
 |zero=>simp [aA]at e
 |succ n=>
  simp only [aA,uH]at e
  cases h1:iJ (ey E O (n+1)) l fr H with
  |none=>simp [h1]at e
  |some ss=>
   simp only [h1]at e
   cases h2:chain ((fr,H)::ss)&&ck.all (oZ l ((fr,H)::ss))with
   |false=>simp [h2]at e
   |true=>
    simp only [h2,cond_true,alO,alV]at e
    obtain ⟨rfl,rfl,rfl⟩:=e
    refine ⟨n+1,ss,h1,?_,q⟩
    unfold ze
    simpa using h2
@[simp]theorem ZG:Vx E O .pl [] ks fr H Q↔Vn E O .normal ks fr H Q:=Mc
@[simp]theorem U8 {l0:List AO} {ck:List (Nat×Nat×Nat)} {acc:List (Fr×AH)}:Vx E O (.dr l0 ck acc) [] ks fr H Q↔ze l0 ck acc=true∧Vn E O .normal ks fr H Q:=Mh
theorem ZH {m:Md} (t:Nat) (b:Bool) (d:Option Nat) (p:cl) (l:List AO):Vx E O m (⟨some (t,b),d,p⟩::l) ks fr H Q↔
 br (dG b (fr.get t)=true) (Vx E O m (⟨none,d,p⟩::l) ks fr H Q) (Vx E O (m.up (fr.aM d undef) H) l ks (fr.aM d undef) H Q):=by
 cases m
 ·exact Zw _ _ _ _ _
 ·exact Zx _ _ _ _ _
def CV (E:Env) (O:iq) (v:Value) (a b:AC) (ks:List Ko) (fr:Fr) (H:AH) (Q:Ex→Fr→AH→Prop):Prop:=
 Dz v=true∧br (dG true v=true) (Vk E O a ks fr H Q) (Vk E O b ks fr H Q)
@[simp]theorem adV {x:X} {a b:AC}:Vk E O (.cond x a b) ks fr H Q↔CV E O (x.ev fr) a b ks fr H Q:=ZF
variable{a b:AC}
@[simp]theorem ahm:CV E O (.bool true) a b ks fr H Q↔Vk E O a ks fr H Q:=by simp [CV]
@[simp]theorem ahn:CV E O (.bool false) a b ks fr H Q↔Vk E O b ks fr H Q:=by simp [CV]
@[simp]theorem aho (c:Prop) [Decidable c]:CV E O (.bool (decide c)) a b ks fr H Q↔br c (Vk E O a ks fr H Q) (Vk E O b ks fr H Q):=by simp [CV]
@[simp]theorem ahp (c:Bool):CV E O (.bool (!c)) a b ks fr H Q↔CV E O (.bool c) b a ks fr H Q:=by cases c<;>simp
def GV (E:Env) (O:iq) (v:Value) (b:Bool) (m:Md) (d:Option Nat) (p:cl) (l:List AO) (ks:List Ko) (fr:Fr) (H:AH) (Q:Ex→Fr→AH→Prop):Prop:=
 br (dG b v=true) (Vx E O m (⟨none,d,p⟩::l) ks fr H Q) (Vx E O (m.up (fr.aM d undef) H) l ks (fr.aM d undef) H Q)
@[simp]theorem adW {m:Md} (t:Nat) (b:Bool) (d:Option Nat) (p:cl) (l:List AO):Vx E O m (⟨some (t,b),d,p⟩::l) ks fr H Q↔GV E O (fr.get t) b m d p l ks fr H Q:=ZH _ _ _ _ _
section
variable{m:Md} {d:Option Nat} {p:cl} {l:List AO}
@[simp]theorem adX:GV E O (.bool true) true m d p l ks fr H Q↔Vx E O m (⟨none,d,p⟩::l) ks fr H Q:=by simp [GV]
@[simp]theorem adY:GV E O (.bool false) false m d p l ks fr H Q↔Vx E O m (⟨none,d,p⟩::l) ks fr H Q:=by simp [GV]
@[simp]theorem adZ:GV E O (.bool true) false m d p l ks fr H Q↔Vx E O (m.up (fr.aM d undef) H) l ks (fr.aM d undef) H Q:=by simp [GV]
@[simp]theorem ad0:GV E O (.bool false) true m d p l ks fr H Q↔Vx E O (m.up (fr.aM d undef) H) l ks (fr.aM d undef) H Q:=by simp [GV]
@[simp]theorem ahq (b:Bool):GV E O undef b m d p l ks fr H Q↔Vx E O (m.up (fr.aM d undef) H) l ks (fr.aM d undef) H Q:=by simp [GV]
@[simp]theorem ad1 (c:Prop) [Decidable c]:GV E O (.bool (decide c)) true m d p l ks fr H Q↔br c (Vx E O m (⟨none,d,p⟩::l) ks fr H Q) (Vx E O (m.up (fr.aM d undef) H) l ks (fr.aM d undef) H Q):=by simp [GV]
@[simp]theorem ad2 (c:Prop) [Decidable c]:GV E O (.bool (decide c)) false m d p l ks fr H Q↔br c (Vx E O (m.up (fr.aM d undef) H) l ks (fr.aM d undef) H Q) (Vx E O m (⟨none,d,p⟩::l) ks fr H Q):=by
 by_cases h:c<;>simp [h]
@[simp]theorem ad3 (c:Bool):GV E O (.bool (!c)) true m d p l ks fr H Q↔GV E O (.bool c) false m d p l ks fr H Q:=by cases c<;>simp
@[simp]theorem ad4 (c:Bool):GV E O (.bool (!c)) false m d p l ks fr H Q↔GV E O (.bool c) true m d p l ks fr H Q:=by cases c<;>simp
end
theorem ZI (c:Bool):CV E O (.bool c) a b ks fr H Q↔br (c=true) (Vk E O a ks fr H Q) (Vk E O b ks fr H Q):=by simp [CV]
@[simp]theorem Ro (x y:ByteArray):CV E O (.bool (ch x y)) a b ks fr H Q↔br (ch x y=true) (Vk E O a ks fr H Q) (Vk E O b ks fr H Q):=ZI _
theorem DA {m:Md} (d:Nat) (p:cl) (l:List AO) (h:p.aQ=false):Vx E O m (⟨none,some d,p⟩::l) ks fr H Q↔
 zf (aS p (X.ev fr) H)=true∧Vx E O (m.up (fr.put d (valOf (aS p (X.ev fr) H))) (eQ H (aS p (X.ev fr) H))) l ks (fr.put d (valOf (aS p (X.ev fr) H))) (eQ H (aS p (X.ev fr) H)) Q:=by
 cases m
 ·exact Yc _ _ _ h
 ·exact Ye _ _ _ h
theorem Rp {m:Md} (p:cl) (l:List AO) (h:p.aQ=false):Vx E O m (⟨none,none,p⟩::l) ks fr H Q↔
 zf (aS p (X.ev fr) H)=true∧Vx E O (m.up fr (eQ H (aS p (X.ev fr) H))) l ks fr (eQ H (aS p (X.ev fr) H)) Q:=by
 cases m
 ·exact Yd _ _ h
 ·exact Yf _ _ h
theorem dt {m:Md} {d:Nat} {p:cl} {l:List AO} (h:p.aQ=false) {r:Option Value} (e:aS p (X.ev fr) H=r.map fun v=>(.v v,H)):Vx E O m (⟨none,some d,p⟩::l) ks fr H Q↔
 r.isSome=true∧Vx E O (m.up (fr.put d (r.getD undef)) H) l ks (fr.put d (r.getD undef)) H Q:=by
 rw [DA _ _ _ h,e]
 cases r<;>simp [zf]
def vc:Value→Value→Value→Option Value
 | .bool t,a,b=>some (bif t then a else b)
 |_,_,_=>none
@[simp]theorem U9 (t:Bool) (a b:Value):vc (.bool t) a b=some (bif t then a else b):=rfl
def Pn (H:AH):Value→Option Value
 | .pointer (some a)=>H.ld a
 |_=>none
@[simp]theorem ad5 (a:Addr):Pn H (.pointer (some a))=H.ld a:=rfl
def rK (n:Nat) (H:AH):Value→Option Value
 | .pointer (some a)=>(H.ldn a n).map fun l=>.agg l.toArray
 |_=>none
@[simp]theorem MI (n:Nat) (a:Addr):rK n H (.pointer (some a))=(H.ldn a n).map fun l=>.agg l.toArray:=rfl
def DB (n:Nat) (H:AH):Value→Value→Option AH
 | .pointer (some a),v=>bif Nat.beq (aP v).length n&& !cv v then H.st a (aP v)else none
 |_,_=>none
@[simp]theorem Rq (n:Nat) (a:Addr) (v:Value):DB n H (.pointer (some a)) v=if(aP v).length=n∧cv v=false then H.st a (aP v)else none:=by
 unfold DB
 simp only [nb,Bool.cond_eq_ite,alQ,alZ,Bool.not_eq_true']
@[simp]theorem xJ (k:IntKind) (n:Int):aP (.int k n)=[.int k n]:=rfl
@[simp]theorem KB (b:Bool):aP (.bool b)=[.bool b]:=rfl
@[simp]theorem GA (b:ByteArray):aP (.string b)=[.string b]:=rfl
@[simp]theorem Ib (a:Option Addr) (n c:Nat):aP (.slice a n c)=[.slice a n c]:=rfl
@[simp]theorem DC (a:Option Addr):aP (.pointer a)=[.pointer a]:=rfl
@[simp]theorem MJ (a:Option Nat):aP (.map a)=[.map a]:=rfl
@[simp]theorem KC (f:Fn) (a b:Array Value):aP (.func f a b)=[.func f a b]:=rfl
@[simp]theorem DD:aP .nilFunc=[.nilFunc]:=rfl
@[simp]theorem Po (k:IntKind) (n:Int):cv (.int k n)=false:=rfl
@[simp]theorem MK (b:Bool):cv (.bool b)=false:=rfl
@[simp]theorem Ic (b:ByteArray):cv (.string b)=false:=rfl
@[simp]theorem KD (a:Option Addr) (n c:Nat):cv (.slice a n c)=false:=rfl
@[simp]theorem GB (a:Option Addr):cv (.pointer a)=false:=rfl
@[simp]theorem Pp (a:Option Nat):cv (.map a)=false:=rfl
@[simp]theorem MN (f:Fn) (a b:Array Value):cv (.func f a b)=false:=rfl
@[simp]theorem GC:cv .nilFunc=false:=rfl
def r5:Value→Option Value
 | .pointer (some a)=>some (.pointer (some a))
 |_=>none
@[simp]theorem Va (a:Addr):r5 (.pointer (some a))=some (.pointer (some a)):=rfl
def DE (k:IntKind):Value→Option Value
 | .int _ n=>some (.int k (k.wrap n))
 |_=>none
@[simp]theorem ZJ (k k':IntKind) (n:Int):DE k (.int k' n)=some (.int k (k.wrap n)):=rfl
def Rr:Value→Option Value
 | .int _ n=>some (.string (Utf8.encode n))
 |_=>none
@[simp]theorem ZK (k':IntKind) (n:Int):Rr (.int k' n)=some (.string (Utf8.encode n)):=rfl
def KE (off:Nat):Value→Option Value
 | .pointer (some a)=>bif a.spot.isNone then some (.pointer (some ⟨a.block,a.off+off,none⟩))else none
 |_=>none
@[simp]theorem ad6 (off b o:Nat):KE off (.pointer (some ⟨b,o,none⟩))=some (.pointer (some ⟨b,o+off,none⟩)):=rfl
def KF (sz:Nat):Value→Value→Option Value
 | .slice (some a) len _,.int _ n=>if 0≤n∧n<len then(bif a.spot.isNone then some (.pointer (some ⟨a.block,a.off+n.toNat*sz,none⟩))else none)else none
 |_,_=>none
@[simp]theorem KG (sz b o len c:Nat) (k:IntKind) (n:Int):KF sz (.slice (some ⟨b,o,none⟩) len c) (.int k n)=if 0≤n∧n<len then some (.pointer (some ⟨b,o+n.toNat*sz,none⟩))else none:=rfl
def vd (len sz:Nat):Value→Value→Option Value
 | .pointer (some a),.int _ n=>if 0≤n∧n<len then(bif a.spot.isNone then some (.pointer (some ⟨a.block,a.off+n.toNat*sz,none⟩))else none)else none
 |_,_=>none
@[simp]theorem DF (sz b o len:Nat) (k:IntKind) (n:Int):vd len sz (.pointer (some ⟨b,o,none⟩)) (.int k n)=if 0≤n∧n<len then some (.pointer (some ⟨b,o+n.toNat*sz,none⟩))else none:=rfl
def Cd:Value→Value→Option Value
 | .string s,.int _ n=>if 0≤n then(match s[n.toNat]? with|some b=>some (.int .u8 b.toNat)|none=>none)else none
 |_,_=>none
theorem KH {s:ByteArray} {k:IntKind} {n:Nat} (h:n<s.size):Cd (.string s) (.int k n)=some (.int .u8 (dU s n)):=by
 have:s[n]?=some s[n]:=getElem?_pos s n h
 simp only [Cd,Int.toNat_natCast]
 rw [if_pos (by omega),this]
 unfold dU
 rw [this]
 rfl
def vg:Value→Nat→Option Value
 | .tuple vs,i=>vs.toList[i]?
 |_,_=>none
@[simp]theorem ZL (vs:Array Value) (i:Nat):vg (.tuple vs) i=vs.toList[i]?:=rfl
def qw:Value→Option Value
 | .string s=>some (.int .i64 s.size)
 |_=>none
@[simp]theorem Vb (s:ByteArray):qw (.string s)=some (.int .i64 s.size):=rfl
def qx:Value→Option Value
 | .slice _ n _=>some (.int .i64 n)
 |_=>none
@[simp]theorem Vc (a:Option Addr) (n c:Nat):qx (.slice a n c)=some (.int .i64 n):=rfl
def DG (k:Nat) (neg:Bool) (x y:Value):Option Value:=(fv k x y).map fun b=>.bool (bif neg then !b else b)
@[simp]theorem ad7 (neg a b:Bool):DG 0 neg (.bool a) (.bool b)=some (.bool (bif neg then !(a==b)else(a==b))):=rfl
@[simp]theorem ZM (neg:Bool) (b:Option Addr):DG 1 neg (.pointer none) (.pointer b)=some (.bool (bif neg then !b.isNone else b.isNone)):=rfl
@[simp]theorem ZN (neg:Bool) (b:Addr):DG 1 neg (.pointer (some b)) (.pointer none)=some (.bool neg):=by cases neg<;>rfl
@[simp]theorem ZO (neg:Bool) (n c n' c':Nat) (b:Option Addr):DG 2 neg (.slice none n c) (.slice b n' c')=some (.bool (bif neg then !b.isNone else b.isNone)):=rfl
@[simp]theorem ZP (neg:Bool) (n c n' c':Nat) (b:Addr):DG 2 neg (.slice (some b) n c) (.slice none n' c')=some (.bool neg):=by cases neg<;>rfl
@[simp]theorem ZQ (neg:Bool) (f:Fn) (a b:Array Value):DG 3 neg (.func f a b) .nilFunc=some (.bool neg):=by cases neg<;>rfl
@[simp]theorem ZR (neg:Bool) (b:Option Nat):DG 4 neg (.map none) (.map b)=some (.bool (bif neg then !b.isNone else b.isNone)):=rfl
def Ie (neg:Bool) (offs:List (Nat×Nat)):Value→Value→Option Value
 | .agg cs,.agg ds=>(df cs.toList ds.toList offs).map fun b=>.bool (bif neg then !b else b)
 |_,_=>none
@[simp]theorem ZS (neg:Bool) (offs:List (Nat×Nat)) (cs ds:Array Value):Ie neg offs (.agg cs) (.agg ds)=(df cs.toList ds.toList offs).map fun b=>.bool (bif neg then !b else b):=rfl
def fY (kk:Nat) (z:Value) (H:AH) (x k:Value) (ok:Bool):Option Value:=
 match x with
 | .map none=>bif cq kk k then some (bif ok then .tuple #[z, .bool false]else z)else none
 | .map (some r)=>match H.get r with
   |some (.map es)=>bif cq kk k&&decide (H.n0≤r)then(match eL k es with
    |some (some v)=>some (bif ok then .tuple #[v, .bool true]else v)
    |some none=>some (bif ok then .tuple #[z, .bool false]else z)
    |none=>none)else none
   |_=>none
 |_=>none
section
variable{m:Md} {l:List AO} (d:Nat)
@[simp]theorem ad8 (x:X):Vx E O m (⟨none,some d,.mv x⟩::l) ks fr H Q↔Vx E O (m.up (fr.put d (x.ev fr)) H) l ks (fr.put d (x.ev fr)) H Q:=by
 rw [dt (r:=some (x.ev fr)) rfl rfl];simp
@[simp]theorem Vd (c a b:X):Vx E O m (⟨none,some d,.pick c a b⟩::l) ks fr H Q↔(vc (c.ev fr) (a.ev fr) (b.ev fr)).isSome=true∧Vx E O (m.up (fr.put d ((vc (c.ev fr) (a.ev fr) (b.ev fr)).getD undef)) H) l ks (fr.put d ((vc (c.ev fr) (a.ev fr) (b.ev fr)).getD undef)) H Q:=
 dt rfl (by simp only [aS];cases c.ev fr<;>rfl)
@[simp]theorem ad9 (x:X):Vx E O m (⟨none,some d,.ld x⟩::l) ks fr H Q↔(Pn H (x.ev fr)).isSome=true∧Vx E O (m.up (fr.put d ((Pn H (x.ev fr)).getD undef)) H) l ks (fr.put d ((Pn H (x.ev fr)).getD undef)) H Q:=
 dt rfl (by
  simp only [aS]
  cases x.ev fr with
  |pointer a=>cases a<;>rfl
  |_=>rfl)
@[simp]theorem ZT (n:Nat) (x:X):Vx E O m (⟨none,some d,.ldn n x⟩::l) ks fr H Q↔(rK n H (x.ev fr)).isSome=true∧Vx E O (m.up (fr.put d ((rK n H (x.ev fr)).getD undef)) H) l ks (fr.put d ((rK n H (x.ev fr)).getD undef)) H Q:=
 dt rfl (by
  simp only [aS]
  cases x.ev fr with
  |pointer a=>
   cases a with
   |none=>rfl
   |some a=>simp only [rK];cases H.ldn a n<;>rfl
  |_=>rfl)
@[simp]theorem Ve (x:X):Vx E O m (⟨none,some d,.aU x⟩::l) ks fr H Q↔(r5 (x.ev fr)).isSome=true∧Vx E O (m.up (fr.put d ((r5 (x.ev fr)).getD undef)) H) l ks (fr.put d ((r5 (x.ev fr)).getD undef)) H Q:=
 dt rfl (by
  simp only [aS]
  cases x.ev fr with
  |pointer a=>cases a<;>rfl
  |_=>rfl)
@[simp]theorem ZU (op:BinOp) (x y:X):Vx E O m (⟨none,some d,.bin op x y⟩::l) ks fr H Q↔(bq op (x.ev fr) (y.ev fr)).isSome=true∧Vx E O (m.up (fr.put d ((bq op (x.ev fr) (y.ev fr)).getD undef)) H) l ks (fr.put d ((bq op (x.ev fr) (y.ev fr)).getD undef)) H Q:=
 dt rfl rfl
@[simp]theorem ZV (k:Nat) (neg:Bool) (x y:X):Vx E O m (⟨none,some d,.eqk k neg x y⟩::l) ks fr H Q↔(DG k neg (x.ev fr) (y.ev fr)).isSome=true∧Vx E O (m.up (fr.put d ((DG k neg (x.ev fr) (y.ev fr)).getD undef)) H) l ks (fr.put d ((DG k neg (x.ev fr) (y.ev fr)).getD undef)) H Q:=
 dt rfl (by simp only [aS,DG];cases fv k (x.ev fr) (y.ev fr)<;>rfl)
@[simp]theorem aea (op:UnOp) (x:X):Vx E O m (⟨none,some d,.un op x⟩::l) ks fr H Q↔(Cn op (x.ev fr)).isSome=true∧Vx E O (m.up (fr.put d ((Cn op (x.ev fr)).getD undef)) H) l ks (fr.put d ((Cn op (x.ev fr)).getD undef)) H Q:=
 dt rfl rfl
@[simp]theorem ZW (k:IntKind) (x:X):Vx E O m (⟨none,some d,.jU k x⟩::l) ks fr H Q↔(DE k (x.ev fr)).isSome=true∧Vx E O (m.up (fr.put d ((DE k (x.ev fr)).getD undef)) H) l ks (fr.put d ((DE k (x.ev fr)).getD undef)) H Q:=
 dt rfl (by simp only [aS];cases x.ev fr<;>rfl)
@[simp]theorem aeb (off:Nat) (x:X):Vx E O m (⟨none,some d,.fa off x⟩::l) ks fr H Q↔(KE off (x.ev fr)).isSome=true∧Vx E O (m.up (fr.put d ((KE off (x.ev fr)).getD undef)) H) l ks (fr.put d ((KE off (x.ev fr)).getD undef)) H Q:=
 dt rfl (by
  simp only [aS]
  cases x.ev fr with
  |pointer a=>
   cases a with
   |none=>rfl
   |some a=>simp only [KE];cases a.spot.isNone<;>rfl
  |_=>rfl)
@[simp]theorem aec (sz:Nat) (x i:X):Vx E O m (⟨none,some d,.ia sz x i⟩::l) ks fr H Q↔(KF sz (x.ev fr) (i.ev fr)).isSome=true∧Vx E O (m.up (fr.put d ((KF sz (x.ev fr) (i.ev fr)).getD undef)) H) l ks (fr.put d ((KF sz (x.ev fr) (i.ev fr)).getD undef)) H Q:=
 dt rfl (by
  simp only [aS]
  cases x.ev fr with
  |slice a len c=>
   cases a with
   |none=>rfl
   |some a=>
    cases i.ev fr<;>first
     |rfl
     |(simp only [KF];split<;>first|rfl|(cases a.spot.isNone<;>rfl))
  |_=>rfl)
@[simp]theorem ZX (len sz:Nat) (x i:X):Vx E O m (⟨none,some d,.oA len sz x i⟩::l) ks fr H Q↔(vd len sz (x.ev fr) (i.ev fr)).isSome=true∧Vx E O (m.up (fr.put d ((vd len sz (x.ev fr) (i.ev fr)).getD undef)) H) l ks (fr.put d ((vd len sz (x.ev fr) (i.ev fr)).getD undef)) H Q:=
 dt rfl (by
  simp only [aS]
  cases x.ev fr with
  |pointer a=>
   cases a with
   |none=>rfl
   |some a=>
    cases i.ev fr<;>first
     |rfl
     |(simp only [vd];split<;>first|rfl|(cases a.spot.isNone<;>rfl))
  |_=>rfl)
@[simp]theorem aed (x i:X):Vx E O m (⟨none,some d,.ix x i⟩::l) ks fr H Q↔(Cd (x.ev fr) (i.ev fr)).isSome=true∧Vx E O (m.up (fr.put d ((Cd (x.ev fr) (i.ev fr)).getD undef)) H) l ks (fr.put d ((Cd (x.ev fr) (i.ev fr)).getD undef)) H Q:=
 dt rfl (by
  simp only [aS]
  cases x.ev fr with
  |string s=>
   cases i.ev fr<;>first
    |rfl
    |(simp only [Cd];rename_i n;cases s[n.toNat]?<;>(split<;>rfl))
  |_=>rfl)
@[simp]theorem ZY (x:X) (i:Nat):Vx E O m (⟨none,some d,.ext x i⟩::l) ks fr H Q↔(vg (x.ev fr) i).isSome=true∧Vx E O (m.up (fr.put d ((vg (x.ev fr) i).getD undef)) H) l ks (fr.put d ((vg (x.ev fr) i).getD undef)) H Q:=
 dt rfl (by
  simp only [aS]
  cases x.ev fr with
  |tuple vs=>simp only [vg];cases vs.toList[i]?<;>rfl
  |_=>rfl)
@[simp]theorem Vf (x:X):Vx E O m (⟨none,some d,.lens x⟩::l) ks fr H Q↔(qw (x.ev fr)).isSome=true∧Vx E O (m.up (fr.put d ((qw (x.ev fr)).getD undef)) H) l ks (fr.put d ((qw (x.ev fr)).getD undef)) H Q:=
 dt rfl (by simp only [aS];cases x.ev fr<;>rfl)
@[simp]theorem Vh (x:X):Vx E O m (⟨none,some d,.jn x⟩::l) ks fr H Q↔(qx (x.ev fr)).isSome=true∧Vx E O (m.up (fr.put d ((qx (x.ev fr)).getD undef)) H) l ks (fr.put d ((qx (x.ev fr)).getD undef)) H Q:=
 dt rfl (by simp only [aS];cases x.ev fr<;>rfl)
@[simp]theorem Vi (kk:Nat) (z:Value) (x k:X) (ok:Bool):Vx E O m (⟨none,some d,.look kk z x k ok⟩::l) ks fr H Q↔(fY kk z H (x.ev fr) (k.ev fr) ok).isSome=true∧Vx E O (m.up (fr.put d ((fY kk z H (x.ev fr) (k.ev fr) ok).getD undef)) H) l ks (fr.put d ((fY kk z H (x.ev fr) (k.ev fr) ok).getD undef)) H Q:=
 dt rfl (by
  simp only [aS,fY]
  cases x.ev fr with
  |map r=>
   cases r with
   |none=>dsimp only;cases cq kk (k.ev fr)<;>rfl
   |some r=>
    dsimp only
    cases H.get r with
    |none=>rfl
    |some b=>
     cases b with
     |cells=>rfl
     |map es=>
      dsimp only
      cases cq kk (k.ev fr)&&decide (H.n0≤r)
      ·rfl
      ·cases eL (k.ev fr) es with
       |none=>rfl
       |some q=>cases q<;>rfl
  |_=>rfl)
@[simp]theorem ZZ (f:Nat) (a b:List X):Vx E O m (⟨none,some d,.mkf f a b⟩::l) ks fr H Q↔Vx E O (m.up (fr.put d (.func (.func f) (a.map (X.ev fr)).toArray (b.map (X.ev fr)).toArray)) H) l ks (fr.put d (.func (.func f) (a.map (X.ev fr)).toArray (b.map (X.ev fr)).toArray)) H Q:=by
 rw [dt (r:=some (.func (.func f) (a.map (X.ev fr)).toArray (b.map (X.ev fr)).toArray)) rfl rfl];simp
@[simp]theorem aee (sz:Nat) (x:X) (lo hi mx:Option X):Vx E O m (⟨none,some d,.sl sz x lo hi mx⟩::l) ks fr H Q↔(bC sz H (x.ev fr) (lo.map (X.ev fr)) (hi.map (X.ev fr)) (mx.map (X.ev fr))).isSome=true∧Vx E O (m.up (fr.put d ((bC sz H (x.ev fr) (lo.map (X.ev fr)) (hi.map (X.ev fr)) (mx.map (X.ev fr))).getD undef)) H) l ks (fr.put d ((bC sz H (x.ev fr) (lo.map (X.ev fr)) (hi.map (X.ev fr)) (mx.map (X.ev fr))).getD undef)) H Q:=
 dt rfl rfl
def dW (z:List Value) (ps:List (Nat×Nat×Value)):Option Value:=(gL z ps).map fun c=>.agg c.toArray
@[simp]theorem Rs (z:List Value) (ps:List (Nat×Nat×X)):Vx E O m (⟨none,some d,.build z ps⟩::l) ks fr H Q↔(dW z (ps.map fun p=>(p.1,p.2.1,p.2.2.ev fr))).isSome=true∧Vx E O (m.up (fr.put d ((dW z (ps.map fun p=>(p.1,p.2.1,p.2.2.ev fr))).getD undef)) H) l ks (fr.put d ((dW z (ps.map fun p=>(p.1,p.2.1,p.2.2.ev fr))).getD undef)) H Q:=
 dt rfl (by simp only [aS,dW];cases gL z (ps.map fun p=>(p.1,p.2.1,p.2.2.ev fr))<;>rfl)
@[simp]theorem Rt (z:List Value):Vx E O m (⟨none,some d,.alloc z⟩::l) ks fr H Q↔Vx E O (m.up (fr.put d (.pointer (some ⟨H.nx,0,none⟩))) (H.alloc (.cells z.length z))) l ks (fr.put d (.pointer (some ⟨H.nx,0,none⟩))) (H.alloc (.cells z.length z)) Q:=by
 rw [DA _ _ _ rfl];simp [aS]
@[simp]theorem Z0 (x:X):Vx E O m (⟨none,some d,.box x⟩::l) ks fr H Q↔cv (x.ev fr)=false∧Vx E O (m.up (fr.put d (.pointer (some ⟨H.nx,0,none⟩))) (H.alloc (.cells (aP (x.ev fr)).length (aP (x.ev fr))))) l ks (fr.put d (.pointer (some ⟨H.nx,0,none⟩))) (H.alloc (.cells (aP (x.ev fr)).length (aP (x.ev fr)))) Q:=by
 rw [DA _ _ _ rfl]
 simp only [aS]
 cases cv (x.ev fr)<;>simp [zf]
@[simp]theorem Ru:Vx E O m (⟨none,some d,.mkmap⟩::l) ks fr H Q↔Vx E O (m.up (fr.put d (.map (some H.nx))) (H.alloc (.map []))) l ks (fr.put d (.map (some H.nx))) (H.alloc (.map [])) Q:=by
 rw [DA _ _ _ rfl];simp [aS]
@[simp]theorem aef (n:Nat) (x v:X):Vx E O m (⟨none,none,.st n x v⟩::l) ks fr H Q↔(DB n H (x.ev fr) (v.ev fr)).isSome=true∧Vx E O (m.up fr ((DB n H (x.ev fr) (v.ev fr)).getD H)) l ks fr ((DB n H (x.ev fr) (v.ev fr)).getD H) Q:=by
 rw [Rp _ _ rfl]
 have e:aS (.st n x v) (X.ev fr) H=(DB n H (x.ev fr) (v.ev fr)).map fun H'=>(.v undef,H'):=by
  simp only [aS]
  cases x.ev fr with
  |pointer a=>
   cases a with
   |none=>rfl
   |some a=>
    simp only [DB]
    cases (Nat.beq (aP (v.ev fr)).length n&& !cv (v.ev fr))<;>simp
  |_=>rfl
 rw [e]
 cases DB n H (x.ev fr) (v.ev fr)<;>simp [zf,eQ]
def Ba:Option (Value×AH)→Bool
 |some _=>true
 |none=>false
def v1:Option (Value×AH)→Value
 |some (v,_)=>v
 |none=>undef
def h2 (H:AH):Option (Value×AH)→AH
 |some (_,H')=>H'
 |none=>H
@[simp]theorem Z1 (r:Value×AH):Ba (some r)=true:=rfl
@[simp]theorem ahr (v:Value) (H':AH):v1 (some (v,H'))=v:=rfl
@[simp]theorem ahs (v:Value) (H':AH):h2 H (some (v,H'))=H':=rfl
theorem DH {p:cl} (h:p.aQ=false) {r:Option (Value×AH)} (e:aS p (X.ev fr) H=r.map fun q=>(.v q.1,q.2)):Vx E O m (⟨none,some d,p⟩::l) ks fr H Q↔
 Ba r=true∧Vx E O (m.up (fr.put d (v1 r)) (h2 H r)) l ks (fr.put d (v1 r)) (h2 H r) Q:=by
 rw [DA _ _ _ h,e]
 cases r with
 |none=>simp [Ba,zf]
 |some q=>obtain ⟨v,H'⟩:=q;simp
@[simp]theorem Z2 (sz bytes:Nat) (s x:X):Vx E O m (⟨none,some d,.app sz bytes s x⟩::l) ks fr H Q↔Ba (aX sz bytes H (s.ev fr) (x.ev fr))=true∧Vx E O (m.up (fr.put d (v1 (aX sz bytes H (s.ev fr) (x.ev fr)))) (h2 H (aX sz bytes H (s.ev fr) (x.ev fr)))) l ks (fr.put d (v1 (aX sz bytes H (s.ev fr) (x.ev fr)))) (h2 H (aX sz bytes H (s.ev fr) (x.ev fr))) Q:=
 DH _ rfl rfl
def ll (len sz:Nat) (z:List Value) (H:AH) (ps:List (Nat×Nat×Value)):Option (Value×AH):=(gL z ps).map fun c=>(.slice (some ⟨H.nx,0,none⟩) len len,H.alloc (.cells sz c))
@[simp]theorem Z3 (len sz:Nat) (z:List Value) (ps:List (Nat×Nat×X)):Vx E O m (⟨none,some d,.bsl len sz z ps⟩::l) ks fr H Q↔Ba (ll len sz z H (ps.map fun p=>(p.1,p.2.1,p.2.2.ev fr)))=true∧Vx E O (m.up (fr.put d (v1 (ll len sz z H (ps.map fun p=>(p.1,p.2.1,p.2.2.ev fr))))) (h2 H (ll len sz z H (ps.map fun p=>(p.1,p.2.1,p.2.2.ev fr))))) l ks (fr.put d (v1 (ll len sz z H (ps.map fun p=>(p.1,p.2.1,p.2.2.ev fr))))) (h2 H (ll len sz z H (ps.map fun p=>(p.1,p.2.1,p.2.2.ev fr)))) Q:=
 DH _ rfl (by simp only [aS,ll];cases gL z (ps.map fun p=>(p.1,p.2.1,p.2.2.ev fr))<;>rfl)
def pj (kk:Nat) (H:AH) (x k v:Value):Option AH:=
 match x with
 | .map (some r)=>match H.get r with
   |some (.map es)=>bif cq kk k&&decide (H.n0≤r)&& !cv v then(jY k v es).map fun es'=>H.put r (some (.map es'))else none
   |_=>none
 |_=>none
@[simp]theorem Z4 (kk:Nat) (x k v:X):Vx E O m (⟨none,none,.nu kk x k v⟩::l) ks fr H Q↔(pj kk H (x.ev fr) (k.ev fr) (v.ev fr)).isSome=true∧Vx E O (m.up fr ((pj kk H (x.ev fr) (k.ev fr) (v.ev fr)).getD H)) l ks fr ((pj kk H (x.ev fr) (k.ev fr) (v.ev fr)).getD H) Q:=by
 rw [Rp _ _ rfl]
 have e:aS (.nu kk x k v) (X.ev fr) H=(pj kk H (x.ev fr) (k.ev fr) (v.ev fr)).map fun H'=>(.v undef,H'):=by
  simp only [aS,pj]
  cases x.ev fr with
  |map r=>
   cases r with
   |none=>rfl
   |some r=>
    dsimp only
    cases H.get r with
    |none=>rfl
    |some b=>
     cases b with
     |cells=>rfl
     |map es=>
      dsimp only
      cases (cq kk (k.ev fr)&&decide (H.n0≤r)&& !cv (v.ev fr))
      ·rfl
      ·simp only [cond_true]
       cases jY (k.ev fr) (v.ev fr) es<;>rfl
  |_=>rfl
 rw [e]
 cases pj kk H (x.ev fr) (k.ev fr) (v.ev fr)<;>simp [zf,eQ]
theorem Ig {d f:Nat} {«as»:List X} {vs:List Value} {R:Value→AH→Prop} (ha:«as».map (X.ev fr)=vs) (h:Ca E O f vs H R) (k:∀x H',R x H'→Vx E O (m.up (fr.put d x) H') l ks (fr.put d x) H' Q):Vx E O m (⟨none,some d,.call f «as»⟩::l) ks fr H Q:=by
 subst ha
 cases m
 ·exact Hs (h.mono k)
 ·exact Hu (h.mono k)
theorem ah {d f:Nat} {«as»:List X} {vs:List Value} (ha:«as».map (X.ev fr)=vs) (h:Ca E O f vs H fun x H'=>Vx E O (m.up (fr.put d x) H') l ks (fr.put d x) H' Q):Vx E O m (⟨none,some d,.call f «as»⟩::l) ks fr H Q:=Ig ha h fun _ _ k=>k
theorem DI {d f:Nat} {x:X} {«as»:List X} {first cap:Array Value} {vs:List Value} {R:Value→AH→Prop} (hx:x.ev fr= .func (.func f) first cap) (ha:first.toList++«as».map (X.ev fr)++cap.toList=vs) (h:Ca E O f vs H R) (k:∀x H',R x H'→Vx E O (m.up (fr.put d x) H') l ks (fr.put d x) H' Q):Vx E O m (⟨none,some d,.callv x «as»⟩::l) ks fr H Q:=by
 subst ha
 have e:aS (.callv x «as») (X.ev fr) H=some (.enter f (first.toList++«as».map (X.ev fr)++cap.toList),H):=by simp only [aS,hx]
 cases m
 ·show Wo E O _ _ _ _
  rw [fE,eP _ _ _ _ rfl,e]
  exact h.mono k
 ·show Wd E O _ _ _ _ _ _ _ _
  rw [gT,eP _ _ _ _ rfl,e]
  exact h.mono k
theorem ja {d f:Nat} {x:X} {«as»:List X} {first cap:Array Value} {vs:List Value} (hx:x.ev fr= .func (.func f) first cap) (ha:first.toList++«as».map (X.ev fr)++cap.toList=vs) (h:Ca E O f vs H fun x H'=>Vx E O (m.up (fr.put d x) H') l ks (fr.put d x) H' Q):Vx E O m (⟨none,some d,.callv x «as»⟩::l) ks fr H Q:=DI hx ha h fun _ _ k=>k
end
def DJ:AO→Fr→Bool
 |⟨none,_,_⟩,_=>true
 |⟨some (t,b),_,_⟩,fr=>dG b (fr.get t)
@[simp]theorem aeg (d:Option Nat) (p:cl) (fr:Fr):DJ ⟨none,d,p⟩ fr=true:=rfl
@[simp]theorem aeh (t:Nat) (b:Bool) (d:Option Nat) (p:cl) (fr:Fr):DJ ⟨some (t,b),d,p⟩ fr=dG b (fr.get t):=rfl
theorem MO (o:AO) (fr:Fr):o.wanted fr=DJ o fr:=by
 obtain ⟨g,d,p⟩:=o
 cases g with
 |none=>rfl
 |some q=>obtain ⟨t,b⟩:=q;exact kR _ _ _ _
def Pq (H:AH) (n:Nat):Value→Option (Addr×List Value)
 | .pointer (some a)=>(H.ldn a n).map fun l=>(a,l)
 |_=>none
@[simp]theorem aei (n:Nat) (a:Addr):Pq H n (.pointer (some a))=(H.ldn a n).map fun l=>(a,l):=rfl
def Rw:cl→Fr→AH→Option (Addr×List Value)
 | .ld x,fr,H=>Pq H 1 (x.ev fr)
 | .ldn n x,fr,H=>Pq H n (x.ev fr)
 |_,_,_=>none
@[simp]theorem Z5 (x:X):Rw (.ld x) fr H=Pq H 1 (x.ev fr):=rfl
@[simp]theorem Vj (n:Nat) (x:X):Rw (.ldn n x) fr H=Pq H n (x.ev fr):=rfl
def MP (H':AH):Option (Addr×List Value)→Bool
 |some x=>sameAt H' x
 |none=>false
@[simp]theorem Z6 (x:Addr×List Value):MP H (some x)=sameAt H x:=rfl
def MQ:Option (List Value)→List Value→Bool
 |some m,l=>fV m l
 |none,_=>false
@[simp]theorem Z7 (m l:List Value):MQ (some m) l=fV m l:=rfl
@[simp]theorem vh (a:Addr) (l:List Value):sameAt H (a,l)=MQ (H.ldn a l.length) l:=by
 unfold sameAt MQ
 dsimp only
 cases H.ldn a l.length<;>rfl
@[simp]theorem Vl:fV [] []=true:=rfl
@[simp]theorem Vm (x y:Value) (l m:List Value):fV (x::l) (y::m)=(dD x y&&fV l m):=rfl
@[simp]theorem Vo (k:IntKind) (n:Int):dD (.int k n) (.int k n)=true:=by simp [dD]
@[simp]theorem Vp (b:Bool):dD (.bool b) (.bool b)=true:=by simp [dD]
@[simp]theorem Vq (a:Option Addr):dD (.pointer a) (.pointer a)=true:=by simp [dD]
@[simp]theorem Vs (a:Option Addr) (n c:Nat):dD (.slice a n c) (.slice a n c)=true:=by simp [dD]
def MR (l:List AO):Nat→Option AO→Option (Fr×AH)→Option (Fr×AH)→Option AO→Option (Fr×AH)→Option (Fr×AH)→Bool
 |k,some op,some (fp,Hp),some (_,Gu),some oq,some (fq,_),some (_,AD)=>
  !DJ op fp|| !DJ oq fq||(match k with
   |0=>MP AD (Rw op.o fp Hp)
   |1=>ly (Gu.get Hp.nx) (AD.get Hp.nx)
   |_=>match cw op fp,cw oq fq with|some b,some b'=>!Nat.beq b b'|_,_=>true)
 |_,_,_,_,_,_,_=>false
@[simp]theorem aej (l:List AO) (op oq:AO) (fp fq f1 f2:Fr) (Hp Gu H1 AD:AH):MR l 0 (some op) (some (fp,Hp)) (some (f1,Gu)) (some oq) (some (fq,H1)) (some (f2,AD))=(!DJ op fp|| !DJ oq fq||MP AD (Rw op.o fp Hp)):=rfl
@[simp]theorem aek (l:List AO) (op oq:AO) (fp fq f1 f2:Fr) (Hp Gu H1 AD:AH):MR l 1 (some op) (some (fp,Hp)) (some (f1,Gu)) (some oq) (some (fq,H1)) (some (f2,AD))=(!DJ op fp|| !DJ oq fq||ly (Gu.get Hp.nx) (AD.get Hp.nx)):=rfl
theorem zi (l:List AO) (op oq:AO) (fp fq f1 f2:Fr) (Hp Gu H1 AD:AH):MR l 2 (some op) (some (fp,Hp)) (some (f1,Gu)) (some oq) (some (fq,H1)) (some (f2,AD))=(!DJ op fp|| !DJ oq fq||(match cw op fp,cw oq fq with|some b,some b'=>!Nat.beq b b'|_,_=>true)):=rfl
theorem Ih (l:List AO) (ss:List (Fr×AH)) (k p q:Nat):oZ l ss (k,p,q)=MR l k (nth l p) (nth ss p) (nth ss (p+1)) (nth l q) (nth ss q) (nth ss (q+1)):=by
 unfold oZ
 dsimp only
 cases nth l p with
 |none=>rfl
 |some op=>
  cases nth ss p with
  |none=>rfl
  |some a=>
   cases nth ss (p+1)with
   |none=>rfl
   |some b=>
    cases nth l q with
    |none=>rfl
    |some oq=>
     cases nth ss q with
     |none=>rfl
     |some c=>
      cases nth ss (q+1)with
      |none=>rfl
      |some d=>
       obtain ⟨a1,a2⟩:=a
       obtain ⟨b1,b2⟩:=b
       obtain ⟨c1,c2⟩:=c
       obtain ⟨d1,d2⟩:=d
       simp only [MR,MO]
       congr 1
       match k with
       |0=>
        obtain ⟨g,dd,p⟩:=op
        cases p<;>first
         |rfl
         |(simp only [iI,Rw]
           rename_i x
           cases x.ev a1 with
           |pointer z=>
            cases z with
            |none=>rfl
            |some z=>simp only [Pq];cases AH.ldn a2 z _<;>rfl
           |_=>rfl)
       |1=>rfl
       |k+2=>rfl
theorem MS (l:List AO) (ck:List (Nat×Nat×Nat)) (acc:List (Fr×AH)):ze l ck acc=(chain acc.reverse&&ck.all fun c=>MR l c.1 (nth l c.2.1) (nth acc.reverse c.2.1) (nth acc.reverse (c.2.1+1)) (nth l c.2.2) (nth acc.reverse c.2.2) (nth acc.reverse (c.2.2+1))):=by
 unfold ze
 congr 1
 congr 1
 funext c
 obtain ⟨k,p,q⟩:=c
 exact Ih _ _ _ _ _
theorem aY (l:List AO) (ck:List (Nat×Nat×Nat)) (acc:List (Fr×AH)):ze l ck acc=true↔chain acc.reverse=true∧ck.all (fun c=>MR l c.1 (nth l c.2.1) (nth acc.reverse c.2.1) (nth acc.reverse (c.2.1+1)) (nth l c.2.2) (nth acc.reverse c.2.2) (nth acc.reverse (c.2.2+1)))=true:=by
 rw [MS,alQ]
theorem aH (a b:Fr×AH) (l:List (Fr×AH)):chain (a::b::l)=true↔(a.2.n0=b.2.n0∧a.2.nx≤b.2.nx)∧chain (b::l)=true:=by
 simp only [chain,alQ,Nat.beq_eq,Nat.ble_eq]
theorem aI (a:Fr×AH):chain [a]=true:=rfl
@[simp]theorem Rx {α:Type} (x:α) (l:List α):nth (x::l) 0=some x:=rfl
@[simp]theorem ael {α:Type} (x:α) (l:List α) (n:Nat):nth (x::l) (n+1)=nth l n:=rfl
theorem r6 {α:Type}:∀(l:List α) (n:Nat),nth l n=l[n]?
 |[],n=>by cases n<;>rfl
 |x::l,0=>rfl
 |x::l,n+1=>by simp [r6 l n]
def spine:Nat→AC→AC→AC
 |0,_,r=>r
 |k+1,.seq a b,r=>.seq a (spine k b r)
 |_,c,_=>c
def qy:Nat→AC→AC
 |0,c=>c
 |k+1,.seq _ b=>qy k b
 |_,c=>c
theorem Ii (a b r:AC):spine 1 (.seq a b) r= .seq a r:=by cases b<;>rfl
theorem Ij (a b r:AC):spine 2 (.seq a b) r= .seq a (spine 1 b r):=rfl
theorem Ik (a b r:AC):spine 3 (.seq a b) r= .seq a (spine 2 b r):=rfl
theorem Il (a b r:AC):spine 4 (.seq a b) r= .seq a (spine 3 b r):=rfl
theorem Im (a b r:AC):spine 5 (.seq a b) r= .seq a (spine 4 b r):=rfl
theorem Io (a b r:AC):spine 6 (.seq a b) r= .seq a (spine 5 b r):=rfl
theorem Ip (a b r:AC):spine 7 (.seq a b) r= .seq a (spine 6 b r):=rfl
theorem Iq (a b r:AC):spine 8 (.seq a b) r= .seq a (spine 7 b r):=rfl
attribute [simp] Ii Ij Ik Il Im Io Ip Iq
inductive cH where
 |l
 |r
def et:List cH→AC→AC
 |[],c=>c
 | .l::p,.seq a _=>et p a
 | .r::p,.seq _ b=>et p b
 | .l::p,.block _ a=>et p a
 | .l::p,.cond _ a _=>et p a
 | .r::p,.cond _ _ b=>et p b
 |_,c=>c
def iO:List cH→AC→AC→AC
 |[],_,r=>r
 | .l::p,.seq a b,r=>.seq (iO p a r) b
 | .r::p,.seq a b,r=>.seq a (iO p b r)
 | .l::p,.block i a,r=>.block i (iO p a r)
 | .l::p,.cond x a b,r=>.cond x (iO p a r) b
 | .r::p,.cond x a b,r=>.cond x a (iO p b r)
 |_,c,_=>c
def js:List cH→AC→List Ko→List Ko
 |[],_,ks=>ks
 | .l::p,.seq a b,ks=>js p a (.seq b::ks)
 | .r::p,.seq _ b,ks=>js p b ks
 | .l::p,.block i a,ks=>js p a (.aN i::ks)
 | .l::p,.cond _ a _,ks=>js p a ks
 | .r::p,.cond _ _ b,ks=>js p b ks
 |_,_,ks=>ks
@[simp]theorem Ir (c:AC):et [] c=c:=by cases c<;>rfl
@[simp]theorem Vt (p:List cH) (a b:AC):et (.l::p) (.seq a b)=et p a:=rfl
@[simp]theorem Is (p:List cH) (a b:AC):et (.r::p) (.seq a b)=et p b:=rfl
@[simp]theorem Vu (p:List cH) (i:Nat) (a:AC):et (.l::p) (.block i a)=et p a:=rfl
@[simp]theorem Ry (p:List cH) (x:X) (a b:AC):et (.l::p) (.cond x a b)=et p a:=rfl
@[simp]theorem Rz (p:List cH) (x:X) (a b:AC):et (.r::p) (.cond x a b)=et p b:=rfl
@[simp]theorem Vv (p:List cH) (x:X) (a b r:AC):iO (.l::p) (.cond x a b) r= .cond x (iO p a r) b:=rfl
@[simp]theorem Vw (p:List cH) (x:X) (a b r:AC):iO (.r::p) (.cond x a b) r= .cond x a (iO p b r):=rfl
@[simp]theorem Vy (p:List cH) (x:X) (a b:AC) (ks:List Ko):js (.l::p) (.cond x a b) ks=js p a ks:=rfl
@[simp]theorem VA (p:List cH) (x:X) (a b:AC) (ks:List Ko):js (.r::p) (.cond x a b) ks=js p b ks:=rfl
@[simp]theorem Z8 (c r:AC):iO [] c r=r:=by cases c<;>rfl
@[simp]theorem Z9 (p:List cH) (a b r:AC):iO (.l::p) (.seq a b) r= .seq (iO p a r) b:=rfl
@[simp]theorem aaa (p:List cH) (a b r:AC):iO (.r::p) (.seq a b) r= .seq a (iO p b r):=rfl
@[simp]theorem aab (p:List cH) (i:Nat) (a r:AC):iO (.l::p) (.block i a) r= .block i (iO p a r):=rfl
@[simp]theorem xK (c:AC) (ks:List Ko):js [] c ks=ks:=by cases c<;>rfl
@[simp]theorem aac (p:List cH) (a b:AC) (ks:List Ko):js (.l::p) (.seq a b) ks=js p a (.seq b::ks):=rfl
@[simp]theorem xL (p:List cH) (a b:AC) (ks:List Ko):js (.r::p) (.seq a b) ks=js p b ks:=rfl
@[simp]theorem aad (p:List cH) (i:Nat) (a:AC) (ks:List Ko):js (.l::p) (.block i a) ks=js p a (.aN i::ks):=rfl
def zj:Nat→List cH→List Ko→AC
 |0,p,.seq c::_=>et p c
 |j+1,p,_::ks=>zj j p ks
 |_,_,_=>.skip
def tA:Nat→List cH→List Ko→AC→List Ko
 |0,p,.seq c::ks,r=>.seq (iO p c r)::ks
 |j+1,p,k::ks,r=>k::tA j p ks r
 |_,_,ks,_=>ks
def vi:Nat→List cH→List Ko→List Ko
 |0,p,.seq c::ks=>js p c ks
 |j+1,p,_::ks=>vi j p ks
 |_,_,ks=>ks
theorem qz {c:AC} (p:List cH) (P:Fr→AH→Prop) (hp:iO p c (et p c)=c) (h2:∀fr H,P fr H→Vk E O (et p c) (js p c ks) fr H Q) (h1:∀rest,(∀fr H,P fr H→Vk E O rest (js p c ks) fr H Q)→Vk E O (iO p c rest) ks fr H Q):Vk E O c ks fr H Q:=by
 have:=h1 _ h2
 rwa [hp]at this
theorem RA {m:Md} {l:List AO} (j:Nat) (p:List cH) (P:Fr→AH→Prop) (hp:tA j p ks (zj j p ks)=ks) (h2:∀fr H,P fr H→Vk E O (zj j p ks) (vi j p ks) fr H Q) (h1:∀rest,(∀fr H,P fr H→Vk E O rest (vi j p ks) fr H Q)→Vx E O m l (tA j p ks rest) fr H Q):Vx E O m l ks fr H Q:=by
 have:=h1 _ h2
 rwa [hp]at this
theorem Ca.RB {f:Nat} {F:AF} {«as»:List Value} {H:AH} {Q:Value→AH→Prop} (k:Nat) (ho:O f=none) (he:E f=some F) (hl:«as».length=F.np) (hk:spine k F.body (qy k F.body)=F.body) (h:Vk E O (spine k F.body (qy k F.body)) [] (Fr.of «as») H (xD F.res Q)):Ca E O f «as» H Q:=Ca.Dh ho he hl (hk▸h)
theorem Ca.aR {f:Nat} {F:AF} {«as»:List Value} {H:AH} {Q:Value→AH→Prop} (ho:O f=none) (he:E f=some F) (hl:«as».length=F.np) (h:Vk E O F.body [] (Fr.of «as») H (xD F.res Q)):Ca E O f «as» H Q:=Ca.Dh ho he hl h
def vj (E:Env) (O:iq) (I:Nat→Fr→AH→Prop) (k:Nat) (ks:List Ko) (Q:Ex→Fr→AH→Prop):Ex→Fr→AH→Prop
 | .normal,fr,H=>∃j,j<k∧I j fr H
 | .exit i,fr,H=>Vn E O (.exit i) ks fr H Q
 | .ret,fr,H=>Vn E O .ret ks fr H Q
@[simp]theorem VB (I:Nat→Fr→AH→Prop) (k:Nat):vj E O I k ks Q .normal fr H=∃j,j<k∧I j fr H:=rfl
@[simp]theorem VC (I:Nat→Fr→AH→Prop) (k i:Nat):vj E O I k ks Q (.exit i) fr H=Vn E O (.exit i) ks fr H Q:=rfl
@[simp]theorem VD (I:Nat→Fr→AH→Prop) (k:Nat):vj E O I k ks Q .ret fr H=Vn E O .ret ks fr H Q:=rfl
theorem b9 {a:AC} (I:Nat→Fr→AH→Prop) (step:∀k fr H,I k fr H→Vk E O a [] fr H (vj E O I k ks Q)) (k:Nat) (h:I k fr H):Vk E O (.loop a) ks fr H Q:=by
 refine zg I (fun k fr H hI=>?_) k h
 have:=step k fr H hI
 unfold Vk at this
 have e:vj E O I k ks Q=uX E O I k ks Q:=by
  funext ex fr H
  cases ex<;>rfl
 rw [e]at this
 exact this
@[simp]theorem X_t (n:Nat):X.ev fr (.t n)=fr.get n:=rfl
@[simp]theorem X_k (v:Value):X.ev fr (.k v)=v:=rfl
@[simp]theorem X_f (n:Nat):X.ev fr (.f n)= .func (.func n) #[] #[]:=rfl
end
end Go.Proofs.YtppcmpmnglaleaaGreatDoor.A
set_option maxRecDepth 10000
namespace Go.Proofs.YtppcmpmnglaleaaGreatDoor.A
open Go
theorem Bb (c:Int) (H:AH):Ca E O 154 [.int .u8 c] H (fun x H'=>x= .bool (iZ c)∧H'=H):=by
 refine Ca.aR (F:=a154) rfl rfl rfl ?_
 simp (maxSteps:=4000000)-implicitDefEqProofs+contextual [-X.ev,a154]
 simp [br,iZ,kf,isDigit]
 by_cases h1:97≤c<;>by_cases h2:c≤122<;>by_cases h3:48≤c<;>by_cases h4:c≤57<;>simp [*]<;>omega
theorem r9 {s:ByteArray}:ch s ⟨#[]⟩=decide (s.size=0):=by
 rw [Bool.eq_iff_iff,gH]
 constructor
 ·rintro rfl;rfl
 ·intro h;simp at h;exact h
theorem Bc (s:ByteArray) (gA:s.size<2^60) (H:AH):Ca E O 129 [.string s] H (fun x H'=>x= .bool (isName s)∧H'=H):=by
 refine Ca.aR (F:=Ds) rfl rfl rfl ?_
 by_cases h1:s.size=0
 ·simp (maxSteps:=4000000)-implicitDefEqProofs+contextual [-X.ev,Ds,r9,h1,isName]
 have Gv:0<s.size:=by omega
 have ix0:Cd (.string s) (.int .i64 0)=some (.int .u8 (dU s 0)):=KH (n:=0) Gv
 have VE:kf (dU s 0)=(decide (97≤dU s 0)&&decide (dU s 0≤122)):=rfl
 obtain ⟨b0,It⟩:∃b,dU s 0=b:=⟨_,rfl⟩
 rw [It]at ix0 VE
 simp (maxSteps:=4000000)-implicitDefEqProofs+contextual [-X.ev,Ds,r9,h1,ix0]
 refine xI (fun q=>?_) (fun q=>xI (fun q1=>?_) (fun q1=>xI (fun q2=>?_) (fun q2=>?_)))
 ·have:¬ s.size≤12:=by omega
  simp [isName,this]
 ·have q1':¬ 97≤b0:=by omega
  simp [isName,It,VE,q1']
 ·have q2':¬ b0≤122:=by omega
  simp [isName,It,VE,q2']
 refine b9 (fun k fr H'=>H'=H∧∃i:Nat,i+k=s.size∧fr.get 0= .string s∧fr.get 3= .int .i64 i∧∀j,j<i→iZ (dU s j)=true) ?_ s.size ⟨rfl,0,by simp,by simp,by simp,fun j hj=>by omega⟩
 rintro k fr H' ⟨rfl,i,hi,f0,f3,aT⟩
 by_cases h:i<s.size
 ·have ixi:Cd (.string s) (.int .i64 i)=some (.int .u8 (dU s i)):=KH h
  simp (maxSteps:=4000000)-implicitDefEqProofs+contextual [-X.ev,f0,f3,h,ixi]
  apply ah
  ·(simp-implicitDefEqProofs [-X.ev];rfl)
  refine (Bb (dU s i) H').mono ?_
  rintro x H1 ⟨rfl,rfl⟩
  cases h5:iZ (dU s i)with
  |true=>
   simp (maxSteps:=4000000)-implicitDefEqProofs+contextual [-X.ev,f0,f3]
   rw [aj ⟨by omega,by omega⟩]
   refine ⟨k- 1,by omega,i+1,by omega,by simp,fun j hj=>?_⟩
   by_cases e:j=i
   ·subst e;exact h5
   ·exact aT j (by omega)
  |false=>
   simp (maxSteps:=4000000)-implicitDefEqProofs+contextual [-X.ev]
   simp [isName]
   intro _ _ _ _
   exact ⟨i,h,h5⟩
 ·have RC:((List.range s.size).all fun i=>iZ (dU s i))=true:=by simpa using fun j hj=>aT j (by omega)
  have z1:1≤s.size:=by omega
  have z2:s.size≤12:=by omega
  have z3:kf (dU s 0)=true:=by rw [It,VE];simp;omega
  have e:isName s= !tq s:=by simp [isName,RC,z1,z2,z3]
  simp (maxSteps:=4000000)-implicitDefEqProofs+contextual [-X.ev,f0,f3,h,e,tq]
open Go
def smap (l:List (ByteArray×Value)):List (Value×Value):=l.map fun p=>(.string p.1,p.2)
theorem zk (s:ByteArray):∀l:List (ByteArray×Value),eL (.string s) (smap l)=some ((l.find? fun p=>ch s p.1).map (·.2))
 |[]=>rfl
 |p::l=>by
  have ih:=zk s l
  unfold smap at ih⊢
  simp only [List.map_cons,eL,fZ,List.find?_cons]
  change (match some (ch s p.1)with|some true=>_|some false=>_|none=>_)=_
  cases ch s p.1
  ·exact ih
  ·rfl
theorem DK (s:ByteArray) (v:Value):∀l:List (ByteArray×Value),(∀p∈l,ch s p.1=false)→jY (.string s) v (smap l)=some (smap (l++[(s,v)]))
 |[],_=>rfl
 |p::l,h=>by
  have ih:=DK s v l fun q hq=>h q (by simp [hq])
  unfold smap at ih⊢
  simp only [List.map_cons,jY,fZ,List.cons_append]
  change (match some (ch s p.1)with|some true=>_|some false=>_|none=>_)=_
  rw [h p (by simp)]
  simp [ih]
theorem ef {kk m:Nat} {z k v:Value} {H:AH} {es:List (Value×Value)} (hg:H.get m=some (.map es)) (h0:H.n0≤m) (hk:cq kk k=true) (hf:eL k es=some (some v)):fY kk z H (.map (some m)) k false=some v:=by
 simp [fY,hg,h0,hk,hf]
theorem zl {kk m:Nat} {z k:Value} {H:AH} {es:List (Value×Value)} (hg:H.get m=some (.map es)) (h0:H.n0≤m) (hk:cq kk k=true) (hf:eL k es=some none):fY kk z H (.map (some m)) k false=some z:=by
 simp [fY,hg,h0,hk,hf]
theorem fi {kk m:Nat} {k v:Value} {H:AH} {es es':List (Value×Value)} (hg:H.get m=some (.map es)) (h0:H.n0≤m) (hk:cq kk k=true) (ht:cv v=false) (hu:jY k v es=some es'):
 ∃H2,pj kk H (.map (some m)) k v=some H2∧Mod (fun x=>x=m) H H2∧H2.nx=H.nx∧H2.n0=H.n0∧H2.get m=some (.map es'):=by
 have hb:=AH.aL hg
 refine ⟨H.put m (some (.map es')),by simp [pj,hg,h0,hk,ht,hu],⟨rfl,alR _,fun x hx hs=>?_⟩,rfl,rfl,?_⟩
 ·rw [AH.bj _ _ _ _ hb,if_neg hs]
 ·rw [AH.bj _ _ _ _ hb,if_pos rfl]
def jt (l:List Vr):List (ByteArray×Value):=l.map fun v=>(v.name,.bool true)
theorem vk (l:List Vr) (s:ByteArray):((jt l).find? fun p=>ch s p.1).map (·.2)=if l.any (fun v=>ch v.name s)=true then some (.bool true)else none:=by
 induction l with
 |nil=>rfl
 |cons v l ih=>
  simp only [jt,List.map_cons,List.find?_cons,List.any_cons]
  have e:ch s v.name=ch v.name s:=by
   rw [Bool.eq_iff_iff,gH,gH];exact eq_comm
  rcases Bool.eq_false_or_eq_true (ch v.name s)with q|q
  ·rw [q]at e
   simp [e,q]
  ·rw [q]at e
   simp only [e,q,Bool.false_or]
   simpa [jt]using ih
theorem vn {l:List Vr} {i:Nat} {y:Vr} (hy:l[i]?=some y):((l.take i).any fun v=>ch v.name y.name)= !decide (jL l y.name=i):=by
 have hi:=(alT.1 hy).1
 cases q:(l.take i).any fun v=>ch v.name y.name with
 |false=>
  have:jL l y.name=i:=xH hy (by rw [gH]) fun j z hj hz=>by
   rw [List.any_eq_false]at q
   have:=q z (alS (i:=j) (by rw [List.getElem?_take,if_pos hj];exact hz))
   simpa using this
  simp [this]
 |true=>
  rw [List.any_eq_true]at q
  obtain ⟨z,hz,hs⟩:=q
  obtain ⟨j,hj,e⟩:=List.mem_iff_getElem.1 hz
  have:¬ jL l y.name=i:=by
   intro hf
   unfold jL at hf
   split at hf
   ·rename_i k hk
    rw [List.findIdx?_eq_some_iff_getElem]at hk
    obtain ⟨_,_,hk⟩:=hk
    have hji:j<i:=by simp at hj;omega
    have:=hk j (by omega)
    rw [List.getElem_take]at e
    rw [e,hs]at this
    simp at this
   ·omega
  simp [this]
def Bd (l:List Vr) (i:Nat):Bool:=match l[i]? with|some v=>iy l i v|none=>true
theorem eR (w:Int) (l:List Vr):aD w l=(bP w&&(decide (1≤l.length)&&(decide (l.length≤18)&&((List.range l.length).all (Bd l)&&decide (cS (l.map (·.cells))≤48))))):=rfl
theorem nN {l:List Vr} {i:Nat} {y:Vr} (h:l[i]?=some y):Bd l i=iy l i y:=by unfold Bd;rw [h]
set_option maxHeartbeats 1000000 in
theorem zm {v:Value} {l:List Vr} {H:AH} (hw:H.n0≤H.nx) (hv:dA H v l) (ta:nL l) (w:Int):Ca E O 96 [.int .i64 w,v] H (fun x H'=>x= .int .i64 (if aD w l=true then 0 else 1)∧Ext H H'):=by
 refine Ca.aR (F:=U1) rfl rfl rfl ?_
 obtain ⟨a,c,lG⟩:=hv.len
 have gA:=ta.1
 have X0:=Ext.alloc H (.map [])
 have g0:=bZ H (.map [])
 generalize y7:H.alloc (.map [])=H0 at X0 g0
 simp (maxSteps:=4000000)-implicitDefEqProofs+contextual [-X.ev,U1,lG,y7]
 have z1:aD w l=true→1≤w∧w≤8∧1≤l.length∧l.length≤18:=by
  intro h;simp [aD,bP]at h;omega
 have nf:¬ (1≤w∧w≤8∧1≤l.length∧l.length≤18)→aD w l=false:=fun q=>by
  rw [Bool.eq_false_iff];exact fun h=>q (z1 h)
 refine xI (fun q=>?_) (fun q1=>xI (fun q=>?_) (fun q2=>xI (fun q=>?_) (fun q3=>xI (fun q=>?_) (fun q4=>?_))))
 ·exact ⟨nf (by omega),Ext.refl _⟩
 ·exact ⟨nf (by omega),Ext.refl _⟩
 ·exact ⟨nf (by omega),Ext.refl _⟩
 ·exact ⟨nf (by omega),Ext.refl _⟩
 refine b9 (fun k fr H1=>Ext H H1∧H1.get H.nx=some (.map (smap (jt (l.take (l.length- k)))))∧k≤l.length∧∃i:Nat,i+k=l.length∧fr.get 26=v∧fr.get 27= .int .i64 l.length∧fr.get 28= .int .i64 i∧fr.get 5= .map (some H.nx)∧fr.get 6= .int .i64 (cS ((l.take i).map (·.cells)))∧∀j y,j<i→l[j]?=some y→iy l j y=true) ?_ l.length ⟨X0,by simpa [jt,smap]using g0,alR _,0,by simp,by simp [lG],by simp,by simp,by simp,by simp [cS],fun j y hj=>by omega⟩
 rintro k fr H1 ⟨X1,gm,hk,i,hi,f26,f27,f28,f5,f6,aT⟩
 rw [show l.length- k=i by omega]at gm
 have pk:=X1.wf hw
 have mu:H1.n0≤H.nx:=by rw [X1.n0];exact hw
 have DL:∀y,l[i]?=some y→iy l i y=false→aD w l=false:=by
  intro y hy hn
  have:((List.range l.length).all (Bd l))=false:=by
   rw [List.all_eq_false]
   refine ⟨i,?_,?_⟩
   ·have:=(alT.1 hy).1;simpa using this
   ·rw [nN hy];simp [hn]
  simp only [eR,this,Bool.false_and,Bool.and_false]
 by_cases h:i<l.length
 ·obtain ⟨y,hy⟩:∃y,l[i]?=some y:=⟨_,alN h⟩
  obtain ⟨b,o,c',dy,bN,_⟩:=(hv.ext X1).at hy
  have rW:=ta.2 y (alS hy)
  have ahw:=f26
  rw [dy]at f26
  obtain ⟨H2,VF,X2,aae,RD,d,GD⟩:=dJ (H:=H1) pk (z:=3) (c:=[.string ⟨#[]⟩,.int .i64 0,.int .i64 0]) (vs:=[.string y.name,.int .i64 y.level,.int .i64 y.cells]) rfl
  have d0:H2.ld ⟨H1.nx,0,none⟩=some (.string y.name):=GD 0 _ rfl
  have d1:H2.ld ⟨H1.nx,1,none⟩=some (.int .i64 y.level):=GD 1 _ rfl
  have d2:H2.ld ⟨H1.nx,2,none⟩=some (.int .i64 y.cells):=GD 2 _ rfl
  clear GD
  replace d:H2.ldn ⟨H1.nx,0,none⟩ 3=some [.string y.name,.int .i64 y.level,.int .i64 y.cells]:=d
  have gV:=X2.wf pk
  have RE:=X2.get gm
  have h0:H2.n0≤H.nx:=by rw [RD];exact mu
  have key:aD w l=true→iy l i y=true:=fun hh=>by
   cases e:iy l i y with
   |true=>rfl
   |false=>rw [DL y hy e]at hh;cases hh
  have lk:fY 1 (.bool false) H2 (.map (some H.nx)) (.string y.name) false=some (.bool (!decide (jL l y.name=i))):=by
   have hf:=zk y.name (jt (l.take i))
   rw [vk,vn hy]at hf
   by_cases e:jL l y.name=i
   ·rw [zl RE h0 rfl (by simpa [e]using hf)];simp [e]
   ·rw [ef RE h0 rfl (by simpa [e]using hf)];simp [e]
  simp (maxSteps:=4000000)-implicitDefEqProofs+contextual [-X.ev,f26,f27,f28,f5,f6,h,bN,Vr.row,VF,d0]
  apply ah
  ·(simp-implicitDefEqProofs [-X.ev];rfl)
  refine (Bc y.name rW H2).mono ?_
  rintro x H3 ⟨rfl,rfl⟩
  have X3:=X1.trans X2
  cases n1:isName y.name with
  |false=>
   simp (maxSteps:=4000000)-implicitDefEqProofs+contextual [-X.ev,f26,f27,f28,f5,f6]
   rw [DL y hy (by simp [iy,n1])]
   exact ⟨rfl,X3⟩
  |true=>
   by_cases Iu:iy l i y=true
   ·obtain ⟨_,m1,m2,m3,m4,m5⟩:isName y.name=true∧0≤y.level∧y.level≤47∧1≤y.cells∧y.cells≤8∧jL l y.name=i:=by simpa [iy]using Iu
    have m1':¬ y.level<0:=by omega
    have m2':¬ 47<y.level:=by omega
    have m3':¬ y.cells<1:=by omega
    have m4':¬ 8<y.cells:=by omega
    obtain ⟨H4,sm,X4,wU,lV,gm4⟩:=fi (v:=.bool true) RE h0 (kk:=1) (k:=.string y.name) rfl rfl (DK y.name (.bool true) (jt (l.take i)) (by
     have:=vn hy
     simp only [m5,decide_true,Bool.not_true]at this
     rw [List.any_eq_false]at this
     intro p hp
     unfold jt at hp
     obtain ⟨z,hz,rfl⟩:=List.mem_map.1 hp
     have:=this z hz
     have e:ch y.name z.name=ch z.name y.name:=by
      rw [Bool.eq_iff_iff,gH,gH];exact eq_comm
     simpa [e]using this))
    have fw:¬ H1.nx=H.nx:=by have:=AH.aL gm;omega
    have Be:=X4.ld (a:=⟨H1.nx,2,none⟩) fw d2
    simp (maxSteps:=4000000)-implicitDefEqProofs+contextual [-X.ev,f26,f27,f28,f5,f6,d0,d1,d2,lk,m5,m1',m2',m3',m4',sm,Be]
    have GF:-9223372036854775808≤(i:Int)+1∧(i:Int)+1≤9223372036854775807:=by omega
    rw [aj (n:=(i:Int)+1) GF]
    refine ⟨k- 1,by omega,X3.mod X4 (by rintro x rfl;exact alR _),?_,by omega,i+1,by omega,dy.symm,by simp,?_,?_⟩
    ·rw [gm4,show l.length- (k- 1)=i+1 by omega,List.take_add_one,hy]
     simp [jt]
    ·rw [List.take_add_one]
     simp [cS,List.getElem?_map,hy,List.foldl_append]
    ·intro j z hj hz
     by_cases e:j=i
     ·subst e;rw [hy]at hz;cases hz;exact Iu
     ·exact aT j z (by omega) hz
   ·have aaf:iy l i y=false:=by simpa using Iu
    have qi:=DL y hy aaf
    have hor:¬ (jL l y.name=i∧¬ y.level<0∧¬ 47<y.level∧¬ y.cells<1∧¬ 8<y.cells):=by
     rintro ⟨a1,a2,a3,a4,a5⟩
     apply Iu
     simp [iy,n1,a1]
     omega
    by_cases p1:jL l y.name=i
    case neg=>
     simp (maxSteps:=4000000)-implicitDefEqProofs+contextual [-X.ev,f26,f27,f28,f5,f6,d0,d1,d2,lk,p1,qi,X3]
    by_cases p2:y.level<0
    case pos=>
     simp (maxSteps:=4000000)-implicitDefEqProofs+contextual [-X.ev,f26,f27,f28,f5,f6,d0,d1,d2,lk,p1,p2,qi,X3]
    by_cases p3:47<y.level
    case pos=>
     simp (maxSteps:=4000000)-implicitDefEqProofs+contextual [-X.ev,f26,f27,f28,f5,f6,d0,d1,d2,lk,p1,p2,p3,qi,X3]
    by_cases p4:y.cells<1
    case pos=>
     simp (maxSteps:=4000000)-implicitDefEqProofs+contextual [-X.ev,f26,f27,f28,f5,f6,d0,d1,d2,lk,p1,p2,p3,p4,qi,X3]
    have p5:8<y.cells:=by
     rcases Int.lt_or_le 8 y.cells with e|e
     ·exact e
     ·exact absurd ⟨p1,p2,p3,p4,by omega⟩ hor
    simp (maxSteps:=4000000)-implicitDefEqProofs+contextual [-X.ev,f26,f27,f28,f5,f6,d0,d1,d2,lk,p1,p2,p3,p4,p5,qi,X3]
 ·have hl:i=l.length:=by omega
  have hc:aD w l=decide (cS (l.map (·.cells))≤48):=by
   have a1:bP w=true:=by simp [bP];omega
   have a2:((List.range l.length).all (Bd l))=true:=by
    rw [al3]
    intro j hj
    cases e:l[j]? with
    |none=>unfold Bd;rw [e]
    |some y=>rw [nN e];exact aT j y (by simp at hj;omega) e
   have a3:1≤l.length:=by omega
   have a4:l.length≤18:=by omega
   simp only [eR,a1,a2,a3,a4,decide_true,Bool.true_and]
  rw [hl,List.take_length]at f6
  simp (maxSteps:=4000000)-implicitDefEqProofs+contextual [-X.ev,f26,f27,f28,f5,f6,h,X1,hc]
end Go.Proofs.YtppcmpmnglaleaaGreatDoor.A
namespace Go.Proofs.YtppcmpmnglaleaaGreatDoor.A
open Go
theorem fG {l:List cn} {i:Nat} {y:cn} (h:l[i]?=some y):al (l.take (i+1))=al (l.take i)+ar y:=by
 induction l generalizing i with
 |nil=>simp at h
 |cons x l ih=>
  cases i with
  |zero=>simp at h;subst h;simp [al]
  |succ i=>simp only [List.take_succ_cons,al];rw [ih (by simpa using h)];omega
theorem bS (l:List cn) (i:Nat):0≤al (l.take i)∧al (l.take i)≤al l:=by
 induction l generalizing i with
 |nil=>simp [al]
 |cons x l ih=>
  have h1:=dV x
  have h2:=bu l
  cases i with
  |zero=>simp only [List.take_zero,al];omega
  |succ i=>simp only [List.take_succ_cons,al];have:=ih i;omega
theorem eZ.row {H:AH} {v:Value} {rows:List (List Value)} {l:List cn} (hr:Rows H 4 v rows) (hl:eZ H rows l) {i:Nat} {y:cn} (hy:l[i]?=some y):
 ∃b o c va r,v= .slice (some ⟨b,o,none⟩) l.length c∧H.ldn ⟨b,o+i*4,none⟩ 4=some [.int .i64 y.op,.int .i64 y.n,.int .i64 y.cp,va]∧r=[.int .i64 y.op,.int .i64 y.n,.int .i64 y.cp,va]∧pG H r y:=by
 obtain ⟨r,Zv,pH⟩:=hl.at hy
 obtain ⟨b,o,c',dy,bN⟩:=hr.at Zv
 rw [hl.length]at dy
 cases pH with| @mk op n cp va rows args i1 i2 i3 hlen hr hll=>
 exact ⟨b,o,c',va,_,dy,bN,rfl,.mk i1 i2 i3 hlen hr hll⟩
theorem sb:∀(N:Nat) (e:cn) (c:List Value) (H:AH),SizeOf.sizeOf e<N→H.n0≤H.nx→pG H c e→ar e<2^60→
 Ca E O 132 [.agg c.toArray] H (fun x H'=>x= .int .i64 (ar e)∧Ext H H'):=by
 intro N
 induction N with
 |zero=>intro e c H h;omega
 |succ N ih=>
  intro e c H hN hw he hm
  cases he with| @mk op n cp v rows args i1 i2 i3 hlen hr hl=>
  refine Ca.aR (F:=HJ) rfl rfl rfl ?_
  have X1:=Ext.alloc H (.cells 4 [.int .i64 op,.int .i64 n,.int .i64 cp,v])
  have d0:(H.alloc (.cells 4 [.int .i64 op,.int .i64 n,.int .i64 cp,v])).ld ⟨H.nx,0,none⟩=some (.int .i64 op):=ai hw rfl
  have d1:(H.alloc (.cells 4 [.int .i64 op,.int .i64 n,.int .i64 cp,v])).ld ⟨H.nx,1,none⟩=some (.int .i64 n):=ai hw rfl
  have d2:(H.alloc (.cells 4 [.int .i64 op,.int .i64 n,.int .i64 cp,v])).ld ⟨H.nx,2,none⟩=some (.int .i64 cp):=ai hw rfl
  have d3:(H.alloc (.cells 4 [.int .i64 op,.int .i64 n,.int .i64 cp,v])).ld ⟨H.nx,3,none⟩=some v:=ai hw rfl
  have d:(H.alloc (.cells 4 [.int .i64 op,.int .i64 n,.int .i64 cp,v])).ldn ⟨H.nx,0,none⟩ 4=some [.int .i64 op,.int .i64 n,.int .i64 cp,v]:=ba hw 4 rfl
  generalize cV:H.alloc (.cells 4 [.int .i64 op,.int .i64 n,.int .i64 cp,v])=H1 at X1 d0 d1 d2 d3 d
  have bc:=X1.wf hw
  rw [ar]at hm
  obtain ⟨a0,c0,hv⟩:=hr.len
  rw [hl.length]at hv
  have D3:=d3
  rw [hv]at D3
  simp (maxSteps:=4000000)-implicitDefEqProofs+contextual [-X.ev,HJ,cV,D3]
  refine b9 (fun k fr H'=>Ext H1 H'∧∃i:Nat,i+k=args.length∧fr.get 7=v∧fr.get 8= .int .i64 args.length∧fr.get 9= .int .i64 i∧fr.get 3= .int .i64 (1+al (args.take i))) ?_ args.length ⟨Ext.refl _,0,by simp,by simp [hv],by simp,by simp,by simp [al]⟩
  rintro k fr H2 ⟨X2,i,hi,f7,f8,f9,f3⟩
  have kg:=X1.trans X2
  have lq:=kg.wf hw
  by_cases h:i<args.length
  ·obtain ⟨y,hy⟩:∃y,args[i]?=some y:=⟨_,alN h⟩
   obtain ⟨b,o,c',va,r,dy,bN,rfl,pH⟩:=eZ.row (hr.ext kg) (hl.ext kg) hy
   have f7v:=f7
   rw [dy]at f7
   obtain ⟨H3,Ce,X3,DM,DN,q,jX⟩:=dJ (H:=H2) lq (z:=4) (c:=[.int .i64 0,.int .i64 0,.int .i64 0,.slice none 0 0]) (vs:=[.int .i64 y.op,.int .i64 y.n,.int .i64 y.cp,va]) rfl
   have q0:H3.ld ⟨H2.nx,0,none⟩=some (.int .i64 y.op):=jX 0 _ rfl
   have q1:H3.ld ⟨H2.nx,1,none⟩=some (.int .i64 y.n):=jX 1 _ rfl
   have q2:H3.ld ⟨H2.nx,2,none⟩=some (.int .i64 y.cp):=jX 2 _ rfl
   have q3:H3.ld ⟨H2.nx,3,none⟩=some va:=jX 3 _ rfl
   clear jX
   replace q:H3.ldn ⟨H2.nx,0,none⟩ 4=some [.int .i64 y.op,.int .i64 y.n,.int .i64 y.cp,va]:=q
   have vq:=X3.wf lq
   have t1:=fG hy
   have t2:=bS args (i+1)
   have t3:=bS args i
   have t4:=dV y
   have hs:=qu (op:=op) (n:=n) (cp:=cp) hy
   simp (maxSteps:=4000000)-implicitDefEqProofs+contextual [-X.ev,f7,f8,f9,f3,h,bN,Ce,q]
   apply ah
   ·(simp-implicitDefEqProofs [-X.ev];rfl)
   refine (ih y _ H3 (by omega) vq (pH.ext X3) (by omega)).mono ?_
   rintro x H4 ⟨rfl,X4⟩
   simp (maxSteps:=4000000)-implicitDefEqProofs+contextual [-X.ev,f7,f8,f9,f3]
   rw [aj (n:=(i:Int)+1) ⟨by omega,by omega⟩,aj ⟨by omega,by omega⟩]
   exact ⟨k- 1,by omega,X2.trans (X3.trans X4),i+1,by omega,dy.symm,by simp,by omega⟩
  ·simp (maxSteps:=4000000)-implicitDefEqProofs+contextual [-X.ev,f7,f8,f9,f3,h]
   rw [alU (by omega)]
   exact ⟨by rw [ar],kg⟩
def kh (V:List Vr) (op n:Int):Int:=
 if op=0 then 0 else if op=1∧0≤n∧n<V.length then(if 1<ak V n then 1 else 0)else
 if(2≤op∧op≤11)∨op=13∨op=14 then 2 else if op=12 then 1 else if op=15 then 3 else-1
theorem DO {w kk op n cp:Int} {vv va:Value} {V:List Vr} {H:AH} (hw:H.n0≤H.nx) (hv:dA H vv V):
 Ca E O 174 [.agg #[.int .i64 w,vv,.int .i64 kk],.agg #[.int .i64 op,.int .i64 n,.int .i64 cp,va]] H (fun x H'=>x= .int .i64 (kh V op n)∧Ext H H'):=by
 refine Ca.aR (F:=A8) rfl rfl rfl ?_
 have X1:=Ext.alloc H (.cells 3 [.int .i64 w,vv,.int .i64 kk])
 have d0:(H.alloc (.cells 3 [.int .i64 w,vv,.int .i64 kk])).ld ⟨H.nx,0,none⟩=some (.int .i64 w):=ai hw rfl
 have d1:(H.alloc (.cells 3 [.int .i64 w,vv,.int .i64 kk])).ld ⟨H.nx,1,none⟩=some vv:=ai hw rfl
 have d2:(H.alloc (.cells 3 [.int .i64 w,vv,.int .i64 kk])).ld ⟨H.nx,2,none⟩=some (.int .i64 kk):=ai hw rfl
 have d:(H.alloc (.cells 3 [.int .i64 w,vv,.int .i64 kk])).ldn ⟨H.nx,0,none⟩ 3=some [.int .i64 w,vv,.int .i64 kk]:=ba hw 3 rfl
 generalize cV:H.alloc (.cells 3 [.int .i64 w,vv,.int .i64 kk])=H1 at X1 d0 d1 d2 d
 have bc:=X1.wf hw
 have X2:=Ext.alloc H1 (.cells 4 [.int .i64 op,.int .i64 n,.int .i64 cp,va])
 have e0:(H1.alloc (.cells 4 [.int .i64 op,.int .i64 n,.int .i64 cp,va])).ld ⟨H1.nx,0,none⟩=some (.int .i64 op):=ai bc rfl
 have e1:(H1.alloc (.cells 4 [.int .i64 op,.int .i64 n,.int .i64 cp,va])).ld ⟨H1.nx,1,none⟩=some (.int .i64 n):=ai bc rfl
 have e2:(H1.alloc (.cells 4 [.int .i64 op,.int .i64 n,.int .i64 cp,va])).ld ⟨H1.nx,2,none⟩=some (.int .i64 cp):=ai bc rfl
 have e3:(H1.alloc (.cells 4 [.int .i64 op,.int .i64 n,.int .i64 cp,va])).ld ⟨H1.nx,3,none⟩=some va:=ai bc rfl
 have e:(H1.alloc (.cells 4 [.int .i64 op,.int .i64 n,.int .i64 cp,va])).ldn ⟨H1.nx,0,none⟩ 4=some [.int .i64 op,.int .i64 n,.int .i64 cp,va]:=ba bc 4 rfl
 generalize ju:H1.alloc (.cells 4 [.int .i64 op,.int .i64 n,.int .i64 cp,va])=H2 at X2 e0 e1 e2 e3 e
 have gV:=X2.wf bc
 have X:=X1.trans X2
 replace d1:=X2.ld d1
 by_cases h1:0≤n∧n<V.length
 ·obtain ⟨h1,h2⟩:=h1
  obtain ⟨y,hy⟩:∃y,V[n.toNat]?=some y:=⟨_,alN (by omega)⟩
  obtain ⟨b,o,c',dy,_,_,_,eW⟩:=(hv.ext X).at hy
  have hc:ak V n=y.cells:=by simp [ak,hy]
  rw [dy]at d1
  simp (maxSteps:=4000000)-implicitDefEqProofs+contextual [-X.ev,A8,cV,ju,d1,e0,e1,h1,h2,eW,X,hc,kh]
 ·have hc:kh V op n=if op=0 then 0 else if(2≤op∧op≤11)∨op=13∨op=14 then 2 else if op=12 then 1 else if op=15 then 3 else-1:=by
   unfold kh
   simp only [h1,and_false,if_false]
  obtain ⟨a1,c1,nw⟩:=hv.len
  rw [nw]at d1
  by_cases h2:0≤n
  ·have h3:¬ n<V.length:=fun q=>h1 ⟨h2,q⟩
   simp (maxSteps:=4000000)-implicitDefEqProofs+contextual [-X.ev,A8,cV,ju,d1,e0,e1,h2,h3,X,hc]
  ·simp (maxSteps:=4000000)-implicitDefEqProofs+contextual [-X.ev,A8,cV,ju,d1,e0,e1,h2,X,hc]
open Go
def se (w k:Int) (op n cp:Int):Bool:=
 if op=0 then !decide (n<0)&&(!decide (2^w.toNat≤n)&&decide (cp=0))else if op=1 then !decide (cp<0)&& !decide (k≤cp)else decide (n=0)&&decide (cp=0)
theorem tB {w k:Int} (hw:1≤w∧w≤8) (V:List Vr) (op n cp:Int) (na:Nat):qv w V k op n cp na=(decide (kh V op n=na)&&se w k op n cp):=by
 have w1:bP w=true:=by simp [bP,hw]
 unfold qv se kh
 by_cases h0:op=0
 ·subst h0
  simp only [isWord,w1,Bool.true_and]
  have:tu 0=0:=rfl
  rw [Bool.eq_iff_iff]
  simp [this]
  omega
 by_cases h1:op=1
 ·subst h1
  have z0:¬ ((1:Int)=0):=by omega
  have z1:¬ ((2≤(1:Int)∧(1:Int)≤11)∨(1:Int)=13∨(1:Int)=14):=by omega
  have z2:¬ ((1:Int)=12):=by omega
  have z3:¬ ((1:Int)=15):=by omega
  simp only [if_true,if_neg z0,if_neg z1,if_neg z2,if_neg z3,true_and]
  rw [Bool.eq_iff_iff]
  generalize (if 1<ak V n then(1:Int)else 0)=z
  by_cases h2:0≤n∧n<V.length
  ·rw [if_pos h2]
   simp only [alQ,Bool.not_eq_true',Bool.or_eq_false_iff,decide_eq_false_iff_not,alZ]
   omega
  ·rw [if_neg h2]
   simp only [alQ,Bool.not_eq_true',Bool.or_eq_false_iff,decide_eq_false_iff_not,alZ]
   omega
 ·simp only [if_neg h0,if_neg h1,false_and,if_false]
  have e:tu op=if(2≤op∧op≤11)∨op=13∨op=14 then 2 else if op=12 then 1 else if op=15 then 3 else-1:=by
   unfold tu KA
   rw [if_neg h0]
   by_cases a:op=12
   ·subst a;simp
   by_cases b:op=15
   ·subst b;simp
   rw [if_neg a,if_neg b,if_neg a,if_neg b]
   by_cases c:(2≤op∧op≤11)∨op=13∨op=14
   ·rw [if_pos c,if_pos (by simpa using c)]
   ·rw [if_neg c,if_neg (by simpa using c)]
  rw [e,if_neg (show¬ (op=1∧0≤n∧n<V.length) from fun h=>h1 h.1)]
  generalize (if(2≤op∧op≤11)∨op=13∨op=14 then(2:Int)else if op=12 then 1 else if op=15 then 3 else-1)=z
  rw [Bool.eq_iff_iff]
  simp
  constructor
  ·rintro ⟨⟨a,b⟩,c⟩;exact ⟨b.symm,c,a⟩
  ·rintro ⟨a,b,c⟩;exact ⟨⟨c,a.symm⟩,b⟩
def fj (w:Int) (V:List Vr) (k:Int) (e:cn) (deep left:Int):Bool:=decide (ar e≤left)&&(decide (deep+cJ e≤17)&&dP w V k e)
theorem vr {w:Int} (hw:1≤w∧w≤8):bq .shl (.int .i64 1) (.int .u64 (IntKind.u64.wrap w))=some (.int .i64 (2^w.toNat)):=by
 obtain ⟨h1,h2⟩:=hw
 obtain ⟨n,rfl⟩:∃n:Nat,w=n:=⟨w.toNat,by omega⟩
 have:n=1∨n=2∨n=3∨n=4∨n=5∨n=6∨n=7∨n=8:=by omega
 rcases this with rfl|rfl|rfl|rfl|rfl|rfl|rfl|rfl<;>rfl
theorem qA:∀{l:List cn} {k:Int} {y:cn},y∈l→cJ y≤eB l k
 |x::l,k,y,h=>by
  rw [eB]
  rcases List.mem_cons.1 h with rfl|h
  ·have:∀(l:List cn) (k:Int),k≤eB l k:=by
    intro l
    induction l with
    |nil=>intro k;rw [eB];omega
    |cons z l ih=>intro k;rw [eB];have:=ih (max k (cJ z));omega
   have:=this l (max k (cJ y))
   omega
  ·exact qA h
theorem Bf {l:List cn} {k m:Int} (hk:k≤m) (h:∀y∈l,cJ y≤m):eB l k≤m:=by
 induction l generalizing k with
 |nil=>rw [eB];exact hk
 |cons x l ih=>
  rw [eB]
  have:=h x (by simp)
  exact ih (by omega) fun y hy=>h y (by simp [hy])
set_option maxHeartbeats 2000000 in
theorem Iv {w k:Int} (eS:1≤w∧w≤8) {vv:Value} {V:List Vr}:∀(N:Nat) (e:cn) (c:List Value) (G H:AH) (deep left:Int) (b:Nat),SizeOf.sizeOf e<N→H.n0≤H.nx→Ext G H→G.nx≤b→dA G vv V→pG G c e→
 H.get b=some (.cells 1 [.int .i64 left])→H.n0≤b→0≤left∧left≤1000→1≤deep∧deep≤17→
 Ca E O 166 [.agg #[.int .i64 w,vv,.int .i64 k],.agg c.toArray,.int .i64 deep,.pointer (some ⟨b,0,none⟩)] H (fun x H'=>x= .bool (fj w V k e deep left)∧Mod (fun x=>x=b) H H'∧∃mK,H'.get b=some (.cells 1 [.int .i64 mK])∧(fj w V k e deep left=true→mK=left- ar e)):=by
 intro N
 induction N with
 |zero=>intro e c G H deep left b h;omega
 |succ N ih=>
  intro e c G H deep left b hN hw GX gb hv he hb tC aeo RG
  have hbH:=AH.aL hb
  cases he with| @mk op n cp va rows args i1 i2 i3 hlen hr hl=>
  refine Ca.RB 4 (F:=u6) rfl rfl rfl rfl ?_
  obtain ⟨rest,bD⟩:∃r,qy 4 u6.body=r:=⟨_,rfl⟩
  rw [bD]
  have X1:=Ext.alloc H (.cells 3 [.int .i64 w,vv,.int .i64 k])
  have d0:(H.alloc (.cells 3 [.int .i64 w,vv,.int .i64 k])).ld ⟨H.nx,0,none⟩=some (.int .i64 w):=ai hw rfl
  have d1:(H.alloc (.cells 3 [.int .i64 w,vv,.int .i64 k])).ld ⟨H.nx,1,none⟩=some vv:=ai hw rfl
  have d2:(H.alloc (.cells 3 [.int .i64 w,vv,.int .i64 k])).ld ⟨H.nx,2,none⟩=some (.int .i64 k):=ai hw rfl
  have d:(H.alloc (.cells 3 [.int .i64 w,vv,.int .i64 k])).ldn ⟨H.nx,0,none⟩ 3=some [.int .i64 w,vv,.int .i64 k]:=ba hw 3 rfl
  generalize cV:H.alloc (.cells 3 [.int .i64 w,vv,.int .i64 k])=H1 at X1 d0 d1 d2 d
  have bc:=X1.wf hw
  have X2:=Ext.alloc H1 (.cells 4 [.int .i64 op,.int .i64 n,.int .i64 cp,va])
  have e0:(H1.alloc (.cells 4 [.int .i64 op,.int .i64 n,.int .i64 cp,va])).ld ⟨H1.nx,0,none⟩=some (.int .i64 op):=ai bc rfl
  have e1:(H1.alloc (.cells 4 [.int .i64 op,.int .i64 n,.int .i64 cp,va])).ld ⟨H1.nx,1,none⟩=some (.int .i64 n):=ai bc rfl
  have e2:(H1.alloc (.cells 4 [.int .i64 op,.int .i64 n,.int .i64 cp,va])).ld ⟨H1.nx,2,none⟩=some (.int .i64 cp):=ai bc rfl
  have e3:(H1.alloc (.cells 4 [.int .i64 op,.int .i64 n,.int .i64 cp,va])).ld ⟨H1.nx,3,none⟩=some va:=ai bc rfl
  have e:(H1.alloc (.cells 4 [.int .i64 op,.int .i64 n,.int .i64 cp,va])).ldn ⟨H1.nx,0,none⟩ 4=some [.int .i64 op,.int .i64 n,.int .i64 cp,va]:=ba bc 4 rfl
  generalize ju:H1.alloc (.cells 4 [.int .i64 op,.int .i64 n,.int .i64 cp,va])=H2 at X2 e0 e1 e2 e3 e
  have gV:=X2.wf bc
  replace d0:=X2.ld d0
  replace d1:=X2.ld d1
  replace d2:=X2.ld d2
  replace d:=X2.ldn d
  have X:=X1.trans X2
  have KI:=X.get hb
  have gC:H2.n0≤b:=by rw [X.n0];exact tC
  have lb2:=aE KI gC (k:=0) rfl
  obtain ⟨H3,s3,M3,pI,kS,Iw⟩:=bw KI gC (k:=0) (vs:=[.int .i64 (left- 1)]) (by simp)
  have rD:H3.n0≤b:=by rw [kS];exact gC
  have Iw:H3.get b=some (.cells 1 [.int .i64 (left- 1)]):=Iw
  have lb3:=aE Iw rD (k:=0) rfl
  have xM:¬ H.nx=b:=by omega
  have zn:¬ H1.nx=b:=by have:=X1.nx;omega
  have D0:=M3.ld (a:=⟨H.nx,0,none⟩) xM d0
  have D2:=M3.ld (a:=⟨H.nx,2,none⟩) xM d2
  have D:=M3.ldn (a:=⟨H.nx,0,none⟩) xM d
  have E0:=M3.ld (a:=⟨H1.nx,0,none⟩) zn e0
  have E1:=M3.ld (a:=⟨H1.nx,1,none⟩) zn e1
  have E2:=M3.ld (a:=⟨H1.nx,2,none⟩) zn e2
  have E3:=M3.ld (a:=⟨H1.nx,3,none⟩) zn e3
  have EE:=M3.ldn (a:=⟨H1.nx,0,none⟩) zn e
  have nz:=M3.wf gV
  have MX:Mod (fun x=>x=b) H H3:=(Mod.bE X).trans M3
  have GX3:Ext G H3:=GX.mod MX (by rintro x rfl;exact gb)
  have hnE:=bu args
  have hdE:=tt (.mk op n cp args)
  obtain ⟨a3,c3,lG⟩:=hr.len
  rw [hl.length]at lG
  have FE:=E3
  rw [lG]at FE
  have wl:IntKind.i64.wrap (left- 1)=left- 1:=aj ⟨by omega,by omega⟩
  have no:∀q:¬ (1≤left∧deep≤16∧qv w V k op n cp args.length=true),fj w V k (.mk op n cp args) deep left=false:=by
   intro q
   rw [Bool.eq_false_iff]
   intro h
   have:ar (.mk op n cp args)≤left∧deep+cJ (.mk op n cp args)≤17∧dP w V k (.mk op n cp args)=true:=by simpa [fj]using h
   rw [ar,dP,alQ]at this
   exact q ⟨by omega,by omega,this.2.2.1⟩
  rw [tB eS]at no
  obtain ⟨F,hF⟩:∃F,fj w V k (.mk op n cp args) deep left=F:=⟨_,rfl⟩
  rw [hF]at no⊢
  obtain ⟨NE,hNE⟩:∃F,ar (.mk op n cp args)=F:=⟨_,rfl⟩
  rw [hNE]
  by_cases q1:left- 1<0
  ·have qi:=no (by omega)
   simp (maxSteps:=4000000)-implicitDefEqProofs+contextual [-X.ev,u6,cV,ju,lb2,wl,s3,lb3,q1,aY,aH,aI,qi,MX]
   exact ⟨_,Iw⟩
  by_cases q2:16<deep
  ·have qi:=no (by omega)
   simp (maxSteps:=4000000)-implicitDefEqProofs+contextual [-X.ev,u6,cV,ju,lb2,wl,s3,lb3,q1,q2,aY,aH,aI,qi,MX]
   exact ⟨_,Iw⟩
  simp (maxSteps:=4000000)-implicitDefEqProofs+contextual [-X.ev,u6,cV,ju,lb2,wl,s3,lb3,q1,q2,D,EE,FE]
  apply ah
  ·(simp-implicitDefEqProofs [-X.ev];rfl)
  refine (DO nz (hv.ext GX3)).mono ?_
  rintro x H4 ⟨rfl,X4⟩
  have MX4:=MX.trans (Mod.bE X4)
  have FE4:=X4.ld FE
  have FEn:=bm.1 FE
  have RH:=bm.1 FE4
  have MT:=X4.get Iw
  have ex4:∃mK,H4.get b=some (.cells 1 [.int .i64 mK]):=⟨_,MT⟩
  have oN:=X4.wf nz
  have GX4:=GX3.trans X4
  have kT:H4.n0≤b:=by rw [X4.n0];exact rD
  by_cases q3:kh V op n=args.length
  case neg=>
   have qi:=no (by simp [q3])
   simp (maxSteps:=4000000)-implicitDefEqProofs+contextual [-X.ev,q3,aY,aH,aI,qi,MX4,FEn,RH,X4.n0,X4.nx,ex4]
  have qi:se w k op n cp=false→F=false:=fun h=>no (by simp [h])
  have e0:=X4.ld E0
  have e1:=X4.ld E1
  have e2:=X4.ld E2
  have d0:=X4.ld D0
  have d2:=X4.ld D2
  have d:=X4.ldn D
  have e:=X4.ldn EE
  suffices RI:∀fr:Fr,se w k op n cp=true→fr.get 2= .int .i64 deep→fr.get 3= .pointer (some ⟨b,0,none⟩)→fr.get 4= .pointer (some ⟨H.nx,0,none⟩)→fr.get 5= .pointer (some ⟨H1.nx,0,none⟩)→
   Vk E O rest [] fr H4 (xD [.tmp 8] fun x H'=>x= .bool F∧Mod (fun x=>x=b) H H'∧∃mK,H'.get b=some (.cells 1 [.int .i64 mK])∧(F=true→mK=left- NE)) by
   have sh:=vr eS
   simp (maxSteps:=4000000)-implicitDefEqProofs+contextual [-X.ev,q3,aY,aH,aI,qi,MX4,FEn,RH,X4.n0,X4.nx,ex4,se,RI,e0,e1,e2,d0,d2,sh]
  intro fr q4 f2 f3 f4 f5
  subst bD
  have e3:=FE4
  simp (maxSteps:=4000000)-implicitDefEqProofs+contextual [-X.ev,qy,u6,f2,f3,f4,f5,e3]
  refine b9 (fun j fr H'=>Mod (fun x=>x=b) H4 H'∧∃i:Nat,i+j=args.length∧fr.get 2= .int .i64 deep∧fr.get 3= .pointer (some ⟨b,0,none⟩)∧fr.get 4= .pointer (some ⟨H.nx,0,none⟩)∧fr.get 75=va∧fr.get 76= .int .i64 args.length∧fr.get 77= .int .i64 i∧
   H'.get b=some (.cells 1 [.int .i64 (left- 1- al (args.take i))])∧1+al (args.take i)≤left∧∀y∈args.take i,cJ y+deep≤16∧dP w V k y=true) ?_ args.length ⟨Mod.refl _ _,0,by simp,by simp [f2],by simp [f3],by simp [f4],by simp [lG],by simp,by simp,by simpa [al]using MT,by simp [al];omega,by simp⟩
  rintro j fr H5 ⟨M5,i,hi,f2,f3,f4,f75,f76,f77,GG,hle,aT⟩
  have oO:=M5.wf oN
  have KJ:=MX4.trans M5
  have RJ:Ext G H5:=GX.mod KJ (by rintro x rfl;exact gb)
  have dd:=M5.ldn (a:=⟨H.nx,0,none⟩) xM d
  by_cases h:i<args.length
  ·obtain ⟨y,hy⟩:∃y,args[i]?=some y:=⟨_,alN h⟩
   obtain ⟨b2,o2,c2,va2,r,dy,bN,rfl,pH⟩:=eZ.row hr hl hy
   replace bN:=RJ.ldn bN
   have ahF:=f75
   rw [dy]at f75
   obtain ⟨H6,Ix,X6,MU,MW,q,rL⟩:=dJ (H:=H5) oO (z:=4) (c:=[.int .i64 0,.int .i64 0,.int .i64 0,.slice none 0 0]) (vs:=[.int .i64 y.op,.int .i64 y.n,.int .i64 y.cp,va2]) rfl
   have q0:H6.ld ⟨H5.nx,0,none⟩=some (.int .i64 y.op):=rL 0 _ rfl
   have q1:H6.ld ⟨H5.nx,1,none⟩=some (.int .i64 y.n):=rL 1 _ rfl
   have q2:H6.ld ⟨H5.nx,2,none⟩=some (.int .i64 y.cp):=rL 2 _ rfl
   have q3:H6.ld ⟨H5.nx,3,none⟩=some va2:=rL 3 _ rfl
   clear rL
   replace q:H6.ldn ⟨H5.nx,0,none⟩ 4=some [.int .i64 y.op,.int .i64 y.n,.int .i64 y.cp,va2]:=q
   have DP:=X6.wf oO
   replace dd:=X6.ldn dd
   have wd:IntKind.i64.wrap (deep+1)=deep+1:=aj ⟨by omega,by omega⟩
   have t1:=fG hy
   have t2:=bS args (i+1)
   have t3:=bS args i
   have t4:=dV y
   have t5:=qA (k:=0) (alS hy)
   have hs:=qu (op:=op) (n:=n) (cp:=cp) hy
   have DQ:H6.n0≤b:=by rw [X6.n0,M5.n0];exact kT
   simp (maxSteps:=4000000)-implicitDefEqProofs+contextual [-X.ev,f2,f3,f4,f75,f76,f77,h,bN,Ix,q,dd,wd]
   apply ah
   ·(simp-implicitDefEqProofs [-X.ev];rfl)
   refine (ih y _ G H6 (deep+1) (left- 1- al (args.take i)) b (by omega) DP (RJ.trans X6) gb hv pH (X6.get GG) DQ (by omega) (by omega)).mono ?_
   rintro x H7 ⟨rfl,M7,mK,Pr,hl7⟩
   have M67:=(Mod.bE X6).trans M7
   cases q5:fj w V k y (deep+1) (left- 1- al (args.take i))with
   |true=>
    have hl7:=hl7 q5
    have q5':ar y≤left- 1- al (args.take i)∧deep+1+cJ y≤17∧dP w V k y=true:=by simpa [fj]using q5
    simp (maxSteps:=4000000)-implicitDefEqProofs+contextual [-X.ev,f2,f3,f4,f75,f76,f77,h]
    rw [aj (n:=(i:Int)+1) ⟨by omega,by omega⟩]
    refine ⟨j- 1,by omega,M5.trans M67,i+1,by omega,dy.symm,by simp,?_,by omega,fun z hz=>?_⟩
    ·rw [Pr,hl7,t1]
     rw [show left- 1- al (args.take i)- ar y=left- 1- (al (args.take i)+ar y) by omega]
    ·rw [List.take_add_one,hy]at hz
     rcases List.mem_append.1 hz with hz|hz
     ·exact aT z hz
     ·simp at hz;subst hz;exact ⟨by omega,q5'.2.2⟩
   |false=>
    have lT:F=false:=by
     rw [Bool.eq_false_iff]
     intro hT
     rw [hT]at hF
     have hF:ar (.mk op n cp args)≤left∧deep+cJ (.mk op n cp args)≤17∧dP w V k (.mk op n cp args)=true:=by simpa [fj]using hF
     rw [ar,cJ,dP,alQ]at hF
     have:=kO.1 hF.2.2.2 y (alS hy)
     have:fj w V k y (deep+1) (left- 1- al (args.take i))=true:=by simp [fj,this];omega
     rw [q5]at this
     cases this
    simp (maxSteps:=4000000)-implicitDefEqProofs+contextual [-X.ev,f2,f3,f4,f75,f76,f77,h,lT,KJ.trans M67]
    exact ⟨_,Pr⟩
  ·have xN:F=true:=by
    rw [←hF]
    rw [alU (by omega)]at hle aT
    have iN:=kO.2 fun y hy=>(aT y hy).2
    have hdl:eB args 0≤16- deep:=Bf (by omega) fun y hy=>by have:=(aT y hy).1;omega
    have qi:qv w V k op n cp args.length=true:=by rw [tB eS,q4];simp [q3]
    have:ar (.mk op n cp args)≤left∧deep+cJ (.mk op n cp args)≤17∧dP w V k (.mk op n cp args)=true:=by
     rw [ar,cJ,dP,iN,qi]
     exact ⟨by omega,by omega,rfl⟩
    simp [fj,this]
   rw [alU (by omega)]at GG
   rw [ar]at hNE
   simp (maxSteps:=4000000)-implicitDefEqProofs+contextual [-X.ev,f2,f3,f4,f75,f76,f77,h,xN,KJ]
   rw [GG,show left- 1- al args=left- NE by omega]
end Go.Proofs.YtppcmpmnglaleaaGreatDoor.A
namespace Go.Proofs.YtppcmpmnglaleaaGreatDoor.A
open Go
theorem aO {w:Int} {V:List Vr} (h:aD w V=true):1≤w∧w≤8∧1≤V.length∧V.length≤18:=by
 simp [aD,bP]at h;omega
theorem jN {w:Int} {V:List Vr} (h:aD w V=true) {i:Nat} {v:Vr} (hi:V[i]?=some v):1≤v.cells∧v.cells≤8:=by
 rw [eR]at h
 simp only [alQ,al3]at h
 have:=h.2.2.2.1 i (by simpa using(alT.1 hi).1)
 rw [nN hi]at this
 exact oM this
theorem tD (w:Int) (V:List Vr) (k:Int) (e:cn):fj w V k e 1 400=lF w V k e:=by
 unfold fj lF
 rw [show decide (1+cJ e≤17)=decide (cJ e≤16) by rw [Bool.eq_iff_iff];simp;omega]
def tE (w:Int) (V:List Vr) (k:Int) (e:cn):Int:=if aD w V=true then(if k<1 then 1 else if 3<k then 1 else if lF w V k e=true then 0 else 20)else 1
theorem DR {w k:Int} {vv:Value} {V:List Vr} {e:cn} {c:List Value} {H:AH} (hw:H.n0≤H.nx) (hv:dA H vv V) (ta:nL V) (he:pG H c e):
 Ca E O 155 [.agg #[.int .i64 w,vv,.int .i64 k],.agg c.toArray] H (fun x H'=>x= .int .i64 (tE w V k e)∧Ext H H'):=by
 refine Ca.aR (F:=HM) rfl rfl rfl ?_
 have hc:c.length=4:=by cases he;rfl
 have X1:=Ext.alloc H (.cells 3 [.int .i64 w,vv,.int .i64 k])
 have d0:(H.alloc (.cells 3 [.int .i64 w,vv,.int .i64 k])).ld ⟨H.nx,0,none⟩=some (.int .i64 w):=ai hw rfl
 have d1:(H.alloc (.cells 3 [.int .i64 w,vv,.int .i64 k])).ld ⟨H.nx,1,none⟩=some vv:=ai hw rfl
 have d2:(H.alloc (.cells 3 [.int .i64 w,vv,.int .i64 k])).ld ⟨H.nx,2,none⟩=some (.int .i64 k):=ai hw rfl
 have d:(H.alloc (.cells 3 [.int .i64 w,vv,.int .i64 k])).ldn ⟨H.nx,0,none⟩ 3=some [.int .i64 w,vv,.int .i64 k]:=ba hw 3 rfl
 generalize cV:H.alloc (.cells 3 [.int .i64 w,vv,.int .i64 k])=H1 at X1 d0 d1 d2 d
 have bc:=X1.wf hw
 have X2:=Ext.alloc H1 (.cells c.length c)
 have q:(H1.alloc (.cells c.length c)).ldn ⟨H1.nx,0,none⟩ 4=some c:=ba bc 4 (by assumption)
 generalize ju:H1.alloc (.cells c.length c)=H2 at X2 q
 have gV:=X2.wf bc
 replace d0:=X2.ld d0
 replace d1:=X2.ld d1
 replace d2:=X2.ld d2
 replace d:=X2.ldn d
 have X:=X1.trans X2
 simp (maxSteps:=4000000)-implicitDefEqProofs+contextual [-X.ev,HM,cV,ju,d0,d1]
 apply ah
 ·(simp-implicitDefEqProofs [-X.ev];rfl)
 refine (zm gV (hv.ext X) ta w).mono ?_
 rintro x H3 ⟨rfl,X3⟩
 replace d2:=X3.ld d2
 replace d:=X3.ldn d
 replace q:=X3.ldn q
 have kU:=X.trans X3
 cases h1:aD w V with
 |false=>
  simp (maxSteps:=4000000)-implicitDefEqProofs+contextual [-X.ev,h1,tE,kU]
 |true=>
  by_cases h2:k<1
  ·simp (maxSteps:=4000000)-implicitDefEqProofs+contextual [-X.ev,h1,h2,d2,tE,kU]
  by_cases h3:3<k
  ·simp (maxSteps:=4000000)-implicitDefEqProofs+contextual [-X.ev,h1,h2,h3,d2,tE,kU]
  have eS:=aO h1
  have nz:=X3.wf gV
  obtain ⟨H4,s4,X4,wU,lV,gb⟩:=gq nz (z:=1) (c:=[.int .i64 0]) (vs:=[.int .i64 400]) rfl
  replace d:=X4.ldn d
  replace q:=X4.ldn q
  simp (maxSteps:=4000000)-implicitDefEqProofs+contextual [-X.ev,h1,h2,h3,d2,s4,d,q]
  have oN:=X4.wf nz
  apply ah
  ·(simp-implicitDefEqProofs [-X.ev];rfl)
  refine (Iv ⟨eS.1,eS.2.1⟩ _ e c H3 H4 1 400 H3.nx (al2 _) oN X4 (alR _) (hv.ext kU) (he.ext kU) gb (by rw [lV];exact nz) (by omega) (by omega)).mono ?_
  rintro x H5 ⟨rfl,M5,mK,GG,Pt⟩
  have X5:Ext H H5:=kU.trans (X4.mod M5 (by rintro x rfl;exact alR _))
  rw [tD]
  cases h4:lF w V k e with
  |true=>
   simp (maxSteps:=4000000)-implicitDefEqProofs+contextual [-X.ev,h1,h2,h3,h4,tE,X5]
  |false=>
   simp (maxSteps:=4000000)-implicitDefEqProofs+contextual [-X.ev,h1,h2,h3,h4,tE,X5]
theorem Bg {w k:Int} {vv:Value} {V:List Vr} {e:cn} {c:List Value} {H:AH} (hw:H.n0≤H.nx) (hv:dA H vv V) (ta:nL V) (he:pG H c e):
 Ca E O 131 [.int .i64 w,vv,.int .i64 k,.agg c.toArray] H (fun x H'=>x= .int .i64 (tE w V k e)∧Ext H H'):=by
 refine Ca.aR (F:=a131) rfl rfl rfl ?_
 have hc:c.length=4:=by cases he;rfl
 have X1:=Ext.alloc H (.cells c.length c)
 have q:(H.alloc (.cells c.length c)).ldn ⟨H.nx,0,none⟩ 4=some c:=ba hw 4 (by assumption)
 generalize cV:H.alloc (.cells c.length c)=H1 at X1 q
 have bc:=X1.wf hw
 have hb:dW [.int .i64 0,.slice none 0 0,.int .i64 0] [(0,1,.int .i64 w),(1,1,vv),(2,1,.int .i64 k)]=some (.agg #[.int .i64 w,vv,.int .i64 k]):=by
  obtain ⟨a,c,nw⟩:=hv.len
  rw [nw]
  rfl
 simp (maxSteps:=4000000)-implicitDefEqProofs+contextual [-X.ev,a131,cV,q,hb]
 apply ah
 ·(simp-implicitDefEqProofs [-X.ev];rfl)
 refine (DR bc (hv.ext X1) ta (he.ext X1)).mono ?_
 rintro x H2 ⟨rfl,X2⟩
 simp (maxSteps:=4000000)-implicitDefEqProofs+contextual [-X.ev,X1.trans X2]
def lH (V:List Vr) (op n:Int):Int:=
 let z:=if 0≤n∧n<V.length then ak V n else 0
 if op=0 then(if z=0 then-1 else if 1<z then 2 else 1)else if op=4 then(if z=0 then-1 else if 1<z then 1 else 0)else
 if op=3 then(if n<0 then-1 else if 47<n then-1 else 1)else
 if op=1 then(if n=0 then 1 else-1)else if op=2 then(if n=0 then 1 else-1)else if op=5 then(if n=0 then 1 else-1)else if op=6 then(if n=0 then 1 else-1)else-1
theorem DS {w op n:Int} {vv vb va vt ve:Value} {V:List Vr} {H:AH} (hw:H.n0≤H.nx) (hv:dA H vv V):
 Ca E O 130 [.agg #[.int .i64 w,vv,vb],.agg #[.int .i64 op,.int .i64 n,va,vt,ve]] H (fun x H'=>x= .int .i64 (lH V op n)∧Ext H H'):=by
 refine Ca.aR (F:=a130) rfl rfl rfl ?_
 have X1:=Ext.alloc H (.cells 3 [.int .i64 w,vv,vb])
 have d0:(H.alloc (.cells 3 [.int .i64 w,vv,vb])).ld ⟨H.nx,0,none⟩=some (.int .i64 w):=ai hw rfl
 have d1:(H.alloc (.cells 3 [.int .i64 w,vv,vb])).ld ⟨H.nx,1,none⟩=some vv:=ai hw rfl
 have d2:(H.alloc (.cells 3 [.int .i64 w,vv,vb])).ld ⟨H.nx,2,none⟩=some vb:=ai hw rfl
 have d:(H.alloc (.cells 3 [.int .i64 w,vv,vb])).ldn ⟨H.nx,0,none⟩ 3=some [.int .i64 w,vv,vb]:=ba hw 3 rfl
 generalize cV:H.alloc (.cells 3 [.int .i64 w,vv,vb])=H1 at X1 d0 d1 d2 d
 have bc:=X1.wf hw
 have X2:=Ext.alloc H1 (.cells 5 [.int .i64 op,.int .i64 n,va,vt,ve])
 have e0:(H1.alloc (.cells 5 [.int .i64 op,.int .i64 n,va,vt,ve])).ld ⟨H1.nx,0,none⟩=some (.int .i64 op):=ai bc rfl
 have e1:(H1.alloc (.cells 5 [.int .i64 op,.int .i64 n,va,vt,ve])).ld ⟨H1.nx,1,none⟩=some (.int .i64 n):=ai bc rfl
 have e2:(H1.alloc (.cells 5 [.int .i64 op,.int .i64 n,va,vt,ve])).ld ⟨H1.nx,2,none⟩=some va:=ai bc rfl
 have e3:(H1.alloc (.cells 5 [.int .i64 op,.int .i64 n,va,vt,ve])).ld ⟨H1.nx,3,none⟩=some vt:=ai bc rfl
 have e4:(H1.alloc (.cells 5 [.int .i64 op,.int .i64 n,va,vt,ve])).ld ⟨H1.nx,4,none⟩=some ve:=ai bc rfl
 have e:(H1.alloc (.cells 5 [.int .i64 op,.int .i64 n,va,vt,ve])).ldn ⟨H1.nx,0,none⟩ 5=some [.int .i64 op,.int .i64 n,va,vt,ve]:=ba bc 5 rfl
 generalize ju:H1.alloc (.cells 5 [.int .i64 op,.int .i64 n,va,vt,ve])=H2 at X2 e0 e1 e2 e3 e4 e
 have gV:=X2.wf bc
 replace d1:=X2.ld d1
 have X:=X1.trans X2
 have w1:IntKind.i64.wrap 1=1:=by rfl
 have w2:IntKind.i64.wrap 2=2:=by rfl
 by_cases h1:0≤n∧n<V.length
 ·obtain ⟨y,hy⟩:∃y,V[n.toNat]?=some y:=⟨_,alN (by omega)⟩
  obtain ⟨b,o,c',dy,_,_,_,eW⟩:=(hv.ext X).at hy
  have hc:ak V n=y.cells:=by simp [ak,hy]
  have hz:(if 0≤n∧n<V.length then ak V n else 0)=y.cells:=by rw [if_pos h1,hc]
  obtain ⟨F,hF⟩:∃F,lH V op n=F:=⟨_,rfl⟩
  rw [hF]
  unfold lH at hF
  rw [hz]at hF
  rw [dy]at d1
  obtain ⟨h1,h2⟩:=h1
  simp (maxSteps:=4000000)-implicitDefEqProofs+contextual [-X.ev,a130,cV,ju,d1,e0,e1,h1,h2,eW,X,w1,w2,←hF]
 ·have hz:(if 0≤n∧n<V.length then ak V n else 0)=0:=if_neg h1
  obtain ⟨F,hF⟩:∃F,lH V op n=F:=⟨_,rfl⟩
  rw [hF]
  unfold lH at hF
  rw [hz]at hF
  obtain ⟨a1,c1,nw⟩:=hv.len
  rw [nw]at d1
  by_cases h2:0≤n
  ·have h3:¬ n<V.length:=fun q=>h1 ⟨h2,q⟩
   simp (maxSteps:=4000000)-implicitDefEqProofs+contextual [-X.ev,a130,cV,ju,d1,e0,e1,h2,h3,X,w1,w2,←hF]
  ·simp (maxSteps:=4000000)-implicitDefEqProofs+contextual [-X.ev,a130,cV,ju,d1,e0,e1,h2,X,w1,w2,←hF]
open Go
mutual
def aZ:bI→Int
 | .mk _ _ _ aB aC=>1+aw aB+aw aC
def aw:List bI→Int
 |[]=>0
 |s::ss=>aZ s+aw ss
end
theorem dX {l:List bI} {i:Nat} {y:bI} (h:l[i]?=some y):av (l.take (i+1))=av (l.take i)+a8 y:=by
 induction l generalizing i with
 |nil=>simp at h
 |cons x l ih=>
  cases i with
  |zero=>simp at h;subst h;simp [av]
  |succ i=>simp only [List.take_succ_cons,av];rw [ih (by simpa using h)];omega
theorem iz {l:List bI} {i:Nat} {y:bI} (h:l[i]?=some y):aw (l.take (i+1))=aw (l.take i)+aZ y:=by
 induction l generalizing i with
 |nil=>simp at h
 |cons x l ih=>
  cases i with
  |zero=>simp at h;subst h;simp [aw]
  |succ i=>simp only [List.take_succ_cons,aw];rw [ih (by simpa using h)];omega
theorem cA (l:List bI):0≤av l:=(jr l).1
theorem kj:∀s:bI,1≤a8 s
 | .mk op n args aB aC=>by
  rw [a8];have:=bu args;have:=cA aB;have:=cA aC;omega
theorem bf (l:List bI) (i:Nat):0≤av (l.take i)∧av (l.take i)≤av l:=by
 induction l generalizing i with
 |nil=>simp [av]
 |cons x l ih=>
  have h1:=kj x
  have h2:=cA l
  cases i with
  |zero=>simp only [List.take_zero,av];omega
  |succ i=>simp only [List.take_succ_cons,av];have:=ih i;omega
theorem aV:∀l:List bI,0≤aw l∧aw l≤av l:=tv fun l ih=>by
 induction l with
 |nil=>simp [aw,av]
 |cons s ss ts=>
  obtain ⟨op,n,args,aB,aC⟩:=s
  have h1:=ih op n args aB aC (by simp)
  have h2:=ts fun op n args aB aC h=>ih op n args aB aC (by simp [h])
  have:=bu args
  rw [aw,aZ,av,a8]
  omega
theorem cF (l:List bI) (i:Nat):0≤aw (l.take i)∧aw (l.take i)≤av (l.take i):=aV _
theorem jv {op n:Int} {args:List cn} {aB aC:List bI}:∀{l:List bI} {k:Int},bI.mk op n args aB aC∈l→1+bO aB 0≤bO l k∧1+bO aC 0≤bO l k
 |x::l,k,h=>by
  rw [bO]
  have mono:∀(l:List bI) (k:Int),k≤bO l k:=by
   intro l
   induction l with
   |nil=>intro k;rw [bO];omega
   |cons z l ih=>
    obtain ⟨op,n,args,aB,aC⟩:=z
    intro k;rw [bO,kQ];have:=ih (max (max k (1+bO aB 0)) (1+bO aC 0));omega
  rcases List.mem_cons.1 h with rfl|h
  ·have:=mono l (kQ (.mk op n args aB aC) k)
   rw [kQ]at this⊢
   omega
  ·exact jv h
theorem Bh {l:List bI} {k m:Int} (hk:k≤m) (h:∀op n args aB aC,bI.mk op n args aB aC∈l→1+bO aB 0≤m∧1+bO aC 0≤m):bO l k≤m:=by
 induction l generalizing k with
 |nil=>rw [bO];exact hk
 |cons x l ih=>
  obtain ⟨op,n,args,aB,aC⟩:=x
  rw [bO,kQ]
  have:=h op n args aB aC (by simp)
  exact ih (by omega) fun op n args aB aC hy=>h op n args aB aC (by simp [hy])
def qB (op:Int) (nt ne:Nat):Bool:=!(decide (0<nt)&&(!decide (op=1)&& !decide (op=2)))&& !(decide (0<ne)&& !decide (op=1))
theorem sg {w:Int} {V:List Vr} (hV:aD w V=true) (op n:Int) (na nt ne:Nat):tz V op n na nt ne=(decide (lH V op n=na)&&qB op nt ne):=by
 have hz:∀more:Int,0≤more→rZ V n na more=decide ((if(if 0≤n∧n<V.length then ak V n else 0)=0 then-1 else if 1<(if 0≤n∧n<V.length then ak V n else 0)then more+1 else more)=(na:Int)):=by
  intro more hm
  unfold rZ
  by_cases h:0≤n∧n<V.length
  ·obtain ⟨y,hy⟩:∃y,V[n.toNat]?=some y:=⟨_,alN (by omega)⟩
   have hc:ak V n=y.cells:=by simp [ak,hy]
   have:=jN hV hy
   have z0:¬ y.cells=0:=by omega
   rw [if_pos h,hc,if_neg z0]
   simp only [h.1,h.2,decide_true,Bool.true_and]
   by_cases h2:1<y.cells
   ·rw [if_pos h2,if_pos h2];rw [Bool.eq_iff_iff];simp;omega
   ·rw [if_neg h2,if_neg h2];rw [Bool.eq_iff_iff];simp;omega
  ·rw [if_neg h,if_pos rfl]
   rw [Bool.eq_iff_iff]
   simp
   omega
 unfold tz lH qB
 by_cases o0:op=0
 ·subst o0
  rw [hz 1 (by omega)]
  simp only [if_true]
  rw [show(1:Int)+1=2 by rfl]
  generalize decide ((if(if 0≤n∧n<V.length then ak V n else 0)=0 then(-1:Int)else if 1<(if 0≤n∧n<V.length then ak V n else 0)then 2 else 1)=na)=A
  rw [Bool.eq_iff_iff]
  cases A<;>simp
 by_cases o4:op=4
 ·subst o4
  rw [hz 0 (by omega)]
  simp only [if_true,if_neg (show¬ (4:Int)=0 by omega),if_neg (show¬ (4:Int)=1 by omega),if_neg (show¬ (4:Int)=2 by omega),if_neg (show¬ (4:Int)=3 by omega)]
  rw [show(0:Int)+1=1 by rfl]
  generalize decide ((if(if 0≤n∧n<V.length then ak V n else 0)=0 then(-1:Int)else if 1<(if 0≤n∧n<V.length then ak V n else 0)then 1 else 0)=na)=A
  rw [Bool.eq_iff_iff]
  cases A<;>simp
 simp only [if_neg o0,if_neg o4]
 rw [Bool.eq_iff_iff]
 by_cases o3:op=3
 ·subst o3
  rw [if_neg (by omega),if_neg (by omega),if_pos rfl,if_pos rfl]
  by_cases a:n<0
  ·rw [if_pos a];simp;omega
  ·by_cases b:47<n
   ·rw [if_neg a,if_pos b];simp;omega
   ·rw [if_neg a,if_neg b];simp;omega
 by_cases o1:op=1
 ·subst o1
  by_cases a:n=0
  ·simp [a]<;>omega
  ·simp [a]
 by_cases o2:op=2
 ·subst o2
  by_cases a:n=0
  ·simp [a]<;>omega
  ·simp [a]
 by_cases o5:op=5
 ·subst o5
  by_cases a:n=0
  ·simp [a]<;>omega
  ·simp [a]
 by_cases o6:op=6
 ·subst o6
  by_cases a:n=0
  ·simp [a]<;>omega
  ·simp [a]
 simp [o3,o1,o2,o5,o6]
theorem DT (V:List Vr) (op n:Int):lH V op n≤2:=by
 unfold lH
 dsimp only
 repeat' split
 all_goals omega
end Go.Proofs.YtppcmpmnglaleaaGreatDoor.A
namespace Go.Proofs.YtppcmpmnglaleaaGreatDoor.A
open Go
def jO (w:Int) (V:List Vr) (l:List bI) (deep nodes:Int):Bool:=decide (nodes+av l≤400)&&(decide (deep+bO l 0≤17)&&fX w V l)
theorem jc {w:Int} {V:List Vr} {l:List bI} {deep nodes:Int}:jO w V l deep nodes=true↔nodes+av l≤400∧deep+bO l 0≤17∧fX w V l=true:=by simp [jO]
theorem Iy {w:Int} {V:List Vr} (h:aD w V=true) (e:cn):tE w V 1 e=if lF w V 1 e=true then 0 else 20:=by simp [tE,h]
theorem DU {w:Int} {vv vb:Value} {V:List Vr} (hV:aD w V=true) (ta:nL V):∀(N:Nat) (l:List bI) (vl:Value) (rows:List (List Value)) (G H:AH) (deep stmts nodes:Int) (b:Nat),SizeOf.sizeOf l<N→H.n0≤H.nx→Ext G H→G.nx≤b→dA G vv V→l.length<2^60→Rows G 5 vl rows→gU G rows l→
 H.get b=some (.cells 2 [.int .i64 stmts,.int .i64 nodes])→H.n0≤b→0≤stmts∧stmts≤nodes→nodes≤2000→1≤deep∧deep≤17→
 Ca E O 97 [.pointer (some ⟨b,0,none⟩),.agg #[.int .i64 w,vv,vb],vl,.int .i64 deep] H (fun x H'=>x= .bool (jO w V l deep nodes)∧Mod (fun x=>x=b) H H'∧∃s' n',H'.get b=some (.cells 2 [.int .i64 s',.int .i64 n'])∧(jO w V l deep nodes=true→s'=stmts+aw l∧n'=nodes+av l)):=by
 intro N
 induction N with
 |zero=>intro l vl rows G H deep stmts nodes b h;omega
 |succ N ih=>
  intro l vl rows G H deep stmts nodes b hN hw GX gb hv hlen hr hl hb tC gE qi RG
  have hbH:=AH.aL hb
  refine Ca.aR (F:=Kz) rfl rfl rfl ?_
  obtain ⟨F,hF⟩:∃F,jO w V l deep nodes=F:=⟨_,rfl⟩
  rw [hF]
  have Cg:¬ (nodes+av l≤400∧deep+bO l 0≤17∧fX w V l=true)→F=false:=by
   intro q;rw [Bool.eq_false_iff,←hF];exact fun h=>q (jc.1 h)
  have X1:=Ext.alloc H (.cells 3 [.int .i64 w,vv,vb])
  have d0:(H.alloc (.cells 3 [.int .i64 w,vv,vb])).ld ⟨H.nx,0,none⟩=some (.int .i64 w):=ai hw rfl
  have d1:(H.alloc (.cells 3 [.int .i64 w,vv,vb])).ld ⟨H.nx,1,none⟩=some vv:=ai hw rfl
  have d2:(H.alloc (.cells 3 [.int .i64 w,vv,vb])).ld ⟨H.nx,2,none⟩=some vb:=ai hw rfl
  have d:(H.alloc (.cells 3 [.int .i64 w,vv,vb])).ldn ⟨H.nx,0,none⟩ 3=some [.int .i64 w,vv,vb]:=ba hw 3 rfl
  generalize cV:H.alloc (.cells 3 [.int .i64 w,vv,vb])=H1 at X1 d0 d1 d2 d
  have bc:=X1.wf hw
  have gb1:=X1.get hb
  have Gy:∃s' n':Int,H1.get b=some (.cells 2 [.int .i64 s',.int .i64 n']):=⟨_,_,gb1⟩
  have j6:H1.n0≤b:=by rw [X1.n0];exact tC
  have GX1:=GX.trans X1
  have xM:¬ H.nx=b:=by omega
  obtain ⟨a0,c0,lW⟩:=hr.len
  rw [hl.length]at lW
  have MX1:Mod (fun x=>x=b) H H1:=Mod.bE X1
  by_cases z0:0<l.length∧16<deep
  case pos=>
   obtain ⟨z1,z2⟩:=z0
   have lT:F=false:=Cg (by
    rintro ⟨_,q,_⟩
    obtain ⟨⟨op,n,args,aB,aC⟩,hy⟩:∃y,l[0]?=some y:=⟨_,alN z1⟩
    have:=jv (k:=0) (alS hy)
    have:=(tw aB 0 (by omega)).1
    omega)
   simp (maxSteps:=4000000)-implicitDefEqProofs+contextual [-X.ev,Kz,lW,cV,z1,z2,lT,Gy,MX1]
  refine qz [.r,.r] (fun fr H'=>H'=H1∧fr.get 0= .pointer (some ⟨b,0,none⟩)∧fr.get 2= .slice a0 l.length c0∧fr.get 3= .int .i64 deep∧fr.get 5= .pointer (some ⟨H.nx,0,none⟩)) rfl ?_ ?_
  case refine_2=>
   intro rest bD
   simp only [Kz,xL,xK]at bD
   by_cases z1:0<l.length
   ·have z2:¬ 16<deep:=fun q=>z0 ⟨z1,q⟩
    simp (maxSteps:=4000000)-implicitDefEqProofs+contextual [-X.ev,Kz,lW,cV,z1,z2,bD]
   ·simp (maxSteps:=4000000)-implicitDefEqProofs+contextual [-X.ev,Kz,lW,cV,z1,bD]
  rintro fr H' ⟨rfl,f0,f2,f3,f5⟩
  have gp:=bf l
  simp (maxSteps:=4000000)-implicitDefEqProofs+contextual [-X.ev,Kz,f0,f2,f3,f5]
  refine b9 (fun j fr H2=>Mod (fun x=>x=b) H' H2∧∃i:Nat,i+j=l.length∧fr.get 0= .pointer (some ⟨b,0,none⟩)∧fr.get 3= .int .i64 deep∧fr.get 5= .pointer (some ⟨H.nx,0,none⟩)∧fr.get 20=vl∧fr.get 21= .int .i64 l.length∧fr.get 22= .int .i64 i∧
   H2.get b=some (.cells 2 [.int .i64 (stmts+aw (l.take i)),.int .i64 (nodes+av (l.take i))])∧nodes+av (l.take i)≤2000∧(0<i→nodes+av (l.take i)≤400)∧
   ∀op n args aB aC,bI.mk op n args aB aC∈l.take i→(deep+1+bO aB 0≤17∧deep+1+bO aC 0≤17)∧fF w V (.mk op n args aB aC)=true) ?_ l.length ⟨Mod.refl _ _,0,by simp,by simp [f0],by simp [f3],by simp [f5],by simp [lW],by simp,by simp,by simpa [aw,av]using gb1,by simp [av];omega,by simp,by simp⟩
  rintro j fr H2 ⟨M2,i,hi,f0,f3,f5,f20,f21,f22,KI,hle,aal,aT⟩
  have M02:=MX1.trans M2
  have lq:=M2.wf bc
  have GX2:Ext G H2:=GX.mod M02 (by rintro x rfl;exact gb)
  have gC:H2.n0≤b:=by rw [M2.n0];exact j6
  have D0:=M2.ld (a:=⟨H.nx,0,none⟩) xM d0
  have D1:=M2.ld (a:=⟨H.nx,1,none⟩) xM d1
  have D:=M2.ldn (a:=⟨H.nx,0,none⟩) xM d
  by_cases h:i<l.length
  case neg=>
   have ht:l.take i=l:=alU (by omega)
   rw [ht]at aal aT KI hle
   have xN:F=decide (nodes+av l≤400):=by
    have p1:=Bh (l:=l) (k:=0) (m:=17- deep) (by omega) fun op n args aB aC hm=>by have:=(aT op n args aB aC hm).1;omega
    have p2:decide (deep+bO l 0≤17)=true:=by simp;omega
    have p3:fX w V l=true:=nM.2 fun e he=>by obtain ⟨op,n,args,aB,aC⟩:=e;exact (aT op n args aB aC he).2
    rw [←hF,jO,p2,p3]
    simp
   have l2:=aE KI gC (k:=1) rfl
   simp (maxSteps:=4000000)-implicitDefEqProofs+contextual [-X.ev,f0,f3,f5,f20,f21,f22,h,l2]
   exact ⟨xN.symm,M02,_,_,KI,fun _=>⟨rfl,rfl⟩⟩
  obtain ⟨⟨op,n,args,aB,aC⟩,hy⟩:∃y,l[i]?=some y:=⟨_,alN h⟩
  have hs:=Dw hy
  have tF:=alS hy
  have t1:=dX hy
  have t2:=iz hy
  have t3:=gp (i+1)
  have t4:=cF l i
  have t5:=gp i
  rw [a8]at t1
  rw [aZ]at t2
  have u1:=bu args
  have u2:=cA aB
  have u3:=cA aC
  have u4:=aV aB
  have u5:=aV aC
  obtain ⟨b2,o2,c2,va,vt,ve,ra,rt,re,dy,bN,_,_,_,_,_,i1,i2,i3,i4,i5,g1,g2,g3,g4,g5,g6⟩:=gU.row hr hl hy
  replace bN:=GX2.ldn bN
  rw [dy]at f20
  obtain ⟨aa,ca,lG⟩:=g1.len
  obtain ⟨at_,ct,wV⟩:=g3.len
  obtain ⟨ae,ce,vu⟩:=g5.len
  rw [g2.length]at lG
  rw [g4.length]at wV
  rw [g6.length]at vu
  obtain ⟨nt,hnt⟩:∃nt,aB.length=nt:=⟨_,rfl⟩
  obtain ⟨ne_,fw⟩:∃nt,aC.length=nt:=⟨_,rfl⟩
  rw [hnt]at wV
  rw [fw]at vu
  have Uv:deep≤16:=by
   rcases Int.lt_or_le 16 deep with q|q
   ·exact absurd ⟨by omega,q⟩ z0
   ·exact q
  have nO:fX w V l=true→fF w V (.mk op n args aB aC)=true:=fun q=>nM.1 q _ tF
  rw [fF,sg hV,hnt,fw]at nO
  obtain ⟨H3,Ce,X3,DM,DN,q,jX⟩:=dJ (H:=H2) lq (z:=5) (c:=[.int .i64 0,.int .i64 0,.slice none 0 0,.slice none 0 0,.slice none 0 0]) (vs:=[.int .i64 op,.int .i64 n,va,vt,ve]) rfl
  have q0:H3.ld ⟨H2.nx,0,none⟩=some (.int .i64 op):=jX 0 _ rfl
  have q1:H3.ld ⟨H2.nx,1,none⟩=some (.int .i64 n):=jX 1 _ rfl
  have q2:H3.ld ⟨H2.nx,2,none⟩=some va:=jX 2 _ rfl
  have q3:H3.ld ⟨H2.nx,3,none⟩=some vt:=jX 3 _ rfl
  have q4:H3.ld ⟨H2.nx,4,none⟩=some ve:=jX 4 _ rfl
  clear jX
  replace q:H3.ldn ⟨H2.nx,0,none⟩ 5=some [.int .i64 op,.int .i64 n,va,vt,ve]:=q
  have vq:=X3.wf lq
  have Iw:=X3.get KI
  have rD:H3.n0≤b:=by rw [X3.n0];exact gC
  have zn:¬ H2.nx=b:=by have:=AH.aL KI;omega
  obtain ⟨H4,s4,M4,wU,lV,MT⟩:=bw Iw rD (k:=0) (vs:=[.int .i64 (stmts+aw (l.take i)+1)]) (by simp)
  have MT:H4.get b=some (.cells 2 [.int .i64 (stmts+aw (l.take i)+1),.int .i64 (nodes+av (l.take i))]):=MT
  have kT:H4.n0≤b:=by rw [lV];exact rD
  obtain ⟨H5,s5,M5,KL,vw,GG⟩:=bw MT kT (k:=1) (vs:=[.int .i64 (nodes+av (l.take i)+1)]) (by simp)
  have GG:H5.get b=some (.cells 2 [.int .i64 (stmts+aw (l.take i)+1),.int .i64 (nodes+av (l.take i)+1)]):=GG
  have uB:H5.n0≤b:=by rw [vw];exact kT
  have Pu:=M4.trans M5
  have KM:=(Mod.bE X3).trans Pu
  have KJ:=M02.trans KM
  have RJ:Ext G H5:=GX.mod KJ (by rintro x rfl;exact gb)
  have oO:=KJ.wf hw
  have l3:=aE Iw rD (k:=0) rfl
  have l4:=aE MT kT (k:=1) rfl
  have l5:=aE GG uB (k:=1) rfl
  have Q:=Pu.ldn (a:=⟨H2.nx,0,none⟩) zn q
  have Q0:=Pu.ld (a:=⟨H2.nx,0,none⟩) zn q0
  have Q2:=Pu.ld (a:=⟨H2.nx,2,none⟩) zn q2
  have Q3:=Pu.ld (a:=⟨H2.nx,3,none⟩) zn q3
  have Q4:=Pu.ld (a:=⟨H2.nx,4,none⟩) zn q4
  replace D0:=KM.ld (a:=⟨H.nx,0,none⟩) xM D0
  replace D1:=KM.ld (a:=⟨H.nx,1,none⟩) xM D1
  replace D:=KM.ldn (a:=⟨H.nx,0,none⟩) xM D
  have ex5:∃s' n':Int,H5.get b=some (.cells 2 [.int .i64 s',.int .i64 n']):=⟨_,_,GG⟩
  have w1:IntKind.i64.wrap (stmts+aw (l.take i)+1)=stmts+aw (l.take i)+1:=aj ⟨by omega,by omega⟩
  have w2:IntKind.i64.wrap (nodes+av (l.take i)+1)=nodes+av (l.take i)+1:=aj ⟨by omega,by omega⟩
  have VG:=Q2
  rw [lG]at VG
  by_cases k1:400<nodes+av (l.take i)+1
  ·have lT:F=false:=Cg (by rintro ⟨q,_⟩;omega)
   simp (maxSteps:=4000000)-implicitDefEqProofs+contextual [-X.ev,f0,f3,f5,f20,f21,f22,h,bN,Ce,l3,s4,w1,l4,s5,w2,l5,k1,lT,aY,aH,aI,ex5,KJ]
  simp (maxSteps:=4000000)-implicitDefEqProofs+contextual [-X.ev,f0,f3,f5,f20,f21,f22,h,bN,Ce,l3,s4,w1,l4,s5,w2,l5,k1,D,Q,VG]
  apply ah
  ·(simp-implicitDefEqProofs [-X.ev];rfl)
  refine (DS oO (hv.ext RJ)).mono ?_
  rintro x H6 ⟨rfl,X6⟩
  have Bi:=X6.wf oO
  have GX6:=RJ.trans X6
  have M06:=KJ.trans (Mod.bE X6)
  have gb6:=X6.get GG
  have DQ:H6.n0≤b:=by rw [X6.n0];exact uB
  have ex6:∃s' n':Int,H6.get b=some (.cells 2 [.int .i64 s',.int .i64 n']):=⟨_,_,gb6⟩
  have r0:=X6.ld Q0
  have r2:=X6.ld Q2
  have r3:=X6.ld Q3
  have r4:=X6.ld Q4
  replace D0:=X6.ld D0
  replace D1:=X6.ld D1
  replace D:=X6.ldn D
  have Q2n:=bm.1 VG
  have r2n:=bm.1 (X6.ld VG)
  by_cases k2:lH V op n=args.length
  case neg=>
   have lT:F=false:=Cg (by rintro ⟨_,_,q⟩;have:=nO q;simp [k2]at this)
   simp (maxSteps:=4000000)-implicitDefEqProofs+contextual [-X.ev,k2,lT,aY,aH,aI,ex6,M06,Q2n,r2n,X6.n0,X6.nx]
  have lT:qB op nt ne_=false→F=false:=fun z=>Cg (by rintro ⟨_,_,q⟩;have:=nO q;simp [z]at this)
  refine RA 1 [.r] (fun fr H'=>H'=H6∧qB op nt ne_=true∧fr.get 0= .pointer (some ⟨b,0,none⟩)∧fr.get 3= .int .i64 deep∧fr.get 5= .pointer (some ⟨H.nx,0,none⟩)∧fr.get 10= .pointer (some ⟨H2.nx,0,none⟩)∧fr.get 20= .slice (some ⟨b2,o2,none⟩) l.length c2∧fr.get 21= .int .i64 l.length∧fr.get 22= .int .i64 i) rfl ?_ ?_
  case refine_2=>
   intro rest bD
   rw [wV]at r3
   rw [vu]at r4
   simp only [vi,xL,xK]at bD
   simp (maxSteps:=4000000)-implicitDefEqProofs+contextual [-X.ev,tA,qB,k2,lT,aY,aH,aI,ex6,M06,Q2n,r2n,X6.n0,X6.nx,r0,r3,r4,bD,f0,f3,f5,f20,f21,f22]
  simp only [vi,xL,xK,zj,Is,Ir]
  rintro bG H' ⟨rfl,k3,f0,f3,f5,f10,f20,f21,f22⟩
  rw [lG]at r2
  simp (maxSteps:=4000000)-implicitDefEqProofs+contextual [-X.ev,f0,f3,f5,f10,f20,f21,f22,r2]
  refine b9 (fun j2 fr H7=>Mod (fun x=>x=b) H' H7∧∃i2:Nat,i2+j2=args.length∧fr.get 0= .pointer (some ⟨b,0,none⟩)∧fr.get 3= .int .i64 deep∧fr.get 5= .pointer (some ⟨H.nx,0,none⟩)∧fr.get 10= .pointer (some ⟨H2.nx,0,none⟩)∧fr.get 20= .slice (some ⟨b2,o2,none⟩) l.length c2∧fr.get 21= .int .i64 l.length∧fr.get 22= .int .i64 i∧
   fr.get 80=va∧fr.get 81= .int .i64 args.length∧fr.get 82= .int .i64 i2∧
   H7.get b=some (.cells 2 [.int .i64 (stmts+aw (l.take i)+1),.int .i64 (nodes+av (l.take i)+1+al (args.take i2))])∧al (args.take i2)≤400*i2∧
   ∀e∈args.take i2,lF w V 1 e=true) ?_ args.length ⟨Mod.refl _ _,0,by simp,by simp [f0],by simp [f3],by simp [f5],by simp [f10],by simp [f20],by simp [f21],by simp [f22],by simp [lG],by simp,by simp,by simpa [al]using gb6,by simp [al],by simp⟩
  rintro j2 fr H7 ⟨M7,i2,Bj,f0,f3,f5,f10,f20,f21,f22,f80,f81,f82,Pr,aap,DV⟩
  have VH:=M06.trans M7
  have Pv:=VH.wf hw
  have GX7:Ext G H7:=GX.mod VH (by rintro x rfl;exact gb)
  have DW:H7.n0≤b:=by rw [M7.n0];exact DQ
  have Qf:(args.length:Int)≤2:=by rw [←k2];exact DT V op n
  have D0':=M7.ld (a:=⟨H.nx,0,none⟩) xM D0
  have D1':=M7.ld (a:=⟨H.nx,1,none⟩) xM D1
  have D':=M7.ldn (a:=⟨H.nx,0,none⟩) xM D
  by_cases h2:i2<args.length
  ·obtain ⟨y,Ki⟩:∃y,args[i2]?=some y:=⟨_,alN h2⟩
   obtain ⟨b3,o3,c3,va3,r,Ke,DX,rfl,pH⟩:=eZ.row g1 g2 Ki
   replace DX:=GX7.ldn DX
   rw [Ke]at f80
   obtain ⟨H8,sH8,X8,ahK,aau,p,RK⟩:=dJ (H:=H7) Pv (z:=4) (c:=[.int .i64 0,.int .i64 0,.int .i64 0,.slice none 0 0]) (vs:=[.int .i64 y.op,.int .i64 y.n,.int .i64 y.cp,va3]) rfl
   have p0:H8.ld ⟨H7.nx,0,none⟩=some (.int .i64 y.op):=RK 0 _ rfl
   have p1:H8.ld ⟨H7.nx,1,none⟩=some (.int .i64 y.n):=RK 1 _ rfl
   have p2:H8.ld ⟨H7.nx,2,none⟩=some (.int .i64 y.cp):=RK 2 _ rfl
   have p3:H8.ld ⟨H7.nx,3,none⟩=some va3:=RK 3 _ rfl
   clear RK
   replace p:H8.ldn ⟨H7.nx,0,none⟩ 4=some [.int .i64 y.op,.int .i64 y.n,.int .i64 y.cp,va3]:=p
   have aav:=X8.wf Pv
   replace D0':=X8.ld D0'
   replace D1':=X8.ld D1'
   have RL:=GX7.trans X8
   have VJ:=X8.get Pr
   simp (maxSteps:=4000000)-implicitDefEqProofs+contextual [-X.ev,f0,f3,f5,f10,f20,f21,f22,f80,f81,f82,h2,DX,sH8,D0',D1',p]
   apply ah
   ·(simp-implicitDefEqProofs [-X.ev];rfl)
   refine (Bg (k:=1) aav (hv.ext RL) ta (pH.ext RL)).mono ?_
   rintro x H9 ⟨rfl,X9⟩
   rw [Iy hV]
   have VK:=VH.trans ((Mod.bE X8).trans (Mod.bE X9))
   have Pw:=X9.get VJ
   have ex9:∃s' n':Int,H9.get b=some (.cells 2 [.int .i64 s',.int .i64 n']):=⟨_,_,Pw⟩
   cases k4:lF w V 1 y with
   |false=>
    have xN:F=false:=Cg (by
     rintro ⟨_,_,q⟩
     have:=nO q
     simp only [alQ,al3]at this
     have:=this.2.2.2 y (alS Ki)
     rw [k4]at this;cases this)
    simp (maxSteps:=4000000)-implicitDefEqProofs+contextual [-X.ev,k4,xN,ex9,VK]
   |true=>
    have hb9:H9.n0≤b:=by rw [X9.n0,aau];exact DW
    have l9:=aE Pw hb9 (k:=1) rfl
    have l9n:=bm.1 l9
    have ahM:ar y≤400:=by simp [lF]at k4;exact k4.1
    have ahN:=dV y
    replace p:=X9.ldn p
    have hw9:=VK.wf hw
    have GX9:=RL.trans X9
    simp (maxSteps:=4000000)-implicitDefEqProofs+contextual [-X.ev,k4,f0,f3,f5,f10,f20,f21,f22,f80,f81,f82,l9,p]
    apply ah
    ·(simp-implicitDefEqProofs [-X.ev];rfl)
    refine (sb _ y _ H9 (al2 _) hw9 (pH.ext GX9) (by omega)).mono ?_
    rintro x wW ⟨rfl,RM⟩
    have RN:=RM.get Pw
    have RO:wW.n0≤b:=by rw [RM.n0];exact hb9
    have s1:=fG Ki
    have aay:=bm.1 (aE RN RO (k:=1) rfl)
    obtain ⟨VM,s11,VN,RP,RQ,MY⟩:=bw RN RO (k:=1) (vs:=[.int .i64 (nodes+av (l.take i)+1+al (args.take i2)+ar y)]) (by simp)
    have MY:VM.get b=some (.cells 2 [.int .i64 (stmts+aw (l.take i)+1),.int .i64 (nodes+av (l.take i)+1+al (args.take i2)+ar y)]):=MY
    have s2:=bS args i2
    have wr:IntKind.i64.wrap (nodes+av (l.take i)+1+al (args.take i2)+ar y)=nodes+av (l.take i)+1+al (args.take i2)+ar y:=aj ⟨by omega,by omega⟩
    have wi:IntKind.i64.wrap ((i2:Int)+1)=(i2:Int)+1:=aj ⟨by omega,by omega⟩
    simp (maxSteps:=4000000)-implicitDefEqProofs+contextual [-X.ev,f0,f3,f5,f10,f20,f21,f22,f80,f81,f82,wr,s11,aY,aH,aI,l9n,aay,RM.n0,RM.nx,RQ,RP,wi]
    refine ⟨j2- 1,by omega,M7.trans ((Mod.bE (X8.trans (X9.trans RM))).trans VN),i2+1,by omega,Ke.symm,by simp,?_,by omega,fun z hz=>?_⟩
    ·rw [MY,s1]
     rw [show nodes+av (l.take i)+1+al (args.take i2)+ar y=nodes+av (l.take i)+1+(al (args.take i2)+ar y) by omega]
    ·rw [List.take_add_one,Ki]at hz
     rcases List.mem_append.1 hz with hz|hz
     ·exact DV z hz
     ·simp at hz;subst hz;exact k4
  ·have ht:args.take i2=args:=alU (by omega)
   rw [ht]at aap DV Pr
   have DW:=DW
   have q3':=M7.ld (a:=⟨H2.nx,3,none⟩) zn r3
   have q4':=M7.ld (a:=⟨H2.nx,4,none⟩) zn r4
   have wd:IntKind.i64.wrap (deep+1)=deep+1:=aj ⟨by omega,by omega⟩
   simp (maxSteps:=4000000)-implicitDefEqProofs+contextual [-X.ev,f0,f3,f5,f10,f20,f21,f22,f80,f81,f82,h2,D',q3',wd]
   have ka:al args≤800:=by omega
   apply ah
   ·(simp-implicitDefEqProofs [-X.ev];rfl)
   refine (ih aB vt rt G H7 (deep+1) (stmts+aw (l.take i)+1) (nodes+av (l.take i)+1+al args) b (by omega) Pv GX7 gb hv i4 g3 g4 Pr DW (by omega) (by omega) (by omega)).mono ?_
   rintro x H8 ⟨rfl,M8,s',n',VJ,hl8⟩
   have VP:=VH.trans M8
   have ex8:∃s' n':Int,H8.get b=some (.cells 2 [.int .i64 s',.int .i64 n']):=⟨_,_,VJ⟩
   cases k5:jO w V aB (deep+1) (nodes+av (l.take i)+1+al args)with
   |false=>
    have xN:F=false:=Cg (by
     rintro ⟨q1,q2,q⟩
     have:=nO q
     simp only [alQ]at this
     have r1:=this.2.1
     have r2:=jv (k:=0) tF
     have:jO w V aB (deep+1) (nodes+av (l.take i)+1+al args)=true:=jc.2 ⟨by omega,by omega,r1⟩
     rw [k5]at this;cases this)
    simp (maxSteps:=4000000)-implicitDefEqProofs+contextual [-X.ev,f0,f3,f5,xN,ex8,VP]
   |true=>
    obtain ⟨rfl,rfl⟩:=hl8 k5
    have k5':=jc.1 k5
    have eS:=VP.wf hw
    have RL:Ext G H8:=GX.mod VP (by rintro x rfl;exact gb)
    have RR:H8.n0≤b:=by rw [M8.n0];exact DW
    have D8:=M8.ldn (a:=⟨H.nx,0,none⟩) xM D'
    have q48:=M8.ld (a:=⟨H2.nx,4,none⟩) zn q4'
    simp (maxSteps:=4000000)-implicitDefEqProofs+contextual [-X.ev,f0,f3,f5,f10,f20,f21,f22,D8,q48,wd]
    apply ah
    ·(simp-implicitDefEqProofs [-X.ev];rfl)
    refine (ih aC ve re G H8 (deep+1) (stmts+aw (l.take i)+1+aw aB) (nodes+av (l.take i)+1+al args+av aB) b (by omega) eS RL gb hv i5 g5 g6 VJ RR (by omega) (by omega) (by omega)).mono ?_
    rintro x H9 ⟨rfl,M9,s',n',Pw,hl9⟩
    have VK:=VP.trans M9
    have ex9:∃s' n':Int,H9.get b=some (.cells 2 [.int .i64 s',.int .i64 n']):=⟨_,_,Pw⟩
    cases k6:jO w V aC (deep+1) (nodes+av (l.take i)+1+al args+av aB)with
    |false=>
     have xN:F=false:=Cg (by
      rintro ⟨q1,q2,q⟩
      have:=nO q
      simp only [alQ]at this
      have r1:=this.2.2.1
      have r2:=jv (k:=0) tF
      have:jO w V aC (deep+1) (nodes+av (l.take i)+1+al args+av aB)=true:=jc.2 ⟨by omega,by omega,r1⟩
      rw [k6]at this;cases this)
     simp (maxSteps:=4000000)-implicitDefEqProofs+contextual [-X.ev,f0,f3,f5,xN,ex9,VK]
    |true=>
     obtain ⟨rfl,rfl⟩:=hl9 k6
     have k6':=jc.1 k6
     have wi:IntKind.i64.wrap ((i:Int)+1)=(i:Int)+1:=aj ⟨by omega,by omega⟩
     simp (maxSteps:=4000000)-implicitDefEqProofs+contextual [-X.ev,f0,f3,f5,f10,f20,f21,f22,wi]
     refine ⟨j- 1,by omega,M2.trans (KM.trans ((Mod.bE X6).trans (M7.trans (M8.trans M9)))),i+1,by omega,dy.symm,by simp,?_,by omega,fun _=>by omega,?_⟩
     ·rw [Pw,t1,t2]
      rw [show stmts+aw (l.take i)+1+aw aB+aw aC=stmts+(aw (l.take i)+(1+aw aB+aw aC)) by omega,show nodes+av (l.take i)+1+al args+av aB+av aC=nodes+(av (l.take i)+(1+al args+av aB+av aC)) by omega]
     ·intro op' n' aeF ahX ahY hz
      rw [List.take_add_one,hy]at hz
      rcases List.mem_append.1 hz with hz|hz
      ·exact aT _ _ _ _ _ hz
      ·simp only [Option.toList_some,List.mem_singleton]at hz
       cases hz
       refine ⟨⟨by omega,by omega⟩,?_⟩
       rw [fF,sg hV,hnt,fw]
       simp only [k2,k3,k5'.2.2,k6'.2.2,decide_true,Bool.true_and,al3]
       exact DV
open Go
theorem lI {n0:Nat}:∀{a b x y:List Value},aJ n0 a=some x→aJ n0 b=some y→aJ n0 (a++b)=some (x++y)
 |[],b,x,y,h,k=>by simp [aJ]at h;subst h;simpa using k
 |v::a,b,x,y,h,k=>by
  simp only [aJ]at h
  split at h
  case h_2=>cases h
  rename_i z m hz hm
  cases h
  have:=lI hm k
  simp only [List.cons_append,aJ,hz,this]
theorem xO {H:AH} {b o n m:Nat} {x y:List Value} (h:H.ldn ⟨b,o,none⟩ n=some x) (k:H.ldn ⟨b,o+n,none⟩ m=some y):H.ldn ⟨b,o,none⟩ (n+m)=some (x++y):=by
 unfold AH.ldn at h k⊢
 dsimp only at h k⊢
 cases hg:H.get b with
 |none=>simp [hg]at h
 |some z=>
  cases z with
  |map es=>simp [hg]at h
  |cells z c=>
   simp only [hg]at h k⊢
   obtain ⟨h1,h⟩:=au h
   obtain ⟨k1,k⟩:=au k
   simp only [alZ]at h1 k1
   have e:(c.drop o).take (n+m)=(c.drop o).take n++(c.drop (o+n)).take m:=by
    rw [List.take_add,List.drop_drop]
   rw [show decide (o+(n+m)≤c.length)=true by simp;omega,cond_true,e]
   cases hd:decide (b<H.n0)with
   |false=>
    rw [hd]at h k
    simp only [cond_false,alO]at h k⊢
    rw [h,k]
   |true=>
    rw [hd]at h k
    simp only [cond_true]at h k⊢
    exact lI h k
theorem Rows.DY {H:AH} {sz:Nat} {v:Value} {rows:List (List Value)} (h:Rows H sz v rows):∀r∈rows,r.length=sz:=by
 intro r hr
 obtain ⟨i,hi,rfl⟩:=List.mem_iff_getElem.1 hr
 obtain ⟨b,o,c,e,hl⟩:=h.at (alN hi)
 exact (cB hl).2
theorem bT {sz:Nat}:∀{rows:List (List Value)},(∀r∈rows,r.length=sz)→rows.flatten.length=rows.length*sz
 |[],_=>by simp
 |r::rows,h=>by
  rw [List.flatten_cons,alW,h r (by simp),bT fun q hq=>h q (by simp [hq]),List.length_cons,Nat.succ_mul]
  omega
theorem Rows.whole {H:AH} {sz b o c:Nat} {rows:List (List Value)} (h:Rows H sz (.slice (some ⟨b,o,none⟩) rows.length c) rows):∀k,k≤rows.length→0<k→H.ldn ⟨b,o,none⟩ (k*sz)=some (rows.take k).flatten:=by
 intro k
 induction k with
 |zero=>intro _ h;omega
 |succ k ih=>
  intro hk _
  obtain ⟨b',o',c',e,hl⟩:=h.at (i:=k) (alN (by omega))
  cases e
  rw [List.take_add_one,alN (by omega),List.flatten_append]
  by_cases Qg:k=0
  ·subst Qg
   simpa using hl
  ·have:=xO (ih (by omega) (by omega)) hl
   rw [show(k+1)*sz=k*sz+sz by rw [Nat.succ_mul],this]
   simp only [Option.toList_some,List.flatten_cons,List.flatten_nil,List.append_nil]
theorem Rows.src {H:AH} {sz:Nat} {v:Value} {rows:List (List Value)} (h:Rows H sz v rows):nD H sz v=some rows.flatten∧lj v=some rows.length:=by
 obtain ⟨a,c,rfl,k⟩:=h.is
 refine ⟨?_,rfl⟩
 by_cases e:rows=[]
 ·subst e
  cases a<;>simp [nD]
 ·have MZ:0<rows.length:=List.length_pos_iff.2 e
  obtain ⟨b,o,rfl,h2⟩:=k 0 _ (alN MZ)
  have:=Rows.whole (H:=H) (sz:=sz) (b:=b) (o:=o) (c:=c) (rows:=rows) ⟨_,_,rfl,k⟩ rows.length (alR _) MZ
  simp only [nD,nb]
  rw [show decide (rows.length=0)=false by simp [e],cond_false,this,List.take_length]
structure c9 (H:AH) (sz:Nat) (v:Value) (rows:List (List Value)):Prop where
 is:(v= .slice none 0 0∧rows=[])∨∃b,v= .slice (some ⟨b,0,none⟩) rows.length rows.length∧H.n0≤b∧H.get b=some (.cells sz rows.flatten)
 len:∀r∈rows,r.length=sz
def aN (v:Value) (b:Nat):Prop:=∃o n c,v= .slice (some ⟨b,o,none⟩) n c
theorem aW (b b' o n c:Nat):aN (.slice (some ⟨b,o,none⟩) n c) b'↔b'=b:=by
 unfold aN
 constructor
 ·rintro ⟨o',n',c',e⟩;cases e;rfl
 ·rintro rfl;exact ⟨_,_,_,rfl⟩
theorem dh (b n c:Nat):¬ aN (.slice none n c) b:=by rintro ⟨_,_,_,e⟩;cases e
theorem c9.nil (H:AH) (sz:Nat):c9 H sz (.slice none 0 0) []:=⟨.inl ⟨rfl,rfl⟩,by simp⟩
theorem c9.lt {H:AH} {sz b:Nat} {v:Value} {rows:List (List Value)} (h:c9 H sz v rows) (hb:aN v b):b<H.nx:=by
 rcases h.is with⟨rfl,_⟩|⟨b',rfl,_,hg⟩
 ·exact absurd hb (dh _ _ _)
 ·rw [(aW _ _ _ _ _).1 hb];exact AH.aL hg
theorem c9.shape {H:AH} {sz:Nat} {v:Value} {rows:List (List Value)} (h:c9 H sz v rows):∃a c,v= .slice a rows.length c:=by
 rcases h.is with⟨rfl,rfl⟩|⟨b,rfl,_⟩
 ·exact ⟨_,_,rfl⟩
 ·exact ⟨_,_,rfl⟩
theorem gu {sz:Nat}:∀{rows:List (List Value)} {i:Nat} {r:List Value},(∀r∈rows,r.length=sz)→rows[i]?=some r→((rows.flatten.drop (i*sz)).take sz)=r∧i*sz+sz≤rows.flatten.length
 |[],i,r,_,h=>by simp at h
 |x::rows,0,r,hl,h=>by
  simp at h;subst h
  have:=hl x (by simp)
  simp [this]
 |x::rows,i+1,r,hl,h=>by
  have hx:=hl x (by simp)
  have ih:=gu (fun q hq=>hl q (by simp [hq])) (i:=i) (r:=r) (rows:=rows) (by simpa using h)
  rw [List.flatten_cons,Nat.succ_mul,alW,hx]
  refine ⟨?_,by omega⟩
  rw [show i*sz+sz=x.length+i*sz by omega,←List.drop_drop,List.drop_left]
  exact ih.1
theorem c9.rows {H:AH} {sz:Nat} {v:Value} {rows:List (List Value)} (h:c9 H sz v rows):Rows H sz v rows:=by
 rcases h.is with⟨rfl,rfl⟩|⟨b,rfl,h0,hg⟩
 ·exact ⟨_,_,rfl,by simp⟩
 ·refine ⟨_,_,rfl,fun i r hi=>⟨b,0,rfl,?_⟩⟩
  obtain ⟨e1,e2⟩:=gu h.len hi
  rw [bk hg h0 (by simpa using e2)]
  simpa using e1
theorem c9.mod {S:Nat→Prop} {H H':AH} {sz:Nat} {v:Value} {rows:List (List Value)} (h:c9 H sz v rows) (M:Mod S H H') (hs:∀b,aN v b→¬ S b):c9 H' sz v rows:=by
 refine ⟨?_,h.len⟩
 rcases h.is with⟨rfl,rfl⟩|⟨b,rfl,h0,hg⟩
 ·exact .inl ⟨rfl,rfl⟩
 ·exact .inr ⟨b,rfl,by rw [M.n0];exact h0,M.get (hs b ((aW _ _ _ _ _).2 rfl)) hg⟩
theorem c9.ext {H H':AH} {sz:Nat} {v:Value} {rows:List (List Value)} (h:c9 H sz v rows) (X:Ext H H'):c9 H' sz v rows:=h.mod (Mod.bE (S:=fun _=>False) X) (by simp)
theorem qC {H:AH} {sz bytes:Nat} {s x:Value} {rows new:List (List Value)} (hw:H.n0≤H.nx) (hs:c9 H sz s rows) (hx:Rows H sz x new) (hb:(rows.length+new.length)*bytes≤2^47) (qD:rows.length+new.length<2^62):
 ∃s' H',aX sz bytes H s x=some (s',H')∧c9 H' sz s' (rows++new)∧Mod (aN s) H H'∧(∀b,aN s' b→aN s b∨H.nx≤b)∧(new≠[]→∀b,aN s' b→H.nx≤b):=by
 obtain ⟨j9,hlen⟩:=hx.src
 have hl:=hx.DY
 have zo:∀r∈rows++new,r.length=sz:=by
  intro r hr
  rcases List.mem_append.1 hr with h|h
  ·exact hs.len r h
  ·exact hl r h
 by_cases n0:new=[]
 ·subst n0
  refine ⟨s,H,?_,by simpa using hs,Mod.refl _ _,fun b hb=>.inl hb,fun h=>absurd rfl h⟩
  rcases hs.is with⟨rfl,rfl⟩|⟨b,rfl,h0,hg⟩
  ·simp [aX,hlen]
  ·simp [aX,hlen]
 have ahZ:0<new.length:=List.length_pos_iff.2 n0
 have VQ:¬ new.length=0:=by omega
 have DZ:new.flatten.length=new.length*sz:=bT hl
 by_cases r0:rows=[]
 ·subst r0
  simp only [List.length_nil,Nat.zero_add]at hb qD
  refine ⟨.slice (some ⟨H.nx,0,none⟩) new.length new.length,H.alloc (.cells sz new.flatten),?_,⟨.inr ⟨H.nx,rfl,hw,bZ _ _⟩,zo⟩,Mod.bE (Ext.alloc _ _),fun b hb=>.inr (by rw [(aW _ _ _ _ _).1 hb];exact alR _),fun _ b hb=>by rw [(aW _ _ _ _ _).1 hb];exact alR _⟩
  rcases hs.is with⟨rfl,_⟩|⟨b,rfl,h0,hg⟩
  ·simp [aX,hlen,j9,VQ,n0,hb,qD,nb]
  ·simp [aX,hlen,j9,VQ,n0,hb,qD,nb]
 have ah0:0<rows.length:=List.length_pos_iff.2 r0
 rcases hs.is with⟨rfl,h⟩|⟨b,rfl,h0,hg⟩
 ·exact absurd h r0
 have hold:H.ldn ⟨b,0,none⟩ (rows.length*sz)=some rows.flatten:=by
  have:=bT hs.len
  rw [bk hg h0 (by omega),←this]
  simp only [List.drop_zero,List.take_length]
 have vx:H.jm b sz=true:=by simp [AH.jm,hg]
 have a1:¬ rows.length+new.length≤rows.length:=by omega
 have a2:¬ rows.length=0:=by omega
 refine ⟨.slice (some ⟨H.nx,0,none⟩) (rows++new).length (rows++new).length,(H.put b none).alloc (.cells sz (rows++new).flatten),?_,⟨.inr ⟨H.nx,rfl,hw,?_⟩,zo⟩,⟨rfl,Nat.le_succ _,fun c hc hs=>?_⟩,fun c hc=>.inr (by rw [(aW _ _ _ _ _).1 hc];exact alR _),fun _ c hc=>by rw [(aW _ _ _ _ _).1 hc];exact alR _⟩
 ·simp [aX,hlen,j9,VQ,n0,r0,hb,qD,a1,a2,h0,vx,hold]
 ·exact bZ (H.put b none) _
 ·rw [aW]at hs
  rw [AH.cM,if_neg (by rw [AH.Cm];omega),AH.pV,if_neg hs]
theorem zp {H:AH} {sz bytes:Nat} {s x:Value} {rows new:List (List Value)} (hw:H.n0≤H.nx) (hs:c9 H sz s rows) (hx:Rows H sz x new) (hb:(rows.length+new.length)*bytes≤2^47) (qD:rows.length+new.length<2^62):
 ∃s' H',aX sz bytes H s x=some (s',H')∧c9 H' sz s' (rows++new)∧Mod (aN s) H H'∧∀b,aN s' b→aN s b∨H.nx≤b:=by
 obtain ⟨s',H',a,b,c,d,_⟩:=qC hw hs hx hb qD
 exact ⟨s',H',a,b,c,d⟩
theorem fk (z c:List Value) (h:c.length=z.length):aF z 0 c=c:=by
 have:aF z 0 c=c++z.drop c.length:=by cases z<;>rfl
 rw [this,List.drop_eq_nil_of_le (by omega)];simp
theorem vz {sz:Nat} {z:List Value} {H:AH} {v:Value} (hv:(aP v).length=sz) (ht:cv v=false) (hz:z.length=sz):
 ll 1 sz z H [(0,sz,v)]=some (.slice (some ⟨H.nx,0,none⟩) 1 1,H.alloc (.cells sz (aP v))):=by
 simp only [ll,gL,nb,hv,hz,ht,Nat.zero_add,decide_true,alR,Bool.not_false,Bool.and_self,cond_true]
 rw [fk _ _ (by omega)]
 rfl
theorem jd {H H1:AH} {sz bytes:Nat} {s:Value} {rows:List (List Value)} {r:List Value} (hw:H.n0≤H.nx) (hs:c9 H sz s rows) (hr:r.length=sz) (h1:H.alloc (.cells sz r)=H1) (hb:(rows.length+1)*bytes≤2^47) (qD:rows.length+1<2^62):
 ∃s' H',aX sz bytes H1 s (.slice (some ⟨H.nx,0,none⟩) 1 1)=some (s',H')∧c9 H' sz s' (rows++[r])∧Mod (aN s) H H'∧(∀b,aN s' b→H.nx≤b)∧H'.n0=H.n0∧H.nx≤H'.nx∧H'.n0≤H'.nx∧H1.n0=H.n0∧H.nx≤H1.nx∧H1.nx≤H'.nx:=by
 subst h1
 have X:=Ext.alloc H (.cells sz r)
 have hx:Rows (H.alloc (.cells sz r)) sz (.slice (some ⟨H.nx,0,none⟩) 1 1) [r]:=⟨_,_,rfl,fun i q hi=>by
  cases i with
  |zero=>
   simp at hi;subst hi
   refine ⟨H.nx,0,rfl,?_⟩
   have:=pF hw sz r
   rw [hr]at this
   simpa using this
  |succ i=>simp at hi⟩
 obtain ⟨s',H',e,o,M,_,k⟩:=qC (bytes:=bytes) (X.wf hw) (hs.ext X) hx hb qD
 have M':Mod (aN s) H H':=(Mod.bE X).trans M
 exact ⟨s',H',e,o,M',fun b hb=>Nat.le_trans X.nx (k (by simp) b hb),M'.n0,M'.nx,M'.wf hw,X.n0,X.nx,M.nx⟩
structure Sub (G H:AH):Prop where
 n0:H.n0=G.n0
 nx:G.nx≤H.nx
 get:∀b x,G.get b=some x→H.get b=some x
theorem Sub.bE {G H:AH} (h:Ext G H):Sub G H:=⟨h.n0,h.nx,fun b x k=>h.get k⟩
theorem Sub.trans {a b c:AH} (h:Sub a b) (k:Sub b c):Sub a c:=⟨k.n0.trans h.n0,Nat.le_trans h.nx k.nx,fun x y e=>k.get x y (h.get x y e)⟩
theorem Sub.mod {S:Nat→Prop} {G H H':AH} (h:Sub G H) (M:Mod S H H') (hs:∀b,S b→G.get b=none):Sub G H':=
 ⟨M.n0.trans h.n0,Nat.le_trans h.nx M.nx,fun b x k=>M.get (fun q=>by rw [hs b q]at k;cases k) (h.get b x k)⟩
theorem Sub.M0 {G H H':AH} (h:Sub G H) (X:Ext H H'):Sub G H':=h.trans (Sub.bE X)
theorem Sub.ldn {G H:AH} (h:Sub G H) {a:Addr} {n:Nat} {vs:List Value} (k:G.ldn a n=some vs):H.ldn a n=some vs:=by
 obtain ⟨x,hx⟩:=Option.isSome_iff_exists.1 (cB k).1
 rw [←k]
 exact dT (by rw [h.get _ _ hx,hx]) h.n0
theorem Sub.ld {G H:AH} (h:Sub G H) {a:Addr} {v:Value} (k:G.ld a=some v):H.ld a=some v:=bm.2 (h.ldn (bm.1 k))
theorem Rows.sub {H H':AH} (E:Sub H H') {sz:Nat} {v:Value} {rows:List (List Value)} (h:Rows H sz v rows):Rows H' sz v rows:=by
 obtain ⟨a,c,rfl,k⟩:=h.is
 exact ⟨a,c,rfl,fun i r hi=>let⟨b,o,h1,h2⟩:=k i r hi;⟨b,o,h1,E.ldn h2⟩⟩
theorem eY.sub {H H':AH} (E:Sub H H') {v:Value} {l:List Int} (h:eY H v l):eY H' v l:=Rows.sub E h
def AH.rM (H:AH):List Nat→AH
 |[]=>H
 |b::l=>(H.put b none).rM l
theorem qE:∀(l:List Nat) (H:AH) (c:Nat),(H.rM l).get c=if c∈l then none else H.get c
 |[],H,c=>by simp [AH.rM]
 |b::l,H,c=>by
  rw [AH.rM,qE l,AH.pV]
  by_cases h1:c∈l
  ·simp [h1]
  ·by_cases h2:c=b<;>simp [h1,h2]
theorem tG:∀(l:List Nat) (H:AH),(H.rM l).n0=H.n0
 |[],H=>rfl
 |b::l,H=>by rw [AH.rM,tG l];rfl
theorem tH:∀(l:List Nat) (H:AH),(H.rM l).nx=H.nx
 |[],H=>rfl
 |b::l,H=>by rw [AH.rM,tH l];rfl
theorem D4 (l:List Nat) (H:AH):Sub (H.rM l) H:=⟨(tG l H).symm,by rw [tH];exact alR _,fun b x k=>by
 rw [qE]at k
 split at k
 ·cases k
 ·exact k⟩
end Go.Proofs.YtppcmpmnglaleaaGreatDoor.A
namespace Go.Proofs.YtppcmpmnglaleaaGreatDoor.A
open Go
theorem vA {p:bH} (h:aD p.w p.vars=true):jO p.w p.vars p.body 1 0=bQ p:=by
 unfold jO bQ
 rw [h,show decide ((1:Int)+bO p.body 0≤17)=decide (bO p.body 0≤16) by rw [Bool.eq_iff_iff];simp;omega,show decide (0+av p.body≤400)=decide (av p.body≤400) by rw [Bool.eq_iff_iff];simp]
 simp
theorem zq:dW [.int .i64 0,.int .i64 0] []=some (.agg #[.int .i64 0,.int .i64 0]):=rfl
theorem xP {p:bH} {c:List Value} {H:AH} (hw:H.n0≤H.nx) (hp:ph H c p):Ca E O 68 [.agg c.toArray] H (fun x H'=>x= .tuple #[.agg #[.int .i64 (if bQ p=true then aw p.body else 0),.int .i64 (if bQ p=true then av p.body else 0)],.bool (bQ p)]∧Ext H H'):=by
 obtain ⟨vv,vb,rb,rfl,hi,hv,AI,hr,hl,mL⟩:=hp.is
 refine Ca.aR (F:=UW) rfl rfl rfl ?_
 have X1:=Ext.alloc H (.cells 3 [.int .i64 p.w,vv,vb])
 have d0:(H.alloc (.cells 3 [.int .i64 p.w,vv,vb])).ld ⟨H.nx,0,none⟩=some (.int .i64 p.w):=ai hw rfl
 have d1:(H.alloc (.cells 3 [.int .i64 p.w,vv,vb])).ld ⟨H.nx,1,none⟩=some vv:=ai hw rfl
 have d2:(H.alloc (.cells 3 [.int .i64 p.w,vv,vb])).ld ⟨H.nx,2,none⟩=some vb:=ai hw rfl
 have d:(H.alloc (.cells 3 [.int .i64 p.w,vv,vb])).ldn ⟨H.nx,0,none⟩ 3=some [.int .i64 p.w,vv,vb]:=ba hw 3 rfl
 generalize cV:H.alloc (.cells 3 [.int .i64 p.w,vv,vb])=H1 at X1 d0 d1 d2 d
 have bc:=X1.wf hw
 have X2:=Ext.alloc H1 (.cells 2 [.int .i64 0,.int .i64 0])
 have g2:=bZ H1 (.cells 2 [.int .i64 0,.int .i64 0])
 generalize ju:H1.alloc (.cells 2 [.int .i64 0,.int .i64 0])=H2 at X2 g2
 have lq:=X2.wf bc
 have gC:H2.n0≤H1.nx:=by rw [X2.n0];exact bc
 replace d0:=X2.ld d0
 replace d1:=X2.ld d1
 replace d2:=X2.ld d2
 replace d:=X2.ldn d
 have kg:=X1.trans X2
 simp (maxSteps:=4000000)-implicitDefEqProofs+contextual [-X.ev,UW,cV,ju,d0,d1]
 apply ah
 ·(simp-implicitDefEqProofs [-X.ev];rfl)
 refine (zm lq (hv.ext kg) AI p.w).mono ?_
 rintro x H3 ⟨rfl,X3⟩
 have g3:=X3.get g2
 have rD:H3.n0≤H1.nx:=by rw [X3.n0];exact gC
 have kU:=kg.trans X3
 have nz:=X3.wf lq
 cases h1:aD p.w p.vars with
 |false=>
  have h2:bQ p=false:=by simp [bQ,h1]
  obtain ⟨H4,s4,M4,wU,lV,g4⟩:=bw g3 rD (k:=0) (vs:=[.int .i64 0,.int .i64 0]) (by simp)
  have l4:=bk g4 (by rw [lV];exact rD) (k:=0) (n:=2) (by simp [aF])
  have vB:Ext H H4:=(X1.trans (Ext.refl _)).trans (((X2.trans X3).mod M4 (by rintro x rfl;exact alR _)))
  simp [aF]at l4
  simp (maxSteps:=4000000)-implicitDefEqProofs+contextual [-X.ev,h1,h2,zq,s4,l4,vB]
 |true=>
  replace d2:=X3.ld d2
  replace d:=X3.ldn d
  simp (maxSteps:=4000000)-implicitDefEqProofs+contextual [-X.ev,d,d2]
  apply ah
  ·(simp-implicitDefEqProofs [-X.ev];rfl)
  refine (DU h1 AI _ p.body vb rb H1 H3 1 0 0 H1.nx (al2 _) nz (X2.trans X3) (alR _) (hv.ext X1) mL (hr.ext X1) (hl.ext X1) g3 rD (by omega) (by omega) (by omega)).mono ?_
  rintro x H4 ⟨rfl,M4,s',n',g4,hl4⟩
  rw [vA h1]at hl4⊢
  have kT:H4.n0≤H1.nx:=by rw [M4.n0];exact rD
  have X14:Ext H1 H4:=(X2.trans X3).mod M4 (by rintro x rfl;exact alR _)
  cases h2:bQ p with
  |false=>
   obtain ⟨H5,s5,M5,KL,vw,g5⟩:=bw g4 kT (k:=0) (vs:=[.int .i64 0,.int .i64 0]) (by simp)
   have l5:=bk g5 (by rw [vw];exact kT) (k:=0) (n:=2) (by simp [aF])
   have D5:Ext H H5:=X1.trans (X14.mod M5 (by rintro x rfl;exact alR _))
   simp [aF]at l5
   simp (maxSteps:=4000000)-implicitDefEqProofs+contextual [-X.ev,zq,s5,l5,D5]
  |true=>
   obtain ⟨rfl,rfl⟩:=hl4 h2
   have l4:=bk g4 kT (k:=0) (n:=2) (by simp)
   obtain ⟨H5,s5,M5,KL,vw,g5⟩:=bw g4 kT (k:=0) (vs:=[.int .i64 (0+aw p.body),.int .i64 (0+av p.body)]) (by simp)
   have l5:=bk g5 (by rw [vw];exact kT) (k:=0) (n:=2) (by simp [aF])
   have D5:Ext H H5:=X1.trans (X14.mod M5 (by rintro x rfl;exact alR _))
   simp [aF]at l4 l5 s5
   simp (maxSteps:=4000000)-implicitDefEqProofs+contextual [-X.ev,l4,s5,l5,D5]
theorem nP {p:bH} {c:List Value} {H:AH} (hw:H.n0≤H.nx) (hp:ph H c p):Ca E O 37 [.agg c.toArray] H (fun x H'=>x= .int .i64 (if bQ p=true then 0 else 30)∧Ext H H'):=by
 refine Ca.aR (F:=a37) rfl rfl rfl ?_
 have hc:=hp.len
 have X1:=Ext.alloc H (.cells c.length c)
 have d:(H.alloc (.cells c.length c)).ldn ⟨H.nx,0,none⟩ 3=some c:=ba hw 3 (by assumption)
 generalize cV:H.alloc (.cells c.length c)=H1 at X1 d
 have bc:=X1.wf hw
 simp (maxSteps:=4000000)-implicitDefEqProofs+contextual [-X.ev,a37,cV,d]
 apply ah
 ·(simp-implicitDefEqProofs [-X.ev];rfl)
 refine (xP bc (hp.ext X1)).mono ?_
 rintro x H2 ⟨rfl,X2⟩
 have lq:=X2.wf bc
 obtain ⟨H3,s3,X3,pI,kS,g3⟩:=gq lq (z:=2) (c:=[.int .i64 0,.int .i64 0]) (vs:=[.int .i64 (if bQ p=true then aw p.body else 0),.int .i64 (if bQ p=true then av p.body else 0)]) rfl
 have X:=X1.trans (X2.trans X3)
 cases h2:bQ p with
 |false=>
  simp only [h2,Bool.false_eq_true,if_false]at s3
  simp (maxSteps:=4000000)-implicitDefEqProofs+contextual [-X.ev,s3,X]
 |true=>
  simp only [h2,if_true]at s3
  simp (maxSteps:=4000000)-implicitDefEqProofs+contextual [-X.ev,s3,X]
def xQ (sz bytes:Nat):AF:=⟨1,8,[.tmp 2],.seq (.bW [o 2 (.mv (.k (.slice none 0 0)))]) (.seq (.seq (.bW [o 3 (.mv (.t 0)),o 4 (.eqk 2 false (.t 3) (.k (.slice none 0 0)))]) (.cond (.t 4) (.seq (.bW [o 2 (.mv (.k (.slice none 0 0)))]) .ret) .skip)) (.seq (.bW [o 5 (.bsl 0 sz [] []),o 6 (.mv (.t 0)),o 7 (.app sz bytes (.t 5) (.t 6)),o 2 (.mv (.t 7))]) .ret))⟩
theorem kV {f sz bytes:Nat} (ho:O f=none) (he:E f=some (xQ sz bytes)) {H:AH} {v:Value} {rows:List (List Value)} (hw:H.n0≤H.nx) (hr:Rows H sz v rows) (hb:rows.length*bytes≤2^47) (qD:rows.length<2^62):
 Ca E O f [v] H (fun x H'=>c9 H' sz x rows∧Ext H H'∧∀b,aN x b→H.nx≤b):=by
 refine Ca.aR ho he rfl ?_
 obtain ⟨a,c,hv⟩:=hr.len
 cases a with
 |none=>
  have eD:rows=[]:=by
   obtain ⟨a',c',e,k⟩:=hr.is
   rw [hv]at e
   cases e
   cases rows with
   |nil=>rfl
   |cons r rows=>obtain ⟨b,o,e,_⟩:=k 0 r rfl;cases e
  subst eD
  simp (maxSteps:=4000000)-implicitDefEqProofs+contextual [-X.ev,xQ,hv]
  exact ⟨c9.nil _ _,Ext.refl _,fun b hb=>absurd hb (dh _ _ _)⟩
 |some a=>
  have lD:ll 0 sz [] H []=some (.slice (some ⟨H.nx,0,none⟩) 0 0,H.alloc (.cells sz [])):=rfl
  have X1:=Ext.alloc H (.cells sz [])
  have ow:c9 (H.alloc (.cells sz [])) sz (.slice (some ⟨H.nx,0,none⟩) 0 0) []:=⟨.inr ⟨H.nx,rfl,hw,bZ _ _⟩,by simp⟩
  generalize H.alloc (.cells sz [])=H1 at lD X1 ow
  obtain ⟨s',H2,ha,o2,M2,hk⟩:=zp (bytes:=bytes) (X1.wf hw) ow (hr.ext X1) (by simpa using hb) (by simpa using qD)
  rw [hv]at ha
  simp (maxSteps:=4000000)-implicitDefEqProofs+contextual [-X.ev,xQ,hv,lD,ha]
  refine ⟨by simpa using o2,X1.mod M2 (by intro b hb;rw [aW]at hb;subst hb;exact alR _),fun b hb=>?_⟩
  rcases hk b hb with h|h
  ·rw [aW]at h;subst h;exact alR _
  ·exact Nat.le_trans X1.nx h
def bz (l:List Int):List (List Value):=l.map fun n=>[.int .i64 n]
theorem je {H:AH} {v:Value} {l:List Int} (hw:H.n0≤H.nx) (hr:eY H v l) (hb:l.length≤2^40):
 Ca E O 70 [v] H (fun x H'=>c9 H' 1 x (bz l)∧Ext H H'∧∀b,aN x b→H.nx≤b):=
 kV (sz:=1) (bytes:=8) rfl rfl hw hr (by simp [bz];omega) (by simp [bz];omega)
theorem c9.ints {H:AH} {v:Value} {l:List Int} (h:c9 H 1 v (bz l)):eY H v l:=h.rows
theorem qF (l m:List Int):bz (l++m)=bz l++bz m:=by simp [bz]
theorem jf {w:Int} (hw:1≤w∧w≤8) (a:Int):isWord w a=(!decide (a<0)&& !decide (2^w.toNat≤a)):=by
 have w1:bP w=true:=by simp [bP,hw]
 rw [isWord,w1,Bool.true_and,Bool.eq_iff_iff]
 simp
theorem qG {p:bH} {t:fy} {c d:List Value} {H:AH} (hw:H.n0≤H.nx) (hp:ph H c p) (ht:u9 H d t) (hP:bQ p=true):
 Ca E O 69 [.agg c.toArray,.agg d.toArray] H (fun x H'=>x= .bool (jM p t)∧Ext H H'):=by
 obtain ⟨vv,vb,rb,rfl,hi,hv,AI,hr,hl,mL⟩:=hp.is
 obtain ⟨vs,vp,rfl,ss,sp,l1,l2,_,_⟩:=ht.is
 have hV:aD p.w p.vars=true:=by simp [bQ]at hP;exact hP.1
 have eS:1≤p.w∧p.w≤8:=⟨(aO hV).1,(aO hV).2.1⟩
 have jo:cS (p.vars.map (·.cells))≤48:=by
  rw [eR]at hV;simp only [alQ,alZ]at hV;exact hV.2.2.2.2
 refine Ca.aR (F:=UX) rfl rfl rfl ?_
 have X1:=Ext.alloc H (.cells 3 [.int .i64 p.w,vv,vb])
 have d0:(H.alloc (.cells 3 [.int .i64 p.w,vv,vb])).ld ⟨H.nx,0,none⟩=some (.int .i64 p.w):=ai hw rfl
 have d1:(H.alloc (.cells 3 [.int .i64 p.w,vv,vb])).ld ⟨H.nx,1,none⟩=some vv:=ai hw rfl
 have d2:(H.alloc (.cells 3 [.int .i64 p.w,vv,vb])).ld ⟨H.nx,2,none⟩=some vb:=ai hw rfl
 have d:(H.alloc (.cells 3 [.int .i64 p.w,vv,vb])).ldn ⟨H.nx,0,none⟩ 3=some [.int .i64 p.w,vv,vb]:=ba hw 3 rfl
 generalize cV:H.alloc (.cells 3 [.int .i64 p.w,vv,vb])=H1 at X1 d0 d1 d2 d
 have bc:=X1.wf hw
 have X2:=Ext.alloc H1 (.cells 2 [vs,vp])
 have e0:(H1.alloc (.cells 2 [vs,vp])).ld ⟨H1.nx,0,none⟩=some vs:=ai bc rfl
 have e1:(H1.alloc (.cells 2 [vs,vp])).ld ⟨H1.nx,1,none⟩=some vp:=ai bc rfl
 have e:(H1.alloc (.cells 2 [vs,vp])).ldn ⟨H1.nx,0,none⟩ 2=some [vs,vp]:=ba bc 2 rfl
 generalize ju:H1.alloc (.cells 2 [vs,vp])=H2 at X2 e0 e1 e
 have gV:=X2.wf bc
 replace d0:=X2.ld d0
 replace d1:=X2.ld d1
 have X:=X1.trans X2
 obtain ⟨a1,c1,nw⟩:=hv.len
 obtain ⟨a2,c2,uA⟩:=ss.len
 obtain ⟨a3,c3,KN⟩:=sp.len
 have D1:=d1
 rw [nw]at D1
 simp (maxSteps:=4000000)-implicitDefEqProofs+contextual [-X.ev,UX,cV,ju,D1]
 refine b9 (fun k fr H'=>Ext H2 H'∧∃i:Nat,i+k=p.vars.length∧fr.get 2= .pointer (some ⟨H.nx,0,none⟩)∧fr.get 3= .pointer (some ⟨H1.nx,0,none⟩)∧fr.get 11=vv∧fr.get 12= .int .i64 p.vars.length∧fr.get 13= .int .i64 i∧fr.get 5= .int .i64 (cS ((p.vars.take i).map (·.cells)))) ?_ p.vars.length ⟨Ext.refl _,0,by simp,by simp,by simp,by simp [nw],by simp,by simp,by simp [cS]⟩
 rintro k fr H3 ⟨X3,i,hi,f2,f3,f11,f12,f13,f5⟩
 have nz:=X3.wf gV
 have kU:=X.trans X3
 replace d0:=X3.ld d0
 replace e0:=X3.ld e0
 replace e1:=X3.ld e1
 have lW:=AI.1
 by_cases h:i<p.vars.length
 ·obtain ⟨y,hy⟩:∃y,p.vars[i]?=some y:=⟨_,alN h⟩
  obtain ⟨b,o,c',dy,bN,_⟩:=(hv.ext kU).at hy
  rw [dy]at f11
  obtain ⟨H4,sH4,X4,aaB,aaC,q,D6⟩:=dJ (H:=H3) nz (z:=3) (c:=[.string ⟨#[]⟩,.int .i64 0,.int .i64 0]) (vs:=[.string y.name,.int .i64 y.level,.int .i64 y.cells]) rfl
  have q0:H4.ld ⟨H3.nx,0,none⟩=some (.string y.name):=D6 0 _ rfl
  have q1:H4.ld ⟨H3.nx,1,none⟩=some (.int .i64 y.level):=D6 1 _ rfl
  have q2:H4.ld ⟨H3.nx,2,none⟩=some (.int .i64 y.cells):=D6 2 _ rfl
  clear D6
  replace q:H4.ldn ⟨H3.nx,0,none⟩ 3=some [.string y.name,.int .i64 y.level,.int .i64 y.cells]:=q
  have RT:=X4.wf nz
  simp (maxSteps:=4000000)-implicitDefEqProofs+contextual [-X.ev,f2,f3,f11,f12,f13,f5,h,bN,Vr.row,sH4,q2]
  rw [aj (n:=(i:Int)+1) ⟨by omega,by omega⟩]
  refine ⟨k- 1,by omega,X3.trans X4,i+1,by omega,dy.symm,by simp,?_⟩
  rw [List.take_add_one]
  simp [cS,List.getElem?_map,hy,List.foldl_append]
 have ht:p.vars.take i=p.vars:=alU (by omega)
 rw [ht]at f5
 obtain ⟨F,hF⟩:∃F,jM p t=F:=⟨_,rfl⟩
 rw [hF]
 have VS:=e0
 have Gz:=e1
 rw [uA]at VS
 rw [KN]at Gz
 have Cg:¬ ((t.store.length:Int)=cS (p.vars.map (·.cells))∧(t.bR.length:Int)≤16∧∀a∈t.store++t.bR,isWord p.w a=true)→F=false:=by
  intro q;rw [Bool.eq_false_iff,←hF];intro h
  apply q
  simp only [jM,bX,alQ,alZ,al3]at h
  refine ⟨h.1.1,by omega,fun a ha=>?_⟩
  rcases List.mem_append.1 ha with ha|ha
  ·exact h.1.2 a ha
  ·exact h.2.2 a ha
 by_cases k1:(t.store.length:Int)=cS (p.vars.map (·.cells))
 case neg=>
  have lT:F=false:=Cg (fun q=>k1 q.1)
  simp (maxSteps:=4000000)-implicitDefEqProofs+contextual [-X.ev,f2,f3,f11,f12,f13,f5,h,VS,Gz,k1,lT,kU]
 by_cases k2:(16:Int)<t.bR.length
 case pos=>
  have lT:F=false:=Cg (fun q=>by have:=q.2.1;omega)
  simp (maxSteps:=4000000)-implicitDefEqProofs+contextual [-X.ev,f2,f3,f11,f12,f13,f5,h,VS,Gz,k1,k2,lT,kU]
 simp (maxSteps:=4000000)-implicitDefEqProofs+contextual [-X.ev,f2,f3,f11,f12,f13,f5,h,VS,Gz,k1,k2]
 rw [uA]at ss
 rw [KN]at sp
 apply ah
 ·(simp-implicitDefEqProofs [-X.ev];rfl)
 refine (je nz (ss.ext kU) (by omega)).mono ?_
 rintro x H4 ⟨o4,X4,k4⟩
 have oN:=X4.wf nz
 have vB:=kU.trans X4
 have q1:=bm.1 Gz
 have q2:=bm.1 (X4.ld Gz)
 obtain ⟨s',H5,ha,o5,M5,k5⟩:=zp (bytes:=8) oN o4 (sp.ext vB) (by simp [bz];omega) (by simp [bz];omega)
 have D5:Ext H H5:=kU.trans (X4.mod M5 k4)
 have oO:=M5.wf oN
 have o5:c9 H5 1 s' (bz (t.store++t.bR)):=by rw [qF];exact o5
 have hLl:((t.store++t.bR).length:Int)=t.store.length+t.bR.length:=by rw [alW];omega
 have hLm:∀(P:Int→Prop),(∀a∈t.store++t.bR,P a)→(∀a∈t.store,P a)∧∀a∈t.bR,P a:=fun P h=>⟨fun a ha=>h a (by simp [ha]),fun a ha=>h a (by simp [ha])⟩
 generalize t.store++t.bR=L at o5 Cg hLl hLm
 have i5:=o5.ints
 obtain ⟨as_,cs_,uy⟩:=i5.len
 have gj:H4.nx≤H5.nx:=M5.nx
 have q3:H5.ldn ⟨H1.nx,1,none⟩ 1=some [.slice a3 t.bR.length c3]:=M5.ldn (a:=⟨H1.nx,1,none⟩) (fun hb=>by
  have h1:=k4 _ hb
  have h2:=(AH.aL (Option.isSome_iff_exists.1 (cB q1).1).choose_spec)
  dsimp only at h1 h2
  omega) q2
 rw [uy]at ha
 simp (maxSteps:=4000000)-implicitDefEqProofs+contextual [-X.ev,ha,aY,aH,aI,X4.n0,X4.nx,q1,q2,q3,M5.n0,gj]
 have Px:H5.ld ⟨H.nx,0,none⟩=some (.int .i64 p.w):=((X3.trans (Ext.refl _)).trans (Ext.refl _)|>fun _=>(M5.ld (a:=⟨H.nx,0,none⟩) (fun hb=>by
  have h1:=k4 _ hb
  have h2:=(AH.aL (Option.isSome_iff_exists.1 (cB (bm.1 d0)).1).choose_spec)
  dsimp only at h1 h2
  omega) (X4.ld d0)))
 have sh:=vr eS
 have Pt:(L.length:Int)≤64:=by omega
 refine b9 (fun k fr H'=>H'=H5∧∃i:Nat,i+k=L.length∧fr.get 2= .pointer (some ⟨H.nx,0,none⟩)∧fr.get 38=s'∧fr.get 39= .int .i64 L.length∧fr.get 40= .int .i64 i∧∀a∈L.take i,isWord p.w a=true) ?_ L.length ⟨rfl,0,by simp,by simp [f2],by simp [uy],by simp,by simp,by simp⟩
 rintro k' bG H' ⟨rfl,i',pd,f2,f38,f39,f40,aT⟩
 by_cases h':i'<L.length
 ·obtain ⟨n,hn⟩:∃n,L[i']?=some n:=⟨_,alN h'⟩
  obtain ⟨b,o,c',dy,eW⟩:=i5.at hn
  rw [dy]at f38
  have lT:isWord p.w n=false→F=false:=fun z=>Cg (fun q=>by have:=q.2.2 n (alS hn);rw [z]at this;cases this)
  rw [jf eS]at lT
  have wi:IntKind.i64.wrap ((i':Int)+1)=(i':Int)+1:=aj ⟨by omega,by omega⟩
  by_cases z1:n<0
  ·simp (maxSteps:=4000000)-implicitDefEqProofs+contextual [-X.ev,f2,f38,f39,f40,h',eW,Px,z1,lT,D5]
  by_cases z2:2^p.w.toNat≤n
  ·simp (maxSteps:=4000000)-implicitDefEqProofs+contextual [-X.ev,f2,f38,f39,f40,h',eW,Px,z1,sh,z2,lT,D5]
  simp (maxSteps:=4000000)-implicitDefEqProofs+contextual [-X.ev,f2,f38,f39,f40,h',eW,Px,z1,sh,z2,wi]
  refine ⟨k'- 1,by omega,i'+1,by omega,dy.symm,by simp,fun z hz=>?_⟩
  rw [List.take_add_one,hn]at hz
  rcases List.mem_append.1 hz with hz|hz
  ·exact aT z hz
  ·simp at hz;subst hz;rw [jf eS];simp [z1,z2]
 ·have xN:F=true:=by
   rw [alU (by omega)]at aT
   rw [←hF]
   simp only [jM,bX,alQ,alZ,al3]
   exact ⟨⟨k1,(hLm _ aT).1⟩,by omega,(hLm _ aT).2⟩
  simp (maxSteps:=4000000)-implicitDefEqProofs+contextual [-X.ev,f2,f38,f39,f40,h',D5,xN]
theorem Bk {p:bH} {t:fy} {c d:List Value} {H:AH} (hw:H.n0≤H.nx) (hp:ph H c p) (ht:u9 H d t):
 Ca E O 38 [.agg c.toArray,.agg d.toArray] H (fun x H'=>x= .int .i64 (fS p 0 t)∧Ext H H'):=by
 refine Ca.aR (F:=UK) rfl rfl rfl ?_
 have hc:=hp.len
 have hd:d.length=2:=by obtain ⟨vs,vp,e,_⟩:=ht.is;rw [e];rfl
 have X1:=Ext.alloc H (.cells c.length c)
 have q:(H.alloc (.cells c.length c)).ldn ⟨H.nx,0,none⟩ 3=some c:=ba hw 3 (by assumption)
 generalize cV:H.alloc (.cells c.length c)=H1 at X1 q
 have bc:=X1.wf hw
 have X2:=Ext.alloc H1 (.cells d.length d)
 have r:(H1.alloc (.cells d.length d)).ldn ⟨H1.nx,0,none⟩ 2=some d:=ba bc 2 (by assumption)
 generalize ju:H1.alloc (.cells d.length d)=H2 at X2 r
 have gV:=X2.wf bc
 replace q:=X2.ldn q
 have X:=X1.trans X2
 simp (maxSteps:=4000000)-implicitDefEqProofs+contextual [-X.ev,UK,cV,ju,q]
 apply ah
 ·(simp-implicitDefEqProofs [-X.ev];rfl)
 refine (nP gV (hp.ext X)).mono ?_
 rintro x H3 ⟨rfl,X3⟩
 replace q:=X3.ldn q
 replace r:=X3.ldn r
 have kU:=X.trans X3
 cases h1:bQ p with
 |false=>
  simp (maxSteps:=4000000)-implicitDefEqProofs+contextual [-X.ev,h1,fS,kU]
 |true=>
  simp (maxSteps:=4000000)-implicitDefEqProofs+contextual [-X.ev,q,r]
  apply ah
  ·(simp-implicitDefEqProofs [-X.ev];rfl)
  refine (qG (X3.wf gV) (hp.ext kU) (ht.ext kU) h1).mono ?_
  rintro x H4 ⟨rfl,X4⟩
  cases h2:jM p t with
  |false=>
   simp (maxSteps:=4000000)-implicitDefEqProofs+contextual [-X.ev,h1,h2,fS,kU.trans X4]
  |true=>
   simp (maxSteps:=4000000)-implicitDefEqProofs+contextual [-X.ev,h1,h2,fS,kU.trans X4]
end Go.Proofs.YtppcmpmnglaleaaGreatDoor.A
