/- Texts that stand one behind the other: S1, S2, S3, S4, S5, S6, S7, S8, S9, S10, S11, S12, S13, S14, AbsO, AbsP, S15, S16, S17. -/
import Derived.Test.YtoijnpfpjpefgaaGreatG9
/- A text without what this claim does not need: S1. -/
set_option linter.unusedVariables false
set_option linter.unusedSimpArgs false
namespace Go.Proofs.YtoijnpfpjpefgaaGreat.A
open Go
def isWidth (w:Int):Bool:=decide (1 ≤ w) && decide (w ≤ 8)
theorem Width_ca (w:Int) (H:AH):Ca E O 104 [.int .i64 w] H (fun x H'=>x = .bool (isWidth w) ∧ H' = H):=by
 refine Ca.bodyK (F:=a104) rfl rfl rfl ?_
 by_cases h:1 ≤ w
 ·simp -implicitDefEqProofs [a104,aop,isWidth,h]
 ·simp -implicitDefEqProofs [a104,aop,isWidth,h]
theorem two_pow_le {n:Nat} (h:n ≤ 60):(2:Int) ^ n ≤ 2 ^ 60:=by
 have:(2:Nat) ^ n ≤ 2 ^ 60:=Nat.pow_le_pow_right (by omega) h
 exact_mod_cast this
theorem two_pow_pos (n:Nat):(1:Int) ≤ 2 ^ n:=by
 have:1 ≤ (2:Nat) ^ n:=Nat.one_le_two_pow
 exact_mod_cast this
theorem Pow_ca (n:Nat) (hn:n ≤ 60) (H:AH):Ca E O 113 [.int .i64 n] H (fun x H'=>x = .int .i64 (2 ^ n) ∧ H' = H):=by
 refine Ca.bodyK (F:=a113) rfl rfl rfl ?_
 simp -implicitDefEqProofs [a113,aop]
 refine Wk_loop (fun k fr H'=>H' = H ∧ ∃ i:Nat,i + k = n ∧ fr.get 0 = .int .i64 n ∧ fr.get 3 = .int .i64 (2 ^ i) ∧ fr.get 4 = .int .i64 i) ?_ n ⟨rfl,0,by simp,by simp,by simp,by simp⟩
 rintro k fr H' ⟨rfl,i,hi,h0,h3,h4⟩
 by_cases h:i < n
 ·have hp:=two_pow_le (n:=i + 1) (by omega)
  have hq:=two_pow_pos i
  have he:(2:Int) ^ (i + 1) = 2 * 2 ^ i:=by rw [Int.pow_succ,Int.mul_comm]
  simp -implicitDefEqProofs [aop,h0,h3,h4,h]
  rw [wrap_in (n:=2 * 2 ^ i) ⟨by omega,by omega⟩,wrap_in (n:=(i:Int) + 1) ⟨by omega,by omega⟩]
  exact ⟨k - 1,by omega,i + 1,by omega,he.symm,by simp⟩
 ·simp -implicitDefEqProofs [aop,h0,h3,h4,h]
  rw [show i = n by omega]
def isWord (w a:Int):Bool:=isWidth w && (decide (0 ≤ a) && decide (a < 2 ^ w.toNat))
theorem Word_ca (w a:Int) (H:AH):Ca E O 91 [.int .i64 w,.int .i64 a] H (fun x H'=>x = .bool (isWord w a) ∧ H' = H):=by
 refine Ca.bodyK (F:=a91) rfl rfl rfl ?_
 simp -implicitDefEqProofs [a91,aop]
 refine Wr_call ((Width_ca w H).mono ?_)
 rintro x H' ⟨rfl,rfl⟩
 cases h1:isWidth w with
 | false=>simp -implicitDefEqProofs [aop,h1,isWord]
 | true =>
  by_cases h2:0 ≤ a
  ·simp -implicitDefEqProofs [aop,h1,h2]
   have hw:1 ≤ w ∧ w ≤ 8:=by simpa [isWidth] using h1
   have:=Pow_ca w.toNat (by omega) H'
   rw [show ((w.toNat:Nat):Int) = w by omega] at this
   refine Wr_call ?_
   simp -implicitDefEqProofs
   refine this.mono ?_
   rintro x H'' ⟨rfl,rfl⟩
   simp -implicitDefEqProofs [aop,h1,h2,isWord]
  ·simp -implicitDefEqProofs [aop,h1,h2,isWord]
theorem One_ca (b:Bool) (H:AH):Ca E O 99 [.bool b] H (fun x H'=>x = .int .i64 (if b = true then 1 else 0) ∧ H' = H):=by
 refine Ca.bodyK (F:=a99) rfl rfl rfl ?_
 cases b <;> simp -implicitDefEqProofs [a99,aop]
theorem Words_ca (w:Int) (v:Value) (l:List Int) (H:AH) (hl:Ints H v l) (hsz:l.length < 2 ^ 60) :
  Ca E O 62 [.int .i64 w,v] H (fun x H'=>x = .bool (l.all (isWord w)) ∧ H' = H):=by
 refine Ca.bodyK (F:=a62) rfl rfl rfl ?_
 simp -implicitDefEqProofs [a62,aop]
 obtain ⟨a,c,hv⟩:=hl.len
 refine Wk_loop (fun k fr H'=>H' = H ∧ ∃ i:Nat,i + k = l.length ∧ fr.get 0 = .int .i64 w ∧ fr.get 1 = v ∧ fr.get 5 = .int .i64 i ∧ ∀ x ∈ l.take i,isWord w x = true) ?_ l.length ⟨rfl,0,by simp,by simp,by simp,by simp,by simp⟩
 rintro k fr H' ⟨rfl,i,hi,h0,h1,h5,hall⟩
 by_cases h:i < l.length
 ·obtain ⟨n,hn⟩:∃ n,l[i]? = some n:=⟨_,List.getElem?_eq_getElem h⟩
  obtain ⟨b,o,c',hv',hld⟩:=hl.at hn
  rw [hv'] at h1
  simp -implicitDefEqProofs [aop,h0,h1,h5,h,hld]
  refine Wr_call ?_
  simp -implicitDefEqProofs [h0]
  refine (Word_ca w n H').mono ?_
  rintro x H'' ⟨rfl,rfl⟩
  cases hw:isWord w n with
  | true =>
   simp -implicitDefEqProofs [aop,h0,h1,h5,hw]
   rw [wrap_in ⟨by omega,by omega⟩]
   refine ⟨k - 1,by omega,i + 1,by omega,hv'.symm,by simp,?_⟩
   rw [List.take_add_one,hn]
   intro x hx
   rcases List.mem_append.1 hx with hx | hx
   ·exact hall x hx
   ·simp at hx; subst hx; exact hw
  | false =>
   simp -implicitDefEqProofs [aop,h0,h1,h5,hw]
   exact ⟨n,List.mem_of_getElem? hn,hw⟩
 ·rw [hv] at h1
  simp -implicitDefEqProofs [aop,h0,h1,h5,h]
  rw [List.take_of_length_le (by omega)] at hall
  exact hall
end Go.Proofs.YtoijnpfpjpefgaaGreat.A
/- A text without what this claim does not need: S2. -/
set_option linter.unusedVariables false
set_option linter.unusedSimpArgs false
namespace Go.Proofs.YtoijnpfpjpefgaaGreat.A
open Go
def isLetter (c:Int):Bool:=decide (97 ≤ c) && decide (c ≤ 122)
def isDigit (c:Int):Bool:=decide (48 ≤ c) && decide (c ≤ 57)
theorem letter_ca (c:Int) (H:AH):Ca E O 121 [.int .u8 c] H (fun x H'=>x = .bool (isLetter c) ∧ H' = H):=by
 refine Ca.bodyK (F:=a121) rfl rfl rfl ?_
 by_cases h:97 ≤ c
 ·simp -implicitDefEqProofs [a121,aop,isLetter,h]
 ·simp -implicitDefEqProofs [a121,aop,isLetter,h]
theorem digit_ca (c:Int) (H:AH):Ca E O 123 [.int .u8 c] H (fun x H'=>x = .bool (isDigit c) ∧ H' = H):=by
 refine Ca.bodyK (F:=a123) rfl rfl rfl ?_
 by_cases h:48 ≤ c
 ·simp -implicitDefEqProofs [a123,aop,isDigit,h]
 ·simp -implicitDefEqProofs [a123,aop,isDigit,h]
def isTaken (s:ByteArray):Bool:=strEq s ⟨#[119,105,100,116,104]⟩ || (strEq s ⟨#[118,97,114]⟩ || (strEq s ⟨#[105,102]⟩ || (strEq s ⟨#[101,108,115,101]⟩ || (strEq s ⟨#[119,104,105,108,101]⟩ || (strEq s ⟨#[111,117,116]⟩ || (strEq s ⟨#[112,105,99,107]⟩ || (strEq s ⟨#[110,101,101,100]⟩ || (strEq s ⟨#[109,117,115,116]⟩ || (strEq s ⟨#[108,101,118,101,108]⟩ || (strEq s ⟨#[115,101,101,115]⟩))))))))))
theorem Taken_ca (s:ByteArray) (H:AH):Ca E O 122 [.string s] H (fun x H'=>x = .bool (isTaken s) ∧ H' = H):=by
 refine Ca.bodyK (F:=a122) rfl rfl rfl ?_
 cases h0:strEq s ⟨#[119,105,100,116,104]⟩ with
 | true=>simp -implicitDefEqProofs [a122,aop,isTaken,h0]
 | false =>
  cases h1:strEq s ⟨#[118,97,114]⟩ with
  | true=>simp -implicitDefEqProofs [a122,aop,isTaken,h0,h1]
  | false =>
   cases h2:strEq s ⟨#[105,102]⟩ with
   | true=>simp -implicitDefEqProofs [a122,aop,isTaken,h0,h1,h2]
   | false =>
    cases h3:strEq s ⟨#[101,108,115,101]⟩ with
    | true=>simp -implicitDefEqProofs [a122,aop,isTaken,h0,h1,h2,h3]
    | false =>
     cases h4:strEq s ⟨#[119,104,105,108,101]⟩ with
     | true=>simp -implicitDefEqProofs [a122,aop,isTaken,h0,h1,h2,h3,h4]
     | false =>
      cases h5:strEq s ⟨#[111,117,116]⟩ with
      | true=>simp -implicitDefEqProofs [a122,aop,isTaken,h0,h1,h2,h3,h4,h5]
      | false =>
       cases h6:strEq s ⟨#[112,105,99,107]⟩ with
       | true=>simp -implicitDefEqProofs [a122,aop,isTaken,h0,h1,h2,h3,h4,h5,h6]
       | false =>
        cases h7:strEq s ⟨#[110,101,101,100]⟩ with
        | true=>simp -implicitDefEqProofs [a122,aop,isTaken,h0,h1,h2,h3,h4,h5,h6,h7]
        | false =>
         cases h8:strEq s ⟨#[109,117,115,116]⟩ with
         | true=>simp -implicitDefEqProofs [a122,aop,isTaken,h0,h1,h2,h3,h4,h5,h6,h7,h8]
         | false =>
          cases h9:strEq s ⟨#[108,101,118,101,108]⟩ with
          | true=>simp -implicitDefEqProofs [a122,aop,isTaken,h0,h1,h2,h3,h4,h5,h6,h7,h8,h9]
          | false =>
           cases h10:strEq s ⟨#[115,101,101,115]⟩ with
           | true=>simp -implicitDefEqProofs [a122,aop,isTaken,h0,h1,h2,h3,h4,h5,h6,h7,h8,h9,h10]
           | false =>
            simp -implicitDefEqProofs [a122,aop,isTaken,h0,h1,h2,h3,h4,h5,h6,h7,h8,h9,h10]
def nameByte (c:Int):Bool:=isLetter c || (isDigit c || decide (c = 95))
def isName (s:ByteArray):Bool:=decide (1 ≤ s.size) && (decide (s.size ≤ 12) && (isLetter (byteAt s 0) && (!isTaken s && (List.range s.size).all fun i=>nameByte (byteAt s i))))
theorem Name_ca (s:ByteArray) (hsz:s.size < 2 ^ 60) (H:AH):Ca E O 105 [.string s] H (fun x H'=>x = .bool (isName s) ∧ H' = H):=by
 refine Ca.bodyK (F:=a105) rfl rfl rfl ?_
 by_cases h1:1 ≤ s.size
 case neg =>
  have h1':s.size = 0:=by omega
  simp -implicitDefEqProofs [a105,aop,isName,h1']
 have h1':¬ s.size = 0:=by omega
 have h1'':¬ (s.size:Int) < 1:=by omega
 by_cases h2:s.size ≤ 12
 case neg =>
  have h2':12 < s.size:=by omega
  have h2'':(12:Int) < s.size:=by omega
  simp -implicitDefEqProofs [a105,aop,isName,h1',h1'',h1,h2,h2',h2'']
 have h2':¬ 12 < s.size:=by omega
 have h2'':¬ (12:Int) < s.size:=by omega
 have ix0:s[0]? = some s[0]:=getElem?_pos s 0 (by omega)
 have ix0':((s[0].toNat:Nat):Int) = byteAt s 0:=by unfold byteAt; rw [ix0]; rfl
 simp -implicitDefEqProofs [a105,aop,h1',h1'',h1,h2,h2',h2'',ix0]
 rw [ix0']
 refine Wr_call ?_
 simp -implicitDefEqProofs
 refine (letter_ca _ H).mono ?_
 rintro x H' ⟨rfl,rfl⟩
 cases h3:isLetter (byteAt s 0) with
 | false=>simp -implicitDefEqProofs [aop,isName,h1',h1,h2,h3]
 | true =>
  simp -implicitDefEqProofs [aop,h3]
  refine Wr_call ?_
  simp -implicitDefEqProofs
  refine (Taken_ca s H').mono ?_
  rintro x H'' ⟨rfl,rfl⟩
  cases h4:isTaken s with
  | true=>simp -implicitDefEqProofs [aop,isName,h1',h1,h2,h3,h4]
  | false =>
   simp -implicitDefEqProofs [aop,h3,h4]
   refine Wk_loop (fun k fr H'=>H' = H'' ∧ ∃ i:Nat,i + k = s.size ∧ fr.get 0 = .string s ∧ fr.get 3 = .int .i64 i ∧ ∀ j,j < i → nameByte (byteAt s j) = true) ?_ s.size ⟨rfl,0,by simp,by simp,by simp,fun j hj=>by omega⟩
   rintro k fr H' ⟨rfl,i,hi,f0,f3,hall⟩
   by_cases h:i < s.size
   ·have ixi:s[i]? = some s[i]:=getElem?_pos s i h
    have ixi':((s[i].toNat:Nat):Int) = byteAt s i:=by unfold byteAt; rw [ixi]; rfl
    simp -implicitDefEqProofs [aop,f0,f3,h,ixi]
    rw [ixi']
    refine Wr_call ?_
    simp -implicitDefEqProofs
    refine (letter_ca _ H').mono ?_
    rintro x H1 ⟨rfl,rfl⟩
    cases h5:isLetter (byteAt s i) with
    | true =>
     simp -implicitDefEqProofs [aop,f0,f3,h,ixi,h5]
     rw [wrap_in ⟨by omega,by omega⟩]
     refine ⟨k - 1,by omega,i + 1,by omega,by simp,fun j hj=>?_⟩
     by_cases e:j = i
     ·subst e; simp [nameByte,h5]
     ·exact hall j (by omega)
    | false =>
     simp -implicitDefEqProofs [aop,f0,f3,h,ixi,h5]
     rw [ixi']
     refine Wr_call ?_
     simp -implicitDefEqProofs
     refine (digit_ca _ H1).mono ?_
     rintro x H2 ⟨rfl,rfl⟩
     cases h6:isDigit (byteAt s i) with
     | true =>
      simp -implicitDefEqProofs [aop,f0,f3,h,ixi,h5,h6]
      rw [wrap_in ⟨by omega,by omega⟩]
      refine ⟨k - 1,by omega,i + 1,by omega,by simp,fun j hj=>?_⟩
      by_cases e:j = i
      ·subst e; simp [nameByte,h6]
      ·exact hall j (by omega)
     | false =>
      simp -implicitDefEqProofs [aop,f0,f3,h,ixi,h5,h6]
      rw [ixi']
      by_cases h7:byteAt s i = 95
      ·simp -implicitDefEqProofs [aop,f0,f3,h,ixi,h5,h6,h7]
       rw [wrap_in ⟨by omega,by omega⟩]
       refine ⟨k - 1,by omega,i + 1,by omega,by simp,fun j hj=>?_⟩
       by_cases e:j = i
       ·subst e; simp [nameByte,h7]
       ·exact hall j (by omega)
      ·simp -implicitDefEqProofs [aop,f0,f3,h,ixi,h5,h6,h7]
       have:nameByte (byteAt s i) = false:=by simp [nameByte,h5,h6,h7]
       simp [isName,h1,h2,h3,h4]
       exact ⟨i,h,this⟩
   ·simp -implicitDefEqProofs [aop,f0,f3,h]
    simp [isName,h1,h2,h3,h4]
    exact fun j hj=>hall j (by omega)
end Go.Proofs.YtoijnpfpjpefgaaGreat.A
/- A text without what this claim does not need: S3. -/
set_option linter.unusedVariables false
set_option linter.unusedSimpArgs false
namespace Go.Proofs.YtoijnpfpjpefgaaGreat.A
open Go
structure Vr where
 name:ByteArray
 level:Int
 cells:Int
def Vr.row (v:Vr):List Value:=[.string v.name,.int .i64 v.level,.int .i64 v.cells]
def Vars (H:AH) (v:Value) (l:List Vr):Prop:=Rows H 3 v (l.map Vr.row)
theorem Vars.ext {H H':AH} (E:Ext H H') {v:Value} {l:List Vr} (h:Vars H v l):Vars H' v l:=Rows.ext E h
theorem Vars.len {H:AH} {v:Value} {l:List Vr} (h:Vars H v l):∃ a c,v = .slice a l.length c:=by
 obtain ⟨a,c,e⟩:=Rows.len h
 exact ⟨a,c,by simpa using e⟩
theorem Vars.at {H:AH} {v:Value} {l:List Vr} (h:Vars H v l) {i:Nat} {x:Vr} (hi:l[i]? = some x) :
  ∃ b o c,v = .slice (some ⟨b,o,none⟩) l.length c ∧ H.ldn ⟨b,o + i * 3,none⟩ 3 = some x.row ∧ H.ld ⟨b,o + i * 3,none⟩ = some (.string x.name) ∧ H.ld ⟨b,o + i * 3 + 1,none⟩ = some (.int .i64 x.level) ∧ H.ld ⟨b,o + i * 3 + 2,none⟩ = some (.int .i64 x.cells):=by
 obtain ⟨b,o,c,e,h2⟩:=Rows.at h (i:=i) (r:=x.row) (by simp [hi])
 exact ⟨b,o,c,by simpa using e,h2,by simpa using ld_of_ldn h2 (j:=0) rfl,ld_of_ldn h2 (j:=1) rfl,ld_of_ldn h2 (j:=2) rfl⟩
def findV (l:List Vr) (s:ByteArray):Int:=match l.findIdx? (fun v=>strEq v.name s) with | some i=>i | none=>-1
theorem findV_some {l:List Vr} {s:ByteArray} {i:Nat} {x:Vr} (hi:l[i]? = some x) (hx:strEq x.name s = true) (hb:∀ j y,j < i → l[j]? = some y → strEq y.name s = false):findV l s = i:=by
 have:l.findIdx? (fun v=>strEq v.name s) = some i:=by
  rw [List.findIdx?_eq_some_iff_getElem]
  obtain ⟨h,e⟩:=List.getElem?_eq_some_iff.1 hi
  refine ⟨h,by rw [e]; exact hx,fun j hj=>?_⟩
  rw [hb j _ hj (List.getElem?_eq_getElem (by omega))]
  simp
 unfold findV; rw [this]
theorem findV_none {l:List Vr} {s:ByteArray} (hb:∀ (j:Nat) (y:Vr),l[j]? = some y → strEq y.name s = false):findV l s = -1:=by
 have:l.findIdx? (fun v=>strEq v.name s) = none:=by
  rw [List.findIdx?_eq_none_iff]
  intro x hx
  obtain ⟨j,hj,e⟩:=List.mem_iff_getElem.1 hx
  exact hb j x (by rw [List.getElem?_eq_getElem hj,e])
 unfold findV; rw [this]
theorem Find_ca {v:Value} {l:List Vr} {H:AH} (hv:Vars H v l) (hsz:l.length < 2 ^ 60) (s:ByteArray):Ca E O 106 [v,.string s] H (fun x H'=>x = .int .i64 (findV l s) ∧ H' = H):=by
 refine Ca.bodyK (F:=a106) rfl rfl rfl ?_
 simp -implicitDefEqProofs [a106,aop]
 obtain ⟨a,c,hva⟩:=hv.len
 refine Wk_loop (fun k fr H'=>H' = H ∧ ∃ i:Nat,i + k = l.length ∧ fr.get 0 = v ∧ fr.get 1 = .string s ∧ fr.get 5 = .int .i64 i ∧ ∀ j y,j < i → l[j]? = some y → strEq y.name s = false) ?_ l.length ⟨rfl,0,by simp,by simp,by simp,by simp,fun j y hj=>by omega⟩
 rintro k fr H' ⟨rfl,i,hi,h0,h1,h5,hall⟩
 by_cases h:i < l.length
 ·obtain ⟨y,hy⟩:∃ y,l[i]? = some y:=⟨_,List.getElem?_eq_getElem h⟩
  obtain ⟨b,o,c',hv',_,hld,_⟩:=hv.at hy
  rw [hv'] at h0
  simp -implicitDefEqProofs [aop,h0,h1,h5,h,hld]
  cases hw:strEq y.name s with
  | true =>
   simp -implicitDefEqProofs [aop,h0,h1,h5,hw]
   exact (findV_some hy hw hall).symm
  | false =>
   simp -implicitDefEqProofs [aop,h0,h1,h5,hw]
   rw [wrap_in ⟨by omega,by omega⟩]
   refine ⟨k - 1,by omega,i + 1,by omega,hv'.symm,by simp,fun j z hj hz=>?_⟩
   by_cases e:j = i
   ·subst e; rw [hy] at hz; cases hz; exact hw
   ·exact hall j z (by omega) hz
 ·rw [hva] at h0
  simp -implicitDefEqProofs [aop,h0,h1,h5,h]
  refine (findV_none fun j y hj=>hall j y ?_ hj).symm
  have:=(List.getElem?_eq_some_iff.1 hj).1
  omega
def wsum (l:List Int):Int:=l.foldl (fun a c=>IntKind.i64.wrap (a + c)) 0
theorem First_ca {v:Value} {l:List Vr} {H:AH} (hv:Vars H v l) (hsz:l.length < 2 ^ 60) (n:Nat) (hn:n ≤ l.length):Ca E O 61 [v,.int .i64 n] H (fun x H'=>x = .int .i64 (wsum ((l.take n).map (·.cells))) ∧ H' = H):=by
 refine Ca.bodyK (F:=a61) rfl rfl rfl ?_
 simp -implicitDefEqProofs [a61,aop]
 refine Wk_loop (fun k fr H'=>H' = H ∧ ∃ i:Nat,i + k = n ∧ fr.get 0 = v ∧ fr.get 1 = .int .i64 n ∧ fr.get 6 = .int .i64 i ∧ fr.get 5 = .int .i64 (wsum ((l.take i).map (·.cells)))) ?_ n ⟨rfl,0,by simp,by simp,by simp,by simp,by simp [wsum]⟩
 rintro k fr H' ⟨rfl,i,hi,h0,h1,h6,h5⟩
 by_cases h:i < n
 ·obtain ⟨y,hy⟩:∃ y,l[i]? = some y:=⟨_,List.getElem?_eq_getElem (by omega)⟩
  obtain ⟨b,o,c',hv',_,_,_,hld⟩:=hv.at hy
  rw [hv'] at h0
  have hil:i < l.length:=by omega
  simp -implicitDefEqProofs [aop,h0,h1,h5,h6,h,hld,hil]
  rw [wrap_in (n:=(i:Int) + 1) ⟨by omega,by omega⟩]
  refine ⟨k - 1,by omega,i + 1,by omega,hv'.symm,by simp,?_⟩
  rw [List.take_add_one]
  simp [wsum,List.getElem?_map,hy,List.foldl_append]
 ·simp -implicitDefEqProofs [aop,h0,h1,h5,h6,h]
  rw [show i = n by omega]
def okVar (l:List Vr) (i:Nat) (v:Vr):Bool:=isName v.name && (decide (0 ≤ v.level) && (decide (v.level ≤ 47) && (decide (1 ≤ v.cells) && (decide (v.cells ≤ 8) && decide (findV l v.name = i)))))
def isHeading (w:Int) (l:List Vr):Bool:=isWidth w && (decide (1 ≤ l.length) && (decide (l.length ≤ 18) && ((List.range l.length).all (fun i=>match l[i]? with | some v=>okVar l i v | none=>true) && decide (wsum (l.map (·.cells)) ≤ 48))))
theorem okVar_cells {l:List Vr} {i:Nat} {v:Vr} (h:okVar l i v = true):1 ≤ v.cells ∧ v.cells ≤ 8:=by
 simp [okVar] at h
 exact ⟨h.2.2.2.1,h.2.2.2.2.1⟩
def VarsOk (l:List Vr):Prop:=l.length < 2 ^ 60 ∧ ∀ v ∈ l,v.name.size < 2 ^ 60
theorem Heading_ca {v:Value} {l:List Vr} {H:AH} (hw:H.n0 ≤ H.nx) (hv:Vars H v l) (hok:VarsOk l) (w:Int):Ca E O 79 [.int .i64 w,v] H (fun x H'=>x = .bool (isHeading w l) ∧ Ext H H'):=by
 refine Ca.bodyK (F:=a79) rfl rfl rfl ?_
 obtain ⟨a,c,hva⟩:=hv.len
 have hsz:=hok.1
 simp -implicitDefEqProofs [a79,aop]
 refine Wr_call ?_
 simp -implicitDefEqProofs
 refine (Width_ca w H).mono ?_
 rintro x H' ⟨rfl,rfl⟩
 cases e1:isWidth w with
 | false=>simp -implicitDefEqProofs [aop,isHeading,e1,Ext.refl]
 | true =>
  by_cases h1:1 ≤ l.length
  case neg =>
   have h1':l.length = 0:=by omega
   simp -implicitDefEqProofs [aop,isHeading,e1,hva,h1',Ext.refl]
  by_cases h2:l.length ≤ 18
  case neg =>
   have h1':¬ (l.length:Int) < 1:=by omega
   have h2':(18:Int) < l.length:=by omega
   have h2'':18 < l.length:=by omega
   simp -implicitDefEqProofs [aop,isHeading,e1,hva,h1,h1',h2,h2',h2'',Ext.refl]
  have h1':¬ (l.length:Int) < 1:=by omega
  have h2':¬ (18:Int) < l.length:=by omega
  have h2'':¬ 18 < l.length:=by omega
  simp -implicitDefEqProofs [aop,e1,hva,h1,h1',h2,h2',h2'']
  refine Wk_loop (fun k fr H1=>Ext H' H1 ∧ ∃ i:Nat,i + k = l.length ∧ fr.get 1 = v ∧ fr.get 6 = .int .i64 i ∧ fr.get 5 = .int .i64 (wsum ((l.take i).map (·.cells))) ∧ ∀ j y,j < i → l[j]? = some y → okVar l j y = true) ?_ l.length ⟨Ext.refl _,0,by simp,by simp [hva],by simp,by simp [wsum],fun j y hj=>by omega⟩
  rintro k fr H1 ⟨X1,i,hi,f1,f6,f5,hall⟩
  have hw1:=X1.wf hw
  have hv1:=hv.ext X1
  have notOk:∀ y,l[i]? = some y → okVar l i y = false → isHeading w l = false:=by
   intro y hy hn
   have:((List.range l.length).all (fun i=>match l[i]? with | some v=>okVar l i v | none=>true)) = false:=by
    rw [List.all_eq_false]
    refine ⟨i,?_,?_⟩
    ·have:=(List.getElem?_eq_some_iff.1 hy).1; simpa using this
    ·rw [hy]; simp [hn]
   simp [isHeading,this]
  by_cases h:i < l.length
  ·obtain ⟨y,hy⟩:∃ y,l[i]? = some y:=⟨_,List.getElem?_eq_getElem h⟩
   obtain ⟨b,o,c',hv',hldn,_⟩:=hv1.at hy
   have hname:=hok.2 y (List.mem_of_getElem? hy)
   have f1v:=f1
   rw [hv'] at f1
   obtain ⟨H2,hst,X2,nx2,n02,hl2,hld2⟩:=st_new (H:=H1) hw1 (z:=3) (c:=[.string ⟨#[]⟩,.int .i64 0,.int .i64 0]) (vs:=y.row) rfl
   have d0:H2.ld ⟨H1.nx,0,none⟩ = some (.string y.name):=hld2 0 _ rfl
   have d1:H2.ld ⟨H1.nx,1,none⟩ = some (.int .i64 y.level):=hld2 1 _ rfl
   have d2:H2.ld ⟨H1.nx,2,none⟩ = some (.int .i64 y.cells):=hld2 2 _ rfl
   simp -implicitDefEqProofs [aop,f1,f6,h,hldn,vcells,isTup,Vr.row] at hst ⊢
   simp -implicitDefEqProofs [aop,hst,d0]
   refine Wr_call ?_
   simp -implicitDefEqProofs
   refine (Name_ca y.name hname H2).mono ?_
   rintro x H3 ⟨rfl,rfl⟩
   cases n1:isName y.name with
   | false =>
    simp -implicitDefEqProofs [aop,f1,f6,d0,d1,d2,n1]
    exact ⟨notOk y hy (by simp [okVar,n1]),X1.trans X2⟩
   | true =>
    by_cases n2:0 ≤ y.level
    case neg =>
     have n2':y.level < 0:=by omega
     simp -implicitDefEqProofs [aop,f1,f6,d0,d1,d2,n1,n2,n2']
     exact ⟨notOk y hy (by simp [okVar,n1,n2,n2']),X1.trans X2⟩
    have n2':¬ y.level < 0:=by omega
    by_cases n3:y.level ≤ 47
    case neg =>
     have n3':47 < y.level:=by omega
     simp -implicitDefEqProofs [aop,f1,f6,d0,d1,d2,n1,n2,n2',n3,n3']
     exact ⟨notOk y hy (by simp [okVar,n1,n2,n2',n3,n3']),X1.trans X2⟩
    have n3':¬ 47 < y.level:=by omega
    by_cases n4:1 ≤ y.cells
    case neg =>
     have n4':y.cells < 1:=by omega
     simp -implicitDefEqProofs [aop,f1,f6,d0,d1,d2,n1,n2,n2',n3,n3',n4,n4']
     exact ⟨notOk y hy (by simp [okVar,n1,n2,n2',n3,n3',n4,n4']),X1.trans X2⟩
    have n4':¬ y.cells < 1:=by omega
    by_cases n5:y.cells ≤ 8
    case neg =>
     have n5':8 < y.cells:=by omega
     simp -implicitDefEqProofs [aop,f1,f6,d0,d1,d2,n1,n2,n2',n3,n3',n4,n4',n5,n5']
     exact ⟨notOk y hy (by simp [okVar,n1,n2,n2',n3,n3',n4,n4',n5,n5']),X1.trans X2⟩
    have n5':¬ 8 < y.cells:=by omega
    simp -implicitDefEqProofs [aop,f1,f6,d0,d1,d2,n1,n2,n2',n3,n3',n4,n4',n5,n5']
    refine Wr_call ?_
    simp -implicitDefEqProofs [f1]
    rw [← hv']
    refine (Find_ca (hv1.ext X2) hsz y.name).mono ?_
    rintro x H4 ⟨rfl,rfl⟩
    by_cases n6:findV l y.name = i
    case neg =>
     simp -implicitDefEqProofs [aop,f1,f6,d0,d1,d2,n1,n2,n2',n3,n3',n4,n4',n5,n5',n6]
     exact ⟨notOk y hy (by simp [okVar,n1,n2,n2',n3,n3',n4,n4',n5,n5',n6]),X1.trans X2⟩
    simp -implicitDefEqProofs [aop,f1,f5,f6,d0,d1,d2,n1,n2,n2',n3,n3',n4,n4',n5,n5',n6]
    rw [wrap_in (n:=(i:Int) + 1) ⟨by omega,by omega⟩]
    refine ⟨k - 1,by omega,X1.trans X2,i + 1,by omega,hv'.symm,by simp,?_,fun j z hj hz=>?_⟩
    ·rw [List.take_add_one]
     simp [wsum,List.getElem?_map,hy,List.foldl_append]
    ·by_cases e:j = i
     ·subst e; rw [hy] at hz; cases hz
      simp [okVar,n1,n2,n3,n4,n5,n6]
     ·exact hall j z (by omega) hz
  ·have hil:i = l.length:=by omega
   rw [hva] at f1
   simp -implicitDefEqProofs [aop,f1,f5,f6,h]
   refine ⟨?_,X1⟩
   have hall':((List.range l.length).all (fun i=>match l[i]? with | some v=>okVar l i v | none=>true)) = true:=by
    rw [List.all_eq_true]
    intro j hj
    have hj':j < l.length:=by simpa using hj
    rw [List.getElem?_eq_getElem hj']
    exact hall j _ (by omega) (List.getElem?_eq_getElem hj')
   rw [isHeading,e1,hall',hil]
   have:List.take l.length (l.map fun x=>x.cells) = l.map fun x=>x.cells:=List.take_of_length_le (by simp)
   simp [h1,h2,this]
end Go.Proofs.YtoijnpfpjpefgaaGreat.A
/- A text without what this claim does not need: S4. -/
set_option linter.unusedVariables false
set_option linter.unusedSimpArgs false
namespace Go.Proofs.YtoijnpfpjpefgaaGreat.A
open Go
inductive Exp where
 | mk (op n cp:Int) (args:List Exp)
def Exp.op:Exp → Int | .mk a _ _ _=>a
def Exp.n:Exp → Int | .mk _ a _ _=>a
def Exp.cp:Exp → Int | .mk _ _ a _=>a
mutual
inductive ExC (H:AH):List Value → Exp → Prop where
 | mk {op n cp:Int} {v:Value} {rows:List (List Value)} {args:List Exp}:I64 op → I64 n → I64 cp → args.length < 2 ^ 60 → Rows H 4 v rows → ExL H rows args → ExC H [.int .i64 op,.int .i64 n,.int .i64 cp,v] (.mk op n cp args)
inductive ExL (H:AH):List (List Value) → List Exp → Prop where
 | nil:ExL H [] []
 | cons {r:List Value} {e:Exp} {rs:List (List Value)} {es:List Exp}:ExC H r e → ExL H rs es → ExL H (r :: rs) (e :: es)
end
mutual
theorem ExC.ext {H H':AH} (E:Ext H H') {c:List Value} {e:Exp}:ExC H c e → ExC H' c e
 | .mk a b c d r l=>.mk a b c d (r.ext E) (ExL.ext E l)
theorem ExL.ext {H H':AH} (E:Ext H H') {c:List (List Value)} {e:List Exp}:ExL H c e → ExL H' c e
 | .nil=>.nil
 | .cons a b=>.cons (ExC.ext E a) (ExL.ext E b)
end
theorem ExL.length {H:AH}:∀ {c:List (List Value)} {e:List Exp},ExL H c e → c.length = e.length
 | _,_,.nil=>rfl
 | _,_,.cons _ b=>by simp [ExL.length b]
theorem ExL.at {H:AH}:∀ {c:List (List Value)} {e:List Exp} {i:Nat} {x:Exp},ExL H c e → e[i]? = some x → ∃ r,c[i]? = some r ∧ ExC H r x
 | _,_,i,x,.nil,h=>by simp at h
 | _,_,0,x,.cons a b,h=>by simp at h; subst h; exact ⟨_,rfl,a⟩
 | _,_,i + 1,x,.cons a b,h=>by obtain ⟨r,h1,h2⟩:=ExL.at b (by simpa using h); exact ⟨r,by simpa using h1,h2⟩
theorem size_arg {op n cp:Int} {args:List Exp} {i:Nat} {x:Exp} (h:args[i]? = some x):SizeOf.sizeOf x < SizeOf.sizeOf (Exp.mk op n cp args):=by
 have:=List.sizeOf_lt_of_mem (List.mem_of_getElem? h)
 simp
 omega
mutual
def leftE:Exp → Int → Int
 | .mk _ _ _ args,most=>if most < 1 then 0 else leftL args (most - 1)
def leftL:List Exp → Int → Int
 | [],n=>n
 | e :: es,n=>leftL es (leftE e n)
end
theorem leftL_foldl:∀ (l:List Exp) (n:Int),leftL l n = l.foldl (fun n e=>leftE e n) n
 | [],n=>rfl
 | e :: es,n=>by simp [leftL,leftL_foldl es]
@[simp] theorem vcells_agg (c:Array Value):vcells (.agg c) = c.toList:=rfl
@[simp] theorem isTup_agg (c:Array Value):isTup (.agg c) = false:=rfl
theorem leftE_le:∀ (N:Nat) (e:Exp) (m:Int),SizeOf.sizeOf e < N → leftE e m ≤ max m 0 ∧ 0 ≤ leftE e m:=by
 intro N
 induction N with
 | zero=>intro e m h; omega
 | succ N ih =>
  intro e m h
  obtain ⟨op,n,cp,args⟩:=e
  rw [leftE]
  split
  ·omega
  ·have key:∀ (l:List Exp) (k:Int),(∀ e ∈ l,SizeOf.sizeOf e < N) → 0 ≤ k → leftL l k ≤ k ∧ 0 ≤ leftL l k:=by
    intro l
    induction l with
    | nil=>intro k _ hk; rw [leftL]; omega
    | cons x l ihl =>
     intro k hl hk
     rw [leftL]
     have h1:=ih x k (hl x (by simp))
     have h2:=ihl (leftE x k) (fun e he=>hl e (by simp [he])) h1.2
     omega
   have:=key args (m - 1) (fun e he=>by have:=List.sizeOf_lt_of_mem he; simp at h; omega) (by omega)
   omega
theorem Left_ca:∀ (N:Nat) (e:Exp) (c:List Value) (H:AH) (most:Int),SizeOf.sizeOf e < N → H.n0 ≤ H.nx → ExC H c e → I64 most →
  Ca E O 74 [.agg c.toArray,.int .i64 most] H (fun x H'=>x = .int .i64 (leftE e most) ∧ Ext H H'):=by
 intro N
 induction N with
 | zero=>intro e c H most h; omega
 | succ N ih =>
  intro e c H most hN hw he hm
  cases he with | @mk op n cp v rows args i1 i2 i3 hlen hr hl =>
  refine Ca.bodyK (F:=a74) rfl rfl rfl ?_
  have X0:=Ext.alloc H (.cells 4 [.int .i64 op,.int .i64 n,.int .i64 cp,v])
  have d3:(H.alloc (.cells 4 [.int .i64 op,.int .i64 n,.int .i64 cp,v])).ld ⟨H.nx,3,none⟩ = some v:=ld_new hw rfl
  generalize hH1:H.alloc (.cells 4 [.int .i64 op,.int .i64 n,.int .i64 cp,v]) = H1 at X0 d3
  by_cases h1:most < 1
  ·simp -implicitDefEqProofs [a74,aop,h1,hH1]
   refine ⟨?_,X0⟩
   rw [leftE,if_pos h1]
  ·unfold I64 at hm
   simp -implicitDefEqProofs [a74,aop,h1,hH1]
   rw [wrap_in (n:=most - 1) ⟨by omega,by omega⟩]
   obtain ⟨a0,c0,hv⟩:=hr.len
   rw [hl.length] at hv
   refine Wk_loop (fun k fr H'=>Ext H1 H' ∧ ∃ i:Nat,i + k = args.length ∧ fr.get 2 = .pointer (some ⟨H.nx,0,none⟩) ∧ fr.get 6 = .int .i64 i ∧ fr.get 5 = .int .i64 (leftL (args.take i) (most - 1)) ∧ 0 ≤ leftL (args.take i) (most - 1) ∧ leftL (args.take i) (most - 1) ≤ most - 1) ?_ args.length ⟨Ext.refl _,0,by simp,by simp,by simp,by simp [leftL],by simp [leftL]; omega,by simp [leftL]⟩
   rintro k fr H2 ⟨X2,i,hi,f2,f6,f5,b1,b2⟩
   have dd:=X2.ld d3
   have hw2:=(X0.trans X2).wf hw
   by_cases h:i < args.length
   ·obtain ⟨y,hy⟩:∃ y,args[i]? = some y:=⟨_,List.getElem?_eq_getElem h⟩
    obtain ⟨r,hr1,hey⟩:=hl.at hy
    obtain ⟨b,o,c',hv',hldn⟩:=(hr.ext (X0.trans X2)).at hr1
    rw [hl.length] at hv'
    rw [hv'] at dd
    simp -implicitDefEqProofs [aop,f2,f6,f5,dd,h,hldn]
    refine Wr_call ?_
    simp -implicitDefEqProofs [f5]
    have hs:=size_arg (op:=op) (n:=n) (cp:=cp) hy
    refine (ih y r H2 _ (by omega) hw2 (hey.ext (X0.trans X2)) ⟨by omega,by omega⟩).mono ?_
    rintro x H3 ⟨rfl,X3⟩
    simp -implicitDefEqProofs [aop,f2,f6,f5]
    rw [wrap_in (n:=(i:Int) + 1) ⟨by omega,by omega⟩]
    have e2:leftL (args.take (i + 1)) (most - 1) = leftE y (leftL (args.take i) (most - 1)):=by
     rw [List.take_add_one,hy]
     simp [leftL_foldl,List.foldl_append]
    have:=leftE_le (SizeOf.sizeOf y + 1) y (leftL (args.take i) (most - 1)) (by omega)
    exact ⟨k - 1,by omega,X2.trans X3,i + 1,by omega,by simp,e2.symm,by rw [e2]; omega,by rw [e2]; omega⟩
   ·rw [hv] at dd
    simp -implicitDefEqProofs [aop,f2,f6,f5,dd,h]
    rw [List.take_of_length_le (by omega)]
    refine ⟨?_,X0.trans X2⟩
    rw [leftE,if_neg h1]
end Go.Proofs.YtoijnpfpjpefgaaGreat.A
/- A text without what this claim does not need: S5. -/
set_option linter.unusedVariables false
set_option linter.unusedSimpArgs false
namespace Go.Proofs.YtoijnpfpjpefgaaGreat.A
open Go
mutual
def nodesE:Exp → Int
 | .mk _ _ _ args=>1 + nodesL args
def nodesL:List Exp → Int
 | []=>0
 | e :: es=>nodesE e + nodesL es
end
mutual
def depthE:Exp → Int
 | .mk _ _ _ args=>depthL args 0 + 1
def depthL:List Exp → Int → Int
 | [],n=>n
 | e :: es,n=>depthL es (max n (depthE e))
end
theorem depthL_foldl:∀ (l:List Exp) (n:Int),depthL l n = l.foldl (fun n e=>max n (depthE e)) n
 | [],n=>rfl
 | e :: es,n=>by simp [depthL,depthL_foldl es]
theorem exp_rec {M:Exp → Prop} (h:∀ op n cp args,(∀ e ∈ args,M e) → M (.mk op n cp args)):∀ e,M e:=by
 have key:∀ (N:Nat) (e:Exp),SizeOf.sizeOf e < N → M e:=by
  intro N
  induction N with
  | zero=>intro e h; omega
  | succ N ih =>
   intro e he
   obtain ⟨op,n,cp,args⟩:=e
   refine h op n cp args fun e hm=>ih e ?_
   have:=List.sizeOf_lt_of_mem hm
   simp at he
   omega
 exact fun e=>key _ e (Nat.lt_succ_self _)
theorem nodesL_nonneg {l:List Exp} (h:∀ e ∈ l,1 ≤ nodesE e):0 ≤ nodesL l:=by
 induction l with
 | nil=>simp [nodesL]
 | cons e es ih =>
  rw [nodesL]
  have h1:=h e (by simp)
  have h2:=ih fun x hx=>h x (by simp [hx])
  omega
theorem nodesE_pos:∀ e,1 ≤ nodesE e:=exp_rec fun op n cp args ih=>by
 rw [nodesE]
 have:=nodesL_nonneg ih
 omega
theorem nodesL_pos (l:List Exp):0 ≤ nodesL l:=nodesL_nonneg fun e _=>nodesE_pos e
theorem leftE_eq:∀ e m,leftE e m = max (m - nodesE e) 0:=exp_rec fun op n cp args ih m=>by
 have key:∀ (l:List Exp) (k:Int),(∀ e ∈ l,∀ m,leftE e m = max (m - nodesE e) 0) → 0 ≤ k → leftL l k = max (k - nodesL l) 0:=by
  intro l
  induction l with
  | nil=>intro k _ hk; rw [leftL,nodesL]; omega
  | cons x l ihl =>
   intro k hl hk
   rw [leftL,nodesL,hl x (by simp),ihl _ (fun e he=>hl e (by simp [he])) (by omega)]
   have:=nodesL_pos l
   omega
 rw [leftE,nodesE]
 have:=nodesL_pos args
 split
 ·omega
 ·rw [key args (m - 1) ih (by omega)]
  omega
theorem depthE_bound:∀ e,1 ≤ depthE e ∧ depthE e ≤ nodesE e:=exp_rec fun op n cp args ih=>by
 have key:∀ (l:List Exp) (k:Int),(∀ e ∈ l,1 ≤ depthE e ∧ depthE e ≤ nodesE e) → 0 ≤ k → k ≤ depthL l k ∧ depthL l k ≤ max k (nodesL l):=by
  intro l
  induction l with
  | nil=>intro k _ hk; rw [depthL,nodesL]; omega
  | cons x l ihl =>
   intro k hl hk
   rw [depthL,nodesL]
   have h1:=hl x (by simp)
   have h2:=ihl (max k (depthE x)) (fun e he=>hl e (by simp [he])) (by omega)
   have h3:=nodesL_pos l
   omega
 rw [depthE,nodesE]
 have:=key args 0 ih (by omega)
 have:=nodesL_pos args
 omega
theorem ld_box {H:AH} (hw:H.n0 ≤ H.nx) {z:Nat} {c:List Value} (n:Nat) (hn:c.length = n):(H.alloc (.cells z c)).ldn ⟨H.nx,0,none⟩ n = some c:=by
 rw [← hn]; exact ldn_new hw z c
theorem Fits_ca {e:Exp} {c:List Value} {H:AH} {most:Int} (hw:H.n0 ≤ H.nx) (he:ExC H c e) (hm:0 ≤ most ∧ most ≤ 1000000) :
  Ca E O 125 [.agg c.toArray,.int .i64 most] H (fun x H'=>x = .bool (decide (nodesE e ≤ most)) ∧ Ext H H'):=by
 refine Ca.bodyK (F:=a125) rfl rfl rfl ?_
 have hc:c.length = 4:=by cases he; rfl
 have X0:=Ext.alloc H (.cells c.length c)
 have d:=ld_box hw (z:=c.length) (c:=c) 4 hc
 generalize hH1:H.alloc (.cells c.length c) = H1 at X0 d
 simp -implicitDefEqProofs [a125,aop,hH1,d]
 refine Wr_call ?_
 rw [wrap_in ⟨by omega,by omega⟩]
 simp -implicitDefEqProofs
 refine (Left_ca _ e c H1 (most + 1) (Nat.lt_succ_self _) (X0.wf hw) (he.ext X0) ⟨by omega,by omega⟩).mono ?_
 rintro x H2 ⟨rfl,X2⟩
 simp -implicitDefEqProofs [aop]
 refine ⟨?_,X0.trans X2⟩
 rw [leftE_eq]
 omega
theorem Depth_ca:∀ (N:Nat) (e:Exp) (c:List Value) (H:AH),SizeOf.sizeOf e < N → H.n0 ≤ H.nx → ExC H c e → nodesE e < 2 ^ 60 →
  Ca E O 126 [.agg c.toArray] H (fun x H'=>x = .int .i64 (depthE e) ∧ Ext H H'):=by
 intro N
 induction N with
 | zero=>intro e c H h; omega
 | succ N ih =>
  intro e c H hN hw he hm
  cases he with | @mk op n cp v rows args i1 i2 i3 hlen hr hl =>
  refine Ca.bodyK (F:=a126) rfl rfl rfl ?_
  have X0:=Ext.alloc H (.cells 4 [.int .i64 op,.int .i64 n,.int .i64 cp,v])
  have d3:(H.alloc (.cells 4 [.int .i64 op,.int .i64 n,.int .i64 cp,v])).ld ⟨H.nx,3,none⟩ = some v:=ld_new hw rfl
  generalize hH1:H.alloc (.cells 4 [.int .i64 op,.int .i64 n,.int .i64 cp,v]) = H1 at X0 d3
  have hmm:=hm
  rw [nodesE] at hm
  obtain ⟨a0,c0,hv⟩:=hr.len
  rw [hl.length] at hv
  have mem_le:∀ (l:List Exp) (y:Exp),y ∈ l → nodesE y ≤ nodesL l:=by
   intro l
   induction l with
   | nil=>intro y hy; cases hy
   | cons x l ihl =>
    intro y hy
    rw [nodesL]
    have h3:=nodesL_pos l
    have h4:=nodesE_pos x
    rcases List.mem_cons.1 hy with rfl | hy
    ·omega
    ·have:=ihl y hy; omega
  simp -implicitDefEqProofs [a126,aop,hH1]
  refine Wk_loop (fun k fr H'=>Ext H1 H' ∧ ∃ i:Nat,i + k = args.length ∧ fr.get 1 = .pointer (some ⟨H.nx,0,none⟩) ∧ fr.get 4 = .int .i64 i ∧ fr.get 3 = .int .i64 (depthL (args.take i) 0) ∧ 0 ≤ depthL (args.take i) 0 ∧ depthL (args.take i) 0 ≤ nodesL args) ?_ args.length ⟨Ext.refl _,0,by simp,by simp,by simp,by simp [depthL],by simp [depthL],by simp [depthL,nodesL_pos]⟩
  rintro k fr H2 ⟨X2,i,hi,f1,f4,f3,b1,b2⟩
  have dd:=X2.ld d3
  have hw2:=(X0.trans X2).wf hw
  by_cases h:i < args.length
  ·obtain ⟨y,hy⟩:∃ y,args[i]? = some y:=⟨_,List.getElem?_eq_getElem h⟩
   obtain ⟨r,hr1,hey⟩:=hl.at hy
   obtain ⟨b,o,c',hv',hldn⟩:=(hr.ext (X0.trans X2)).at hr1
   rw [hl.length] at hv'
   rw [hv'] at dd
   have hyn:=mem_le args y (List.mem_of_getElem? hy)
   have hyd:=depthE_bound y
   simp -implicitDefEqProofs [aop,f1,f4,f3,dd,h,hldn]
   refine Wr_call ?_
   simp -implicitDefEqProofs
   have hs:=size_arg (op:=op) (n:=n) (cp:=cp) hy
   refine (ih y r H2 (by omega) hw2 (hey.ext (X0.trans X2)) (by omega)).mono ?_
   rintro x H3 ⟨rfl,X3⟩
   simp -implicitDefEqProofs [aop,f1,f4,f3,mxA]
   rw [wrap_in (n:=(i:Int) + 1) ⟨by omega,by omega⟩]
   have e2:depthL (args.take (i + 1)) 0 = max (depthL (args.take i) 0) (depthE y):=by
    rw [List.take_add_one,hy]
    simp [depthL_foldl,List.foldl_append]
   refine ⟨k - 1,by omega,X2.trans X3,i + 1,by omega,by simp,?_,?_,?_⟩
   ·rw [e2]; split <;> omega
   ·rw [e2]; omega
   ·rw [e2]; omega
  ·rw [hv] at dd
   simp -implicitDefEqProofs [aop,f1,f4,f3,dd,h]
   rw [List.take_of_length_le (by omega)] at b1 b2 ⊢
   rw [wrap_in ⟨by omega,by omega⟩]
   refine ⟨?_,X0.trans X2⟩
   rw [depthE]
def isTwo (op:Int):Bool:=(decide (2 ≤ op) && decide (op ≤ 11)) || (decide (op = 13) || decide (op = 14))
theorem Two_ca (op:Int) (H:AH):Ca E O 145 [.int .i64 op] H (fun x H'=>x = .bool (isTwo op) ∧ H' = H):=by
 refine Ca.bodyK (F:=a145) rfl rfl rfl ?_
 by_cases h1:2 ≤ op
 ·by_cases h2:op ≤ 11
  ·simp -implicitDefEqProofs [a145,aop,isTwo,h1,h2]
  ·by_cases h3:op = 13
   ·simp -implicitDefEqProofs [a145,aop,isTwo,h3]
   ·simp -implicitDefEqProofs [a145,aop,isTwo,h1,h2,h3]
 ·have h3:¬ op = 13:=by omega
  simp -implicitDefEqProofs [a145,aop,isTwo,h1,h3]
def argsOf (op:Int):Int:=if op = 0 then 0 else if op = 12 then 1 else if op = 15 then 3 else if isTwo op = true then 2 else -1
theorem args_ca (op:Int) (H:AH):Ca E O 140 [.int .i64 op] H (fun x H'=>x = .int .i64 (argsOf op) ∧ H' = H):=by
 refine Ca.bodyK (F:=a140) rfl rfl rfl ?_
 by_cases h1:op = 0
 ·simp -implicitDefEqProofs [a140,aop,argsOf,h1]
 by_cases h2:op = 12
 ·simp -implicitDefEqProofs [a140,aop,argsOf,h2]
 by_cases h3:op = 15
 ·simp -implicitDefEqProofs [a140,aop,argsOf,h3]
 simp -implicitDefEqProofs [a140,aop,h1,h2,h3]
 refine Wr_call ?_
 simp -implicitDefEqProofs
 refine (Two_ca op H).mono ?_
 rintro x H' ⟨rfl,rfl⟩
 cases h4:isTwo op with
 | true=>simp -implicitDefEqProofs [aop,argsOf,h1,h2,h3,h4]
 | false=>simp -implicitDefEqProofs [aop,argsOf,h1,h2,h3,h4]
end Go.Proofs.YtoijnpfpjpefgaaGreat.A
/- A text without what this claim does not need: S6. -/
set_option linter.unusedVariables false
set_option linter.unusedSimpArgs false
namespace Go.Proofs.YtoijnpfpjpefgaaGreat.A
open Go
def cellsAt (l:List Vr) (n:Int):Int:=match l[n.toNat]? with | some v=>v.cells | none=>0
def nodeOk (w:Int) (l:List Vr) (k:Int) (op n cp:Int) (na:Nat):Bool :=
 if op = 1 then (!(decide (n < 0) || (decide ((l.length:Int) ≤ n) || (decide (cp < 0) || decide (k ≤ cp)))) && decide ((na:Int) = if 1 < cellsAt l n then 1 else 0))
 else (!(!decide (cp = 0) || !decide ((na:Int) = argsOf op)) && (if op = 0 then isWord w n else decide (n = 0)))
theorem node_ca {w k op n cp:Int} {v va:Value} {l:List Vr} {rows:List (List Value)} {H:AH} (hw:H.n0 ≤ H.nx) (hv:Vars H v l) (hl:l.length < 2 ^ 60) (hr:Rows H 4 va rows) (hn:rows.length < 2 ^ 60) :
  Ca E O 135 [.int .i64 w,v,.int .i64 k,.agg #[.int .i64 op,.int .i64 n,.int .i64 cp,va]] H (fun x H'=>x = .bool (nodeOk w l k op n cp rows.length) ∧ Ext H H'):=by
 refine Ca.bodyK (F:=a135) rfl rfl rfl ?_
 obtain ⟨a1,c1,hva⟩:=hr.len
 obtain ⟨a2,c2,hvv⟩:=hv.len
 by_cases h1:op = 1
 ·subst h1
  have X0:=Ext.alloc H (.cells 4 [.int .i64 1,.int .i64 n,.int .i64 cp,va])
  have d0:(H.alloc (.cells 4 [.int .i64 1,.int .i64 n,.int .i64 cp,va])).ld ⟨H.nx,0,none⟩ = some (.int .i64 1):=ld_new hw rfl
  have d1:(H.alloc (.cells 4 [.int .i64 1,.int .i64 n,.int .i64 cp,va])).ld ⟨H.nx,1,none⟩ = some (.int .i64 n):=ld_new hw rfl
  have d2:(H.alloc (.cells 4 [.int .i64 1,.int .i64 n,.int .i64 cp,va])).ld ⟨H.nx,2,none⟩ = some (.int .i64 cp):=ld_new hw rfl
  have d3:(H.alloc (.cells 4 [.int .i64 1,.int .i64 n,.int .i64 cp,va])).ld ⟨H.nx,3,none⟩ = some va:=ld_new hw rfl
  generalize hH1:H.alloc (.cells 4 [.int .i64 1,.int .i64 n,.int .i64 cp,va]) = H1 at X0 d0 d1 d2 d3
  by_cases h2:n < 0
  ·simp -implicitDefEqProofs [a135,aop,hH1,d0,d1,d2,h2,nodeOk]
   exact X0
  by_cases h3:(l.length:Int) ≤ n
  ·simp -implicitDefEqProofs [a135,aop,hH1,d0,d1,d2,h2,h3,hvv,nodeOk]
   exact X0
  by_cases h4:cp < 0
  ·simp -implicitDefEqProofs [a135,aop,hH1,d0,d1,d2,h2,h3,h4,hvv,nodeOk]
   exact X0
  by_cases h5:k ≤ cp
  ·simp -implicitDefEqProofs [a135,aop,hH1,d0,d1,d2,h2,h3,h4,h5,hvv,nodeOk]
   exact X0
  obtain ⟨y,hy⟩:∃ y,l[n.toNat]? = some y:=⟨_,List.getElem?_eq_getElem (by omega)⟩
  obtain ⟨b,o,c',hv',_,_,_,hld⟩:=(hv.ext X0).at hy
  simp -implicitDefEqProofs [a135,aop,hH1,d0,d1,d2,h2,h3,h4,h5,hvv,nodeOk]
  refine Wk_regd _ _ ?_
  have n0':0 ≤ n:=by omega
  have n1':n < l.length:=by omega
  rw [← hvv,hv',hva] at *
  simp -implicitDefEqProofs [aop,d1,d3,n0',n1',hld]
  refine Wd_call ?_
  simp -implicitDefEqProofs
  have d3n:=ld_ldn.1 d3
  have hone:=One_ca (decide (1 < y.cells)) H1
  refine hone.mono ?_
  rintro x H2 ⟨rfl,rfl⟩
  simp -implicitDefEqProofs [aop,okD,chain,chk1,nth,AO.wanted,loadOf,sameAt,sameL,same1,d3n]
  have hc:cellsAt l n = y.cells:=by simp [cellsAt,hy]
  exact ⟨by rw [hc],X0⟩
 ·have X0:=Ext.alloc H (.cells 4 [.int .i64 op,.int .i64 n,.int .i64 cp,va])
  have d0:(H.alloc (.cells 4 [.int .i64 op,.int .i64 n,.int .i64 cp,va])).ld ⟨H.nx,0,none⟩ = some (.int .i64 op):=ld_new hw rfl
  have d1:(H.alloc (.cells 4 [.int .i64 op,.int .i64 n,.int .i64 cp,va])).ld ⟨H.nx,1,none⟩ = some (.int .i64 n):=ld_new hw rfl
  have d2:(H.alloc (.cells 4 [.int .i64 op,.int .i64 n,.int .i64 cp,va])).ld ⟨H.nx,2,none⟩ = some (.int .i64 cp):=ld_new hw rfl
  have d3:(H.alloc (.cells 4 [.int .i64 op,.int .i64 n,.int .i64 cp,va])).ld ⟨H.nx,3,none⟩ = some va:=ld_new hw rfl
  generalize hH1:H.alloc (.cells 4 [.int .i64 op,.int .i64 n,.int .i64 cp,va]) = H1 at X0 d0 d1 d2 d3
  have d3n:=ld_ldn.1 d3
  have d0n:=ld_ldn.1 d0
  simp -implicitDefEqProofs [a135,aop,hH1,d0,h1]
  refine Wk_regd _ _ ?_
  by_cases h2:cp = 0
  case neg =>
   simp -implicitDefEqProofs [aop,okD,chain,chk1,nth,AO.wanted,loadOf,sameAt,sameL,same1,d0,d1,d2,d3,d3n,d0n,h1,h2,nodeOk]
   exact X0
  rw [hva] at d3 d3n
  simp -implicitDefEqProofs [aop,d0,d1,d2,d3,h1,h2]
  refine Wd_call ?_
  simp -implicitDefEqProofs
  refine (args_ca op H1).mono ?_
  rintro x H2 ⟨rfl,rfl⟩
  by_cases h3:(rows.length:Int) = argsOf op
  case neg =>
   simp -implicitDefEqProofs [aop,okD,chain,chk1,nth,AO.wanted,loadOf,sameAt,sameL,same1,d0,d1,d2,d3,d3n,d0n,h1,h2,h3,nodeOk]
   exact X0
  simp -implicitDefEqProofs [aop,okD,chain,chk1,nth,AO.wanted,loadOf,sameAt,sameL,same1,d0,d1,d2,d3,d3n,d0n,h1,h2,h3]
  by_cases h4:op = 0
  case neg =>
   simp -implicitDefEqProofs [aop,d0,d1,h1,h2,h3,h4,nodeOk]
   exact X0
  simp -implicitDefEqProofs [aop,d0,d1,h4]
  refine Wr_call ?_
  simp -implicitDefEqProofs
  refine (Word_ca w n H2).mono ?_
  rintro x H3 ⟨rfl,rfl⟩
  rw [h4] at h3
  simp -implicitDefEqProofs [aop,nodeOk,h2,h3,h4]
  exact X0
mutual
def formE (w:Int) (l:List Vr) (k:Int):Exp → Bool
 | .mk op n cp args=>nodeOk w l k op n cp args.length && formL w l k args
def formL (w:Int) (l:List Vr) (k:Int):List Exp → Bool
 | []=>true
 | e :: es=>formE w l k e && formL w l k es
end
theorem formL_all {w:Int} {l:List Vr} {k:Int}:∀ {es:List Exp},formL w l k es = true ↔ ∀ e ∈ es,formE w l k e = true
 | []=>by simp [formL]
 | e :: es=>by simp [formL,formL_all (es:=es)]
theorem form_ca {w k:Int} {v:Value} {l:List Vr} (hl:l.length < 2 ^ 60):∀ (N:Nat) (e:Exp) (c:List Value) (H:AH),SizeOf.sizeOf e < N → H.n0 ≤ H.nx → Vars H v l → ExC H c e →
  Ca E O 127 [.int .i64 w,v,.int .i64 k,.agg c.toArray] H (fun x H'=>x = .bool (formE w l k e) ∧ Ext H H'):=by
 intro N
 induction N with
 | zero=>intro e c H h; omega
 | succ N ih =>
  intro e c H hN hw hv he
  cases he with | @mk op n cp va rows args i1 i2 i3 hlen hr hll =>
  refine Ca.bodyK (F:=a127) rfl rfl rfl ?_
  have X0:=Ext.alloc H (.cells 4 [.int .i64 op,.int .i64 n,.int .i64 cp,va])
  have d3:(H.alloc (.cells 4 [.int .i64 op,.int .i64 n,.int .i64 cp,va])).ld ⟨H.nx,3,none⟩ = some va:=ld_new hw rfl
  have d:=ld_box hw (z:=4) (c:=[.int .i64 op,.int .i64 n,.int .i64 cp,va]) 4 rfl
  generalize hH1:H.alloc (.cells 4 [.int .i64 op,.int .i64 n,.int .i64 cp,va]) = H1 at X0 d3 d
  simp -implicitDefEqProofs [a127,aop,hH1,d]
  refine Wr_call ?_
  simp -implicitDefEqProofs
  have hrl:=hll.length
  refine (node_ca (w:=w) (k:=k) (op:=op) (n:=n) (cp:=cp) (X0.wf hw) (hv.ext X0) hl (hr.ext X0) (by omega)).mono ?_
  rintro x H2 ⟨rfl,X2⟩
  rw [hrl]
  cases h1:nodeOk w l k op n cp args.length with
  | false =>
   simp -implicitDefEqProofs [aop,h1,formE]
   exact X0.trans X2
  | true =>
   simp -implicitDefEqProofs [aop,h1]
   obtain ⟨a0,c0,hva⟩:=hr.len
   rw [hrl] at hva
   refine Wk_loop (fun j fr H'=>Ext H2 H' ∧ ∃ i:Nat,i + j = args.length ∧ fr.get 0 = .int .i64 w ∧ fr.get 1 = v ∧ fr.get 2 = .int .i64 k ∧ fr.get 7 = .pointer (some ⟨H.nx,0,none⟩) ∧ fr.get 9 = .int .i64 i ∧ ∀ e ∈ args.take i,formE w l k e = true) ?_ args.length ⟨Ext.refl _,0,by simp,by simp,by simp,by simp,by simp,by simp,by simp⟩
   rintro j fr H3 ⟨X3,i,hi,f0,f1,f2,f7,f9,hall⟩
   have X:=X0.trans (X2.trans X3)
   have dd:=(X2.trans X3).ld d3
   have hw2:=X.wf hw
   by_cases h:i < args.length
   ·obtain ⟨y,hy⟩:∃ y,args[i]? = some y:=⟨_,List.getElem?_eq_getElem h⟩
    obtain ⟨r,hr1,hey⟩:=hll.at hy
    obtain ⟨b,o,c',hv',hldn⟩:=(hr.ext X).at hr1
    rw [hrl] at hv'
    rw [hv'] at dd
    simp -implicitDefEqProofs [aop,f0,f1,f2,f7,f9,dd,h,hldn]
    refine Wr_call ?_
    simp -implicitDefEqProofs [f0,f1,f2]
    have hs:=size_arg (op:=op) (n:=n) (cp:=cp) hy
    refine (ih y r H3 (by omega) hw2 (hv.ext X) (hey.ext X)).mono ?_
    rintro x H4 ⟨rfl,X4⟩
    cases h2:formE w l k y with
    | true =>
     simp -implicitDefEqProofs [aop,f0,f1,f2,f7,f9,h2]
     rw [wrap_in (n:=(i:Int) + 1) ⟨by omega,by omega⟩]
     refine ⟨j - 1,by omega,X3.trans X4,i + 1,by omega,by simp,fun z hz=>?_⟩
     rw [List.take_add_one,hy] at hz
     rcases List.mem_append.1 hz with hz | hz
     ·exact hall z hz
     ·simp at hz; subst hz; exact h2
    | false =>
     simp -implicitDefEqProofs [aop,f0,f1,f2,f7,f9,h2]
     refine ⟨?_,X.trans X4⟩
     have:formL w l k args = false:=by
      rw [Bool.eq_false_iff]
      intro e
      have:=formL_all.1 e y (List.mem_of_getElem? hy)
      rw [h2] at this
      cases this
     rw [formE,this,Bool.and_false]
   ·rw [hva] at dd
    simp -implicitDefEqProofs [aop,f7,f9,dd,h]
    rw [List.take_of_length_le (by omega)] at hall
    refine ⟨?_,X⟩
    rw [formE,h1,formL_all.2 hall]
    rfl
def isExp (w:Int) (l:List Vr) (k:Int) (e:Exp):Bool:=decide (nodesE e ≤ 400) && (decide (depthE e ≤ 16) && formE w l k e)
theorem Is_ca {w k:Int} {v:Value} {l:List Vr} (hl:l.length < 2 ^ 60) {e:Exp} {c:List Value} {H:AH} (hw:H.n0 ≤ H.nx) (hv:Vars H v l) (he:ExC H c e) :
  Ca E O 108 [.int .i64 w,v,.int .i64 k,.agg c.toArray] H (fun x H'=>x = .bool (isExp w l k e) ∧ Ext H H'):=by
 refine Ca.bodyK (F:=a108) rfl rfl rfl ?_
 have hc:c.length = 4:=by cases he; rfl
 have X0:=Ext.alloc H (.cells c.length c)
 have d:=ld_box hw (z:=c.length) (c:=c) 4 hc
 generalize hH1:H.alloc (.cells c.length c) = H1 at X0 d
 simp -implicitDefEqProofs [a108,aop,hH1,d]
 refine Wr_call ?_
 simp -implicitDefEqProofs
 refine (Fits_ca (X0.wf hw) (he.ext X0) (by omega)).mono ?_
 rintro x H2 ⟨rfl,X2⟩
 by_cases h1:nodesE e ≤ 400
 case neg =>
  simp -implicitDefEqProofs [aop,h1,isExp]
  exact X0.trans X2
 have dd:=X2.ldn d
 simp -implicitDefEqProofs [aop,h1,dd]
 refine Wr_call ?_
 simp -implicitDefEqProofs
 refine (Depth_ca _ e c H2 (Nat.lt_succ_self _) ((X0.trans X2).wf hw) (he.ext (X0.trans X2)) (by omega)).mono ?_
 rintro x H3 ⟨rfl,X3⟩
 have X03:=X0.trans (X2.trans X3)
 by_cases h2:depthE e ≤ 16
 case neg =>
  simp -implicitDefEqProofs [aop,h1,h2,isExp]
  exact X03
 have ddd:=X3.ldn dd
 simp -implicitDefEqProofs [aop,h1,h2,ddd]
 refine Wr_call ?_
 simp -implicitDefEqProofs
 refine (form_ca hl _ e c H3 (Nat.lt_succ_self _) (X03.wf hw) (hv.ext X03) (he.ext X03)).mono ?_
 rintro x H4 ⟨rfl,X4⟩
 simp -implicitDefEqProofs [aop,h1,h2,isExp]
 exact X03.trans X4
end Go.Proofs.YtoijnpfpjpefgaaGreat.A
/- A text without what this claim does not need: S7. -/
set_option linter.unusedVariables false
set_option linter.unusedSimpArgs false
namespace Go.Proofs.YtoijnpfpjpefgaaGreat.A
open Go
inductive Stm where
 | mk (op n:Int) (args:List Exp) (thn els:List Stm)
mutual
inductive StC (H:AH):List Value → Stm → Prop where
 | mk {op n:Int} {va vt ve:Value} {ra rt re:List (List Value)} {args:List Exp} {thn els:List Stm}:I64 op → I64 n → args.length < 2 ^ 60 → thn.length < 2 ^ 60 → els.length < 2 ^ 60 →
   Rows H 4 va ra → ExL H ra args → Rows H 5 vt rt → StL H rt thn → Rows H 5 ve re → StL H re els → StC H [.int .i64 op,.int .i64 n,va,vt,ve] (.mk op n args thn els)
inductive StL (H:AH):List (List Value) → List Stm → Prop where
 | nil:StL H [] []
 | cons {r:List Value} {e:Stm} {rs:List (List Value)} {es:List Stm}:StC H r e → StL H rs es → StL H (r :: rs) (e :: es)
end
mutual
theorem StC.ext {H H':AH} (E:Ext H H') {c:List Value} {e:Stm}:StC H c e → StC H' c e
 | .mk a b c d e ra la rt lt re le=>.mk a b c d e (ra.ext E) (ExL.ext E la) (rt.ext E) (StL.ext E lt) (re.ext E) (StL.ext E le)
theorem StL.ext {H H':AH} (E:Ext H H') {c:List (List Value)} {e:List Stm}:StL H c e → StL H' c e
 | .nil=>.nil
 | .cons a b=>.cons (StC.ext E a) (StL.ext E b)
end
theorem StL.length {H:AH}:∀ {c:List (List Value)} {e:List Stm},StL H c e → c.length = e.length
 | _,_,.nil=>rfl
 | _,_,.cons _ b=>by simp [StL.length b]
theorem StL.at {H:AH}:∀ {c:List (List Value)} {e:List Stm} {i:Nat} {x:Stm},StL H c e → e[i]? = some x → ∃ r,c[i]? = some r ∧ StC H r x
 | _,_,i,x,.nil,h=>by simp at h
 | _,_,0,x,.cons a b,h=>by simp at h; subst h; exact ⟨_,rfl,a⟩
 | _,_,i + 1,x,.cons a b,h=>by obtain ⟨r,h1,h2⟩:=StL.at b (by simpa using h); exact ⟨r,by simpa using h1,h2⟩
theorem size_thn {l:List Stm} {i:Nat} {op n:Int} {args:List Exp} {thn els:List Stm} (h:l[i]? = some (.mk op n args thn els)):SizeOf.sizeOf thn < SizeOf.sizeOf l ∧ SizeOf.sizeOf els < SizeOf.sizeOf l:=by
 have:=List.sizeOf_lt_of_mem (List.mem_of_getElem? h)
 simp at this
 omega
mutual
def leftSt:Stm → Int → Int
 | .mk _ _ args thn els,m=>leftSts els (leftSts thn (leftL args (m - 1)))
def leftSts:List Stm → Int → Int
 | [],m=>m
 | s :: ss,m=>if 0 < m then leftSts ss (leftSt s m) else m
end
theorem StL.row {H:AH} {v:Value} {rows:List (List Value)} {l:List Stm} (hr:Rows H 5 v rows) (hl:StL H rows l) {i:Nat} {op n:Int} {args:List Exp} {thn els:List Stm} (hy:l[i]? = some (.mk op n args thn els)) :
  ∃ b o c va vt ve ra rt re,v = .slice (some ⟨b,o,none⟩) l.length c ∧ H.ldn ⟨b,o + i * 5,none⟩ 5 = some [.int .i64 op,.int .i64 n,va,vt,ve] ∧
   H.ld ⟨b,o + i * 5,none⟩ = some (.int .i64 op) ∧ H.ld ⟨b,o + i * 5 + 1,none⟩ = some (.int .i64 n) ∧ H.ld ⟨b,o + i * 5 + 2,none⟩ = some va ∧ H.ld ⟨b,o + i * 5 + 3,none⟩ = some vt ∧ H.ld ⟨b,o + i * 5 + 4,none⟩ = some ve ∧
   I64 op ∧ I64 n ∧ args.length < 2 ^ 60 ∧ thn.length < 2 ^ 60 ∧ els.length < 2 ^ 60 ∧ Rows H 4 va ra ∧ ExL H ra args ∧ Rows H 5 vt rt ∧ StL H rt thn ∧ Rows H 5 ve re ∧ StL H re els:=by
 obtain ⟨r,hr1,hc⟩:=hl.at hy
 obtain ⟨b,o,c,hv,hldn⟩:=hr.at hr1
 rw [hl.length] at hv
 cases hc with | @mk _ _ va vt ve ra rt re _ _ _ i1 i2 i3 i4 i5 h1 h2 h3 h4 h5 h6 =>
 exact ⟨b,o,c,va,vt,ve,ra,rt,re,hv,hldn,by simpa using ld_of_ldn hldn (j:=0) rfl,ld_of_ldn hldn (j:=1) rfl,ld_of_ldn hldn (j:=2) rfl,ld_of_ldn hldn (j:=3) rfl,ld_of_ldn hldn (j:=4) rfl,i1,i2,i3,i4,i5,h1,h2,h3,h4,h5,h6⟩
end Go.Proofs.YtoijnpfpjpefgaaGreat.A
/- A text without what this claim does not need: S8. -/
set_option linter.unusedVariables false
set_option linter.unusedSimpArgs false
namespace Go.Proofs.YtoijnpfpjpefgaaGreat.A
open Go
theorem leftSts_step {l:List Stm} {i:Nat} {s:Stm} (h:l[i]? = some s) (m:Int) (hm:0 < m):leftSts (l.drop i) m = leftSts (l.drop (i + 1)) (leftSt s m):=by
 obtain ⟨hlt,e⟩:=List.getElem?_eq_some_iff.1 h
 rw [List.drop_eq_getElem_cons hlt,leftSts,if_pos hm,e]
theorem leftL_step {l:List Exp} {i:Nat} {s:Exp} (h:l[i]? = some s) (m:Int):leftL (l.drop i) m = leftL (l.drop (i + 1)) (leftE s m):=by
 obtain ⟨hlt,e⟩:=List.getElem?_eq_some_iff.1 h
 rw [List.drop_eq_getElem_cons hlt,leftL,e]
theorem left_ca:∀ (N:Nat) (l:List Stm) (v:Value) (rows:List (List Value)) (H:AH) (m:Int),SizeOf.sizeOf l < N → H.n0 ≤ H.nx → l.length < 2 ^ 60 → Rows H 5 v rows → StL H rows l → 0 ≤ m → m ≤ 1000001 →
  Ca E O 36 [v,.int .i64 m] H (fun x H'=>(x = .int .i64 (leftSts l m) ∧ Ext H H') ∧ 0 ≤ leftSts l m ∧ leftSts l m ≤ m):=by
 intro N
 induction N with
 | zero=>intro l v rows H m h; omega
 | succ N ih =>
  intro l v rows H m hN hw hlen hr hl hm0 hm1
  refine Ca.bodyK (F:=a36) rfl rfl rfl ?_
  obtain ⟨a0,c0,hv⟩:=hr.len
  rw [hl.length] at hv
  simp -implicitDefEqProofs [a36,aop]
  refine Wk_loop (fun k fr H'=>Ext H H' ∧ ∃ (i:Nat) (cur:Int),i + k = l.length ∧ fr.get 0 = v ∧ fr.get 5 = .int .i64 i ∧ fr.get 1 = .int .i64 cur ∧ 0 ≤ cur ∧ cur ≤ m ∧ leftSts l m = leftSts (l.drop i) cur) ?_ l.length ⟨Ext.refl _,0,m,by simp,by simp,by simp,by simp,hm0,Int.le_refl _,by simp⟩
  rintro k fr H1 ⟨X1,i,cur,hi,f0,f5,f1,b0,b1,hcur⟩
  have fin:∀ q:Prop,(leftSts l m = cur → q) → (leftSts (l.drop i) cur = cur) → q:=fun q h1 h2=>h1 (hcur.trans h2)
  by_cases h:i < l.length
  ·by_cases hp:0 < cur
   ·obtain ⟨⟨op,n,args,thn,els⟩,hy⟩:∃ y,l[i]? = some y:=⟨_,List.getElem?_eq_getElem h⟩
    have hs:=size_thn hy
    obtain ⟨b,o,c,va,vt,ve,ra,rt,re,hv',_,_,_,e2,e3,e4,i1,i2,i3,i4,i5,g1,g2,g3,g4,g5,g6⟩:=StL.row (hr.ext X1) (hl.ext X1) hy
    obtain ⟨a3,c3,hva⟩:=g1.len
    rw [g2.length] at hva
    have f0v:=f0
    rw [hv'] at f0
    simp -implicitDefEqProofs [aop,f0,f5,f1,h,hp]
    rw [wrap_in (n:=cur - 1) ⟨by omega,by omega⟩]
    refine Wk_loop (fun k2 fr2 H2=>Ext H1 H2 ∧ ∃ (j:Nat) (cu:Int),j + k2 = args.length ∧ fr2.get 0 = .slice (some ⟨b,o,none⟩) l.length c ∧ fr2.get 5 = .int .i64 i ∧ fr2.get 1 = .int .i64 cu ∧ fr2.get 6 = .int .i64 j ∧ 0 ≤ cu ∧ cu ≤ cur - 1 ∧ leftL args (cur - 1) = leftL (args.drop j) cu) ?_ args.length ⟨Ext.refl _,0,cur - 1,by simp,by simp [f0],by simp [f5],by simp,by simp,by omega,by omega,by simp⟩
    rintro k2 fr2 H2 ⟨X2,j,cu,hj,p0,p5,p1,p6,q0,q1,hcu⟩
    have e2':=X2.ld e2
    have e3':=X2.ld e3
    have e4':=X2.ld e4
    have hw2:=(X1.trans X2).wf hw
    by_cases h2:j < args.length
    ·obtain ⟨y,hy2⟩:∃ y,args[j]? = some y:=⟨_,List.getElem?_eq_getElem h2⟩
     obtain ⟨r,hr1,hey⟩:=g2.at hy2
     obtain ⟨b2,o2,c2,hv2,hldn⟩:=(g1.ext X2).at hr1
     rw [g2.length] at hv2
     rw [hv2] at e2'
     simp -implicitDefEqProofs [aop,p0,p5,p1,p6,h,h2,e2',hldn]
     refine Wr_call ?_
     simp -implicitDefEqProofs [p1]
     refine (Left_ca _ y r H2 cu (Nat.lt_succ_self _) hw2 (hey.ext X2) ⟨by omega,by omega⟩).mono ?_
     rintro x H3 ⟨rfl,X3⟩
     have hle:=leftE_le _ y cu (Nat.lt_succ_self _)
     simp -implicitDefEqProofs [aop,p0,p5,p1,p6]
     rw [wrap_in (n:=(j:Int) + 1) ⟨by omega,by omega⟩]
     refine ⟨k2 - 1,by omega,X2.trans X3,j + 1,by omega,by simp,by omega,by omega,?_⟩
     rw [hcu,leftL_step hy2]
    ·rw [hva] at e2'
     have hj':j = args.length:=by omega
     rw [hj',List.drop_length,leftL] at hcu
     simp -implicitDefEqProofs [aop,p0,p5,p1,p6,h,h2,e2',e3',e4']
     refine Wr_call ?_
     simp -implicitDefEqProofs [p1]
     refine (ih thn vt rt H2 cu (by omega) hw2 i4 (g3.ext X2) (g4.ext X2) q0 (by omega)).mono ?_
     rintro x H3 ⟨⟨rfl,X3⟩,r0,r1⟩
     have e4'':=X3.ld e4'
     simp -implicitDefEqProofs [aop,p0,p5,p1,p6,h,e4'']
     refine Wr_call ?_
     simp -implicitDefEqProofs
     refine (ih els ve re H3 _ (by omega) (X3.wf hw2) i5 (g5.ext (X2.trans X3)) (g6.ext (X2.trans X3)) r0 (by omega)).mono ?_
     rintro x H4 ⟨⟨rfl,X4⟩,s0,s1⟩
     simp -implicitDefEqProofs [aop,p0,p5,p1,p6]
     rw [wrap_in (n:=(i:Int) + 1) ⟨by omega,by omega⟩]
     refine ⟨k - 1,by omega,X1.trans (X2.trans (X3.trans X4)),i + 1,by omega,hv'.symm,by simp,s0,by omega,?_⟩
     rw [hcur,leftSts_step hy cur hp,leftSt,hcu]
   ·have hv2:=hv
    rw [hv] at f0
    simp -implicitDefEqProofs [aop,f0,f5,f1,h,hp]
    have hc0:leftSts (l.drop i) cur = cur:=by
     rw [List.drop_eq_getElem_cons h,leftSts,if_neg hp]
    exact ⟨⟨(hcur.trans hc0).symm,X1⟩,by rw [hcur,hc0]; exact b0,by rw [hcur,hc0]; exact b1⟩
  ·rw [hv] at f0
   simp -implicitDefEqProofs [aop,f0,f5,f1,h]
   have hc0:leftSts (l.drop i) cur = cur:=by
    rw [List.drop_of_length_le (by omega),leftSts]
   exact ⟨⟨(hcur.trans hc0).symm,X1⟩,by rw [hcur,hc0]; exact b0,by rw [hcur,hc0]; exact b1⟩
end Go.Proofs.YtoijnpfpjpefgaaGreat.A
/- A text without what this claim does not need: S9. -/
set_option linter.unusedVariables false
set_option linter.unusedSimpArgs false
namespace Go.Proofs.YtoijnpfpjpefgaaGreat.A
open Go
mutual
def nodesSt:Stm → Int
 | .mk _ _ args thn els=>1 + nodesL args + nodesS thn + nodesS els
def nodesS:List Stm → Int
 | []=>0
 | s :: ss=>nodesSt s + nodesS ss
end
theorem stm_rec {M:List Stm → Prop} (h:∀ l,(∀ op n args thn els,.mk op n args thn els ∈ l → M thn ∧ M els) → M l):∀ l,M l:=by
 have key:∀ (N:Nat) (l:List Stm),SizeOf.sizeOf l < N → M l:=by
  intro N
  induction N with
  | zero=>intro l h; omega
  | succ N ih =>
   intro l hl
   refine h l fun op n args thn els hm=>?_
   have:=List.sizeOf_lt_of_mem hm
   simp at this
   exact ⟨ih thn (by omega),ih els (by omega)⟩
 exact fun l=>key _ l (Nat.lt_succ_self _)
theorem leftL_eq (l:List Exp) (k:Int) (hk:0 ≤ k):leftL l k = max (k - nodesL l) 0:=by
 induction l generalizing k with
 | nil=>rw [leftL,nodesL]; omega
 | cons x l ihl =>
  rw [leftL,nodesL,leftE_eq,ihl _ (by omega)]
  have:=nodesL_pos l
  omega
theorem leftSts_eq:∀ l,0 ≤ nodesS l ∧ ∀ m,0 ≤ m → leftSts l m = max (m - nodesS l) 0:=stm_rec fun l ih=>by
 induction l with
 | nil=>exact ⟨by rw [nodesS]; omega,fun m hm=>by rw [leftSts,nodesS]; omega⟩
 | cons s ss ihl =>
  obtain ⟨op,n,args,thn,els⟩:=s
  obtain ⟨⟨t0,t1⟩,⟨u0,u1⟩⟩:=ih op n args thn els (by simp)
  obtain ⟨v0,v1⟩:=ihl fun op n args thn els h=>ih op n args thn els (by simp [h])
  have a0:=nodesL_pos args
  refine ⟨by rw [nodesS,nodesSt]; omega,fun m hm=>?_⟩
  rw [leftSts,nodesS,nodesSt]
  split
  ·rw [leftSt,leftL_eq _ _ (by omega),t1 _ (by omega),u1 _ (by omega),v1 _ (by omega)]
   omega
  ·omega
theorem PFits_ca {l:List Stm} {v:Value} {rows:List (List Value)} {H:AH} {m:Int} (hw:H.n0 ≤ H.nx) (hlen:l.length < 2 ^ 60) (hr:Rows H 5 v rows) (hl:StL H rows l) (hm:0 ≤ m ∧ m ≤ 1000000) :
  Ca E O 11 [v,.int .i64 m] H (fun x H'=>x = .bool (decide (nodesS l ≤ m)) ∧ Ext H H'):=by
 refine Ca.bodyK (F:=a11) rfl rfl rfl ?_
 simp -implicitDefEqProofs [a11,aop]
 refine Wr_call ?_
 rw [wrap_in ⟨by omega,by omega⟩]
 simp -implicitDefEqProofs
 refine (left_ca _ l v rows H (m + 1) (Nat.lt_succ_self _) hw hlen hr hl (by omega) (by omega)).mono ?_
 rintro x H2 ⟨⟨rfl,X2⟩,_⟩
 simp -implicitDefEqProofs [aop]
 refine ⟨?_,X2⟩
 rw [(leftSts_eq l).2 _ (by omega)]
 have:=(leftSts_eq l).1
 omega
def varOk (l:List Vr) (n:Int) (na:Nat) (more:Int):Bool:=decide (0 ≤ n) && (decide (n < l.length) && decide ((na:Int) = more + if 1 < cellsAt l n then 1 else 0))
theorem variable_ca {n more:Int} {v v0 va vt ve:Value} {l:List Vr} {rows:List (List Value)} {H:AH} (hw:H.n0 ≤ H.nx) (hv:Vars H v l) (hl:l.length < 2 ^ 60) (hr:Rows H 4 va rows) (hn:rows.length < 2 ^ 60) (hmore:0 ≤ more ∧ more ≤ 1) :
  Ca E O 124 [v,.agg #[v0,.int .i64 n,va,vt,ve],.int .i64 more] H (fun x H'=>x = .bool (varOk l n rows.length more) ∧ Ext H H'):=by
 refine Ca.bodyK (F:=a124) rfl rfl rfl ?_
 have X0:=Ext.alloc H (.cells 5 [v0,.int .i64 n,va,vt,ve])
 have d1:(H.alloc (.cells 5 [v0,.int .i64 n,va,vt,ve])).ld ⟨H.nx,1,none⟩ = some (.int .i64 n):=ld_new hw rfl
 have d2:(H.alloc (.cells 5 [v0,.int .i64 n,va,vt,ve])).ld ⟨H.nx,2,none⟩ = some va:=ld_new hw rfl
 generalize hH1:H.alloc (.cells 5 [v0,.int .i64 n,va,vt,ve]) = H1 at X0 d1 d2
 obtain ⟨a1,c1,hva⟩:=hr.len
 obtain ⟨a2,c2,hvv⟩:=hv.len
 have d1n:=ld_ldn.1 d1
 have d2n:=ld_ldn.1 d2
 simp -implicitDefEqProofs [a124,aop,hH1]
 refine Wk_regd _ _ ?_
 by_cases h2:0 ≤ n
 case neg =>
  simp -implicitDefEqProofs [aop,okD,chain,chk1,nth,AO.wanted,loadOf,sameAt,sameL,same1,d1,d1n,d2n,h2,varOk]
  exact X0
 by_cases h3:n < l.length
 case neg =>
  simp -implicitDefEqProofs [aop,okD,chain,chk1,nth,AO.wanted,loadOf,sameAt,sameL,same1,d1,d1n,d2n,h2,h3,hvv,varOk]
  exact X0
 obtain ⟨y,hy⟩:∃ y,l[n.toNat]? = some y:=⟨_,List.getElem?_eq_getElem (by omega)⟩
 obtain ⟨b,o,c',hv',_,_,_,hld⟩:=(hv.ext X0).at hy
 have hc:cellsAt l n = y.cells:=by simp [cellsAt,hy]
 rw [hva] at d2 d2n
 rw [hv']
 simp -implicitDefEqProofs [aop,d1,d2,hld,h2,h3]
 refine Wd_call ?_
 simp -implicitDefEqProofs
 refine (One_ca (decide (1 < y.cells)) H1).mono ?_
 rintro x H2 ⟨rfl,rfl⟩
 simp -implicitDefEqProofs [aop,okD,chain,chk1,nth,AO.wanted,loadOf,sameAt,sameL,same1,d1,d2,d1n,d2n,hld,h2,h3,varOk,hc]
 refine ⟨?_,X0⟩
 rw [wrap_in (by unfold I64; split <;> omega)]
end Go.Proofs.YtoijnpfpjpefgaaGreat.A
/- A text without what this claim does not need: S10. -/
set_option linter.unusedVariables false
set_option linter.unusedSimpArgs false
namespace Go.Proofs.YtoijnpfpjpefgaaGreat.A
open Go
mutual
def depthSt:Stm → Int → Int
 | .mk _ _ _ thn els,n=>max (max n (1 + depthS thn 0)) (1 + depthS els 0)
def depthS:List Stm → Int → Int
 | [],n=>n
 | s :: ss,n=>depthS ss (depthSt s n)
end
theorem depthS_foldl:∀ (l:List Stm) (n:Int),depthS l n = l.foldl (fun n e=>depthSt e n) n
 | [],n=>rfl
 | e :: es,n=>by simp [depthS,depthS_foldl es]
theorem depthS_bound:∀ l,∀ k,0 ≤ k → k ≤ depthS l k ∧ depthS l k ≤ max k (nodesS l):=stm_rec fun l ih=>by
 induction l with
 | nil=>intro k hk; rw [depthS,nodesS]; omega
 | cons s ss ihl =>
  obtain ⟨op,n,args,thn,els⟩:=s
  intro k hk
  obtain ⟨t,u⟩:=ih op n args thn els (by simp)
  have t:=t 0 (by omega)
  have u:=u 0 (by omega)
  have t2:=(leftSts_eq thn).1
  have u2:=(leftSts_eq els).1
  have v2:=(leftSts_eq ss).1
  have a0:=nodesL_pos args
  rw [depthS,nodesS,nodesSt,depthSt]
  have w:=ihl (fun op n args thn els h=>ih op n args thn els (by simp [h])) (max (max k (1 + depthS thn 0)) (1 + depthS els 0)) (by omega)
  omega
theorem nodesS_mem {l:List Stm} {op n:Int} {args:List Exp} {thn els:List Stm} (h:Stm.mk op n args thn els ∈ l):1 + nodesS thn ≤ nodesS l ∧ 1 + nodesS els ≤ nodesS l ∧ 1 + nodesL args ≤ nodesS l:=by
 induction l with
 | nil=>cases h
 | cons s ss ih =>
  rw [nodesS]
  have v2:=(leftSts_eq ss).1
  rcases List.mem_cons.1 h with h | h
  ·rw [← h,nodesSt]
   have t2:=(leftSts_eq thn).1
   have u2:=(leftSts_eq els).1
   have a0:=nodesL_pos args
   omega
  ·have:=ih h
   obtain ⟨op',n',args',thn',els'⟩:=s
   rw [nodesSt]
   have t2:=(leftSts_eq thn').1
   have u2:=(leftSts_eq els').1
   have a0:=nodesL_pos args'
   omega
theorem PDepth_ca:∀ (N:Nat) (l:List Stm) (v:Value) (rows:List (List Value)) (H:AH),SizeOf.sizeOf l < N → H.n0 ≤ H.nx → l.length < 2 ^ 60 → Rows H 5 v rows → StL H rows l → nodesS l < 2 ^ 60 →
  Ca E O 80 [v] H (fun x H'=>x = .int .i64 (depthS l 0) ∧ Ext H H'):=by
 intro N
 induction N with
 | zero=>intro l v rows H h; omega
 | succ N ih =>
  intro l v rows H hN hw hlen hr hl hm
  refine Ca.bodyK (F:=a80) rfl rfl rfl ?_
  obtain ⟨a0,c0,hv⟩:=hr.len
  rw [hl.length] at hv
  simp -implicitDefEqProofs [a80,aop]
  refine Wk_loop (fun k fr H'=>Ext H H' ∧ ∃ i:Nat,i + k = l.length ∧ fr.get 0 = v ∧ fr.get 4 = .int .i64 i ∧ fr.get 3 = .int .i64 (depthS (l.take i) 0)) ?_ l.length ⟨Ext.refl _,0,by simp,by simp,by simp,by simp [depthS]⟩
  rintro k fr H1 ⟨X1,i,hi,f0,f4,f3⟩
  by_cases h:i < l.length
  ·obtain ⟨⟨op,n,args,thn,els⟩,hy⟩:∃ y,l[i]? = some y:=⟨_,List.getElem?_eq_getElem h⟩
   have hs:=size_thn hy
   have hn:=nodesS_mem (List.mem_of_getElem? hy)
   obtain ⟨b,o,c,va,vt,ve,ra,rt,re,hv',_,_,_,e2,e3,e4,i1,i2,i3,i4,i5,g1,g2,g3,g4,g5,g6⟩:=StL.row (hr.ext X1) (hl.ext X1) hy
   obtain ⟨a4,c4,hve⟩:=g5.len
   have hw1:=X1.wf hw
   rw [hv'] at f0
   simp -implicitDefEqProofs [aop,f0,f4,f3,h]
   refine Wk_regd _ _ ?_
   simp -implicitDefEqProofs [aop,f0,f4,f3,h,e3,e4]
   refine Wd_call ?_
   simp -implicitDefEqProofs
   refine (ih thn vt rt H1 (by omega) hw1 i4 g3 g4 (by omega)).mono ?_
   rintro x H2 ⟨rfl,X2⟩
   have bt:=depthS_bound thn 0 (by omega)
   have be:=depthS_bound els 0 (by omega)
   simp -implicitDefEqProofs [aop]
   rw [wrap_in (n:=1 + depthS thn 0) ⟨by omega,by omega⟩]
   refine Wd_call ?_
   simp -implicitDefEqProofs
   refine (ih els ve re H2 (by omega) (X2.wf hw1) i5 (g5.ext X2) (g6.ext X2) (by omega)).mono ?_
   rintro x H3 ⟨rfl,X3⟩
   have e4n:=ld_ldn.1 e4
   have e4n2:=X2.ldn e4n
   rw [hve] at e4n e4n2
   simp -implicitDefEqProofs [aop,mxA,okD,chain,chk1,nth,AO.wanted,loadOf,sameAt,sameL,same1,e4n,e4n2,X2.n0,X3.n0,X2.nx,X3.nx,f0,f4]
   rw [wrap_in (n:=1 + depthS els 0) ⟨by omega,by omega⟩,wrap_in (n:=(i:Int) + 1) ⟨by omega,by omega⟩]
   have e5:depthS (l.take (i + 1)) 0 = max (max (depthS (l.take i) 0) (1 + depthS thn 0)) (1 + depthS els 0):=by
    rw [List.take_add_one,hy]
    simp [depthS_foldl,List.foldl_append,depthSt]
   refine ⟨k - 1,by omega,X1.trans (X2.trans X3),i + 1,by omega,hv'.symm,by simp,?_⟩
   rw [e5]
   split <;> split <;> omega
  ·rw [hv] at f0
   simp -implicitDefEqProofs [aop,f0,f4,f3,h]
   rw [List.take_of_length_le (by omega)]
   exact ⟨rfl,X1⟩
end Go.Proofs.YtoijnpfpjpefgaaGreat.A
/- A text without what this claim does not need: S11. -/
set_option linter.unusedVariables false
set_option linter.unusedSimpArgs false
namespace Go.Proofs.YtoijnpfpjpefgaaGreat.A
open Go
def headOk (l:List Vr) (op n:Int) (na nt ne:Nat):Bool :=
 if op = 0 then (decide (nt = 0) && decide (ne = 0)) && varOk l n na 1
 else if op = 1 then decide (n = 0) && decide (na = 1)
 else if op = 2 then decide (n = 0) && (decide (na = 1) && decide (ne = 0))
 else if op = 3 then (decide (nt = 0) && decide (ne = 0)) && (decide (0 ≤ n) && (decide (n ≤ 47) && decide (na = 1)))
 else if op = 4 then (decide (nt = 0) && decide (ne = 0)) && varOk l n na 0
 else if op = 5 ∨ op = 6 then (decide (nt = 0) && decide (ne = 0)) && (decide (n = 0) && decide (na = 1))
 else false
def head_rest:AC:=match a107.body with | .seq _ (.seq _ r)=>r | c=>c
theorem head_split:a107.body = .seq (.reg [o 3 (.box (.t 1)),o 4 (.mv (.k (.bool false)))]) (.seq (.reg [o 6 (.fa 3 (.t 3)),o 7 (.ld (.t 6)),o 8 (.lenl (.t 7)),o 9 (.bin .eql (.t 8) (i 0)),o 10 (.mv (.t 9)),og 10 true 11 (.fa 4 (.t 3)),og 10 true 12 (.ld (.t 11)),og 10 true 13 (.lenl (.t 12)),og 10 true 14 (.bin .eql (.t 13) (i 0)),o 15 (.pick (.t 10) (.t 14) (.k (.bool false))),o 5 (.mv (.t 15))]) head_rest):=rfl
theorem natlen (n:Nat):((n:Int) = 0) = (n = 0):=by apply propext; omega
theorem natlen1 (n:Nat):((n:Int) = 1) = (n = 1):=by apply propext; omega
theorem head_ca {op n:Int} {v va vt ve:Value} {l:List Vr} {ra rt re:List (List Value)} {H:AH} (hw:H.n0 ≤ H.nx) (hv:Vars H v l) (hl:l.length < 2 ^ 60) (ha:Rows H 4 va ra) (ht:Rows H 5 vt rt) (he:Rows H 5 ve re) (hn:ra.length < 2 ^ 60) :
  Ca E O 107 [v,.agg #[.int .i64 op,.int .i64 n,va,vt,ve]] H (fun x H'=>x = .bool (headOk l op n ra.length rt.length re.length) ∧ Ext H H'):=by
 refine Ca.bodyK (F:=a107) rfl rfl rfl ?_
 have X0:=Ext.alloc H (.cells 5 [.int .i64 op,.int .i64 n,va,vt,ve])
 have d0:(H.alloc (.cells 5 [.int .i64 op,.int .i64 n,va,vt,ve])).ld ⟨H.nx,0,none⟩ = some (.int .i64 op):=ld_new hw rfl
 have d1:(H.alloc (.cells 5 [.int .i64 op,.int .i64 n,va,vt,ve])).ld ⟨H.nx,1,none⟩ = some (.int .i64 n):=ld_new hw rfl
 have d2:(H.alloc (.cells 5 [.int .i64 op,.int .i64 n,va,vt,ve])).ld ⟨H.nx,2,none⟩ = some va:=ld_new hw rfl
 have d3:(H.alloc (.cells 5 [.int .i64 op,.int .i64 n,va,vt,ve])).ld ⟨H.nx,3,none⟩ = some vt:=ld_new hw rfl
 have d4:(H.alloc (.cells 5 [.int .i64 op,.int .i64 n,va,vt,ve])).ld ⟨H.nx,4,none⟩ = some ve:=ld_new hw rfl
 have d:=ld_box hw (z:=5) (c:=[.int .i64 op,.int .i64 n,va,vt,ve]) 5 rfl
 generalize hH1:H.alloc (.cells 5 [.int .i64 op,.int .i64 n,va,vt,ve]) = H1 at X0 d0 d1 d2 d3 d4 d
 obtain ⟨a2,c2,hva⟩:=ha.len
 obtain ⟨a3,c3,hvt⟩:=ht.len
 obtain ⟨a4,c4,hve⟩:=he.len
 have D2:=d2
 have D3:=d3
 have D4:=d4
 rw [hva] at D2
 rw [hvt] at D3
 rw [hve] at D4
 have vc:∀ more:Int,0 ≤ more ∧ more ≤ 1 → Ca E O 124 [v,.agg #[.int .i64 op,.int .i64 n,va,vt,ve],.int .i64 more] H1 (fun x H'=>x = .bool (varOk l n ra.length more) ∧ Ext H1 H'):=fun more hm=>variable_ca (X0.wf hw) (hv.ext X0) hl (ha.ext X0) hn hm
 clear ha ht he hn
 generalize ra.length = na at *
 generalize rt.length = nt at *
 generalize re.length = ne at *
 obtain ⟨fl,hfl⟩:∃ b,b = (decide (nt = 0) && decide (ne = 0)):=⟨_,rfl⟩
 suffices hs:∀ fr:Fr,fr.get 0 = v → fr.get 3 = .pointer (some ⟨H.nx,0,none⟩) → fr.get 5 = .bool fl → Wk E O head_rest [] fr H1 (retQ [.tmp 4] fun x H'=>x = .bool (headOk l op n na nt ne) ∧ Ext H H') by
  rw [head_split]
  by_cases h3:nt = 0
  ·subst h3
   simp -implicitDefEqProofs [aop,hH1,D3,D4,natlen]
   refine hs _ ?_ ?_ ?_ <;> simp [hfl]
  ·simp -implicitDefEqProofs [aop,hH1,D3,D4,h3,natlen]
   refine hs _ ?_ ?_ ?_ <;> simp [hfl,h3]
 intro fr f0 f3 f5
 simp -implicitDefEqProofs [head_rest,a107,aop,f3,d0]
 by_cases g0:op = 0
 ·subst g0
  cases hb:fl with
  | false =>
   rw [hb] at f5
   simp -implicitDefEqProofs [aop,f0,f3,f5,d,headOk,← hfl,hb]
   exact X0
  | true =>
   rw [hb] at f5
   simp -implicitDefEqProofs [aop,f0,f3,f5,d]
   refine Wr_call ?_
   simp -implicitDefEqProofs [f0]
   refine (vc 1 (by omega)).mono ?_
   rintro x H2 ⟨rfl,X2⟩
   simp -implicitDefEqProofs [aop,headOk,← hfl,hb]
   exact X0.trans X2
 simp -implicitDefEqProofs [aop,g0]
 by_cases g1:op = 1
 ·subst g1
  by_cases k1:n = 0
  case neg =>
   simp -implicitDefEqProofs [aop,f0,f3,f5,d1,D2,D4,natlen,natlen1,headOk,k1]
   exact X0
  by_cases k2:na = 1
  case neg =>
   simp -implicitDefEqProofs [aop,f0,f3,f5,d1,D2,D4,natlen,natlen1,headOk,k1,k2]
   exact X0
  simp -implicitDefEqProofs [aop,f0,f3,f5,d1,D2,D4,natlen,natlen1,headOk,k1,k2]
  exact X0
 simp -implicitDefEqProofs [aop,g1]
 by_cases g2:op = 2
 ·subst g2
  by_cases k1:n = 0
  case neg =>
   simp -implicitDefEqProofs [aop,f0,f3,f5,d1,D2,D4,natlen,natlen1,headOk,k1]
   exact X0
  by_cases k2:na = 1
  case neg =>
   simp -implicitDefEqProofs [aop,f0,f3,f5,d1,D2,D4,natlen,natlen1,headOk,k1,k2]
   exact X0
  by_cases k3:ne = 0
  case neg =>
   simp -implicitDefEqProofs [aop,f0,f3,f5,d1,D2,D4,natlen,natlen1,headOk,k1,k2,k3]
   exact X0
  simp -implicitDefEqProofs [aop,f0,f3,f5,d1,D2,D4,natlen,natlen1,headOk,k1,k2,k3]
  exact X0
 simp -implicitDefEqProofs [aop,g2]
 by_cases g3:op = 3
 ·subst g3
  cases hb:fl with
  | false =>
   rw [hb] at f5
   simp -implicitDefEqProofs [aop,f0,f3,f5,d1,D2,D4,natlen,natlen1,headOk,← hfl,hb]
   exact X0
  | true =>
  rw [hb] at f5
  by_cases k1:0 ≤ n
  case neg =>
   simp -implicitDefEqProofs [aop,f0,f3,f5,d1,D2,D4,natlen,natlen1,headOk,← hfl,hb,k1]
   exact X0
  by_cases k2:n ≤ 47
  case neg =>
   simp -implicitDefEqProofs [aop,f0,f3,f5,d1,D2,D4,natlen,natlen1,headOk,← hfl,hb,k1,k2]
   exact X0
  by_cases k3:na = 1
  case neg =>
   simp -implicitDefEqProofs [aop,f0,f3,f5,d1,D2,D4,natlen,natlen1,headOk,← hfl,hb,k1,k2,k3]
   exact X0
  simp -implicitDefEqProofs [aop,f0,f3,f5,d1,D2,D4,natlen,natlen1,headOk,← hfl,hb,k1,k2,k3]
  exact X0
 simp -implicitDefEqProofs [aop,g3]
 by_cases g4:op = 4
 ·subst g4
  cases hb:fl with
  | false =>
   rw [hb] at f5
   simp -implicitDefEqProofs [aop,f0,f3,f5,d,headOk,← hfl,hb]
   exact X0
  | true =>
   rw [hb] at f5
   simp -implicitDefEqProofs [aop,f0,f3,f5,d]
   refine Wr_call ?_
   simp -implicitDefEqProofs [f0]
   refine (vc 0 (by omega)).mono ?_
   rintro x H2 ⟨rfl,X2⟩
   simp -implicitDefEqProofs [aop,headOk,← hfl,hb]
   exact X0.trans X2
 simp -implicitDefEqProofs [aop,g4]
 by_cases g5:op = 5
 ·subst g5
  cases hb:fl with
  | false =>
   rw [hb] at f5
   simp -implicitDefEqProofs [aop,f0,f3,f5,d1,D2,D4,natlen,natlen1,headOk,← hfl,hb]
   exact X0
  | true =>
  rw [hb] at f5
  by_cases k1:n = 0
  case neg =>
   simp -implicitDefEqProofs [aop,f0,f3,f5,d1,D2,D4,natlen,natlen1,headOk,← hfl,hb,k1]
   exact X0
  by_cases k2:na = 1
  case neg =>
   simp -implicitDefEqProofs [aop,f0,f3,f5,d1,D2,D4,natlen,natlen1,headOk,← hfl,hb,k1,k2]
   exact X0
  simp -implicitDefEqProofs [aop,f0,f3,f5,d1,D2,D4,natlen,natlen1,headOk,← hfl,hb,k1,k2]
  exact X0
 simp -implicitDefEqProofs [aop,g5]
 by_cases g6:op = 6
 ·subst g6
  cases hb:fl with
  | false =>
   rw [hb] at f5
   simp -implicitDefEqProofs [aop,f0,f3,f5,d1,D2,D4,natlen,natlen1,headOk,← hfl,hb]
   exact X0
  | true =>
  rw [hb] at f5
  by_cases k1:n = 0
  case neg =>
   simp -implicitDefEqProofs [aop,f0,f3,f5,d1,D2,D4,natlen,natlen1,headOk,← hfl,hb,k1]
   exact X0
  by_cases k2:na = 1
  case neg =>
   simp -implicitDefEqProofs [aop,f0,f3,f5,d1,D2,D4,natlen,natlen1,headOk,← hfl,hb,k1,k2]
   exact X0
  simp -implicitDefEqProofs [aop,f0,f3,f5,d1,D2,D4,natlen,natlen1,headOk,← hfl,hb,k1,k2]
  exact X0
 simp -implicitDefEqProofs [aop,g6]
 simp -implicitDefEqProofs [headOk,g0,g1,g2,g3,g4,g5,g6]
 exact X0
end Go.Proofs.YtoijnpfpjpefgaaGreat.A
/- A text without what this claim does not need: S12. -/
set_option linter.unusedVariables false
set_option linter.unusedSimpArgs false
namespace Go.Proofs.YtoijnpfpjpefgaaGreat.A
open Go
mutual
def rowSt (w:Int) (V:List Vr):Stm → Bool
 | .mk op n args thn els=>headOk V op n args.length thn.length els.length && (rowsS w V thn && (rowsS w V els && args.all (isExp w V 1)))
def rowsS (w:Int) (V:List Vr):List Stm → Bool
 | []=>true
 | s :: ss=>rowSt w V s && rowsS w V ss
end
theorem rowsS_all {w:Int} {V:List Vr}:∀ {es:List Stm},rowsS w V es = true ↔ ∀ e ∈ es,rowSt w V e = true
 | []=>by simp [rowsS]
 | e :: es=>by simp [rowsS,rowsS_all (es:=es)]
theorem rowsS_no {w:Int} {V:List Vr} {es:List Stm} {e:Stm} (h:e ∈ es) (k:rowSt w V e = false):rowsS w V es = false:=by
 rw [Bool.eq_false_iff]
 intro q
 rw [rowsS_all.1 q e h] at k
 cases k
theorem rows_ca {w:Int} {v:Value} {V:List Vr} (hV:V.length < 2 ^ 60):∀ (N:Nat) (l:List Stm) (vl:Value) (rows:List (List Value)) (H:AH),SizeOf.sizeOf l < N → H.n0 ≤ H.nx → Vars H v V → l.length < 2 ^ 60 → Rows H 5 vl rows → StL H rows l →
  Ca E O 81 [.int .i64 w,v,vl] H (fun x H'=>x = .bool (rowsS w V l) ∧ Ext H H'):=by
 intro N
 induction N with
 | zero=>intro l vl rows H h; omega
 | succ N ih =>
  intro l vl rows H hN hw hv hlen hr hl
  refine Ca.bodyK (F:=a81) rfl rfl rfl ?_
  obtain ⟨a0,c0,hvl⟩:=hr.len
  rw [hl.length] at hvl
  simp -implicitDefEqProofs [a81,aop]
  refine Wk_loop (fun k fr H'=>Ext H H' ∧ ∃ i:Nat,i + k = l.length ∧ fr.get 0 = .int .i64 w ∧ fr.get 1 = v ∧ fr.get 2 = vl ∧ fr.get 7 = .int .i64 i ∧ ∀ e ∈ l.take i,rowSt w V e = true) ?_ l.length ⟨Ext.refl _,0,by simp,by simp,by simp,by simp,by simp,by simp⟩
  rintro k fr H1 ⟨X1,i,hi,f0,f1,f2,f7,hall⟩
  by_cases h:i < l.length
  case neg =>
   rw [hvl] at f2
   simp -implicitDefEqProofs [aop,f2,f7,h]
   rw [List.take_of_length_le (by omega)] at hall
   exact ⟨rowsS_all.2 hall,X1⟩
  obtain ⟨⟨op,n,args,thn,els⟩,hy⟩:∃ y,l[i]? = some y:=⟨_,List.getElem?_eq_getElem h⟩
  have hs:=size_thn hy
  have hmem:=List.mem_of_getElem? hy
  obtain ⟨b,o,c,va,vt,ve,ra,rt,re,hv',hldn,_,_,e2,e3,e4,i1,i2,i3,i4,i5,g1,g2,g3,g4,g5,g6⟩:=StL.row (hr.ext X1) (hl.ext X1) hy
  have hw1:=X1.wf hw
  have hv1:=hv.ext X1
  rw [hv'] at f2
  simp -implicitDefEqProofs [aop,f0,f1,f2,f7,h,hldn]
  refine Wr_call ?_
  simp -implicitDefEqProofs [f1]
  refine (head_ca hw1 hv1 hV g1 g3 g5 (by rw [g2.length]; exact i3)).mono ?_
  rintro x H2 ⟨rfl,X2⟩
  rw [g2.length,g4.length,g6.length]
  cases q1:headOk V op n args.length thn.length els.length with
  | false =>
   simp -implicitDefEqProofs [aop,q1]
   exact ⟨rowsS_no hmem (by simp [rowSt,q1]),X1.trans X2⟩
  | true =>
   simp -implicitDefEqProofs [aop,f0,f1,f2,f7,h,q1,X2.ld e3]
   refine Wr_call ?_
   simp -implicitDefEqProofs
   refine (ih thn vt rt H2 (by omega) (X2.wf hw1) (hv1.ext X2) i4 (g3.ext X2) (g4.ext X2)).mono ?_
   rintro x H3 ⟨rfl,X3⟩
   have X13:=X2.trans X3
   cases q2:rowsS w V thn with
   | false =>
    simp -implicitDefEqProofs [aop,q2]
    exact ⟨rowsS_no hmem (by simp [rowSt,q1,q2]),X1.trans X13⟩
   | true =>
    simp -implicitDefEqProofs [aop,f0,f1,f2,f7,h,q2,X13.ld e4]
    refine Wr_call ?_
    simp -implicitDefEqProofs
    refine (ih els ve re H3 (by omega) (X13.wf hw1) (hv1.ext X13) i5 (g5.ext X13) (g6.ext X13)).mono ?_
    rintro x H4 ⟨rfl,X4⟩
    have X14:=X13.trans X4
    cases q3:rowsS w V els with
    | false =>
     simp -implicitDefEqProofs [aop,q3]
     exact ⟨rowsS_no hmem (by simp [rowSt,q1,q2,q3]),X1.trans X14⟩
    | true =>
     simp -implicitDefEqProofs [aop,q3]
     obtain ⟨a3,c3,hva⟩:=g1.len
     rw [g2.length] at hva
     refine Wk_loop (fun k2 fr2 H5=>Ext H4 H5 ∧ ∃ j:Nat,j + k2 = args.length ∧ fr2.get 0 = .int .i64 w ∧ fr2.get 1 = v ∧ fr2.get 2 = .slice (some ⟨b,o,none⟩) l.length c ∧ fr2.get 7 = .int .i64 i ∧ fr2.get 8 = .int .i64 j ∧ ∀ e ∈ args.take j,isExp w V 1 e = true) ?_ args.length ⟨Ext.refl _,0,by simp,by simp [f0],by simp [f1],by simp [f2],by simp [f7],by simp,by simp⟩
     rintro k2 fr2 H5 ⟨X5,j,hj,p0,p1,p2,p7,p8,hall2⟩
     have X15:=X14.trans X5
     have e2':=X15.ld e2
     by_cases h2:j < args.length
     ·obtain ⟨y,hy2⟩:∃ y,args[j]? = some y:=⟨_,List.getElem?_eq_getElem h2⟩
      obtain ⟨r,hr1,hey⟩:=g2.at hy2
      obtain ⟨b2,o2,c2,hv2,hldn2⟩:=(g1.ext X15).at hr1
      rw [g2.length] at hv2
      rw [hv2] at e2'
      simp -implicitDefEqProofs [aop,p0,p1,p2,p7,p8,h,h2,e2',hldn2]
      refine Wr_call ?_
      simp -implicitDefEqProofs [p0,p1]
      refine (Is_ca (k:=1) hV (X15.wf hw1) (hv1.ext X15) (hey.ext X15)).mono ?_
      rintro x H6 ⟨rfl,X6⟩
      cases q4:isExp w V 1 y with
      | true =>
       simp -implicitDefEqProofs [aop,p0,p1,p2,p7,p8,q4]
       rw [wrap_in (n:=(j:Int) + 1) ⟨by omega,by omega⟩]
       refine ⟨k2 - 1,by omega,X5.trans X6,j + 1,by omega,by simp,fun z hz=>?_⟩
       rw [List.take_add_one,hy2] at hz
       rcases List.mem_append.1 hz with hz | hz
       ·exact hall2 z hz
       ·simp at hz; subst hz; exact q4
      | false =>
       simp -implicitDefEqProofs [aop,p0,p1,p2,p7,p8,q4]
       refine ⟨rowsS_no hmem ?_,X1.trans (X15.trans X6)⟩
       have:args.all (isExp w V 1) = false:=by
        rw [List.all_eq_false]
        exact ⟨y,List.mem_of_getElem? hy2,by simp [q4]⟩
       simp only [rowSt,this,Bool.and_false]
     ·rw [hva] at e2'
      simp -implicitDefEqProofs [aop,p0,p1,p2,p7,p8,h,h2,e2']
      rw [wrap_in (n:=(i:Int) + 1) ⟨by omega,by omega⟩]
      rw [List.take_of_length_le (by omega)] at hall2
      refine ⟨k - 1,by omega,X1.trans X15,i + 1,by omega,hv'.symm,by simp,fun z hz=>?_⟩
      rw [List.take_add_one,hy] at hz
      rcases List.mem_append.1 hz with hz | hz
      ·exact hall z hz
      ·simp at hz
       subst hz
       have:args.all (isExp w V 1) = true:=List.all_eq_true.2 hall2
       simp only [rowSt,q1,q2,q3,this,Bool.and_self]
end Go.Proofs.YtoijnpfpjpefgaaGreat.A
/- A text without what this claim does not need: S13. -/
set_option linter.unusedVariables false
set_option linter.unusedSimpArgs false
namespace Go.Proofs.YtoijnpfpjpefgaaGreat.A
open Go
structure Prg where
 w:Int
 vars:List Vr
 body:List Stm
structure PrgC (H:AH) (c:List Value) (p:Prg):Prop where
 is:∃ vv vb rb,c = [.int .i64 p.w,vv,vb] ∧ I64 p.w ∧ Vars H vv p.vars ∧ VarsOk p.vars ∧ Rows H 5 vb rb ∧ StL H rb p.body ∧ p.body.length < 2 ^ 60
theorem PrgC.ext {H H':AH} (E:Ext H H') {c:List Value} {p:Prg} (h:PrgC H c p):PrgC H' c p:=by
 obtain ⟨vv,vb,rb,e,a,b,c',d,f,g⟩:=h.is
 exact ⟨vv,vb,rb,e,a,b.ext E,c',d.ext E,StL.ext E f,g⟩
theorem PrgC.len {H:AH} {c:List Value} {p:Prg} (h:PrgC H c p):c.length = 3:=by
 obtain ⟨vv,vb,rb,e,_⟩:=h.is
 rw [e]; rfl
def isPrg (p:Prg):Bool:=isHeading p.w p.vars && (decide (nodesS p.body ≤ 400) && (decide (depthS p.body 0 ≤ 16) && rowsS p.w p.vars p.body))
theorem PIs_ca {p:Prg} {c:List Value} {H:AH} (hw:H.n0 ≤ H.nx) (hp:PrgC H c p):Ca E O 41 [.agg c.toArray] H (fun x H'=>x = .bool (isPrg p) ∧ Ext H H'):=by
 obtain ⟨vv,vb,rb,rfl,hi,hv,hvo,hr,hl,hbl⟩:=hp.is
 refine Ca.bodyK (F:=a41) rfl rfl rfl ?_
 have X0:=Ext.alloc H (.cells 3 [.int .i64 p.w,vv,vb])
 have d0:(H.alloc (.cells 3 [.int .i64 p.w,vv,vb])).ld ⟨H.nx,0,none⟩ = some (.int .i64 p.w):=ld_new hw rfl
 have d1:(H.alloc (.cells 3 [.int .i64 p.w,vv,vb])).ld ⟨H.nx,1,none⟩ = some vv:=ld_new hw rfl
 have d2:(H.alloc (.cells 3 [.int .i64 p.w,vv,vb])).ld ⟨H.nx,2,none⟩ = some vb:=ld_new hw rfl
 generalize hH1:H.alloc (.cells 3 [.int .i64 p.w,vv,vb]) = H1 at X0 d0 d1 d2
 simp -implicitDefEqProofs [a41,aop,hH1,d0,d1]
 refine Wr_call ?_
 simp -implicitDefEqProofs
 refine (Heading_ca (X0.wf hw) (hv.ext X0) hvo p.w).mono ?_
 rintro x H2 ⟨rfl,X2⟩
 cases q1:isHeading p.w p.vars with
 | false =>
  simp -implicitDefEqProofs [aop,q1,isPrg]
  exact X0.trans X2
 | true =>
  have X02:=X0.trans X2
  simp -implicitDefEqProofs [aop,q1,X2.ld d2]
  refine Wr_call ?_
  simp -implicitDefEqProofs
  refine (PFits_ca (X02.wf hw) hbl (hr.ext X02) (hl.ext X02) (by omega)).mono ?_
  rintro x H3 ⟨rfl,X3⟩
  have X03:=X02.trans X3
  have X13:=X2.trans X3
  by_cases q2:nodesS p.body ≤ 400
  case neg =>
   simp -implicitDefEqProofs [aop,q1,q2,isPrg]
   exact X03
  simp -implicitDefEqProofs [aop,q2,X13.ld d2]
  refine Wr_call ?_
  simp -implicitDefEqProofs
  refine (PDepth_ca _ p.body vb rb H3 (Nat.lt_succ_self _) (X03.wf hw) hbl (hr.ext X03) (hl.ext X03) (by omega)).mono ?_
  rintro x H4 ⟨rfl,X4⟩
  have X04:=X03.trans X4
  have X14:=X13.trans X4
  by_cases q3:depthS p.body 0 ≤ 16
  case neg =>
   simp -implicitDefEqProofs [aop,q1,q2,q3,isPrg]
   exact X04
  simp -implicitDefEqProofs [aop,q3,X14.ld d0,X14.ld d1,X14.ld d2]
  refine Wr_call ?_
  simp -implicitDefEqProofs
  refine (rows_ca hvo.1 _ p.body vb rb H4 (Nat.lt_succ_self _) (X04.wf hw) (hv.ext X04) hbl (hr.ext X04) (hl.ext X04)).mono ?_
  rintro x H5 ⟨rfl,X5⟩
  simp -implicitDefEqProofs [aop,q1,q2,q3,isPrg]
  exact X04.trans X5
end Go.Proofs.YtoijnpfpjpefgaaGreat.A
/- A text without what this claim does not need: S14. -/
set_option linter.unusedVariables false
set_option linter.unusedSimpArgs false
namespace Go.Proofs.YtoijnpfpjpefgaaGreat.A
open Go
theorem Ints.ext {H H':AH} (E:Ext H H') {v:Value} {l:List Int} (h:Ints H v l):Ints H' v l:=Rows.ext E h
def isStore (w:Int) (V:List Vr) (l:List Int):Bool:=decide ((l.length:Int) = wsum (V.map (·.cells))) && l.all (isWord w)
theorem Store_ca {w:Int} {v vs:Value} {V:List Vr} {l:List Int} {H:AH} (hv:Vars H v V) (hV:V.length < 2 ^ 60) (hs:Ints H vs l) (hl:l.length < 2 ^ 60) :
  Ca E O 24 [.int .i64 w,v,vs] H (fun x H'=>x = .bool (isStore w V l) ∧ H' = H):=by
 refine Ca.bodyK (F:=a24) rfl rfl rfl ?_
 obtain ⟨a1,c1,hvs⟩:=hs.len
 obtain ⟨a2,c2,hvv⟩:=hv.len
 have hf:=First_ca hv hV V.length (Nat.le_refl _)
 have hws:=Words_ca w vs l H hs hl
 rw [hvv,hvs] at *
 simp -implicitDefEqProofs [a24,aop]
 refine Wr_call ?_
 simp -implicitDefEqProofs
 refine hf.mono ?_
 rintro x H' ⟨rfl,rfl⟩
 rw [List.take_length]
 by_cases q:(l.length:Int) = wsum (V.map (·.cells))
 case neg=>simp -implicitDefEqProofs [aop,q,isStore]
 simp -implicitDefEqProofs [aop,q]
 refine Wr_call ?_
 simp -implicitDefEqProofs
 refine hws.mono ?_
 rintro x H'' ⟨rfl,rfl⟩
 simp -implicitDefEqProofs [aop,q,isStore]
structure Sta where
 store:List Int
 picks:List Int
structure StaC (H:AH) (c:List Value) (s:Sta):Prop where
 is:∃ vs vp,c = [vs,vp] ∧ Ints H vs s.store ∧ Ints H vp s.picks ∧ s.store.length < 2 ^ 60 ∧ s.picks.length < 2 ^ 60 ∧ (∀ n ∈ s.store,I64 n) ∧ ∀ n ∈ s.picks,I64 n
theorem StaC.ext {H H':AH} (E:Ext H H') {c:List Value} {s:Sta} (h:StaC H c s):StaC H' c s:=by
 obtain ⟨vs,vp,e,a,b,f,g⟩:=h.is
 exact ⟨vs,vp,e,a.ext E,b.ext E,f,g⟩
def isSta (p:Prg) (s:Sta):Bool:=isStore p.w p.vars s.store && (decide (s.picks.length ≤ 16) && s.picks.all (isWord p.w))
theorem Start_ca {p:Prg} {t:Sta} {c d:List Value} {H:AH} (hw:H.n0 ≤ H.nx) (hp:PrgC H c p) (ht:StaC H d t) :
  Ca E O 42 [.agg c.toArray,.agg d.toArray] H (fun x H'=>x = .bool (isSta p t) ∧ Ext H H'):=by
 obtain ⟨vv,vb,rb,rfl,hi,hv,hvo,hr,hl,hbl⟩:=hp.is
 obtain ⟨vs,vp,rfl,ss,sp,l1,l2,_,_⟩:=ht.is
 refine Ca.bodyK (F:=a42) rfl rfl rfl ?_
 have X0:=Ext.alloc H (.cells 3 [.int .i64 p.w,vv,vb])
 have d0:(H.alloc (.cells 3 [.int .i64 p.w,vv,vb])).ld ⟨H.nx,0,none⟩ = some (.int .i64 p.w):=ld_new hw rfl
 have d1:(H.alloc (.cells 3 [.int .i64 p.w,vv,vb])).ld ⟨H.nx,1,none⟩ = some vv:=ld_new hw rfl
 generalize hH1:H.alloc (.cells 3 [.int .i64 p.w,vv,vb]) = H1 at X0 d0 d1
 have hw1:=X0.wf hw
 have X1:=Ext.alloc H1 (.cells 2 [vs,vp])
 have e0:(H1.alloc (.cells 2 [vs,vp])).ld ⟨H1.nx,0,none⟩ = some vs:=ld_new hw1 rfl
 have e1:(H1.alloc (.cells 2 [vs,vp])).ld ⟨H1.nx,1,none⟩ = some vp:=ld_new hw1 rfl
 generalize hH2:H1.alloc (.cells 2 [vs,vp]) = H2 at X1 e0 e1
 have X:=X0.trans X1
 obtain ⟨a1,c1,hvp⟩:=sp.len
 have e1':=e1
 rw [hvp] at e1'
 simp -implicitDefEqProofs [a42,aop,hH1,hH2,X1.ld d0,X1.ld d1,e0]
 refine Wr_call ?_
 simp -implicitDefEqProofs
 refine (Store_ca (hv.ext X) hvo.1 (ss.ext X) l1).mono ?_
 rintro x H3 ⟨rfl,rfl⟩
 cases q1:isStore p.w p.vars t.store with
 | false =>
  simp -implicitDefEqProofs [aop,q1,isSta]
  exact X
 | true =>
  by_cases q2:t.picks.length ≤ 16
  case neg =>
   have q2':¬ (t.picks.length:Int) ≤ 16:=by omega
   simp -implicitDefEqProofs [aop,q1,q2,q2',e1',isSta]
   exact X
  have q2':(t.picks.length:Int) ≤ 16:=by omega
  have hws:=Words_ca p.w vp t.picks H3 (sp.ext X) l2
  rw [hvp] at hws
  simp -implicitDefEqProofs [aop,q1,q2,q2',e1',X1.ld d0]
  refine Wr_call ?_
  simp -implicitDefEqProofs
  refine hws.mono ?_
  rintro x H4 ⟨rfl,rfl⟩
  simp -implicitDefEqProofs [aop,q1,q2,isSta]
  exact X
def chkR (p:Prg) (fuel:Int) (t:Sta):Int:=if isPrg p = false then 30 else if fuel < 0 ∨ 4096 < fuel then 1 else if isSta p t = false then 50 else 0
theorem RCheck_ca {p:Prg} {t:Sta} {c d:List Value} {fuel:Int} {H:AH} (hw:H.n0 ≤ H.nx) (hp:PrgC H c p) (ht:StaC H d t) :
  Ca E O 14 [.agg c.toArray,.int .i64 fuel,.agg d.toArray] H (fun x H'=>x = .int .i64 (chkR p fuel t) ∧ Ext H H'):=by
 refine Ca.bodyK (F:=a14) rfl rfl rfl ?_
 have hd:d.length = 2:=by obtain ⟨vs,vp,e,_⟩:=ht.is; rw [e]; rfl
 have X0:=Ext.alloc H (.cells c.length c)
 have d0:=ld_box hw (z:=c.length) (c:=c) 3 hp.len
 generalize hH1:H.alloc (.cells c.length c) = H1 at X0 d0
 have hw1:=X0.wf hw
 have X1:=Ext.alloc H1 (.cells d.length d)
 have e0:=ld_box hw1 (z:=d.length) (c:=d) 2 hd
 generalize hH2:H1.alloc (.cells d.length d) = H2 at X1 e0
 have X:=X0.trans X1
 simp -implicitDefEqProofs [a14,aop,hH1,hH2,X1.ldn d0]
 refine Wr_call ?_
 simp -implicitDefEqProofs
 refine (PIs_ca (X.wf hw) (hp.ext X)).mono ?_
 rintro x H3 ⟨rfl,X3⟩
 cases q1:isPrg p with
 | false =>
  simp -implicitDefEqProofs [aop,q1,chkR]
  exact X.trans X3
 | true =>
  by_cases q2:fuel < 0
  ·simp -implicitDefEqProofs [aop,q1,q2,chkR]
   exact X.trans X3
  by_cases q3:4096 < fuel
  ·simp -implicitDefEqProofs [aop,q1,q2,q3,chkR]
   exact X.trans X3
  simp -implicitDefEqProofs [aop,q1,q2,q3,(X1.trans X3).ldn d0,X3.ldn e0]
  refine Wr_call ?_
  simp -implicitDefEqProofs
  refine (Start_ca ((X.trans X3).wf hw) (hp.ext (X.trans X3)) (ht.ext (X.trans X3))).mono ?_
  rintro x H4 ⟨rfl,X4⟩
  cases q4:isSta p t with
  | false =>
   simp -implicitDefEqProofs [aop,q1,q2,q3,q4,chkR]
   exact X.trans (X3.trans X4)
  | true =>
   simp -implicitDefEqProofs [aop,q1,q2,q3,q4,chkR]
   exact X.trans (X3.trans X4)
end Go.Proofs.YtoijnpfpjpefgaaGreat.A
/- A text without what this claim does not need: AbsO. -/
set_option linter.unusedVariables false
set_option linter.unusedSimpArgs false
namespace Go.Proofs.YtoijnpfpjpefgaaGreat.A
open Go
section
variable {E:Env} {O:Orc} {ks:List Ko} {fr:Fr} {H:AH} {Q:Ex → Fr → AH → Prop}
def wantV (b:Bool):Value → Bool
 | .bool c=>c == b
 | _=>false
@[simp] theorem wantV_t (c:Bool):wantV true (.bool c) = c:=by cases c <;> rfl
@[simp] theorem wantV_f (c:Bool):wantV false (.bool c) = !c:=by cases c <;> rfl
@[simp] theorem wantV_u (b:Bool):wantV b undef = false:=rfl
def br (c a b:Prop):Prop:=(c → a) ∧ (¬ c → b)
@[congr] theorem br_congr {c c' a a' b b':Prop} (h1:c = c') (h2:c' → a = a') (h3:¬ c' → b = b'):br c a b = br c' a' b':=by
 subst h1
 unfold br
 exact propext ⟨fun k=>⟨fun h=>h2 h ▸ k.1 h,fun h=>h3 h ▸ k.2 h⟩,fun k=>⟨fun h=>(h2 h).symm ▸ k.1 h,fun h=>(h3 h).symm ▸ k.2 h⟩⟩
@[simp] theorem br_T (a b:Prop):br True a b = a:=propext ⟨fun h=>h.1 trivial,fun h=>⟨fun _=>h,fun k=>(k trivial).elim⟩⟩
@[simp] theorem br_F (a b:Prop):br False a b = b:=propext ⟨fun h=>h.2 id,fun h=>⟨fun k=>k.elim,fun _=>h⟩⟩
@[simp] theorem br_TT (c:Prop):br c True True = True:=propext ⟨fun _=>trivial,fun _=>⟨fun _=>trivial,fun _=>trivial⟩⟩
theorem br_i {c a b:Prop} (h:c → a) (k:¬ c → b):br c a b:=⟨h,k⟩
theorem wanted_eq (t:Nat) (b:Bool) (d:Option Nat) (p:AOp):(AO.mk (some (t,b)) d p).wanted fr = wantV b (fr.get t):=by
 unfold AO.wanted wantV
 simp only
 split <;> rename_i h <;> simp_all
theorem Wr_g (t:Nat) (b:Bool) (d:Option Nat) (p:AOp) (l:List AO):Wr E O (⟨some (t,b),d,p⟩ :: l) ks fr H Q ↔
  br (wantV b (fr.get t) = true) (Wr E O (⟨none,d,p⟩ :: l) ks fr H Q) (Wr E O l ks (fr.putO d undef) H Q):=by
 by_cases hw:wantV b (fr.get t) = true
 ·simp only [hw,br_T]
  exact Wr_on _ _ _ (by unfold wantV at hw; split at hw <;> simp_all)
 ·simp only [hw]
  rw [show (false = true) = False by simp,br_F]
  exact Wr_off _ _ _ (by intro h; rw [h] at hw; simp [wantV] at hw)
theorem Wd_g {l0:List AO} {ck:List (Nat × Nat × Nat)} {acc:List (Fr × AH)} (t:Nat) (b:Bool) (d:Option Nat) (p:AOp) (l:List AO):Wd E O l0 ck acc (⟨some (t,b),d,p⟩ :: l) ks fr H Q ↔
  br (wantV b (fr.get t) = true) (Wd E O l0 ck acc (⟨none,d,p⟩ :: l) ks fr H Q) (Wd E O l0 ck ((fr.putO d undef,H) :: acc) l ks (fr.putO d undef) H Q):=by
 by_cases hw:wantV b (fr.get t) = true
 ·simp only [hw,br_T]
  exact Wd_on _ _ _ (by unfold wantV at hw; split at hw <;> simp_all)
 ·simp only [hw]
  rw [show (false = true) = False by simp,br_F]
  exact Wd_off _ _ _ (by intro h; rw [h] at hw; simp [wantV] at hw)
@[simp] theorem putO_some (f:Fr) (d:Nat) (v:Value):f.putO (some d) v = f.put d v:=rfl
@[simp] theorem putO_none (f:Fr) (v:Value):f.putO none v = f:=rfl
def isBl:Value → Bool
 | .bool _=>true
 | _=>false
@[simp] theorem isBl_b (c:Bool):isBl (.bool c) = true:=rfl
theorem Wk_c {x:X} {a b:AC}:Wk E O (.cond x a b) ks fr H Q ↔ isBl (x.ev fr) = true ∧ br (wantV true (x.ev fr) = true) (Wk E O a ks fr H Q) (Wk E O b ks fr H Q):=by
 cases hx:x.ev fr with
 | bool c =>
  cases c
  ·simp [Wk_condF hx]
  ·simp [Wk_condT hx]
 | _ =>
  refine ⟨?_,fun h=>by simp [isBl] at h⟩
  rintro ⟨n,ex,fr',H',e,q⟩
  cases n with
  | zero=>simp [codeR] at e
  | succ n =>
   rw [codeR,hx] at e
   cases e
end
structure Mod (S:Nat → Prop) (H H':AH):Prop where
 n0:H'.n0 = H.n0
 nx:H.nx ≤ H'.nx
 old:∀ b,b < H.nx → ¬ S b → H'.get b = H.get b
theorem Mod.refl (S:Nat → Prop) (H:AH):Mod S H H:=⟨rfl,Nat.le_refl _,fun _ _ _=>rfl⟩
theorem Mod.trans {S:Nat → Prop} {a b c:AH} (h:Mod S a b) (k:Mod S b c):Mod S a c:=⟨k.n0.trans h.n0,Nat.le_trans h.nx k.nx,fun x hx hs=>(k.old x (Nat.lt_of_lt_of_le hx h.nx) hs).trans (h.old x hx hs)⟩
theorem Mod.of_ext {S:Nat → Prop} {a b:AH} (h:Ext a b):Mod S a b:=⟨h.n0,h.nx,fun x hx _=>h.old x hx⟩
theorem Mod.mono {S T:Nat → Prop} {a b:AH} (h:Mod S a b) (k:∀ x,x < a.nx → S x → T x):Mod T a b:=⟨h.n0,h.nx,fun x hx ht=>h.old x hx fun hs=>ht (k x hx hs)⟩
theorem Ext.mod {S:Nat → Prop} {a b c:AH} (h:Ext a b) (k:Mod S b c) (hs:∀ x,S x → a.nx ≤ x):Ext a c:=⟨k.n0.trans h.n0,Nat.le_trans h.nx k.nx,fun x hx=>(k.old x (Nat.lt_of_lt_of_le hx h.nx) (fun q=>absurd (hs x q) (Nat.not_le.2 hx))).trans (h.old x hx)⟩
theorem Mod.get {S:Nat → Prop} {a b:AH} (h:Mod S a b) {x:Nat} (hs:¬ S x) {y:Blk} (k:a.get x = some y):b.get x = some y:=by rw [h.old x (AH.get_lt k) hs]; exact k
theorem Mod.ldn {S:Nat → Prop} {H H':AH} (h:Mod S H H') {a:Addr} {n:Nat} {vs:List Value} (hs:¬ S a.block) (k:H.ldn a n = some vs):H'.ldn a n = some vs:=by
 obtain ⟨x,hx⟩:=Option.isSome_iff_exists.1 (ldn_some k).1
 rw [← k]
 exact ldn_same (h.old _ (AH.get_lt hx) hs) h.n0
theorem Mod.ld {S:Nat → Prop} {H H':AH} (h:Mod S H H') {a:Addr} {v:Value} (hs:¬ S a.block) (k:H.ld a = some v):H'.ld a = some v:=ld_ldn.2 (h.ldn hs (ld_ldn.1 k))
theorem Mod.wf {S:Nat → Prop} {H H':AH} (h:Mod S H H') (w:H.n0 ≤ H.nx):H'.n0 ≤ H'.nx:=by rw [h.n0]; exact Nat.le_trans w h.nx
theorem st_get {H:AH} {b z k:Nat} {c vs:List Value} (hg:H.get b = some (.cells z c)) (h0:H.n0 ≤ b) (hl:k + vs.length ≤ c.length) :
  ∃ H2,H.st ⟨b,k,none⟩ vs = some H2 ∧ Mod (fun x=>x = b) H H2 ∧ H2.nx = H.nx ∧ H2.n0 = H.n0 ∧ H2.get b = some (.cells z (splice c k vs)):=by
 have hb:=AH.get_lt hg
 refine ⟨H.put b (some (.cells z (splice c k vs))),?_,⟨rfl,Nat.le_refl _,fun x hx hs=>?_⟩,rfl,rfl,?_⟩
 ·unfold AH.st
  simp [hg,h0,hl]
 ·rw [AH.get_put _ _ _ _ hb,if_neg hs]
 ·rw [AH.get_put _ _ _ _ hb,if_pos rfl]
theorem var_new {H:AH} (w:H.n0 ≤ H.nx) {z:Nat} {c vs:List Value} (hl:vs.length = c.length) :
  ∃ H2,(H.alloc (.cells z c)).st ⟨H.nx,0,none⟩ vs = some H2 ∧ Ext H H2 ∧ H2.nx = H.nx + 1 ∧ H2.n0 = H.n0 ∧ H2.get H.nx = some (.cells z vs):=by
 have hg:(H.alloc (.cells z c)).get H.nx = some (.cells z c):=by rw [AH.get_alloc,if_pos rfl]
 obtain ⟨H2,h1,h2,h3,h4,h5⟩:=st_get hg w (k:=0) (vs:=vs) (by omega)
 have e:splice c 0 vs = vs:=by
  have:splice c 0 vs = vs ++ c.drop vs.length:=by cases c <;> rfl
  rw [this,List.drop_eq_nil_of_le (by omega)]; simp
 rw [e] at h5
 exact ⟨H2,h1,(Ext.alloc H _).mod h2 (by rintro x rfl; exact Nat.le_refl _),h3,h4,h5⟩
theorem ldn_get {H:AH} {b z k n:Nat} {c:List Value} (hg:H.get b = some (.cells z c)) (h0:H.n0 ≤ b) (hl:k + n ≤ c.length):H.ldn ⟨b,k,none⟩ n = some ((c.drop k).take n):=by
 unfold AH.ldn
 have:¬ b < H.n0:=Nat.not_lt.2 h0
 simp [hg,hl,this]
theorem ld_get {H:AH} {b z k:Nat} {c:List Value} {v:Value} (hg:H.get b = some (.cells z c)) (h0:H.n0 ≤ b) (hv:c[k]? = some v):H.ld ⟨b,k,none⟩ = some v:=by
 unfold AH.ld
 have:¬ b < H.n0:=Nat.not_lt.2 h0
 simp [hg,hv,this]
theorem get_new (H:AH) (x:Blk):(H.alloc x).get H.nx = some x:=by rw [AH.get_alloc,if_pos rfl]
end Go.Proofs.YtoijnpfpjpefgaaGreat.A
/- A text without what this claim does not need: AbsP. -/
set_option linter.unusedVariables false
set_option linter.unusedSimpArgs false
namespace Go.Proofs.YtoijnpfpjpefgaaGreat.A
open Go
section
variable {E:Env} {O:Orc} {ks:List Ko} {fr:Fr} {H:AH} {Q:Ex → Fr → AH → Prop}
inductive Md where
 | pl
 | dr (l0:List AO) (ck:List (Nat × Nat × Nat)) (acc:List (Fr × AH))
def Md.up:Md → Fr → AH → Md
 | .pl,_,_=>.pl
 | .dr l0 ck acc,fr,H=>.dr l0 ck ((fr,H) :: acc)
@[simp] theorem up_pl:Md.up .pl fr H = .pl:=rfl
@[simp] theorem up_dr (l0:List AO) (ck:List (Nat × Nat × Nat)) (acc:List (Fr × AH)):Md.up (.dr l0 ck acc) fr H = .dr l0 ck ((fr,H) :: acc):=rfl
def Vx (E:Env) (O:Orc) (m:Md) (l:List AO) (ks:List Ko) (fr:Fr) (H:AH) (Q:Ex → Fr → AH → Prop):Prop:=match m with
 | .pl=>Wr E O l ks fr H Q
 | .dr l0 ck acc=>Wd E O l0 ck acc l ks fr H Q
def Vk (E:Env) (O:Orc) (c:AC) (ks:List Ko) (fr:Fr) (H:AH) (Q:Ex → Fr → AH → Prop):Prop:=Wk E O c ks fr H Q
def Vn (E:Env) (O:Orc) (ex:Ex) (ks:List Ko) (fr:Fr) (H:AH) (Q:Ex → Fr → AH → Prop):Prop:=Un E O ex ks fr H Q
@[simp] theorem Vn_nil (ex:Ex):Vn E O ex [] fr H Q = Q ex fr H:=Un_nil _
@[simp] theorem Vn_ns (b:AC):Vn E O .normal (.seq b :: ks) fr H Q = Vk E O b ks fr H Q:=rfl
@[simp] theorem Vn_nb (i:Nat):Vn E O .normal (.blk i :: ks) fr H Q = Vn E O .normal ks fr H Q:=rfl
@[simp] theorem Vn_es (j:Nat) (b:AC):Vn E O (.exit j) (.seq b :: ks) fr H Q = Vn E O (.exit j) ks fr H Q:=rfl
@[simp] theorem Vn_eb1 (i:Nat):Vn E O (.exit i) (.blk i :: ks) fr H Q = Vn E O .normal ks fr H Q:=Un_eb1 _
@[simp] theorem Vn_r (k:Ko):Vn E O .ret (k :: ks) fr H Q = Vn E O .ret ks fr H Q:=Un_r _
@[simp] theorem Vk_skip:Vk E O .skip ks fr H Q ↔ Vn E O .normal ks fr H Q:=Wk_skip
@[simp] theorem Vk_ret:Vk E O .ret ks fr H Q ↔ Vn E O .ret ks fr H Q:=Wk_ret
@[simp] theorem Vk_exit (i:Nat):Vk E O (.exit i) ks fr H Q ↔ Vn E O (.exit i) ks fr H Q:=Wk_exit _
@[simp] theorem Vk_reg (l:List AO):Vk E O (.reg l) ks fr H Q ↔ Vx E O .pl l ks fr H Q:=Wk_reg _
@[simp] theorem Vk_seq (a b:AC):Vk E O (.seq a b) ks fr H Q ↔ Vk E O a (.seq b :: ks) fr H Q:=Wk_seq _ _
@[simp] theorem Vk_block (i:Nat) (a:AC):Vk E O (.block i a) ks fr H Q ↔ Vk E O a (.blk i :: ks) fr H Q:=Wk_block _ _
theorem Vk_c {x:X} {a b:AC}:Vk E O (.cond x a b) ks fr H Q ↔ isBl (x.ev fr) = true ∧ br (wantV true (x.ev fr) = true) (Vk E O a ks fr H Q) (Vk E O b ks fr H Q):=Wk_c
@[simp] theorem Vk_regd (l:List AO) (ck:List (Nat × Nat × Nat)):Vk E O (.regd l ck) ks fr H Q ↔ Vx E O (.dr l ck [(fr,H)]) l ks fr H Q:=by
 refine ⟨?_,fun h=>Wk_regd _ _ h⟩
 rintro ⟨n,ex,fr',H',e,q⟩
 cases n with
 | zero=>simp [codeR] at e
 | succ n =>
  simp only [codeR,opsD] at e
  cases h1:opsT (runF E O (n + 1)) l fr H with
  | none=>simp [h1] at e
  | some ss =>
   simp only [h1] at e
   cases h2:chain ((fr,H) :: ss) && ck.all (chk1 l ((fr,H) :: ss)) with
   | false=>simp [h2] at e
   | true =>
    simp only [h2,cond_true,Option.some.injEq,Prod.mk.injEq] at e
    obtain ⟨rfl,rfl,rfl⟩:=e
    refine ⟨n + 1,ss,h1,?_,q⟩
    unfold okD
    simpa using h2
@[simp] theorem Vx_nil:Vx E O .pl [] ks fr H Q ↔ Vn E O .normal ks fr H Q:=Wr_nil
@[simp] theorem Vx_nild {l0:List AO} {ck:List (Nat × Nat × Nat)} {acc:List (Fr × AH)}:Vx E O (.dr l0 ck acc) [] ks fr H Q ↔ okD l0 ck acc = true ∧ Vn E O .normal ks fr H Q:=Wd_nil
theorem Vx_g {m:Md} (t:Nat) (b:Bool) (d:Option Nat) (p:AOp) (l:List AO):Vx E O m (⟨some (t,b),d,p⟩ :: l) ks fr H Q ↔
  br (wantV b (fr.get t) = true) (Vx E O m (⟨none,d,p⟩ :: l) ks fr H Q) (Vx E O (m.up (fr.putO d undef) H) l ks (fr.putO d undef) H Q):=by
 cases m
 ·exact Wr_g _ _ _ _ _
 ·exact Wd_g _ _ _ _ _
def CV (E:Env) (O:Orc) (v:Value) (a b:AC) (ks:List Ko) (fr:Fr) (H:AH) (Q:Ex → Fr → AH → Prop):Prop :=
 isBl v = true ∧ br (wantV true v = true) (Vk E O a ks fr H Q) (Vk E O b ks fr H Q)
@[simp] theorem Vk_cv {x:X} {a b:AC}:Vk E O (.cond x a b) ks fr H Q ↔ CV E O (x.ev fr) a b ks fr H Q:=Vk_c
variable {a b:AC}
@[simp] theorem CV_T:CV E O (.bool true) a b ks fr H Q ↔ Vk E O a ks fr H Q:=by simp [CV]
@[simp] theorem CV_F:CV E O (.bool false) a b ks fr H Q ↔ Vk E O b ks fr H Q:=by simp [CV]
@[simp] theorem CV_d (c:Prop) [Decidable c]:CV E O (.bool (decide c)) a b ks fr H Q ↔ br c (Vk E O a ks fr H Q) (Vk E O b ks fr H Q):=by simp [CV]
@[simp] theorem CV_n (c:Bool):CV E O (.bool (!c)) a b ks fr H Q ↔ CV E O (.bool c) b a ks fr H Q:=by cases c <;> simp
def GV (E:Env) (O:Orc) (v:Value) (b:Bool) (m:Md) (d:Option Nat) (p:AOp) (l:List AO) (ks:List Ko) (fr:Fr) (H:AH) (Q:Ex → Fr → AH → Prop):Prop :=
 br (wantV b v = true) (Vx E O m (⟨none,d,p⟩ :: l) ks fr H Q) (Vx E O (m.up (fr.putO d undef) H) l ks (fr.putO d undef) H Q)
@[simp] theorem Vx_gv {m:Md} (t:Nat) (b:Bool) (d:Option Nat) (p:AOp) (l:List AO):Vx E O m (⟨some (t,b),d,p⟩ :: l) ks fr H Q ↔ GV E O (fr.get t) b m d p l ks fr H Q:=Vx_g _ _ _ _ _
section
variable {m:Md} {d:Option Nat} {p:AOp} {l:List AO}
@[simp] theorem GV_TT:GV E O (.bool true) true m d p l ks fr H Q ↔ Vx E O m (⟨none,d,p⟩ :: l) ks fr H Q:=by simp [GV]
@[simp] theorem GV_FF:GV E O (.bool false) false m d p l ks fr H Q ↔ Vx E O m (⟨none,d,p⟩ :: l) ks fr H Q:=by simp [GV]
@[simp] theorem GV_TF:GV E O (.bool true) false m d p l ks fr H Q ↔ Vx E O (m.up (fr.putO d undef) H) l ks (fr.putO d undef) H Q:=by simp [GV]
@[simp] theorem GV_FT:GV E O (.bool false) true m d p l ks fr H Q ↔ Vx E O (m.up (fr.putO d undef) H) l ks (fr.putO d undef) H Q:=by simp [GV]
@[simp] theorem GV_U (b:Bool):GV E O undef b m d p l ks fr H Q ↔ Vx E O (m.up (fr.putO d undef) H) l ks (fr.putO d undef) H Q:=by simp [GV]
@[simp] theorem GV_dT (c:Prop) [Decidable c]:GV E O (.bool (decide c)) true m d p l ks fr H Q ↔ br c (Vx E O m (⟨none,d,p⟩ :: l) ks fr H Q) (Vx E O (m.up (fr.putO d undef) H) l ks (fr.putO d undef) H Q):=by simp [GV]
@[simp] theorem GV_dF (c:Prop) [Decidable c]:GV E O (.bool (decide c)) false m d p l ks fr H Q ↔ br c (Vx E O (m.up (fr.putO d undef) H) l ks (fr.putO d undef) H Q) (Vx E O m (⟨none,d,p⟩ :: l) ks fr H Q):=by
 by_cases h:c <;> simp [h]
@[simp] theorem GV_nT (c:Bool):GV E O (.bool (!c)) true m d p l ks fr H Q ↔ GV E O (.bool c) false m d p l ks fr H Q:=by cases c <;> simp
@[simp] theorem GV_nF (c:Bool):GV E O (.bool (!c)) false m d p l ks fr H Q ↔ GV E O (.bool c) true m d p l ks fr H Q:=by cases c <;> simp
end
theorem CV_b (c:Bool):CV E O (.bool c) a b ks fr H Q ↔ br (c = true) (Vk E O a ks fr H Q) (Vk E O b ks fr H Q):=by simp [CV]
@[simp] theorem CV_strEq (x y:ByteArray):CV E O (.bool (strEq x y)) a b ks fr H Q ↔ br (strEq x y = true) (Vk E O a ks fr H Q) (Vk E O b ks fr H Q):=CV_b _
theorem Vx_o {m:Md} (d:Nat) (p:AOp) (l:List AO) (h:p.isCall = false):Vx E O m (⟨none,some d,p⟩ :: l) ks fr H Q ↔
  isV (aop p (X.ev fr) H) = true ∧ Vx E O (m.up (fr.put d (valOf (aop p (X.ev fr) H))) (heapOf H (aop p (X.ev fr) H))) l ks (fr.put d (valOf (aop p (X.ev fr) H))) (heapOf H (aop p (X.ev fr) H)) Q:=by
 cases m
 ·exact Wr_o _ _ _ h
 ·exact Wd_o _ _ _ h
theorem Vx_s {m:Md} (p:AOp) (l:List AO) (h:p.isCall = false):Vx E O m (⟨none,none,p⟩ :: l) ks fr H Q ↔
  isV (aop p (X.ev fr) H) = true ∧ Vx E O (m.up fr (heapOf H (aop p (X.ev fr) H))) l ks fr (heapOf H (aop p (X.ev fr) H)) Q:=by
 cases m
 ·exact Wr_s _ _ h
 ·exact Wd_s _ _ h
theorem Vx_val {m:Md} {d:Nat} {p:AOp} {l:List AO} (h:p.isCall = false) {r:Option Value} (e:aop p (X.ev fr) H = r.map fun v=>(.v v,H)):Vx E O m (⟨none,some d,p⟩ :: l) ks fr H Q ↔
  r.isSome = true ∧ Vx E O (m.up (fr.put d (r.getD undef)) H) l ks (fr.put d (r.getD undef)) H Q:=by
 rw [Vx_o _ _ _ h,e]
 cases r <;> simp [isV]
def pickV:Value → Value → Value → Option Value
 | .bool t,a,b=>some (bif t then a else b)
 | _,_,_=>none
@[simp] theorem pickV_b (t:Bool) (a b:Value):pickV (.bool t) a b = some (bif t then a else b):=rfl
def ldV (H:AH):Value → Option Value
 | .pointer (some a)=>H.ld a
 | _=>none
@[simp] theorem ldV_p (a:Addr):ldV H (.pointer (some a)) = H.ld a:=rfl
def ldnV (n:Nat) (H:AH):Value → Option Value
 | .pointer (some a)=>(H.ldn a n).map fun l=>.agg l.toArray
 | _=>none
@[simp] theorem ldnV_p (n:Nat) (a:Addr):ldnV n H (.pointer (some a)) = (H.ldn a n).map fun l=>.agg l.toArray:=rfl
def stV (n:Nat) (H:AH):Value → Value → Option AH
 | .pointer (some a),v=>bif Nat.beq (vcells v).length n && !isTup v then H.st a (vcells v) else none
 | _,_=>none
@[simp] theorem stV_p (n:Nat) (a:Addr) (v:Value):stV n H (.pointer (some a)) v = if (vcells v).length = n ∧ isTup v = false then H.st a (vcells v) else none:=by
 unfold stV
 simp only [nb,Bool.cond_eq_ite,Bool.and_eq_true,decide_eq_true_eq,Bool.not_eq_true']
@[simp] theorem vcells_int (k:IntKind) (n:Int):vcells (.int k n) = [.int k n]:=rfl
@[simp] theorem vcells_bool (b:Bool):vcells (.bool b) = [.bool b]:=rfl
@[simp] theorem vcells_string (b:ByteArray):vcells (.string b) = [.string b]:=rfl
@[simp] theorem vcells_slice (a:Option Addr) (n c:Nat):vcells (.slice a n c) = [.slice a n c]:=rfl
@[simp] theorem vcells_pointer (a:Option Addr):vcells (.pointer a) = [.pointer a]:=rfl
@[simp] theorem vcells_map (a:Option Nat):vcells (.map a) = [.map a]:=rfl
@[simp] theorem vcells_func (f:Fn) (a b:Array Value):vcells (.func f a b) = [.func f a b]:=rfl
@[simp] theorem vcells_nilFunc:vcells .nilFunc = [.nilFunc]:=rfl
@[simp] theorem isTup_int (k:IntKind) (n:Int):isTup (.int k n) = false:=rfl
@[simp] theorem isTup_bool (b:Bool):isTup (.bool b) = false:=rfl
@[simp] theorem isTup_string (b:ByteArray):isTup (.string b) = false:=rfl
@[simp] theorem isTup_slice (a:Option Addr) (n c:Nat):isTup (.slice a n c) = false:=rfl
@[simp] theorem isTup_pointer (a:Option Addr):isTup (.pointer a) = false:=rfl
@[simp] theorem isTup_map (a:Option Nat):isTup (.map a) = false:=rfl
@[simp] theorem isTup_func (f:Fn) (a b:Array Value):isTup (.func f a b) = false:=rfl
@[simp] theorem isTup_nilFunc:isTup .nilFunc = false:=rfl
def nilcV:Value → Option Value
 | .pointer (some a)=>some (.pointer (some a))
 | _=>none
@[simp] theorem nilcV_p (a:Addr):nilcV (.pointer (some a)) = some (.pointer (some a)):=rfl
def cviV (k:IntKind):Value → Option Value
 | .int _ n=>some (.int k (k.wrap n))
 | _=>none
@[simp] theorem cviV_i (k k':IntKind) (n:Int):cviV k (.int k' n) = some (.int k (k.wrap n)):=rfl
def cvsV:Value → Option Value
 | .int _ n=>some (.string (Utf8.encode n))
 | _=>none
@[simp] theorem cvsV_i (k':IntKind) (n:Int):cvsV (.int k' n) = some (.string (Utf8.encode n)):=rfl
def faV (off:Nat):Value → Option Value
 | .pointer (some a)=>bif a.spot.isNone then some (.pointer (some ⟨a.block,a.off + off,none⟩)) else none
 | _=>none
@[simp] theorem faV_p (off b o:Nat):faV off (.pointer (some ⟨b,o,none⟩)) = some (.pointer (some ⟨b,o + off,none⟩)):=rfl
def iaV (sz:Nat):Value → Value → Option Value
 | .slice (some a) len _,.int _ n=>if 0 ≤ n ∧ n < len then (bif a.spot.isNone then some (.pointer (some ⟨a.block,a.off + n.toNat * sz,none⟩)) else none) else none
 | _,_=>none
@[simp] theorem iaV_p (sz b o len c:Nat) (k:IntKind) (n:Int):iaV sz (.slice (some ⟨b,o,none⟩) len c) (.int k n) = if 0 ≤ n ∧ n < len then some (.pointer (some ⟨b,o + n.toNat * sz,none⟩)) else none:=rfl
def iaaV (len sz:Nat):Value → Value → Option Value
 | .pointer (some a),.int _ n=>if 0 ≤ n ∧ n < len then (bif a.spot.isNone then some (.pointer (some ⟨a.block,a.off + n.toNat * sz,none⟩)) else none) else none
 | _,_=>none
@[simp] theorem iaaV_p (sz b o len:Nat) (k:IntKind) (n:Int):iaaV len sz (.pointer (some ⟨b,o,none⟩)) (.int k n) = if 0 ≤ n ∧ n < len then some (.pointer (some ⟨b,o + n.toNat * sz,none⟩)) else none:=rfl
def ixV:Value → Value → Option Value
 | .string s,.int _ n=>if 0 ≤ n then (match s[n.toNat]? with | some b=>some (.int .u8 b.toNat) | none=>none) else none
 | _,_=>none
theorem ixV_p {s:ByteArray} {k:IntKind} {n:Nat} (h:n < s.size):ixV (.string s) (.int k n) = some (.int .u8 (byteAt s n)):=by
 have:s[n]? = some s[n]:=getElem?_pos s n h
 simp only [ixV,Int.toNat_natCast]
 rw [if_pos (by omega),this]
 unfold byteAt
 rw [this]
 rfl
def extV:Value → Nat → Option Value
 | .tuple vs,i=>vs.toList[i]?
 | _,_=>none
@[simp] theorem extV_t (vs:Array Value) (i:Nat):extV (.tuple vs) i = vs.toList[i]?:=rfl
def lensV:Value → Option Value
 | .string s=>some (.int .i64 s.size)
 | _=>none
@[simp] theorem lensV_s (s:ByteArray):lensV (.string s) = some (.int .i64 s.size):=rfl
def lenlV:Value → Option Value
 | .slice _ n _=>some (.int .i64 n)
 | _=>none
@[simp] theorem lenlV_s (a:Option Addr) (n c:Nat):lenlV (.slice a n c) = some (.int .i64 n):=rfl
def eqV (k:Nat) (neg:Bool) (x y:Value):Option Value:=(aeq k x y).map fun b=>.bool (bif neg then !b else b)
@[simp] theorem eqV_b (neg a b:Bool):eqV 0 neg (.bool a) (.bool b) = some (.bool (bif neg then !(a == b) else (a == b))):=rfl
@[simp] theorem eqV_pn (neg:Bool) (b:Option Addr):eqV 1 neg (.pointer none) (.pointer b) = some (.bool (bif neg then !b.isNone else b.isNone)):=rfl
@[simp] theorem eqV_ps (neg:Bool) (b:Addr):eqV 1 neg (.pointer (some b)) (.pointer none) = some (.bool neg):=by cases neg <;> rfl
@[simp] theorem eqV_sn (neg:Bool) (n c n' c':Nat) (b:Option Addr):eqV 2 neg (.slice none n c) (.slice b n' c') = some (.bool (bif neg then !b.isNone else b.isNone)):=rfl
@[simp] theorem eqV_ss (neg:Bool) (n c n' c':Nat) (b:Addr):eqV 2 neg (.slice (some b) n c) (.slice none n' c') = some (.bool neg):=by cases neg <;> rfl
@[simp] theorem eqV_ff (neg:Bool) (f:Fn) (a b:Array Value):eqV 3 neg (.func f a b) .nilFunc = some (.bool neg):=by cases neg <;> rfl
@[simp] theorem eqV_mn (neg:Bool) (b:Option Nat):eqV 4 neg (.map none) (.map b) = some (.bool (bif neg then !b.isNone else b.isNone)):=rfl
def eqsV (neg:Bool) (offs:List (Nat × Nat)):Value → Value → Option Value
 | .agg cs,.agg ds=>(eqCells cs.toList ds.toList offs).map fun b=>.bool (bif neg then !b else b)
 | _,_=>none
@[simp] theorem eqsV_a (neg:Bool) (offs:List (Nat × Nat)) (cs ds:Array Value):eqsV neg offs (.agg cs) (.agg ds) = (eqCells cs.toList ds.toList offs).map fun b=>.bool (bif neg then !b else b):=rfl
def lookV (kk:Nat) (z:Value) (H:AH) (x k:Value) (ok:Bool):Option Value :=
 match x with
 | .map none=>bif keyOk kk k then some (bif ok then .tuple #[z,.bool false] else z) else none
 | .map (some r)=>match H.get r with
  | some (.map es)=>bif keyOk kk k && decide (H.n0 ≤ r) then (match findA k es with
   | some (some v)=>some (bif ok then .tuple #[v,.bool true] else v)
   | some none=>some (bif ok then .tuple #[z,.bool false] else z)
   | none=>none) else none
  | _=>none
 | _=>none
section
variable {m:Md} {l:List AO} (d:Nat)
@[simp] theorem Vx_mv (x:X):Vx E O m (⟨none,some d,.mv x⟩ :: l) ks fr H Q ↔ Vx E O (m.up (fr.put d (x.ev fr)) H) l ks (fr.put d (x.ev fr)) H Q:=by
 rw [Vx_val (r:=some (x.ev fr)) rfl rfl]; simp
@[simp] theorem Vx_pick (c a b:X):Vx E O m (⟨none,some d,.pick c a b⟩ :: l) ks fr H Q ↔ (pickV (c.ev fr) (a.ev fr) (b.ev fr)).isSome = true ∧ Vx E O (m.up (fr.put d ((pickV (c.ev fr) (a.ev fr) (b.ev fr)).getD undef)) H) l ks (fr.put d ((pickV (c.ev fr) (a.ev fr) (b.ev fr)).getD undef)) H Q :=
 Vx_val rfl (by simp only [aop]; cases c.ev fr <;> rfl)
@[simp] theorem Vx_ld (x:X):Vx E O m (⟨none,some d,.ld x⟩ :: l) ks fr H Q ↔ (ldV H (x.ev fr)).isSome = true ∧ Vx E O (m.up (fr.put d ((ldV H (x.ev fr)).getD undef)) H) l ks (fr.put d ((ldV H (x.ev fr)).getD undef)) H Q :=
 Vx_val rfl (by
  simp only [aop]
  cases x.ev fr with
  | pointer a=>cases a <;> rfl
  | _=>rfl)
@[simp] theorem Vx_ldn (n:Nat) (x:X):Vx E O m (⟨none,some d,.ldn n x⟩ :: l) ks fr H Q ↔ (ldnV n H (x.ev fr)).isSome = true ∧ Vx E O (m.up (fr.put d ((ldnV n H (x.ev fr)).getD undef)) H) l ks (fr.put d ((ldnV n H (x.ev fr)).getD undef)) H Q :=
 Vx_val rfl (by
  simp only [aop]
  cases x.ev fr with
  | pointer a =>
   cases a with
   | none=>rfl
   | some a=>simp only [ldnV]; cases H.ldn a n <;> rfl
  | _=>rfl)
@[simp] theorem Vx_nilc (x:X):Vx E O m (⟨none,some d,.nilc x⟩ :: l) ks fr H Q ↔ (nilcV (x.ev fr)).isSome = true ∧ Vx E O (m.up (fr.put d ((nilcV (x.ev fr)).getD undef)) H) l ks (fr.put d ((nilcV (x.ev fr)).getD undef)) H Q :=
 Vx_val rfl (by
  simp only [aop]
  cases x.ev fr with
  | pointer a=>cases a <;> rfl
  | _=>rfl)
@[simp] theorem Vx_bin (op:BinOp) (x y:X):Vx E O m (⟨none,some d,.bin op x y⟩ :: l) ks fr H Q ↔ (abin op (x.ev fr) (y.ev fr)).isSome = true ∧ Vx E O (m.up (fr.put d ((abin op (x.ev fr) (y.ev fr)).getD undef)) H) l ks (fr.put d ((abin op (x.ev fr) (y.ev fr)).getD undef)) H Q :=
 Vx_val rfl rfl
@[simp] theorem Vx_eqk (k:Nat) (neg:Bool) (x y:X):Vx E O m (⟨none,some d,.eqk k neg x y⟩ :: l) ks fr H Q ↔ (eqV k neg (x.ev fr) (y.ev fr)).isSome = true ∧ Vx E O (m.up (fr.put d ((eqV k neg (x.ev fr) (y.ev fr)).getD undef)) H) l ks (fr.put d ((eqV k neg (x.ev fr) (y.ev fr)).getD undef)) H Q :=
 Vx_val rfl (by simp only [aop,eqV]; cases aeq k (x.ev fr) (y.ev fr) <;> rfl)
@[simp] theorem Vx_eqs (neg:Bool) (offs:List (Nat × Nat)) (x y:X):Vx E O m (⟨none,some d,.eqs neg offs x y⟩ :: l) ks fr H Q ↔ (eqsV neg offs (x.ev fr) (y.ev fr)).isSome = true ∧ Vx E O (m.up (fr.put d ((eqsV neg offs (x.ev fr) (y.ev fr)).getD undef)) H) l ks (fr.put d ((eqsV neg offs (x.ev fr) (y.ev fr)).getD undef)) H Q :=
 Vx_val rfl (by
  simp only [aop]
  cases x.ev fr <;> cases y.ev fr <;> first
   | rfl
   | (simp only [eqsV]; rename_i a b; cases eqCells a.toList b.toList offs <;> rfl))
@[simp] theorem Vx_un (op:UnOp) (x:X):Vx E O m (⟨none,some d,.un op x⟩ :: l) ks fr H Q ↔ (aun op (x.ev fr)).isSome = true ∧ Vx E O (m.up (fr.put d ((aun op (x.ev fr)).getD undef)) H) l ks (fr.put d ((aun op (x.ev fr)).getD undef)) H Q :=
 Vx_val rfl rfl
@[simp] theorem Vx_cvi (k:IntKind) (x:X):Vx E O m (⟨none,some d,.cvi k x⟩ :: l) ks fr H Q ↔ (cviV k (x.ev fr)).isSome = true ∧ Vx E O (m.up (fr.put d ((cviV k (x.ev fr)).getD undef)) H) l ks (fr.put d ((cviV k (x.ev fr)).getD undef)) H Q :=
 Vx_val rfl (by simp only [aop]; cases x.ev fr <;> rfl)
@[simp] theorem Vx_fa (off:Nat) (x:X):Vx E O m (⟨none,some d,.fa off x⟩ :: l) ks fr H Q ↔ (faV off (x.ev fr)).isSome = true ∧ Vx E O (m.up (fr.put d ((faV off (x.ev fr)).getD undef)) H) l ks (fr.put d ((faV off (x.ev fr)).getD undef)) H Q :=
 Vx_val rfl (by
  simp only [aop]
  cases x.ev fr with
  | pointer a =>
   cases a with
   | none=>rfl
   | some a=>simp only [faV]; cases a.spot.isNone <;> rfl
  | _=>rfl)
@[simp] theorem Vx_ia (sz:Nat) (x i:X):Vx E O m (⟨none,some d,.ia sz x i⟩ :: l) ks fr H Q ↔ (iaV sz (x.ev fr) (i.ev fr)).isSome = true ∧ Vx E O (m.up (fr.put d ((iaV sz (x.ev fr) (i.ev fr)).getD undef)) H) l ks (fr.put d ((iaV sz (x.ev fr) (i.ev fr)).getD undef)) H Q :=
 Vx_val rfl (by
  simp only [aop]
  cases x.ev fr with
  | slice a len c =>
   cases a with
   | none=>rfl
   | some a =>
    cases i.ev fr <;> first
     | rfl
     | (simp only [iaV]; split <;> first | rfl | (cases a.spot.isNone <;> rfl))
  | _=>rfl)
@[simp] theorem Vx_iaa (len sz:Nat) (x i:X):Vx E O m (⟨none,some d,.iaa len sz x i⟩ :: l) ks fr H Q ↔ (iaaV len sz (x.ev fr) (i.ev fr)).isSome = true ∧ Vx E O (m.up (fr.put d ((iaaV len sz (x.ev fr) (i.ev fr)).getD undef)) H) l ks (fr.put d ((iaaV len sz (x.ev fr) (i.ev fr)).getD undef)) H Q :=
 Vx_val rfl (by
  simp only [aop]
  cases x.ev fr with
  | pointer a =>
   cases a with
   | none=>rfl
   | some a =>
    cases i.ev fr <;> first
     | rfl
     | (simp only [iaaV]; split <;> first | rfl | (cases a.spot.isNone <;> rfl))
  | _=>rfl)
@[simp] theorem Vx_ix (x i:X):Vx E O m (⟨none,some d,.ix x i⟩ :: l) ks fr H Q ↔ (ixV (x.ev fr) (i.ev fr)).isSome = true ∧ Vx E O (m.up (fr.put d ((ixV (x.ev fr) (i.ev fr)).getD undef)) H) l ks (fr.put d ((ixV (x.ev fr) (i.ev fr)).getD undef)) H Q :=
 Vx_val rfl (by
  simp only [aop]
  cases x.ev fr with
  | string s =>
   cases i.ev fr <;> first
    | rfl
    | (simp only [ixV]; rename_i n; cases s[n.toNat]? <;> (split <;> rfl))
  | _=>rfl)
@[simp] theorem Vx_ext (x:X) (i:Nat):Vx E O m (⟨none,some d,.ext x i⟩ :: l) ks fr H Q ↔ (extV (x.ev fr) i).isSome = true ∧ Vx E O (m.up (fr.put d ((extV (x.ev fr) i).getD undef)) H) l ks (fr.put d ((extV (x.ev fr) i).getD undef)) H Q :=
 Vx_val rfl (by
  simp only [aop]
  cases x.ev fr with
  | tuple vs=>simp only [extV]; cases vs.toList[i]? <;> rfl
  | _=>rfl)
@[simp] theorem Vx_lens (x:X):Vx E O m (⟨none,some d,.lens x⟩ :: l) ks fr H Q ↔ (lensV (x.ev fr)).isSome = true ∧ Vx E O (m.up (fr.put d ((lensV (x.ev fr)).getD undef)) H) l ks (fr.put d ((lensV (x.ev fr)).getD undef)) H Q :=
 Vx_val rfl (by simp only [aop]; cases x.ev fr <;> rfl)
@[simp] theorem Vx_lenl (x:X):Vx E O m (⟨none,some d,.lenl x⟩ :: l) ks fr H Q ↔ (lenlV (x.ev fr)).isSome = true ∧ Vx E O (m.up (fr.put d ((lenlV (x.ev fr)).getD undef)) H) l ks (fr.put d ((lenlV (x.ev fr)).getD undef)) H Q :=
 Vx_val rfl (by simp only [aop]; cases x.ev fr <;> rfl)
@[simp] theorem Vx_look (kk:Nat) (z:Value) (x k:X) (ok:Bool):Vx E O m (⟨none,some d,.look kk z x k ok⟩ :: l) ks fr H Q ↔ (lookV kk z H (x.ev fr) (k.ev fr) ok).isSome = true ∧ Vx E O (m.up (fr.put d ((lookV kk z H (x.ev fr) (k.ev fr) ok).getD undef)) H) l ks (fr.put d ((lookV kk z H (x.ev fr) (k.ev fr) ok).getD undef)) H Q :=
 Vx_val rfl (by
  simp only [aop,lookV]
  cases x.ev fr with
  | map r =>
   cases r with
   | none=>dsimp only; cases keyOk kk (k.ev fr) <;> rfl
   | some r =>
    dsimp only
    cases H.get r with
    | none=>rfl
    | some b =>
     cases b with
     | cells=>rfl
     | map es =>
      dsimp only
      cases keyOk kk (k.ev fr) && decide (H.n0 ≤ r)
      ·rfl
      ·cases findA (k.ev fr) es with
       | none=>rfl
       | some q=>cases q <;> rfl
  | _=>rfl)
@[simp] theorem Vx_mkf (f:Nat) (a b:List X):Vx E O m (⟨none,some d,.mkf f a b⟩ :: l) ks fr H Q ↔ Vx E O (m.up (fr.put d (.func (.func f) (a.map (X.ev fr)).toArray (b.map (X.ev fr)).toArray)) H) l ks (fr.put d (.func (.func f) (a.map (X.ev fr)).toArray (b.map (X.ev fr)).toArray)) H Q:=by
 rw [Vx_val (r:=some (.func (.func f) (a.map (X.ev fr)).toArray (b.map (X.ev fr)).toArray)) rfl rfl]; simp
@[simp] theorem Vx_sl (sz:Nat) (x:X) (lo hi mx:Option X):Vx E O m (⟨none,some d,.sl sz x lo hi mx⟩ :: l) ks fr H Q ↔ (aslice sz H (x.ev fr) (lo.map (X.ev fr)) (hi.map (X.ev fr)) (mx.map (X.ev fr))).isSome = true ∧ Vx E O (m.up (fr.put d ((aslice sz H (x.ev fr) (lo.map (X.ev fr)) (hi.map (X.ev fr)) (mx.map (X.ev fr))).getD undef)) H) l ks (fr.put d ((aslice sz H (x.ev fr) (lo.map (X.ev fr)) (hi.map (X.ev fr)) (mx.map (X.ev fr))).getD undef)) H Q :=
 Vx_val rfl rfl
def buildV (z:List Value) (ps:List (Nat × Nat × Value)):Option Value:=(fillA z ps).map fun c=>.agg c.toArray
@[simp] theorem Vx_build (z:List Value) (ps:List (Nat × Nat × X)):Vx E O m (⟨none,some d,.build z ps⟩ :: l) ks fr H Q ↔ (buildV z (ps.map fun p=>(p.1,p.2.1,p.2.2.ev fr))).isSome = true ∧ Vx E O (m.up (fr.put d ((buildV z (ps.map fun p=>(p.1,p.2.1,p.2.2.ev fr))).getD undef)) H) l ks (fr.put d ((buildV z (ps.map fun p=>(p.1,p.2.1,p.2.2.ev fr))).getD undef)) H Q :=
 Vx_val rfl (by simp only [aop,buildV]; cases fillA z (ps.map fun p=>(p.1,p.2.1,p.2.2.ev fr)) <;> rfl)
@[simp] theorem Vx_alloc (z:List Value):Vx E O m (⟨none,some d,.alloc z⟩ :: l) ks fr H Q ↔ Vx E O (m.up (fr.put d (.pointer (some ⟨H.nx,0,none⟩))) (H.alloc (.cells z.length z))) l ks (fr.put d (.pointer (some ⟨H.nx,0,none⟩))) (H.alloc (.cells z.length z)) Q:=by
 rw [Vx_o _ _ _ rfl]; simp [aop]
@[simp] theorem Vx_box (x:X):Vx E O m (⟨none,some d,.box x⟩ :: l) ks fr H Q ↔ isTup (x.ev fr) = false ∧ Vx E O (m.up (fr.put d (.pointer (some ⟨H.nx,0,none⟩))) (H.alloc (.cells (vcells (x.ev fr)).length (vcells (x.ev fr))))) l ks (fr.put d (.pointer (some ⟨H.nx,0,none⟩))) (H.alloc (.cells (vcells (x.ev fr)).length (vcells (x.ev fr)))) Q:=by
 rw [Vx_o _ _ _ rfl]
 simp only [aop]
 cases isTup (x.ev fr) <;> simp [isV]
@[simp] theorem Vx_mkmap:Vx E O m (⟨none,some d,.mkmap⟩ :: l) ks fr H Q ↔ Vx E O (m.up (fr.put d (.map (some H.nx))) (H.alloc (.map []))) l ks (fr.put d (.map (some H.nx))) (H.alloc (.map [])) Q:=by
 rw [Vx_o _ _ _ rfl]; simp [aop]
@[simp] theorem Vx_st (n:Nat) (x v:X):Vx E O m (⟨none,none,.st n x v⟩ :: l) ks fr H Q ↔ (stV n H (x.ev fr) (v.ev fr)).isSome = true ∧ Vx E O (m.up fr ((stV n H (x.ev fr) (v.ev fr)).getD H)) l ks fr ((stV n H (x.ev fr) (v.ev fr)).getD H) Q:=by
 rw [Vx_s _ _ rfl]
 have e:aop (.st n x v) (X.ev fr) H = (stV n H (x.ev fr) (v.ev fr)).map fun H'=>(.v undef,H'):=by
  simp only [aop]
  cases x.ev fr with
  | pointer a =>
   cases a with
   | none=>rfl
   | some a =>
    simp only [stV]
    cases (Nat.beq (vcells (v.ev fr)).length n && !isTup (v.ev fr)) <;> simp
  | _=>rfl
 rw [e]
 cases stV n H (x.ev fr) (v.ev fr) <;> simp [isV,heapOf]
def isSm:Option (Value × AH) → Bool
 | some _=>true
 | none=>false
def v1:Option (Value × AH) → Value
 | some (v,_)=>v
 | none=>undef
def h2 (H:AH):Option (Value × AH) → AH
 | some (_,H')=>H'
 | none=>H
@[simp] theorem isSm_s (r:Value × AH):isSm (some r) = true:=rfl
@[simp] theorem v1_s (v:Value) (H':AH):v1 (some (v,H')) = v:=rfl
@[simp] theorem h2_s (v:Value) (H':AH):h2 H (some (v,H')) = H':=rfl
theorem Vx_vh {p:AOp} (h:p.isCall = false) {r:Option (Value × AH)} (e:aop p (X.ev fr) H = r.map fun q=>(.v q.1,q.2)):Vx E O m (⟨none,some d,p⟩ :: l) ks fr H Q ↔
  isSm r = true ∧ Vx E O (m.up (fr.put d (v1 r)) (h2 H r)) l ks (fr.put d (v1 r)) (h2 H r) Q:=by
 rw [Vx_o _ _ _ h,e]
 cases r with
 | none=>simp [isSm,isV]
 | some q=>obtain ⟨v,H'⟩:=q; simp
@[simp] theorem Vx_app (sz bytes:Nat) (s x:X):Vx E O m (⟨none,some d,.app sz bytes s x⟩ :: l) ks fr H Q ↔ isSm (aappend sz bytes H (s.ev fr) (x.ev fr)) = true ∧ Vx E O (m.up (fr.put d (v1 (aappend sz bytes H (s.ev fr) (x.ev fr)))) (h2 H (aappend sz bytes H (s.ev fr) (x.ev fr)))) l ks (fr.put d (v1 (aappend sz bytes H (s.ev fr) (x.ev fr)))) (h2 H (aappend sz bytes H (s.ev fr) (x.ev fr))) Q :=
 Vx_vh _ rfl rfl
def bslV (len sz:Nat) (z:List Value) (H:AH) (ps:List (Nat × Nat × Value)):Option (Value × AH):=(fillA z ps).map fun c=>(.slice (some ⟨H.nx,0,none⟩) len len,H.alloc (.cells sz c))
@[simp] theorem Vx_bsl (len sz:Nat) (z:List Value) (ps:List (Nat × Nat × X)):Vx E O m (⟨none,some d,.bsl len sz z ps⟩ :: l) ks fr H Q ↔ isSm (bslV len sz z H (ps.map fun p=>(p.1,p.2.1,p.2.2.ev fr))) = true ∧ Vx E O (m.up (fr.put d (v1 (bslV len sz z H (ps.map fun p=>(p.1,p.2.1,p.2.2.ev fr))))) (h2 H (bslV len sz z H (ps.map fun p=>(p.1,p.2.1,p.2.2.ev fr))))) l ks (fr.put d (v1 (bslV len sz z H (ps.map fun p=>(p.1,p.2.1,p.2.2.ev fr))))) (h2 H (bslV len sz z H (ps.map fun p=>(p.1,p.2.1,p.2.2.ev fr)))) Q :=
 Vx_vh _ rfl (by simp only [aop,bslV]; cases fillA z (ps.map fun p=>(p.1,p.2.1,p.2.2.ev fr)) <;> rfl)
def mupV (kk:Nat) (H:AH) (x k v:Value):Option AH :=
 match x with
 | .map (some r)=>match H.get r with
  | some (.map es)=>bif keyOk kk k && decide (H.n0 ≤ r) && !isTup v then (updA k v es).map fun es'=>H.put r (some (.map es')) else none
  | _=>none
 | _=>none
@[simp] theorem Vx_mup (kk:Nat) (x k v:X):Vx E O m (⟨none,none,.mup kk x k v⟩ :: l) ks fr H Q ↔ (mupV kk H (x.ev fr) (k.ev fr) (v.ev fr)).isSome = true ∧ Vx E O (m.up fr ((mupV kk H (x.ev fr) (k.ev fr) (v.ev fr)).getD H)) l ks fr ((mupV kk H (x.ev fr) (k.ev fr) (v.ev fr)).getD H) Q:=by
 rw [Vx_s _ _ rfl]
 have e:aop (.mup kk x k v) (X.ev fr) H = (mupV kk H (x.ev fr) (k.ev fr) (v.ev fr)).map fun H'=>(.v undef,H'):=by
  simp only [aop,mupV]
  cases x.ev fr with
  | map r =>
   cases r with
   | none=>rfl
   | some r =>
    dsimp only
    cases H.get r with
    | none=>rfl
    | some b =>
     cases b with
     | cells=>rfl
     | map es =>
      dsimp only
      cases (keyOk kk (k.ev fr) && decide (H.n0 ≤ r) && !isTup (v.ev fr))
      ·rfl
      ·simp only [cond_true]
       cases updA (k.ev fr) (v.ev fr) es <;> rfl
  | _=>rfl
 rw [e]
 cases mupV kk H (x.ev fr) (k.ev fr) (v.ev fr) <;> simp [isV,heapOf]
theorem Vx_call {d f:Nat} {«as»:List X} {vs:List Value} {R:Value → AH → Prop} (ha:«as».map (X.ev fr) = vs) (h:Ca E O f vs H R) (k:∀ x H',R x H' → Vx E O (m.up (fr.put d x) H') l ks (fr.put d x) H' Q):Vx E O m (⟨none,some d,.call f «as»⟩ :: l) ks fr H Q:=by
 subst ha
 cases m
 ·exact Wr_call (h.mono k)
 ·exact Wd_call (h.mono k)
theorem Vx_callM {d f:Nat} {«as»:List X} {vs:List Value} (ha:«as».map (X.ev fr) = vs) (h:Ca E O f vs H fun x H'=>Vx E O (m.up (fr.put d x) H') l ks (fr.put d x) H' Q):Vx E O m (⟨none,some d,.call f «as»⟩ :: l) ks fr H Q:=Vx_call ha h fun _ _ k=>k
theorem Vx_callv {d f:Nat} {x:X} {«as»:List X} {first cap:Array Value} {vs:List Value} {R:Value → AH → Prop} (hx:x.ev fr = .func (.func f) first cap) (ha:first.toList ++ «as».map (X.ev fr) ++ cap.toList = vs) (h:Ca E O f vs H R) (k:∀ x H',R x H' → Vx E O (m.up (fr.put d x) H') l ks (fr.put d x) H' Q):Vx E O m (⟨none,some d,.callv x «as»⟩ :: l) ks fr H Q:=by
 subst ha
 have e:aop (.callv x «as») (X.ev fr) H = some (.enter f (first.toList ++ «as».map (X.ev fr) ++ cap.toList),H):=by simp only [aop,hx]
 cases m
 ·show Wo E O _ _ _ _
  rw [Wo_cons1,Wo1_on _ _ _ _ rfl,e]
  exact h.mono k
 ·show Wd E O _ _ _ _ _ _ _ _
  rw [Wd_cons1,Wo1_on _ _ _ _ rfl,e]
  exact h.mono k
theorem Vx_callvM {d f:Nat} {x:X} {«as»:List X} {first cap:Array Value} {vs:List Value} (hx:x.ev fr = .func (.func f) first cap) (ha:first.toList ++ «as».map (X.ev fr) ++ cap.toList = vs) (h:Ca E O f vs H fun x H'=>Vx E O (m.up (fr.put d x) H') l ks (fr.put d x) H' Q):Vx E O m (⟨none,some d,.callv x «as»⟩ :: l) ks fr H Q:=Vx_callv hx ha h fun _ _ k=>k
end
def wan:AO → Fr → Bool
 | ⟨none,_,_⟩,_=>true
 | ⟨some (t,b),_,_⟩,fr=>wantV b (fr.get t)
@[simp] theorem wan_n (d:Option Nat) (p:AOp) (fr:Fr):wan ⟨none,d,p⟩ fr = true:=rfl
@[simp] theorem wan_s (t:Nat) (b:Bool) (d:Option Nat) (p:AOp) (fr:Fr):wan ⟨some (t,b),d,p⟩ fr = wantV b (fr.get t):=rfl
theorem wan_eq (o:AO) (fr:Fr):o.wanted fr = wan o fr:=by
 obtain ⟨g,d,p⟩:=o
 cases g with
 | none=>rfl
 | some q=>obtain ⟨t,b⟩:=q; exact wanted_eq _ _ _ _
def ldA (H:AH) (n:Nat):Value → Option (Addr × List Value)
 | .pointer (some a)=>(H.ldn a n).map fun l=>(a,l)
 | _=>none
@[simp] theorem ldA_p (n:Nat) (a:Addr):ldA H n (.pointer (some a)) = (H.ldn a n).map fun l=>(a,l):=rfl
def ldO:AOp → Fr → AH → Option (Addr × List Value)
 | .ld x,fr,H=>ldA H 1 (x.ev fr)
 | .ldn n x,fr,H=>ldA H n (x.ev fr)
 | _,_,_=>none
@[simp] theorem ldO_ld (x:X):ldO (.ld x) fr H = ldA H 1 (x.ev fr):=rfl
@[simp] theorem ldO_ldn (n:Nat) (x:X):ldO (.ldn n x) fr H = ldA H n (x.ev fr):=rfl
def samO (H':AH):Option (Addr × List Value) → Bool
 | some x=>sameAt H' x
 | none=>false
@[simp] theorem samO_s (x:Addr × List Value):samO H (some x) = sameAt H x:=rfl
def samL:Option (List Value) → List Value → Bool
 | some m,l=>sameL m l
 | none,_=>false
@[simp] theorem samL_s (m l:List Value):samL (some m) l = sameL m l:=rfl
@[simp] theorem sameAt_p (a:Addr) (l:List Value):sameAt H (a,l) = samL (H.ldn a l.length) l:=by
 unfold sameAt samL
 dsimp only
 cases H.ldn a l.length <;> rfl
@[simp] theorem sameL_n:sameL [] [] = true:=rfl
@[simp] theorem sameL_c (x y:Value) (l m:List Value):sameL (x :: l) (y :: m) = (same1 x y && sameL l m):=rfl
@[simp] theorem same1_i (k:IntKind) (n:Int):same1 (.int k n) (.int k n) = true:=by simp [same1]
@[simp] theorem same1_b (b:Bool):same1 (.bool b) (.bool b) = true:=by simp [same1]
@[simp] theorem same1_p (a:Option Addr):same1 (.pointer a) (.pointer a) = true:=by simp [same1]
@[simp] theorem same1_s (a:Option Addr) (n c:Nat):same1 (.slice a n c) (.slice a n c) = true:=by simp [same1]
def ckO (l:List AO):Nat → Option AO → Option (Fr × AH) → Option (Fr × AH) → Option AO → Option (Fr × AH) → Option (Fr × AH) → Bool
 | k,some op,some (fp,Hp),some (_,Hp'),some oq,some (fq,_),some (_,Hq') =>
  !wan op fp || !wan oq fq || (match k with
   | 0=>samO Hq' (ldO op.o fp Hp)
   | 1=>sameB (Hp'.get Hp.nx) (Hq'.get Hp.nx)
   | _=>match adrOf op fp,adrOf oq fq with | some b,some b'=>!Nat.beq b b' | _,_=>true)
 | _,_,_,_,_,_,_=>false
@[simp] theorem ckO_0 (l:List AO) (op oq:AO) (fp fq f1 f2:Fr) (Hp Hp' H1 Hq':AH):ckO l 0 (some op) (some (fp,Hp)) (some (f1,Hp')) (some oq) (some (fq,H1)) (some (f2,Hq')) = (!wan op fp || !wan oq fq || samO Hq' (ldO op.o fp Hp)):=rfl
@[simp] theorem ckO_1 (l:List AO) (op oq:AO) (fp fq f1 f2:Fr) (Hp Hp' H1 Hq':AH):ckO l 1 (some op) (some (fp,Hp)) (some (f1,Hp')) (some oq) (some (fq,H1)) (some (f2,Hq')) = (!wan op fp || !wan oq fq || sameB (Hp'.get Hp.nx) (Hq'.get Hp.nx)):=rfl
theorem ckO_2 (l:List AO) (op oq:AO) (fp fq f1 f2:Fr) (Hp Hp' H1 Hq':AH):ckO l 2 (some op) (some (fp,Hp)) (some (f1,Hp')) (some oq) (some (fq,H1)) (some (f2,Hq')) = (!wan op fp || !wan oq fq || (match adrOf op fp,adrOf oq fq with | some b,some b'=>!Nat.beq b b' | _,_=>true)):=rfl
theorem chk1_eq (l:List AO) (ss:List (Fr × AH)) (k p q:Nat):chk1 l ss (k,p,q) = ckO l k (nth l p) (nth ss p) (nth ss (p + 1)) (nth l q) (nth ss q) (nth ss (q + 1)):=by
  unfold chk1
  dsimp only
  cases nth l p with
  | none=>rfl
  | some op =>
    cases nth ss p with
    | none=>rfl
    | some a =>
      cases nth ss (p + 1) with
      | none=>rfl
      | some b =>
        cases nth l q with
        | none=>rfl
        | some oq =>
          cases nth ss q with
          | none=>rfl
          | some c =>
            cases nth ss (q + 1) with
            | none=>rfl
            | some d =>
              obtain ⟨a1,a2⟩:=a
              obtain ⟨b1,b2⟩:=b
              obtain ⟨c1,c2⟩:=c
              obtain ⟨d1,d2⟩:=d
              simp only [ckO,wan_eq]
              congr 1
              match k with
              | 0 =>
                obtain ⟨g,dd,p⟩:=op
                cases p <;> first
                  | rfl
                  | (simp only [loadOf,ldO]
                     rename_i x
                     cases x.ev a1 with
                     | pointer z =>
                       cases z with
                       | none=>rfl
                       | some z=>simp only [ldA]; cases AH.ldn a2 z _ <;> rfl
                     | _=>rfl)
              | 1=>rfl
              | k + 2=>rfl
theorem okD_eq (l:List AO) (ck:List (Nat × Nat × Nat)) (acc:List (Fr × AH)):okD l ck acc = (chain acc.reverse && ck.all fun c=>ckO l c.1 (nth l c.2.1) (nth acc.reverse c.2.1) (nth acc.reverse (c.2.1 + 1)) (nth l c.2.2) (nth acc.reverse c.2.2) (nth acc.reverse (c.2.2 + 1))):=by
 unfold okD
 congr 1
 congr 1
 funext c
 obtain ⟨k,p,q⟩:=c
 exact chk1_eq _ _ _ _ _
theorem okD_of (l:List AO) (ck:List (Nat × Nat × Nat)) (acc:List (Fr × AH)):okD l ck acc = true ↔ chain acc.reverse = true ∧ ck.all (fun c=>ckO l c.1 (nth l c.2.1) (nth acc.reverse c.2.1) (nth acc.reverse (c.2.1 + 1)) (nth l c.2.2) (nth acc.reverse c.2.2) (nth acc.reverse (c.2.2 + 1))) = true:=by
 rw [okD_eq,Bool.and_eq_true]
theorem chain_2 (a b:Fr × AH) (l:List (Fr × AH)):chain (a :: b :: l) = true ↔ (a.2.n0 = b.2.n0 ∧ a.2.nx ≤ b.2.nx) ∧ chain (b :: l) = true:=by
 simp only [chain,Bool.and_eq_true,Nat.beq_eq,Nat.ble_eq]
theorem chain_1 (a:Fr × AH):chain [a] = true:=rfl
@[simp] theorem nth_z {α:Type} (x:α) (l:List α):nth (x :: l) 0 = some x:=rfl
@[simp] theorem nth_s {α:Type} (x:α) (l:List α) (n:Nat):nth (x :: l) (n + 1) = nth l n:=rfl
theorem nth_l {α:Type}:∀ (l:List α) (n:Nat),nth l n = l[n]?
 | [],n=>by cases n <;> rfl
 | x :: l,0=>rfl
 | x :: l,n + 1=>by simp [nth_l l n]
def spine:Nat → AC → AC → AC
 | 0,_,r=>r
 | k + 1,.seq a b,r=>.seq a (spine k b r)
 | _,c,_=>c
def tailOf:Nat → AC → AC
 | 0,c=>c
 | k + 1,.seq _ b=>tailOf k b
 | _,c=>c
theorem spine_1 (a b r:AC):spine 1 (.seq a b) r = .seq a r:=by cases b <;> rfl
theorem spine_2 (a b r:AC):spine 2 (.seq a b) r = .seq a (spine 1 b r):=rfl
theorem spine_3 (a b r:AC):spine 3 (.seq a b) r = .seq a (spine 2 b r):=rfl
theorem spine_4 (a b r:AC):spine 4 (.seq a b) r = .seq a (spine 3 b r):=rfl
theorem spine_5 (a b r:AC):spine 5 (.seq a b) r = .seq a (spine 4 b r):=rfl
theorem spine_6 (a b r:AC):spine 6 (.seq a b) r = .seq a (spine 5 b r):=rfl
theorem spine_7 (a b r:AC):spine 7 (.seq a b) r = .seq a (spine 6 b r):=rfl
theorem spine_8 (a b r:AC):spine 8 (.seq a b) r = .seq a (spine 7 b r):=rfl
attribute [simp] spine_1 spine_2 spine_3 spine_4 spine_5 spine_6 spine_7 spine_8
inductive Stp where
 | l
 | r
def subAt:List Stp → AC → AC
 | [],c=>c
 | .l :: p,.seq a _=>subAt p a
 | .r :: p,.seq _ b=>subAt p b
 | .l :: p,.block _ a=>subAt p a
 | .l :: p,.cond _ a _=>subAt p a
 | .r :: p,.cond _ _ b=>subAt p b
 | _,c=>c
def plug:List Stp → AC → AC → AC
 | [],_,r=>r
 | .l :: p,.seq a b,r=>.seq (plug p a r) b
 | .r :: p,.seq a b,r=>.seq a (plug p b r)
 | .l :: p,.block i a,r=>.block i (plug p a r)
 | .l :: p,.cond x a b,r=>.cond x (plug p a r) b
 | .r :: p,.cond x a b,r=>.cond x a (plug p b r)
 | _,c,_=>c
def ctxK:List Stp → AC → List Ko → List Ko
 | [],_,ks=>ks
 | .l :: p,.seq a b,ks=>ctxK p a (.seq b :: ks)
 | .r :: p,.seq _ b,ks=>ctxK p b ks
 | .l :: p,.block i a,ks=>ctxK p a (.blk i :: ks)
 | .l :: p,.cond _ a _,ks=>ctxK p a ks
 | .r :: p,.cond _ _ b,ks=>ctxK p b ks
 | _,_,ks=>ks
@[simp] theorem subAt_n (c:AC):subAt [] c = c:=by cases c <;> rfl
@[simp] theorem subAt_l (p:List Stp) (a b:AC):subAt (.l :: p) (.seq a b) = subAt p a:=rfl
@[simp] theorem subAt_r (p:List Stp) (a b:AC):subAt (.r :: p) (.seq a b) = subAt p b:=rfl
@[simp] theorem subAt_b (p:List Stp) (i:Nat) (a:AC):subAt (.l :: p) (.block i a) = subAt p a:=rfl
@[simp] theorem subAt_cl (p:List Stp) (x:X) (a b:AC):subAt (.l :: p) (.cond x a b) = subAt p a:=rfl
@[simp] theorem subAt_cr (p:List Stp) (x:X) (a b:AC):subAt (.r :: p) (.cond x a b) = subAt p b:=rfl
@[simp] theorem plug_cl (p:List Stp) (x:X) (a b r:AC):plug (.l :: p) (.cond x a b) r = .cond x (plug p a r) b:=rfl
@[simp] theorem plug_cr (p:List Stp) (x:X) (a b r:AC):plug (.r :: p) (.cond x a b) r = .cond x a (plug p b r):=rfl
@[simp] theorem ctxK_cl (p:List Stp) (x:X) (a b:AC) (ks:List Ko):ctxK (.l :: p) (.cond x a b) ks = ctxK p a ks:=rfl
@[simp] theorem ctxK_cr (p:List Stp) (x:X) (a b:AC) (ks:List Ko):ctxK (.r :: p) (.cond x a b) ks = ctxK p b ks:=rfl
@[simp] theorem plug_n (c r:AC):plug [] c r = r:=by cases c <;> rfl
@[simp] theorem plug_l (p:List Stp) (a b r:AC):plug (.l :: p) (.seq a b) r = .seq (plug p a r) b:=rfl
@[simp] theorem plug_r (p:List Stp) (a b r:AC):plug (.r :: p) (.seq a b) r = .seq a (plug p b r):=rfl
@[simp] theorem plug_b (p:List Stp) (i:Nat) (a r:AC):plug (.l :: p) (.block i a) r = .block i (plug p a r):=rfl
@[simp] theorem ctxK_n (c:AC) (ks:List Ko):ctxK [] c ks = ks:=by cases c <;> rfl
@[simp] theorem ctxK_l (p:List Stp) (a b:AC) (ks:List Ko):ctxK (.l :: p) (.seq a b) ks = ctxK p a (.seq b :: ks):=rfl
@[simp] theorem ctxK_r (p:List Stp) (a b:AC) (ks:List Ko):ctxK (.r :: p) (.seq a b) ks = ctxK p b ks:=rfl
@[simp] theorem ctxK_b (p:List Stp) (i:Nat) (a:AC) (ks:List Ko):ctxK (.l :: p) (.block i a) ks = ctxK p a (.blk i :: ks):=rfl
def ksSub:Nat → List Stp → List Ko → AC
 | 0,p,.seq c :: _=>subAt p c
 | j + 1,p,_ :: ks=>ksSub j p ks
 | _,_,_=>.skip
def ksPlug:Nat → List Stp → List Ko → AC → List Ko
 | 0,p,.seq c :: ks,r=>.seq (plug p c r) :: ks
 | j + 1,p,k :: ks,r=>k :: ksPlug j p ks r
 | _,_,ks,_=>ks
def ksCtx:Nat → List Stp → List Ko → List Ko
 | 0,p,.seq c :: ks=>ctxK p c ks
 | j + 1,p,_ :: ks=>ksCtx j p ks
 | _,_,ks=>ks
theorem Vk_at {c:AC} (p:List Stp) (P:Fr → AH → Prop) (hp:plug p c (subAt p c) = c) (h2:∀ fr H,P fr H → Vk E O (subAt p c) (ctxK p c ks) fr H Q) (h1:∀ rest,(∀ fr H,P fr H → Vk E O rest (ctxK p c ks) fr H Q) → Vk E O (plug p c rest) ks fr H Q):Vk E O c ks fr H Q:=by
 have:=h1 _ h2
 rwa [hp] at this
theorem Vx_at {m:Md} {l:List AO} (j:Nat) (p:List Stp) (P:Fr → AH → Prop) (hp:ksPlug j p ks (ksSub j p ks) = ks) (h2:∀ fr H,P fr H → Vk E O (ksSub j p ks) (ksCtx j p ks) fr H Q) (h1:∀ rest,(∀ fr H,P fr H → Vk E O rest (ksCtx j p ks) fr H Q) → Vx E O m l (ksPlug j p ks rest) fr H Q):Vx E O m l ks fr H Q:=by
 have:=h1 _ h2
 rwa [hp] at this
theorem Ca.bodyT {f:Nat} {F:AF} {«as»:List Value} {H:AH} {Q:Value → AH → Prop} (k:Nat) (ho:O f = none) (he:E f = some F) (hl:«as».length = F.np) (hk:spine k F.body (tailOf k F.body) = F.body) (h:Vk E O (spine k F.body (tailOf k F.body)) [] (Fr.of «as») H (retQ F.res Q)):Ca E O f «as» H Q:=Ca.bodyK ho he hl (hk ▸ h)
theorem Ca.bodyV {f:Nat} {F:AF} {«as»:List Value} {H:AH} {Q:Value → AH → Prop} (ho:O f = none) (he:E f = some F) (hl:«as».length = F.np) (h:Vk E O F.body [] (Fr.of «as») H (retQ F.res Q)):Ca E O f «as» H Q:=Ca.bodyK ho he hl h
def loopV (E:Env) (O:Orc) (I:Nat → Fr → AH → Prop) (k:Nat) (ks:List Ko) (Q:Ex → Fr → AH → Prop):Ex → Fr → AH → Prop
 | .normal,fr,H=>∃ j,j < k ∧ I j fr H
 | .exit i,fr,H=>Vn E O (.exit i) ks fr H Q
 | .ret,fr,H=>Vn E O .ret ks fr H Q
@[simp] theorem loopV_n (I:Nat → Fr → AH → Prop) (k:Nat):loopV E O I k ks Q .normal fr H = ∃ j,j < k ∧ I j fr H:=rfl
@[simp] theorem loopV_e (I:Nat → Fr → AH → Prop) (k i:Nat):loopV E O I k ks Q (.exit i) fr H = Vn E O (.exit i) ks fr H Q:=rfl
@[simp] theorem loopV_r (I:Nat → Fr → AH → Prop) (k:Nat):loopV E O I k ks Q .ret fr H = Vn E O .ret ks fr H Q:=rfl
theorem Vk_loop {a:AC} (I:Nat → Fr → AH → Prop) (step:∀ k fr H,I k fr H → Vk E O a [] fr H (loopV E O I k ks Q)) (k:Nat) (h:I k fr H):Vk E O (.loop a) ks fr H Q:=by
 refine Wk_loop I (fun k fr H hI=>?_) k h
 have:=step k fr H hI
 unfold Vk at this
 have e:loopV E O I k ks Q = loopQ E O I k ks Q:=by
  funext ex fr H
  cases ex <;> rfl
 rw [e] at this
 exact this
@[simp] theorem X_t (n:Nat):X.ev fr (.t n) = fr.get n:=rfl
@[simp] theorem X_k (v:Value):X.ev fr (.k v) = v:=rfl
@[simp] theorem X_f (n:Nat):X.ev fr (.f n) = .func (.func n) #[] #[]:=rfl
end
end Go.Proofs.YtoijnpfpjpefgaaGreat.A
/- A text without what this claim does not need: S15. -/
set_option linter.unusedVariables false
set_option linter.unusedSimpArgs false
set_option maxRecDepth 10000
namespace Go.Proofs.YtoijnpfpjpefgaaGreat.A
open Go
theorem inName_ca (c:Int) (H:AH):Ca E O 133 [.int .u8 c] H (fun x H'=>x = .bool (nameByte c) ∧ H' = H):=by
 refine Ca.bodyV (F:=a133) rfl rfl rfl ?_
 simp (maxSteps:=4000000) -implicitDefEqProofs +contextual [-X.ev,a133]
 simp [br,nameByte,isLetter,isDigit]
 by_cases h1:97 ≤ c <;> by_cases h2:c ≤ 122 <;> by_cases h3:48 ≤ c <;> by_cases h4:c ≤ 57 <;> simp [*] <;> omega
theorem strEq_nil {s:ByteArray}:strEq s ⟨#[]⟩ = decide (s.size = 0):=by
 rw [Bool.eq_iff_iff,strEq_iff]
 constructor
 ·rintro rfl; rfl
 ·intro h; simp at h; exact h
theorem isName_ca (s:ByteArray) (hsz:s.size < 2 ^ 60) (H:AH):Ca E O 118 [.string s] H (fun x H'=>x = .bool (isName s) ∧ H' = H):=by
 refine Ca.bodyV (F:=a118) rfl rfl rfl ?_
 by_cases h1:s.size = 0
 ·simp (maxSteps:=4000000) -implicitDefEqProofs +contextual [-X.ev,a118,strEq_nil,h1,isName]
 have h1':0 < s.size:=by omega
 have ix0:ixV (.string s) (.int .i64 0) = some (.int .u8 (byteAt s 0)):=ixV_p (n:=0) h1'
 have ltr:isLetter (byteAt s 0) = (decide (97 ≤ byteAt s 0) && decide (byteAt s 0 ≤ 122)):=rfl
 obtain ⟨b0,ltr0⟩:∃ b,byteAt s 0 = b:=⟨_,rfl⟩
 rw [ltr0] at ix0 ltr
 simp (maxSteps:=4000000) -implicitDefEqProofs +contextual [-X.ev,a118,strEq_nil,h1,ix0]
 refine br_i (fun q=>?_) (fun q=>br_i (fun q1=>?_) (fun q1=>br_i (fun q2=>?_) (fun q2=>?_)))
 ·have:¬ s.size ≤ 12:=by omega
  simp [isName,this]
 ·have q1':¬ 97 ≤ b0:=by omega
  simp [isName,ltr0,ltr,q1']
 ·have q2':¬ b0 ≤ 122:=by omega
  simp [isName,ltr0,ltr,q2']
 refine Vk_loop (fun k fr H'=>H' = H ∧ ∃ i:Nat,i + k = s.size ∧ fr.get 0 = .string s ∧ fr.get 3 = .int .i64 i ∧ ∀ j,j < i → nameByte (byteAt s j) = true) ?_ s.size ⟨rfl,0,by simp,by simp,by simp,fun j hj=>by omega⟩
 rintro k fr H' ⟨rfl,i,hi,f0,f3,hall⟩
 by_cases h:i < s.size
 ·have ixi:ixV (.string s) (.int .i64 i) = some (.int .u8 (byteAt s i)):=ixV_p h
  simp (maxSteps:=4000000) -implicitDefEqProofs +contextual [-X.ev,f0,f3,h,ixi]
  apply Vx_callM
  ·(simp -implicitDefEqProofs [-X.ev]; rfl)
  refine (inName_ca (byteAt s i) H').mono ?_
  rintro x H1 ⟨rfl,rfl⟩
  cases h5:nameByte (byteAt s i) with
  | true =>
   simp (maxSteps:=4000000) -implicitDefEqProofs +contextual [-X.ev,f0,f3]
   rw [wrap_in ⟨by omega,by omega⟩]
   refine ⟨k - 1,by omega,i + 1,by omega,by simp,fun j hj=>?_⟩
   by_cases e:j = i
   ·subst e; exact h5
   ·exact hall j (by omega)
  | false =>
   simp (maxSteps:=4000000) -implicitDefEqProofs +contextual [-X.ev]
   simp [isName]
   intro _ _ _ _
   exact ⟨i,h,h5⟩
 ·have hall':((List.range s.size).all fun i=>nameByte (byteAt s i)) = true:=by simpa using fun j hj=>hall j (by omega)
  have z1:1 ≤ s.size:=by omega
  have z2:s.size ≤ 12:=by omega
  have z3:isLetter (byteAt s 0) = true:=by rw [ltr0,ltr]; simp; omega
  have e:isName s = !isTaken s:=by simp [isName,hall',z1,z2,z3]
  simp (maxSteps:=4000000) -implicitDefEqProofs +contextual [-X.ev,f0,f3,h,e,isTaken]
end Go.Proofs.YtoijnpfpjpefgaaGreat.A
/- A text without what this claim does not need: S16. -/
set_option linter.unusedVariables false
set_option linter.unusedSimpArgs false
set_option maxRecDepth 10000
namespace Go.Proofs.YtoijnpfpjpefgaaGreat.A
open Go
def smap (l:List (ByteArray × Value)):List (Value × Value):=l.map fun p=>(.string p.1,p.2)
theorem findA_s (s:ByteArray):∀ l:List (ByteArray × Value),findA (.string s) (smap l) = some ((l.find? fun p=>strEq s p.1).map (·.2))
 | []=>rfl
 | p :: l=>by
  have ih:=findA_s s l
  unfold smap at ih ⊢
  simp only [List.map_cons,findA,veq?,List.find?_cons]
  change (match some (strEq s p.1) with | some true=>_ | some false=>_ | none=>_) = _
  cases strEq s p.1
  ·exact ih
  ·rfl
theorem updA_s (s:ByteArray) (v:Value):∀ l:List (ByteArray × Value),(∀ p ∈ l,strEq s p.1 = false) → updA (.string s) v (smap l) = some (smap (l ++ [(s,v)]))
 | [],_=>rfl
 | p :: l,h=>by
  have ih:=updA_s s v l fun q hq=>h q (by simp [hq])
  unfold smap at ih ⊢
  simp only [List.map_cons,updA,veq?,List.cons_append]
  change (match some (strEq s p.1) with | some true=>_ | some false=>_ | none=>_) = _
  rw [h p (by simp)]
  simp [ih]
theorem lookV_f {kk m:Nat} {z k v:Value} {H:AH} {es:List (Value × Value)} (hg:H.get m = some (.map es)) (h0:H.n0 ≤ m) (hk:keyOk kk k = true) (hf:findA k es = some (some v)):lookV kk z H (.map (some m)) k false = some v:=by
 simp [lookV,hg,h0,hk,hf]
theorem lookV_n {kk m:Nat} {z k:Value} {H:AH} {es:List (Value × Value)} (hg:H.get m = some (.map es)) (h0:H.n0 ≤ m) (hk:keyOk kk k = true) (hf:findA k es = some none):lookV kk z H (.map (some m)) k false = some z:=by
 simp [lookV,hg,h0,hk,hf]
theorem mupV_m {kk m:Nat} {k v:Value} {H:AH} {es es':List (Value × Value)} (hg:H.get m = some (.map es)) (h0:H.n0 ≤ m) (hk:keyOk kk k = true) (ht:isTup v = false) (hu:updA k v es = some es') :
  ∃ H2,mupV kk H (.map (some m)) k v = some H2 ∧ Mod (fun x=>x = m) H H2 ∧ H2.nx = H.nx ∧ H2.n0 = H.n0 ∧ H2.get m = some (.map es'):=by
 have hb:=AH.get_lt hg
 refine ⟨H.put m (some (.map es')),by simp [mupV,hg,h0,hk,ht,hu],⟨rfl,Nat.le_refl _,fun x hx hs=>?_⟩,rfl,rfl,?_⟩
 ·rw [AH.get_put _ _ _ _ hb,if_neg hs]
 ·rw [AH.get_put _ _ _ _ hb,if_pos rfl]
def namesM (l:List Vr):List (ByteArray × Value):=l.map fun v=>(v.name,.bool true)
theorem namesM_find (l:List Vr) (s:ByteArray):((namesM l).find? fun p=>strEq s p.1).map (·.2) = if l.any (fun v=>strEq v.name s) = true then some (.bool true) else none:=by
 induction l with
 | nil=>rfl
 | cons v l ih =>
  simp only [namesM,List.map_cons,List.find?_cons,List.any_cons]
  have e:strEq s v.name = strEq v.name s:=by
   rw [Bool.eq_iff_iff,strEq_iff,strEq_iff]; exact eq_comm
  rcases Bool.eq_false_or_eq_true (strEq v.name s) with q | q
  ·rw [q] at e
   simp [e,q]
  ·rw [q] at e
   simp only [e,q,Bool.false_or]
   simpa [namesM] using ih
theorem any_take {l:List Vr} {i:Nat} {y:Vr} (hy:l[i]? = some y):((l.take i).any fun v=>strEq v.name y.name) = !decide (findV l y.name = i):=by
 have hi:=(List.getElem?_eq_some_iff.1 hy).1
 cases q:(l.take i).any fun v=>strEq v.name y.name with
 | false =>
  have:findV l y.name = i:=findV_some hy (by rw [strEq_iff]) fun j z hj hz=>by
   rw [List.any_eq_false] at q
   have:=q z (List.mem_of_getElem? (i:=j) (by rw [List.getElem?_take,if_pos hj]; exact hz))
   simpa using this
  simp [this]
 | true =>
  rw [List.any_eq_true] at q
  obtain ⟨z,hz,hs⟩:=q
  obtain ⟨j,hj,e⟩:=List.mem_iff_getElem.1 hz
  have:¬ findV l y.name = i:=by
   intro hf
   unfold findV at hf
   split at hf
   ·rename_i k hk
    rw [List.findIdx?_eq_some_iff_getElem] at hk
    obtain ⟨_,_,hk⟩:=hk
    have hji:j < i:=by simp at hj; omega
    have:=hk j (by omega)
    rw [List.getElem_take] at e
    rw [e,hs] at this
    simp at this
   ·omega
  simp [this]
def okAt (l:List Vr) (i:Nat):Bool:=match l[i]? with | some v=>okVar l i v | none=>true
theorem isHeading_eq (w:Int) (l:List Vr):isHeading w l = (isWidth w && (decide (1 ≤ l.length) && (decide (l.length ≤ 18) && ((List.range l.length).all (okAt l) && decide (wsum (l.map (·.cells)) ≤ 48))))):=rfl
theorem okAt_some {l:List Vr} {i:Nat} {y:Vr} (h:l[i]? = some y):okAt l i = okVar l i y:=by unfold okAt; rw [h]
set_option maxHeartbeats 1000000 in
theorem Head_ca {v:Value} {l:List Vr} {H:AH} (hw:H.n0 ≤ H.nx) (hv:Vars H v l) (hok:VarsOk l) (w:Int):Ca E O 102 [.int .i64 w,v] H (fun x H'=>x = .int .i64 (if isHeading w l = true then 0 else 1) ∧ Ext H H'):=by
 refine Ca.bodyV (F:=a102) rfl rfl rfl ?_
 obtain ⟨a,c,hva⟩:=hv.len
 have hsz:=hok.1
 have X0:=Ext.alloc H (.map [])
 have g0:=get_new H (.map [])
 generalize hH0:H.alloc (.map []) = H0 at X0 g0
 simp (maxSteps:=4000000) -implicitDefEqProofs +contextual [-X.ev,a102,hva,hH0]
 have z1:isHeading w l = true → 1 ≤ w ∧ w ≤ 8 ∧ 1 ≤ l.length ∧ l.length ≤ 18:=by
  intro h; simp [isHeading,isWidth] at h; omega
 have nf:¬ (1 ≤ w ∧ w ≤ 8 ∧ 1 ≤ l.length ∧ l.length ≤ 18) → isHeading w l = false:=fun q=>by
  rw [Bool.eq_false_iff]; exact fun h=>q (z1 h)
 refine br_i (fun q=>?_) (fun q1=>br_i (fun q=>?_) (fun q2=>br_i (fun q=>?_) (fun q3=>br_i (fun q=>?_) (fun q4=>?_))))
 ·exact ⟨nf (by omega),Ext.refl _⟩
 ·exact ⟨nf (by omega),Ext.refl _⟩
 ·exact ⟨nf (by omega),Ext.refl _⟩
 ·exact ⟨nf (by omega),Ext.refl _⟩
 refine Vk_loop (fun k fr H1=>Ext H H1 ∧ H1.get H.nx = some (.map (smap (namesM (l.take (l.length - k))))) ∧ k ≤ l.length ∧ ∃ i:Nat,i + k = l.length ∧ fr.get 26 = v ∧ fr.get 27 = .int .i64 l.length ∧ fr.get 28 = .int .i64 i ∧ fr.get 5 = .map (some H.nx) ∧ fr.get 6 = .int .i64 (wsum ((l.take i).map (·.cells))) ∧ ∀ j y,j < i → l[j]? = some y → okVar l j y = true) ?_ l.length ⟨X0,by simpa [namesM,smap] using g0,Nat.le_refl _,0,by simp,by simp [hva],by simp,by simp,by simp,by simp [wsum],fun j y hj=>by omega⟩
 rintro k fr H1 ⟨X1,gm,hk,i,hi,f26,f27,f28,f5,f6,hall⟩
 rw [show l.length - k = i by omega] at gm
 have hw1:=X1.wf hw
 have hn0:H1.n0 ≤ H.nx:=by rw [X1.n0]; exact hw
 have notOk:∀ y,l[i]? = some y → okVar l i y = false → isHeading w l = false:=by
  intro y hy hn
  have:((List.range l.length).all (okAt l)) = false:=by
   rw [List.all_eq_false]
   refine ⟨i,?_,?_⟩
   ·have:=(List.getElem?_eq_some_iff.1 hy).1; simpa using this
   ·rw [okAt_some hy]; simp [hn]
  simp only [isHeading_eq,this,Bool.false_and,Bool.and_false]
 by_cases h:i < l.length
 ·obtain ⟨y,hy⟩:∃ y,l[i]? = some y:=⟨_,List.getElem?_eq_getElem h⟩
  obtain ⟨b,o,c',hv',hldn,_⟩:=(hv.ext X1).at hy
  have hname:=hok.2 y (List.mem_of_getElem? hy)
  have f26v:=f26
  rw [hv'] at f26
  obtain ⟨H2,sH2,X2,nxH2,n0H2,d,lH2⟩:=st_new (H:=H1) hw1 (z:=3) (c:=[.string ⟨#[]⟩,.int .i64 0,.int .i64 0]) (vs:=[.string y.name,.int .i64 y.level,.int .i64 y.cells]) rfl
  have d0:H2.ld ⟨H1.nx,0,none⟩ = some (.string y.name):=lH2 0 _ rfl
  have d1:H2.ld ⟨H1.nx,1,none⟩ = some (.int .i64 y.level):=lH2 1 _ rfl
  have d2:H2.ld ⟨H1.nx,2,none⟩ = some (.int .i64 y.cells):=lH2 2 _ rfl
  clear lH2
  replace d:H2.ldn ⟨H1.nx,0,none⟩ 3 = some [.string y.name,.int .i64 y.level,.int .i64 y.cells]:=d
  have hwH2:=X2.wf hw1
  have gm2:=X2.get gm
  have h0:H2.n0 ≤ H.nx:=by rw [n0H2]; exact hn0
  have key:isHeading w l = true → okVar l i y = true:=fun hh=>by
   cases e:okVar l i y with
   | true=>rfl
   | false=>rw [notOk y hy e] at hh; cases hh
  have lk:lookV 1 (.bool false) H2 (.map (some H.nx)) (.string y.name) false = some (.bool (!decide (findV l y.name = i))):=by
   have hf:=findA_s y.name (namesM (l.take i))
   rw [namesM_find,any_take hy] at hf
   by_cases e:findV l y.name = i
   ·rw [lookV_n gm2 h0 rfl (by simpa [e] using hf)]; simp [e]
   ·rw [lookV_f gm2 h0 rfl (by simpa [e] using hf)]; simp [e]
  simp (maxSteps:=4000000) -implicitDefEqProofs +contextual [-X.ev,f26,f27,f28,f5,f6,h,hldn,Vr.row,sH2,d0]
  apply Vx_callM
  ·(simp -implicitDefEqProofs [-X.ev]; rfl)
  refine (isName_ca y.name hname H2).mono ?_
  rintro x H3 ⟨rfl,rfl⟩
  have X3:=X1.trans X2
  cases n1:isName y.name with
  | false =>
   simp (maxSteps:=4000000) -implicitDefEqProofs +contextual [-X.ev,f26,f27,f28,f5,f6]
   rw [notOk y hy (by simp [okVar,n1])]
   exact ⟨rfl,X3⟩
  | true =>
   by_cases hok1:okVar l i y = true
   ·obtain ⟨_,m1,m2,m3,m4,m5⟩:isName y.name = true ∧ 0 ≤ y.level ∧ y.level ≤ 47 ∧ 1 ≤ y.cells ∧ y.cells ≤ 8 ∧ findV l y.name = i:=by simpa [okVar] using hok1
    have m1':¬ y.level < 0:=by omega
    have m2':¬ 47 < y.level:=by omega
    have m3':¬ y.cells < 1:=by omega
    have m4':¬ 8 < y.cells:=by omega
    obtain ⟨H4,sm,X4,nx4,n04,gm4⟩:=mupV_m (v:=.bool true) gm2 h0 (kk:=1) (k:=.string y.name) rfl rfl (updA_s y.name (.bool true) (namesM (l.take i)) (by
     have:=any_take hy
     simp only [m5,decide_true,Bool.not_true] at this
     rw [List.any_eq_false] at this
     intro p hp
     unfold namesM at hp
     obtain ⟨z,hz,rfl⟩:=List.mem_map.1 hp
     have:=this z hz
     have e:strEq y.name z.name = strEq z.name y.name:=by
      rw [Bool.eq_iff_iff,strEq_iff,strEq_iff]; exact eq_comm
     simpa [e] using this))
    have hne:¬ H1.nx = H.nx:=by have:=AH.get_lt gm; omega
    have d2':=X4.ld (a:=⟨H1.nx,2,none⟩) hne d2
    simp (maxSteps:=4000000) -implicitDefEqProofs +contextual [-X.ev,f26,f27,f28,f5,f6,d0,d1,d2,lk,m5,m1',m2',m3',m4',sm,d2']
    have hbd:-9223372036854775808 ≤ (i:Int) + 1 ∧ (i:Int) + 1 ≤ 9223372036854775807:=by omega
    rw [wrap_in (n:=(i:Int) + 1) hbd]
    refine ⟨k - 1,by omega,X3.mod X4 (by rintro x rfl; exact Nat.le_refl _),?_,by omega,i + 1,by omega,hv'.symm,by simp,?_,?_⟩
    ·rw [gm4,show l.length - (k - 1) = i + 1 by omega,List.take_add_one,hy]
     simp [namesM]
    ·rw [List.take_add_one]
     simp [wsum,List.getElem?_map,hy,List.foldl_append]
    ·intro j z hj hz
     by_cases e:j = i
     ·subst e; rw [hy] at hz; cases hz; exact hok1
     ·exact hall j z (by omega) hz
   ·have hok2:okVar l i y = false:=by simpa using hok1
    have hno:=notOk y hy hok2
    have hor:¬ (findV l y.name = i ∧ ¬ y.level < 0 ∧ ¬ 47 < y.level ∧ ¬ y.cells < 1 ∧ ¬ 8 < y.cells):=by
     rintro ⟨a1,a2,a3,a4,a5⟩
     apply hok1
     simp [okVar,n1,a1]
     omega
    by_cases p1:findV l y.name = i
    case neg=>
     simp (maxSteps:=4000000) -implicitDefEqProofs +contextual [-X.ev,f26,f27,f28,f5,f6,d0,d1,d2,lk,p1,hno,X3]
    by_cases p2:y.level < 0
    case pos=>
     simp (maxSteps:=4000000) -implicitDefEqProofs +contextual [-X.ev,f26,f27,f28,f5,f6,d0,d1,d2,lk,p1,p2,hno,X3]
    by_cases p3:47 < y.level
    case pos=>
     simp (maxSteps:=4000000) -implicitDefEqProofs +contextual [-X.ev,f26,f27,f28,f5,f6,d0,d1,d2,lk,p1,p2,p3,hno,X3]
    by_cases p4:y.cells < 1
    case pos=>
     simp (maxSteps:=4000000) -implicitDefEqProofs +contextual [-X.ev,f26,f27,f28,f5,f6,d0,d1,d2,lk,p1,p2,p3,p4,hno,X3]
    have p5:8 < y.cells:=by
     rcases Int.lt_or_le 8 y.cells with e | e
     ·exact e
     ·exact absurd ⟨p1,p2,p3,p4,by omega⟩ hor
    simp (maxSteps:=4000000) -implicitDefEqProofs +contextual [-X.ev,f26,f27,f28,f5,f6,d0,d1,d2,lk,p1,p2,p3,p4,p5,hno,X3]
 ·have hl:i = l.length:=by omega
  have hc:isHeading w l = decide (wsum (l.map (·.cells)) ≤ 48):=by
   have a1:isWidth w = true:=by simp [isWidth]; omega
   have a2:((List.range l.length).all (okAt l)) = true:=by
    rw [List.all_eq_true]
    intro j hj
    cases e:l[j]? with
    | none=>unfold okAt; rw [e]
    | some y=>rw [okAt_some e]; exact hall j y (by simp at hj; omega) e
   have a3:1 ≤ l.length:=by omega
   have a4:l.length ≤ 18:=by omega
   simp only [isHeading_eq,a1,a2,a3,a4,decide_true,Bool.true_and]
  rw [hl,List.take_length] at f6
  simp (maxSteps:=4000000) -implicitDefEqProofs +contextual [-X.ev,f26,f27,f28,f5,f6,h,X1,hc]
end Go.Proofs.YtoijnpfpjpefgaaGreat.A
/- A text without what this claim does not need: S17. -/
set_option linter.unusedVariables false
set_option linter.unusedSimpArgs false
set_option maxRecDepth 10000
namespace Go.Proofs.YtoijnpfpjpefgaaGreat.A
open Go
theorem nodesL_take {l:List Exp} {i:Nat} {y:Exp} (h:l[i]? = some y):nodesL (l.take (i + 1)) = nodesL (l.take i) + nodesE y:=by
 induction l generalizing i with
 | nil=>simp at h
 | cons x l ih =>
  cases i with
  | zero=>simp at h; subst h; simp [nodesL]
  | succ i=>simp only [List.take_succ_cons,nodesL]; rw [ih (by simpa using h)]; omega
theorem nodesL_take_le (l:List Exp) (i:Nat):0 ≤ nodesL (l.take i) ∧ nodesL (l.take i) ≤ nodesL l:=by
 induction l generalizing i with
 | nil=>simp [nodesL]
 | cons x l ih =>
  have h1:=nodesE_pos x
  have h2:=nodesL_pos l
  cases i with
  | zero=>simp only [List.take_zero,nodesL]; omega
  | succ i=>simp only [List.take_succ_cons,nodesL]; have:=ih i; omega
theorem ExL.row {H:AH} {v:Value} {rows:List (List Value)} {l:List Exp} (hr:Rows H 4 v rows) (hl:ExL H rows l) {i:Nat} {y:Exp} (hy:l[i]? = some y) :
  ∃ b o c va r,v = .slice (some ⟨b,o,none⟩) l.length c ∧ H.ldn ⟨b,o + i * 4,none⟩ 4 = some [.int .i64 y.op,.int .i64 y.n,.int .i64 y.cp,va] ∧ r = [.int .i64 y.op,.int .i64 y.n,.int .i64 y.cp,va] ∧ ExC H r y:=by
 obtain ⟨r,hr1,hey⟩:=hl.at hy
 obtain ⟨b,o,c',hv',hldn⟩:=hr.at hr1
 rw [hl.length] at hv'
 cases hey with | @mk op n cp va rows args i1 i2 i3 hlen hr hll =>
 exact ⟨b,o,c',va,_,hv',hldn,rfl,.mk i1 i2 i3 hlen hr hll⟩
theorem ENodes_ca:∀ (N:Nat) (e:Exp) (c:List Value) (H:AH),SizeOf.sizeOf e < N → H.n0 ≤ H.nx → ExC H c e → nodesE e < 2 ^ 60 →
  Ca E O 109 [.agg c.toArray] H (fun x H'=>x = .int .i64 (nodesE e) ∧ Ext H H'):=by
 intro N
 induction N with
 | zero=>intro e c H h; omega
 | succ N ih =>
  intro e c H hN hw he hm
  cases he with | @mk op n cp v rows args i1 i2 i3 hlen hr hl =>
  refine Ca.bodyV (F:=a109) rfl rfl rfl ?_
  have X1:=Ext.alloc H (.cells 4 [.int .i64 op,.int .i64 n,.int .i64 cp,v])
  have d0:(H.alloc (.cells 4 [.int .i64 op,.int .i64 n,.int .i64 cp,v])).ld ⟨H.nx,0,none⟩ = some (.int .i64 op):=ld_new hw rfl
  have d1:(H.alloc (.cells 4 [.int .i64 op,.int .i64 n,.int .i64 cp,v])).ld ⟨H.nx,1,none⟩ = some (.int .i64 n):=ld_new hw rfl
  have d2:(H.alloc (.cells 4 [.int .i64 op,.int .i64 n,.int .i64 cp,v])).ld ⟨H.nx,2,none⟩ = some (.int .i64 cp):=ld_new hw rfl
  have d3:(H.alloc (.cells 4 [.int .i64 op,.int .i64 n,.int .i64 cp,v])).ld ⟨H.nx,3,none⟩ = some v:=ld_new hw rfl
  have d:(H.alloc (.cells 4 [.int .i64 op,.int .i64 n,.int .i64 cp,v])).ldn ⟨H.nx,0,none⟩ 4 = some [.int .i64 op,.int .i64 n,.int .i64 cp,v]:=ld_box hw 4 rfl
  generalize hH1:H.alloc (.cells 4 [.int .i64 op,.int .i64 n,.int .i64 cp,v]) = H1 at X1 d0 d1 d2 d3 d
  have hwH1:=X1.wf hw
  rw [nodesE] at hm
  obtain ⟨a0,c0,hv⟩:=hr.len
  rw [hl.length] at hv
  have D3:=d3
  rw [hv] at D3
  simp (maxSteps:=4000000) -implicitDefEqProofs +contextual [-X.ev,a109,hH1,D3]
  refine Vk_loop (fun k fr H'=>Ext H1 H' ∧ ∃ i:Nat,i + k = args.length ∧ fr.get 7 = v ∧ fr.get 8 = .int .i64 args.length ∧ fr.get 9 = .int .i64 i ∧ fr.get 3 = .int .i64 (1 + nodesL (args.take i))) ?_ args.length ⟨Ext.refl _,0,by simp,by simp [hv],by simp,by simp,by simp [nodesL]⟩
  rintro k fr H2 ⟨X2,i,hi,f7,f8,f9,f3⟩
  have X02:=X1.trans X2
  have hw2:=X02.wf hw
  by_cases h:i < args.length
  ·obtain ⟨y,hy⟩:∃ y,args[i]? = some y:=⟨_,List.getElem?_eq_getElem h⟩
   obtain ⟨b,o,c',va,r,hv',hldn,rfl,hey⟩:=ExL.row (hr.ext X02) (hl.ext X02) hy
   have f7v:=f7
   rw [hv'] at f7
   obtain ⟨H3,sH3,X3,nxH3,n0H3,q,lH3⟩:=st_new (H:=H2) hw2 (z:=4) (c:=[.int .i64 0,.int .i64 0,.int .i64 0,.slice none 0 0]) (vs:=[.int .i64 y.op,.int .i64 y.n,.int .i64 y.cp,va]) rfl
   have q0:H3.ld ⟨H2.nx,0,none⟩ = some (.int .i64 y.op):=lH3 0 _ rfl
   have q1:H3.ld ⟨H2.nx,1,none⟩ = some (.int .i64 y.n):=lH3 1 _ rfl
   have q2:H3.ld ⟨H2.nx,2,none⟩ = some (.int .i64 y.cp):=lH3 2 _ rfl
   have q3:H3.ld ⟨H2.nx,3,none⟩ = some va:=lH3 3 _ rfl
   clear lH3
   replace q:H3.ldn ⟨H2.nx,0,none⟩ 4 = some [.int .i64 y.op,.int .i64 y.n,.int .i64 y.cp,va]:=q
   have hwH3:=X3.wf hw2
   have t1:=nodesL_take hy
   have t2:=nodesL_take_le args (i + 1)
   have t3:=nodesL_take_le args i
   have t4:=nodesE_pos y
   have hs:=size_arg (op:=op) (n:=n) (cp:=cp) hy
   simp (maxSteps:=4000000) -implicitDefEqProofs +contextual [-X.ev,f7,f8,f9,f3,h,hldn,sH3,q]
   apply Vx_callM
   ·(simp -implicitDefEqProofs [-X.ev]; rfl)
   refine (ih y _ H3 (by omega) hwH3 (hey.ext X3) (by omega)).mono ?_
   rintro x H4 ⟨rfl,X4⟩
   simp (maxSteps:=4000000) -implicitDefEqProofs +contextual [-X.ev,f7,f8,f9,f3]
   rw [wrap_in (n:=(i:Int) + 1) ⟨by omega,by omega⟩,wrap_in ⟨by omega,by omega⟩]
   exact ⟨k - 1,by omega,X2.trans (X3.trans X4),i + 1,by omega,hv'.symm,by simp,by omega⟩
  ·simp (maxSteps:=4000000) -implicitDefEqProofs +contextual [-X.ev,f7,f8,f9,f3,h]
   rw [List.take_of_length_le (by omega)]
   exact ⟨by rw [nodesE],X02⟩
def arityP (V:List Vr) (op n:Int):Int :=
 if op = 0 then 0 else if op = 1 ∧ 0 ≤ n ∧ n < V.length then (if 1 < cellsAt V n then 1 else 0) else
 if (2 ≤ op ∧ op ≤ 11) ∨ op = 13 ∨ op = 14 then 2 else if op = 12 then 1 else if op = 15 then 3 else -1
theorem arity_ca {w kk op n cp:Int} {vv va:Value} {V:List Vr} {H:AH} (hw:H.n0 ≤ H.nx) (hv:Vars H vv V) :
  Ca E O 144 [.agg #[.int .i64 w,vv,.int .i64 kk],.agg #[.int .i64 op,.int .i64 n,.int .i64 cp,va]] H (fun x H'=>x = .int .i64 (arityP V op n) ∧ Ext H H'):=by
 refine Ca.bodyV (F:=a144) rfl rfl rfl ?_
 have X1:=Ext.alloc H (.cells 3 [.int .i64 w,vv,.int .i64 kk])
 have d0:(H.alloc (.cells 3 [.int .i64 w,vv,.int .i64 kk])).ld ⟨H.nx,0,none⟩ = some (.int .i64 w):=ld_new hw rfl
 have d1:(H.alloc (.cells 3 [.int .i64 w,vv,.int .i64 kk])).ld ⟨H.nx,1,none⟩ = some vv:=ld_new hw rfl
 have d2:(H.alloc (.cells 3 [.int .i64 w,vv,.int .i64 kk])).ld ⟨H.nx,2,none⟩ = some (.int .i64 kk):=ld_new hw rfl
 have d:(H.alloc (.cells 3 [.int .i64 w,vv,.int .i64 kk])).ldn ⟨H.nx,0,none⟩ 3 = some [.int .i64 w,vv,.int .i64 kk]:=ld_box hw 3 rfl
 generalize hH1:H.alloc (.cells 3 [.int .i64 w,vv,.int .i64 kk]) = H1 at X1 d0 d1 d2 d
 have hwH1:=X1.wf hw
 have X2:=Ext.alloc H1 (.cells 4 [.int .i64 op,.int .i64 n,.int .i64 cp,va])
 have e0:(H1.alloc (.cells 4 [.int .i64 op,.int .i64 n,.int .i64 cp,va])).ld ⟨H1.nx,0,none⟩ = some (.int .i64 op):=ld_new hwH1 rfl
 have e1:(H1.alloc (.cells 4 [.int .i64 op,.int .i64 n,.int .i64 cp,va])).ld ⟨H1.nx,1,none⟩ = some (.int .i64 n):=ld_new hwH1 rfl
 have e2:(H1.alloc (.cells 4 [.int .i64 op,.int .i64 n,.int .i64 cp,va])).ld ⟨H1.nx,2,none⟩ = some (.int .i64 cp):=ld_new hwH1 rfl
 have e3:(H1.alloc (.cells 4 [.int .i64 op,.int .i64 n,.int .i64 cp,va])).ld ⟨H1.nx,3,none⟩ = some va:=ld_new hwH1 rfl
 have e:(H1.alloc (.cells 4 [.int .i64 op,.int .i64 n,.int .i64 cp,va])).ldn ⟨H1.nx,0,none⟩ 4 = some [.int .i64 op,.int .i64 n,.int .i64 cp,va]:=ld_box hwH1 4 rfl
 generalize hH2:H1.alloc (.cells 4 [.int .i64 op,.int .i64 n,.int .i64 cp,va]) = H2 at X2 e0 e1 e2 e3 e
 have hwH2:=X2.wf hwH1
 have X:=X1.trans X2
 replace d1:=X2.ld d1
 by_cases h1:0 ≤ n ∧ n < V.length
 ·obtain ⟨h1,h2⟩:=h1
  obtain ⟨y,hy⟩:∃ y,V[n.toNat]? = some y:=⟨_,List.getElem?_eq_getElem (by omega)⟩
  obtain ⟨b,o,c',hv',_,_,_,hld⟩:=(hv.ext X).at hy
  have hc:cellsAt V n = y.cells:=by simp [cellsAt,hy]
  rw [hv'] at d1
  simp (maxSteps:=4000000) -implicitDefEqProofs +contextual [-X.ev,a144,hH1,hH2,d1,e0,e1,h1,h2,hld,X,hc,arityP]
 ·have hc:arityP V op n = if op = 0 then 0 else if (2 ≤ op ∧ op ≤ 11) ∨ op = 13 ∨ op = 14 then 2 else if op = 12 then 1 else if op = 15 then 3 else -1:=by
   unfold arityP
   simp only [h1,and_false,if_false]
  obtain ⟨a1,c1,hvv⟩:=hv.len
  rw [hvv] at d1
  by_cases h2:0 ≤ n
  ·have h3:¬ n < V.length:=fun q=>h1 ⟨h2,q⟩
   simp (maxSteps:=4000000) -implicitDefEqProofs +contextual [-X.ev,a144,hH1,hH2,d1,e0,e1,h2,h3,X,hc]
  ·simp (maxSteps:=4000000) -implicitDefEqProofs +contextual [-X.ev,a144,hH1,hH2,d1,e0,e1,h2,X,hc]
end Go.Proofs.YtoijnpfpjpefgaaGreat.A
