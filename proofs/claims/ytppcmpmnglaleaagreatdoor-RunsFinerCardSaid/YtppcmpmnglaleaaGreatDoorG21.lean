/- Texts that stand one behind the other: U8, V1, V2, V3, V4, V5, V6, U9, V7, V8, V9, V11, V12, V13, V15, W1, W2, W3, W4, W5, W6, W8, W9, W10. -/
import Derived.Test.YtppcmpmnglaleaaGreatDoorG20
import Derived.KernelRfl
set_option linter.unusedVariables false
set_option linter.unusedSimpArgs false
set_option maxRecDepth 10000
namespace Go.Proofs.YtppcmpmnglaleaaGreatDoor.A
namespace P
open Go Go.RowKit
def eR (p:bw) (fuel:Int):Nat→Option (List eY)
 |0=>some []
 |n+1=>(eR p fuel n).bind fun l=>(ofM p fuel (dT p n) (16384- l.length)).map fun m=>l++qC (dT p n) m
def ff (p:bw) (fuel:Int):Option (List eY):=if gP p≤60∧et p≤4096 then eR p fuel (et p).toNat else none
theorem Cs {p:bw} {fuel:Int} {s:List Int} {most:Nat} {m:List (List Int)} (h:ofM p fuel s most=some m):m.length≤most:=by
 unfold ofM at h
 cases a:mr p fuel s with
 |none=>simp [a]at h
 |some l=>simp [a]at h;rw [←h.2];exact h.1
theorem vW {p:bw} {fuel:Int}:∀{n:Nat} {l:List eY},eR p fuel n=some l→l.length≤16384
 |0,l,h=>by simp [eR]at h;subst h;simp
 |n+1,l,h=>by
  simp only [eR]at h
  cases a:eR p fuel n with
  |none=>simp [a]at h
  |some b=>
   have c:=vW a;simp only [a,Option.bind_some]at h
   cases h2:ofM p fuel (dT p n) (16384- b.length)with
   |none=>simp [h2]at h
   |some m=>
    have:=Cs h2;simp [h2]at h;subst h;simp;omega
theorem yx {p:bw} {fuel:Int} {n:Nat} (h:eR p fuel n=none):∀k,eR p fuel (n+k)=none
 |0=>h
 |k+1=>by rw [←Nat.add_assoc,eR,yx h k];rfl
def qM (p:bw) (fuel:Int):List PV:=
 if cx p fuel≠0 then [dM,pi (cx p fuel)]else match ff p fuel with
  |some l=>[.fs 2 (str l),pi 0]
  |none=>[dM,pi 5]
def EH (p:bw) (out:List eY):PH:=[.cells 3 (aO p),.cells 2 (yl out)]
def IE (fuel:Int) (out:List eY) (n j:Nat):List (Nat×PV):=[(1,pi fuel),(2,.ref 0 0 3),(8,.sl 2 1 0 out.length out.length),(34,pi n),(35,pi j)]
def EI8 (p:bw) (fuel:Int) (n j:Nat) (fr:PF) (h:PH):Prop:=∃out,eR p fuel j=some out∧h=EH p out∧∀t∈IE fuel out n j,fr.get t.1=t.2
theorem Ct {p:bw} {fuel:Int} {n j:Nat} {out:List eY} (h:eR p fuel j=some out):EI8 p fuel n j (PF.y7 (IE fuel out n j)) (EH p out):=⟨out,h,rfl,fun t a=>by
 simp only [IE,arc,arx,or_false]at a
 rcases a with rfl|rfl|rfl|rfl|rfl<;>simp [IE]⟩
theorem Sd {h:PH} {s:List Int} {m:List (List Int)}:fx h 2 m.length (.fs 2 (str (qC s m)))=some (yl (qC s m)):=by
 simp only [fx];rw [if_pos ⟨trivial,by simp⟩,aq1 (by simp)];rfl
theorem rk {p:bw} {fuel:Int} (g:kD p):Fz E O 17 [.agg (aO p),pi fuel] (.gN (qM p fuel)):=by
 refine tt.body (F:=YS) rfl rfl rfl ?_;simp (maxSteps:=9^7)-implicitDefEqProofs+contextual [-getElem?_pos,aqT,YS,aO];refine bJ (pd g) ?_ ?_ ?_
 iterate 2· simp (maxDischargeDepth:=8)-implicitDefEqProofs [-getElem?_pos,aqT,aO]
 cases h:bj p with
 |false=>
  have e:qM p fuel=[dM,pi 30]:=by simp [qM,cx,h]
  rw [e];simp (maxSteps:=9^7)-implicitDefEqProofs+contextual [-getElem?_pos,aqT,h];refine cn ?_;simp
 |true=>
  by_cases c:fuel<0
  ·have e:qM p fuel=[dM,pi 1]:=by simp [qM,cx,h,c]
   rw [e];simp (maxSteps:=9^7)-implicitDefEqProofs [-getElem?_pos,aqT,h,c];refine cn ?_;simp
  by_cases h2:4096<fuel
  ·have e:qM p fuel=[dM,pi 1]:=by simp [qM,cx,h,c,h2]
   rw [e];simp (maxSteps:=9^7)-implicitDefEqProofs [-getElem?_pos,aqT,h,c,h2];refine cn ?_;simp
  have N:cx p fuel=0:=by simp [cx,h];omega
  have A:qM p fuel=match ff p fuel with|some l=>[.fs 2 (str l),pi 0]|none=>[dM,pi 5]:=by simp [qM,N]
  simp (maxSteps:=9^7)-implicitDefEqProofs [-getElem?_pos,aqT,h,c,h2,aO];refine bJ (Cq g) ?_ ?_ ?_
  iterate 2· simp (maxDischargeDepth:=8)-implicitDefEqProofs [-getElem?_pos,aqT,aO]
  by_cases z:gP p≤60
  case neg=>
   have e:nG p=[pi 0,pi 5]:=by simp [nG,h];omega
   rw [A,e,ff,if_neg (fun q=>z q.1)];simp (maxSteps:=9^7)-implicitDefEqProofs [-getElem?_pos,aqT];refine cn ?_;simp
  have e:nG p=[pi (et p),pi 0]:=by simp [nG,h];omega
  rw [e];by_cases y:et p≤4096
  case neg=>
   have r:4096<et p:=by omega
   rw [A,ff,if_neg (fun q=>y q.2)];simp (maxSteps:=9^7)-implicitDefEqProofs [-getElem?_pos,aqT,r];refine cn ?_;simp
  have r:¬ 4096<et p:=by omega
  rw [A,ff,if_pos ⟨z,y⟩];have R:0<et p:=Int.pow_pos (by omega)
  obtain ⟨n,M⟩:∃n:Nat,et p=n:=⟨(et p).toNat,by omega⟩
  rw [M]at y r⊢;rw [Int.toNat_natCast];simp (maxSteps:=9^7)-implicitDefEqProofs [-getElem?_pos,aqT,r];refine iw (EI8 p fuel n) n (eU (h2:=EH p []) [0,9] (IE fuel [] n 0) ?_ ?_ ?_ ?_ ?_ ?_) (Ct rfl) ?_
  ·simp [EH,IE,aO]
  iterate 2· simp
  ·intro b P;omega
  iterate 2· simp (maxDischargeDepth:=8)-implicitDefEqProofs [aZ,aqT,EH,IE,aO]
  rintro j U h T ⟨out,w,rfl,G⟩;simp only [IE,arc,arx,or_false,forall_eq_or_imp,forall_eq]at G;obtain ⟨f,d,t,f34,f35⟩:=G;have C:=vW w;by_cases D:j<n
  ·have I:IntKind.i64.wrap (16384- (out.length:Int))=((16384- out.length:Nat):Int):=by rw [ai ⟨by omega,by omega⟩];omega
   have H:IntKind.i64.wrap ((j:Int)+1)=((j+1:Nat):Int):=ai ⟨by omega,by omega⟩;have Q:=uq h j;have u:=fun x (J:x∈dT p j)=>yw (mz (qB h) _ x J)
   have B:=ID (i:=j) g h z ⟨by omega,by omega⟩;have a:=XY (fuel:=fuel) (most:=16384- out.length) g h (s:=dT p j) (by omega) u (by omega);have o:eR p fuel (j+1)=(ofM p fuel (dT p j) (16384- out.length)).map fun m=>out++qC (dT p j) m:=by rw [eR,w];rfl
   obtain ⟨s,K⟩:∃s,dT p j=s:=⟨_,rfl⟩
   rw [K]at B a o;simp (maxSteps:=9^7)-implicitDefEqProofs+contextual [-getElem?_pos,aqT,f,d,t,f34,f35,D,EH,aO];refine bJ (B) ?_ ?_ ?_
   iterate 2· simp (maxDischargeDepth:=8)-implicitDefEqProofs [-getElem?_pos,aqT,aO]
   simp (maxSteps:=9^7)-implicitDefEqProofs+contextual [-getElem?_pos,aqT,f,d,t,aO,I];refine bJ (a) ?_ ?_ ?_
   iterate 2· simp (maxDischargeDepth:=8)-implicitDefEqProofs [-getElem?_pos,aqT,aO]
   cases v:ofM p fuel s (16384- out.length)with
   |none=>
    have L:eR p fuel n=none:=by
     have:=yx (show eR p fuel (j+1)=none by rw [o,v];rfl) (n- (j+1));rwa [show j+1+(n- (j+1))=n by omega]at this
    rw [L];simp (maxSteps:=9^7)-implicitDefEqProofs [-getElem?_pos,aqT,AA];refine cn ?_;simp
   |some m=>
    have S:=Cs v;rw [v]at o;simp (maxSteps:=9^7)-implicitDefEqProofs+contextual [-getElem?_pos,aqT,AA,t];apply js (k:=m.length) (new:=yl (qC s m))
    iterate 9· first|omega|exact Sd|rfl|(simp-implicitDefEqProofs [];done)
    simp (maxSteps:=9^7)-implicitDefEqProofs+contextual [-getElem?_pos,aqT,f35,H];refine .xZ D (eU (h2:=EH p (out++qC s m)) [0,1] (IE fuel (out++qC s m) n (j+1)) ?_ ?_ ?_ ?_ ?_ ?_) (Ct o)
    ·simp [EH,IE,aO,kF,f,d,f34]
    iterate 2· simp
    ·intro b P;omega
    iterate 2· simp (maxDischargeDepth:=8)-implicitDefEqProofs [aZ,aqT,EH,IE,aO,kF,f,d,f34]
  ·obtain rfl:j=n:=by omega
   simp (maxSteps:=9^7)-implicitDefEqProofs+contextual [-getElem?_pos,aqT,f,d,t,f34,f35,EH];rw [w];refine ⟨_,_,cn ?_,rfl,rfl,by simp⟩;simp (maxDischargeDepth:=8)-implicitDefEqProofs []
end P
section
open Go
def Se (S:Nat→Bool):cl→Bool
 | .call f _=>S f
 | .callv _ _=>false
 | .xt .nM _=>false
 |_=>true
def yy (S:Nat→Bool) (l:List AO):Bool:=l.all fun o=>Se S o.o
def yz (S:Nat→Bool):AC→Bool
 | .bG l| .bQ l _=>yy S l
 | .seq a b| .cond _ a b=>yz S a&&yz S b
 | .block _ a| .loop a=>yz S a
 |_=>true
theorem Cu {H H':AH} {a:Addr} {vs:List Value} (h:H.st a vs=some H'):H'.bs=H.bs:=by
 unfold AH.st at h;split at h
 ·obtain ⟨_,h⟩:=aw h
  cases h;rfl
 ·cases h
theorem Sf {sz bytes:Nat} {H H':AH} {s x v:Value} (h:bc sz bytes H s x=some (v,H')):H'.bs=H.bs:=by
 unfold bc at h;split at h
 case h_2=>cases h
 split at h
 ·obtain ⟨_,h⟩:=aw h
  cases h;rfl
 split at h
 ·cases h
 obtain ⟨_,h⟩:=aw h;split at h
 ·split at h
  ·obtain ⟨_,h⟩:=aw h
   obtain ⟨b,a,h2⟩:=aq4.1 h;cases h2;exact Cu a
  ·cases h
 split at h
 ·obtain ⟨_,h⟩:=aw h
  cases h;rfl
 split at h
 ·obtain ⟨_,h⟩:=aw h
  obtain ⟨_,_,h2⟩:=aq4.1 h;cases h2;rfl
 ·cases h
theorem MD {sz:Nat} {H H':AH} {d s v:Value} (h:jH sz H d s=some (v,H')):H'.bs=H.bs:=by
 unfold jH at h;split at h
 case h_2=>cases h
 obtain ⟨c,_,h⟩:=aq5.1 h;split at h
 ·cases a:c.isEmpty with
  |true=>simp only [a,cond_true,aqV,aq2]at h;rw [h.2]
  |false=>
   simp only [a,cond_false]at h;obtain ⟨e,b,h2⟩:=aq4.1 h;cases h2;exact Cu b
 ·cases h;rfl
theorem IF {S:Nat→Bool} {o:AO} {j:Fr} {H H':AH} {r:iH} (i:Se S o.o=true) (h:ar o.o (X.ev j) H=some (r,H')):H'.bs=H.bs:=by
 cases a:eB o.o with
 |pure=>rw [(lQ a h).1]
 |load=>rw [(lR a h).1]
 |read=>rw [(lS a h).1]
 |alloc=>
  obtain ⟨aS,e,_⟩:=iJ a h;rw [e];rfl
 |st=>
  obtain ⟨c,aS,h2,_,e,_⟩:=qP a h;rw [e];rfl
 |jJ=>
  obtain ⟨g,d,o⟩:=o;dsimp only at*
  cases o with
  |mU kk x k v=>
   simp only [ar]at h;split at h
   case h_2=>cases h
   split at h
   case h_2=>cases h
   obtain ⟨_,h⟩:=aw h;obtain ⟨_,_,h2⟩:=aq4.1 h;cases h2;rfl
  |call f xs=>cases h;rfl
  |callv x xs=>cases i
  |app sz bytes s x=>
   obtain ⟨⟨v,m⟩,b,h2⟩:=aq4.1 h;cases h2;exact Sf b
  |copy sz d s=>
   obtain ⟨⟨v,m⟩,b,h2⟩:=aq4.1 h;cases h2;exact MD b
  |xt k l=>
   cases k with
   |nM=>cases i
   |bad=>cases h
   |_=>cases a
  |sl sz x lo hi mx=>cases lo<;>cases a
  |_=>cases a
def IG (S:Nat→Bool) (call:Cl):Prop:=∀f xs H v H',S f=true→call f xs H=some (v,H')→H'.bs=H.bs
section
variable{S:Nat→Bool} {call:Cl} (K:IG S call)
include K
theorem IH {o:AO} {n p:Fr} {H H':AH} (c:Se S o.o=true) (h:jw call o n H=some (p,H')):H'.bs=H.bs:=by
 unfold jw at h
 cases i:o.wanted n with
 |false=>simp only [i,cond_false,aqV,aq2]at h;rw [h.2]
 |true=>
  simp only [i,cond_true]at h;split at h
  ·rename_i x b e
   cases h;exact IF c e
  ·rename_i f xs b e
   have r:=IF c e;split at h
   ·rename_i x t q
    cases h;refine (K f xs b x H' ?_ q).trans r;obtain ⟨g,d,o⟩:=o;have j:=iD e;dsimp only at*
    cases o with
    |call g a=>cases e;exact c
    |callv x a=>cases c
    |mU kk x k v=>
     simp only [ar]at e;split at e
     case h_2=>cases e
     split at e
     case h_2=>cases e
     obtain ⟨_,e⟩:=aw e;obtain ⟨_,_,h2⟩:=aq4.1 e;cases h2
    |app sz bytes s x=>
     obtain ⟨⟨v,b⟩,m,h2⟩:=aq4.1 e;cases h2
    |copy sz d s=>
     obtain ⟨⟨v,b⟩,m,h2⟩:=aq4.1 e;cases h2
    |xt k l=>
     obtain ⟨⟨v,b⟩,m,h2⟩:=aq4.1 e;cases h2
    |sl sz x lo hi mx=>cases lo<;>cases j
    |_=>cases j
   ·cases h
  ·cases h
theorem II:∀{l:List AO} {c b:Fr} {H H':AH},yy S l=true→ops call l c H=some (b,H')→H'.bs=H.bs
 |[],_,_,_,_,_,h=>by cases h;rfl
 |o::l,c,b,H,H',a,h=>by
  simp only [yy,List.all_cons,aqX]at a;unfold ops at h;split at h
  ·rename_i d f e
   exact (II (by simpa [yy]using a.2) h).trans (IH K a.1 e)
  ·cases h
theorem Cv:∀{l:List AO} {c:Fr} {H:AH} {a:List (Fr×AH)},yy S l=true→jx call l c H=some a→(fH (c,H) a).2.bs=H.bs
 |[],_,_,_,_,h=>by cases h;rfl
 |o::l,c,H,a,b,h=>by
  simp only [yy,List.all_cons,aqX]at b;unfold jx at h;split at h
  ·rename_i g i e
   split at h
   ·rename_i d f
    cases h;exact (Cv (by simpa [yy]using b.2) f).trans (IH K b.1 e)
   ·cases h
  ·cases h
theorem ME {l:List AO} {ck:List (Nat×Nat×Nat)} {c i:Fr} {H H':AH} (g:yy S l=true) (h:wG call l ck c H=some (i,H')):H'.bs=H.bs:=by
 unfold wG at h;split at h
 ·rename_i d e
  obtain ⟨_,h⟩:=aw h;have:=Cv K g e
  cases f:fH (c,H) d with
  |mk a b=>
   rw [f]at h this;cases h;exact this
 ·cases h
theorem fQ:∀(m:Nat) {c:AC} {g f:Fr} {H H':AH} {ex:Ex},yz S c=true→aD call m c g H=some (ex,f,H')→H'.bs=H.bs
 |0,_,_,_,_,_,_,_,h=>by cases h
 |m+1,c,g,f,H,H',ex,d,h=>by
  cases c with
  |skip=>cases h;rfl
  |exit i=>cases h;rfl
  |ret=>cases h;rfl
  |bG l=>
   simp only [aD]at h;split at h
   ·rename_i a b e
    cases h;exact II K d e
   ·cases h
  |bQ l p=>
   simp only [aD]at h;split at h
   ·rename_i a b e
    cases h;exact ME K d e
   ·cases h
  |seq a b=>
   simp only [yz,aqX]at d;simp only [aD]at h;split at h
   ·rename_i k n e
    exact (fQ m d.2 h).trans (fQ m d.1 e)
   ·exact fQ m d.1 h
  |cond x a b=>
   simp only [yz,aqX]at d;simp only [aD]at h;split at h
   ·exact fQ m d.1 h
   ·exact fQ m d.2 h
   ·cases h
  |block i a=>
   simp only [aD]at h;split at h
   ·rename_i j k n e
    have:=fQ m (c:=a) d e;cases o:Nat.beq j i<;>simp only [o,cond_true,cond_false,aqV,aq2]at h<;>rw [←h.2.2]<;>exact this
   ·exact fQ m (c:=a) d h
  |loop a=>
   simp only [aD]at h;split at h
   ·rename_i k n e
    exact (fQ m (c:=.loop a) d h).trans (fQ m (c:=a) d e)
   ·exact fQ m (c:=a) d h
end
theorem IJ {E:Env} {O:jk} {S:Nat→Bool} (c:∀f F,S f=true→O f=none→E f=some F→yz S F.body=true) (d:∀f g,S f=true→O f=some g→∀xs H v H',g xs H=some (v,H')→H'.bs=H.bs):∀n,IG S (fu E O n)
 |0=>fun _ _ _ _ _ _ h=>by cases h
 |n+1=>fun f xs H v H' b h=>by
  unfold fu at h;split at h
  · rename_i g a
    exact d f g b a xs H v H' h
  · rename_i a
    split at h
    · cases h
    · rename_i F i
      obtain ⟨_,h⟩:=aw h;split at h
      · cases h
      · rename_i ex j k _ e
        split at h
        · cases h
          exact fQ (IJ c d n) n (c f F b a i) e
        · cases h
      · cases h
theorem Ca.rv {E:Env} {O:jk} {S:Nat→Bool} (b:∀f F,S f=true→O f=none→E f=some F→yz S F.body=true) (c:∀f g,S f=true→O f=some g→∀xs H v H',g xs H=some (v,H')→H'.bs=H.bs)
 {f:Nat} {xs:List Value} {H:AH} {Q:Value→AH→Prop} (a:S f=true) (h:Ca E O f xs H Q):Ca E O f xs H (fun x H'=>Q x H'∧H'.bs=H.bs):=by
 obtain ⟨n,x,H',e,q⟩:=h;exact ⟨n,x,H',e,q,IJ b c n f xs H x H' a e⟩
end
section
open Go
theorem gQ {H:AH} {b:Nat} {s t:ByteArray} (h:H.bs=some (b,s)) (a:s.size+t.size≤140737488355328):
 Ca E O 83 [.pointer (some ⟨b,0,none⟩),.string t] H (fun _ H'=>Ext H H'∧H'.bs=some (b,s++t)):=
 Ca.wW (g:=rW) (x:=.tuple #[.int .i64 t.size,.nilIface]) (H':={H with bs:=some (b,s++t)}) rfl (by simp [rW,h,a]) ⟨⟨rfl,aqY _,fun _ _=>rfl⟩,rfl⟩
theorem MF {H:AH} {b:Nat} {s:ByteArray} (h:H.bs=some (b,s)):
 Ca E O 86 [.pointer (some ⟨b,0,none⟩)] H (fun x H'=>x= .string s∧H'=H):=
 Ca.wW (g:=FV) (x:=.string s) (H':=H) rfl (by simp [FV,h]) ⟨rfl,rfl⟩
def IK:Nat→Nat→List UInt8
 |0,_=>[]
 |f+1,n=>if n<10 then [UInt8.ofNat (48+n)]else IK f (n/10)++[UInt8.ofNat (48+n%10)]
theorem AD:∀(f n:Nat),n<10^f→IK f n=Lib.decDigits n∨f=0
 |0,n,h=>.inr rfl
 |f+1,n,h=>by
  rw [IK,Lib.decDigits];by_cases a:n<10
  ·rw [if_pos a,dif_pos a];exact .inl rfl
  ·rw [if_neg a,dif_neg a]
   rcases AD f (n/10) (by rw [Nat.pow_succ]at h;omega)with e|rfl
   ·rw [e];exact .inl rfl
   ·simp at h;omega
theorem vX:∀(f n:Nat),(IK f n).length≤f
 |0,n=>aqY _
 |f+1,n=>by
  rw [IK];have:=vX f (n/10);split<;>simp<;>omega
def jc (n:Int):ByteArray:=⟨(if n<0 then 45::IK 20 n.natAbs else IK 20 n.toNat).toArray⟩
def qN (n:Int):Prop:=-9223372036854775808≤n∧n≤9223372036854775807
theorem Ef {n:Int} (h:qN n):(⟨(Lib.itoa n).toArray⟩:ByteArray)=jc n:=by
 have a:=h.1;have h2:=h.2;unfold jc Lib.itoa;split
 ·rcases AD 20 n.natAbs (by omega)with e|e
  ·rw [e]
  ·cases e
 ·rcases AD 20 n.toNat (by omega)with e|e
  ·rw [e]
  ·cases e
theorem vY {H:AH} {n:Int} (h:qN n):Ca E O 84 [.int .i64 n] H (fun x H'=>x= .string (jc n)∧H'=H):=
 Ca.wW (g:=w8) (x:=.string (jc n)) (H':=H) rfl (by simp [w8,h.1,h.2,Ef h]) ⟨rfl,rfl⟩
theorem j0 (n:Int):(jc n).size≤21:=by
 unfold jc;have a:=vX 20 n.natAbs;have h2:=vX 20 n.toNat;split<;>simp [ByteArray.size]<;>omega
def IL (i:Nat):ByteArray:=if i=0 then⟨#[32]⟩else⟨#[58]⟩
theorem pS (i:Nat):(IL i).size=1:=by unfold IL;split<;>rfl
def mT (s:ByteArray) (ns:List Int):Nat→ByteArray
 |0=>s
 |j+1=>mT s ns j++IL j++jc (ns.getD j 0)
theorem nH (s:ByteArray) (a:List Int):∀j,(mT s a j).size≤s.size+22*j
 |0=>by simp [mT]
 |j+1=>by
  have c:=nH s a j;have h2:=j0 (a.getD j 0);have b:=pS j;simp only [mT,ard];omega
theorem Cw {a:List Int} {v:Value} {b:Nat} {s:ByteArray} {H:AH} (D:H.n0≤H.nx) (u:fT H v a) (T:a.length≤3) (G:∀n∈a,qN n) (L:H.bs=some (b,s)) (S:s.size≤2^40):
 Ca E O 82 [v,.pointer (some ⟨b,0,none⟩)] H (fun _ H'=>Ext H H'∧H'.bs=some (b,mT s a a.length)):=by
 refine Ca.aV (F:=Ze) rfl rfl rfl ?_;obtain ⟨P,V,q⟩:=u.len;simp (maxSteps:=9^7)-implicitDefEqProofs+contextual [-X.ev,Ze,q];refine ch (fun k f H'=>(Ext H H'∧∃i:Nat,i+k=a.length∧H'.bs=some (b,mT s a i)∧f.get 1= .pointer (some ⟨b,0,none⟩)∧f.get 5=v∧f.get 6= .int .i64 a.length∧f.get 7= .int .i64 i)) ?_ a.length ⟨Ext.refl _,0,by simp,by simpa [mT]using L,by simp,by simp [q],by simp,by simp⟩;rintro k f d ⟨l,i,hi,A,c,e,j,g⟩;have C:=l.wf D;have R:=nH s a i;by_cases h:i<a.length
 ·obtain ⟨n,m⟩:∃n,a[i]?=some n:=⟨_,aqU h⟩
  obtain ⟨Y,Q,W,r,I⟩:=(u.ext l).at m;rw [r]at e;have o:=G n (aqZ m);have y:mB 3 1 [.string ⟨#[]⟩,.string ⟨#[]⟩,.string ⟨#[]⟩] d [(0,1,.string ⟨#[32]⟩),(1,1,.string ⟨#[58]⟩),(2,1,.string ⟨#[58]⟩)]=some (.slice (some ⟨d.nx,0,none⟩) 3 3,d.alloc (.cells 1 [.string ⟨#[32]⟩,.string ⟨#[58]⟩,.string ⟨#[58]⟩])):=rfl;have B:=Ext.alloc d (.cells 1 [.string ⟨#[32]⟩,.string ⟨#[58]⟩,.string ⟨#[58]⟩])
  have w:(d.alloc (.cells 1 [.string ⟨#[32]⟩,.string ⟨#[58]⟩,.string ⟨#[58]⟩])).ld ⟨d.nx,i,none⟩=some (.string (IL i)):=by
   refine aj C ?_;have:i=0∨i=1∨i=2:=by omega
   rcases this with rfl|rfl|rfl<;>rfl
  have z:(d.alloc (.cells 1 [.string ⟨#[32]⟩,.string ⟨#[58]⟩,.string ⟨#[58]⟩])).bs=some (b,mT s a i):=A;generalize U:d.alloc (.cells 1 [.string ⟨#[32]⟩,.string ⟨#[58]⟩,.string ⟨#[58]⟩])=H2 at y B w z;have p:(i:Int)<3:=by omega
  simp (maxSteps:=9^7)-implicitDefEqProofs+contextual [-X.ev,c,e,j,g,h,I,y,w,p];apply ah
  ·(simp-implicitDefEqProofs [-X.ev,c];rfl)
  refine (gQ (t:=IL i) z (by rw [pS];omega)).mono ?_;rintro x H3 ⟨N,K⟩;simp (maxSteps:=9^7)-implicitDefEqProofs+contextual [-X.ev,c,e,j,g];apply ah
  ·(simp-implicitDefEqProofs [-X.ev,c];rfl)
  refine (vY o).mono ?_;rintro x H4 ⟨rfl,rfl⟩;simp (maxSteps:=9^7)-implicitDefEqProofs+contextual [-X.ev,c,e,j,g];apply ah
  ·(simp-implicitDefEqProofs [-X.ev,c];rfl)
  refine (gQ (t:=jc n) K (by have:=j0 n;have:=pS i;simp only [ard];omega)).mono ?_;rintro x Z ⟨M,J⟩;simp (maxSteps:=9^7)-implicitDefEqProofs+contextual [-X.ev,c,e,j,g];refine ⟨k- 1,by omega,((l.trans B).trans N).trans M,i+1,by omega,?_,r.symm,ai ⟨by omega,by omega⟩⟩;rw [J,mT,List.getD_eq_getElem?_getD,m];rfl
 ·obtain rfl:i=a.length:=by omega
  simp (maxSteps:=9^7)-implicitDefEqProofs+contextual [-X.ev,c,e,j,g];exact ⟨l,A⟩
end
namespace P
open Go Go.RowKit
def Cy (a b:Int):Int:=IntKind.i64.wrap (BitVec.ofInt 64 a&&&~~~BitVec.ofInt 64 b).toNat
theorem IM (a b:Int):bX .andNot (.int .i64 a) (.int .i64 b)=some (.int .i64 (Cy a b)):=rfl
def jd (level other:Int):Bool:=decide (0≤other)&&(decide (other≤15)&&decide (Cy other level=0))
theorem Sg {level other:Int}:Fz E O 118 [pi level,pi other] (pb (jd level other)):=by
 refine Fz.body (F:=Di) rfl rfl rfl rfl ?_;have b:=IM other level;by_cases a:0≤other
 ·by_cases h2:other≤15
  ·simp (maxSteps:=9^7)-implicitDefEqProofs [-getElem?_pos,aqT,Di,jd,a,h2,b]
  ·simp (maxSteps:=9^7)-implicitDefEqProofs [-getElem?_pos,aqT,Di,jd,a,h2,b]
 ·simp (maxSteps:=9^7)-implicitDefEqProofs [-getElem?_pos,aqT,Di,jd,a]
def dN (level:Int) (l:List (Int×Int)):List (Int×Int):=l.filter fun o=>jd level o.1
theorem Eg {level:Int} {l:List (Int×Int)} {i:Nat} {o:Int×Int} (h:l[i]?=some o):dN level (l.take (i+1))=if jd level o.1=true then dN level (l.take i)++[o]else dN level (l.take i):=by
 rw [arf,h];simp only [dN,List.filter_append,Option.toList_some,List.filter_cons,List.filter_nil];split<;>simp
theorem te {level:Int} {l:List (Int×Int)}:(dN level l).length≤l.length:=List.length_filter_le ..
def TL (level:Int) (l:List (Int×Int)) (i:Nat):List (Nat×PV):=[(0,pi level),(5,.sl 2 0 0 (dN level (l.take i)).length (dN level (l.take i)).length),(8,.fs 2 (vO l)),(9,pi l.length),(10,pi i)]
def TH (level:Int) (l:List (Int×Int)) (i:Nat):PH:=[.cells 2 (wW (dN level (l.take i)))]
def TI (level:Int) (l:List (Int×Int)) (i:Nat) (fr:PF) (h:PH):Prop:=h=TH level l i∧∀t∈TL level l i,fr.get t.1=t.2
theorem AE {level:Int} {l:List (Int×Int)} {i:Nat}:TI level l i (PF.y7 (TL level l i)) (TH level l i):=⟨rfl,fun t a=>by
 simp only [TL,arc,arx,or_false]at a
 rcases a with rfl|rfl|rfl|rfl|rfl<;>simp [TL]⟩
theorem MG (l:List (Int×Int)) (i:Nat):(vO l)[i]?=(l[i]?).map fun e=>[pi e.1,pi e.2]:=by simp [vO]
theorem Sh {level:Int} {l:List (Int×Int)} (r:l.length≤2^40):Fz E O 85 [pi level,.fs 2 (vO l)] (.fs 2 (vO (dN level l))):=by
 refine tt.body (F:=a85) rfl rfl rfl ?_;simp (maxSteps:=9^7)-implicitDefEqProofs+contextual [-getElem?_pos,aqT,a85];refine iw (TI level l) l.length (eU (h2:=TH level l 0) [9] (TL level l 0) ?_ ?_ ?_ ?_ ?_ ?_) AE ?_
 ·simp [TH,TL,dN]
 iterate 2· simp
 ·intro b o;omega
 iterate 2· simp (maxDischargeDepth:=8)-implicitDefEqProofs [aZ,aqT,TH,TL,dN]
 rintro i s h hi ⟨rfl,m⟩;simp only [TL,arc,arx,or_false,forall_eq_or_imp,forall_eq]at m;obtain ⟨g,a,f,d,f10⟩:=m;have q:(dN level (l.take i)).length≤i:=arh te (by simp;omega);by_cases h:i<l.length
 ·obtain ⟨e,n⟩:∃e,l[i]?=some e:=⟨_,aqU h⟩
  have c:=Eg (level:=level) n;have j:IntKind.i64.wrap ((i:Int)+1)=((i+1:Nat):Int):=ai ⟨by omega,by omega⟩
  obtain ⟨T,p⟩:∃T,dN level (l.take i)=T:=⟨_,rfl⟩
  rw [p]at c a q;simp (maxSteps:=9^7)-implicitDefEqProofs+contextual [-getElem?_pos,aqT,g,a,f,d,f10,h,MG,n,TH,p];refine bJ (Sg (level:=level) (other:=e.1)) ?_ ?_ ?_
  iterate 2· simp (maxDischargeDepth:=8)-implicitDefEqProofs [-getElem?_pos,aqT]
  cases k:jd level e.1 with
  |true=>
   rw [k,if_pos rfl]at c;simp (maxSteps:=9^7)-implicitDefEqProofs+contextual [-getElem?_pos,aqT,a];apply js
   iterate 9· first|rfl|omega|(simp-implicitDefEqProofs [-getElem?_pos,aqT];first|done|rfl|omega)
   simp (maxSteps:=9^7)-implicitDefEqProofs+contextual [-getElem?_pos,aqT,f10,j];refine .xZ h (eU (h2:=TH level l (i+1)) [0] (TL level l (i+1)) ?_ ?_ ?_ ?_ ?_ ?_) AE
   ·simp [TH,TL,c,sZ,g,f,d]
   iterate 2· simp
   ·intro b o;omega
   iterate 2· simp (maxDischargeDepth:=8)-implicitDefEqProofs [aZ,aqT,TH,TL,c,sZ,g,f,d]
  |false=>
   rw [k,if_neg (by simp)]at c;simp (maxSteps:=9^7)-implicitDefEqProofs+contextual [-getElem?_pos,aqT,a,f10,j];refine .xZ h (eU (h2:=TH level l (i+1)) [0] (TL level l (i+1)) ?_ ?_ ?_ ?_ ?_ ?_) AE
   ·simp [TH,TL,c,g,a,f,d]
   iterate 2· simp
   ·intro b o;omega
   iterate 2· simp (maxDischargeDepth:=8)-implicitDefEqProofs [aZ,aqT,TH,TL,c,g,a,f,d]
 ·obtain rfl:i=l.length:=by omega
  rw [aq1 (aqY _)]at a;simp (maxSteps:=9^7)-implicitDefEqProofs+contextual [-getElem?_pos,aqT,a,f,d,f10,TH];refine cn ?_;simp (maxDischargeDepth:=8)-implicitDefEqProofs []
end P
section
open Go
def AG (H:AH):AH:={H with tr:=T.put none (some none) (H.nx+1) H.tr H.nx,nx:=H.nx+1,bs:=some (H.nx,.empty)}
theorem Si {m:Md} {d:Nat} {l:List AO} {b:List Ko} {a:Fr} {H:AH} {Q:Ex→Fr→AH→Prop}:Vx E O m (⟨none,some d,.xt .nM []⟩::l) b a H Q↔
 Vx E O (m.up (a.put d (.pointer (some ⟨H.nx,0,none⟩))) (AG H)) l b (a.put d (.pointer (some ⟨H.nx,0,none⟩))) (AG H) Q:=by
 rw [Gq _ (r:=some (.pointer (some ⟨H.nx,0,none⟩),AG H)) rfl rfl];simp [Dr,v1,h2]
theorem Ext.nM (H:AH):Ext H (AG H):=⟨rfl,arn _,fun b a=>by
 have e:(AG H).raw b=H.raw b:=by
  show(match(T.put none (some none) (H.nx+1) H.tr H.nx).get none b with|some x=>x|none=>H.base b)=_;rw [T.bA _ _ _ _ _ _ (by omega),if_neg (by omega)];rfl
 rw [AH.eA (show b<(AG H).nx by show b<H.nx+1;omega),AH.eA a,e]⟩
def kG (a b:Int):Int:=IntKind.i64.wrap (BitVec.ofInt 64 a&&&BitVec.ofInt 64 b).toNat
theorem Cz (a b:Int):bX .and (.int .i64 a) (.int .i64 b)=some (.int .i64 (kG a b)):=rfl
theorem CA {a b:ByteArray} (h:a.size+b.size≤2^50):bX .add (.string a) (.string b)=some (.string (a++b)):=by
 have:¬ (((a.size+b.size:Nat):Int)>IntKind.i64.max):=by
  have:IntKind.i64.max=9223372036854775807:=by decide
  rw [this];omega
 simp only [bX,uA,if_neg this]
theorem OD {H:AH} {l:List Int} (c:H.n0≤H.nx):fT (H.alloc (.cells 1 (l.map fun n=>.int .i64 n))) (.slice (some ⟨H.nx,0,none⟩) l.length l.length) l:=by
 refine ⟨some ⟨H.nx,0,none⟩,l.length,by simp [bI],fun i r hi=>?_⟩;refine ⟨H.nx,0,rfl,?_⟩;simp only [bI,arq]at hi
 cases a:l[i]? with
 |none=>rw [a]at hi;cases hi
 |some n=>
  rw [a]at hi;cases hi;have b:=(aq0.1 a).1;have d:(H.alloc (.cells 1 (l.map fun n=>.int .i64 n))).get H.nx=some (.cells 1 (l.map fun n=>.int .i64 n)):=by rw [AH.dx,if_pos rfl]
  rw [bB d c (by simp;omega)];congr 1;rw [List.drop_eq_getElem_cons (by simpa using b)];simp;rw [aqU b]at a;cases a;rfl
def eg (s:ByteArray) (rs:List (List Int)):Nat→ByteArray
 |0=>s
 |j+1=>mT (eg s rs j) (rs.getD j []) (rs.getD j []).length
theorem je (s:ByteArray) (rs:List (List Int)) (h:∀r∈rs,r.length≤3):∀j,(eg s rs j).size≤s.size+66*j
 |0=>by simp [eg]
 |j+1=>by
  have c:=je s rs h j;have h2:=nH (eg s rs j) (rs.getD j []) (rs.getD j []).length
  have b:(rs.getD j []).length≤3:=by
   rw [List.getD_eq_getElem?_getD]
   cases a:rs[j]? with
   |none=>simp
   |some r=>exact h r (aqZ a)
  rw [eg];omega
def pT (l:List (Int×Int)):List (List Int):=l.map fun o=>[o.1,o.2]
def Eh (l:List Ev):List (List Int):=l.map fun e=>[e.kind,e.at_,e.val]
def vZ (bits:Int) (r:eK) (s:ByteArray):ByteArray:=if kG bits 8=0 then s else s++(⟨#[101]⟩++jc r.en++⟨#[59]⟩)
def v7 (level bits:Int) (r:eK) (s:ByteArray):ByteArray:=if kG bits 1=0 then s else eg (s++⟨#[111]⟩) (pT (P.dN level r.outs)) (P.dN level r.outs).length++⟨#[59]⟩
def v8 (bits:Int) (r:eK) (s:ByteArray):ByteArray:=if kG bits 2=0 then s else eg (s++⟨#[116]⟩) (Eh r.trace) r.trace.length++⟨#[59]⟩
def Ei (bits:Int) (r:eK) (s:ByteArray):ByteArray:=if kG bits 4=0 then s else s++(⟨#[99]⟩++jc r.cost++⟨#[59]⟩)
def jf (level bits:Int) (r:eK):ByteArray:=Ei bits r (v8 bits r (v7 level bits r (vZ bits r .empty)))
open Go
open P (dN)
theorem MJ {level:Int} {l:List (Int×Int)} {F:Nat→Prop} {H:AH} {φ:Nat→Nat} {c:Value} (S:P.dO ⟨F,H,φ,[]⟩) (d:P.RF F H (.fs 2 (P.vO l)) c) (h:l.length≤2^40):
 Ca E O 85 [.int .i64 level,c] H (fun x H'=>(Ext H H'∧Rows H' 2 x (cQ (dN level l)))∧H'.bs=H.bs):=by
 refine Ca.rv (S:=fun f=>f==85||f==118) (fun f G a _ k=>?_) (fun f g a i=>?_) rfl ?_
 ·simp only [Bool.or_eq_true,beq_iff_eq]at a
  rcases a with rfl|rfl<;>(cases k;rfl)
 ·simp only [Bool.or_eq_true,beq_iff_eq]at a
  rcases a with rfl|rfl<;>cases i
 ·refine (P.Sh (level:=level) h F H φ _ S (.cons (.v _) (.cons (.fs d) .nil))).mono ?_
  rintro x H' ⟨r,n,p,m,⟨rfl,rfl,_⟩,e,o,T⟩
  have no:∀x,¬ P.im ⟨F,H,φ,[]⟩ P.tI x:=fun x q=>by
   obtain ⟨b,_,s,_⟩:=q;exact absurd (P.bO s) (arl _)
  exact ⟨⟨T.n0,T.nx,fun b j=>T.out b j (no b)⟩,P.Cn (by simp [P.vO,cQ,Ad,P.pi]) (P.TZ e)⟩
theorem Ej (bits:Int) (r:eK) (s:ByteArray):(vZ bits r s).size≤s.size+30:=by
 have:=j0 r.en;unfold vZ;split
 ·omega
 ·simp only [ard]
  show _+(1+_+1)≤_;omega
theorem IN (l:List (Int×Int)):∀r∈pT l,r.length≤3:=by
 intro r a;simp only [pT,aru]at a;obtain ⟨x,_,rfl⟩:=a;simp
theorem OE (l:List Ev):∀r∈Eh l,r.length≤3:=by
 intro r a;simp only [Eh,aru]at a;obtain ⟨x,_,rfl⟩:=a;simp
theorem Ek (level bits:Int) (r:eK) (s:ByteArray):(v7 level bits r s).size≤s.size+66*r.outs.length+10:=by
 have a:=je (s++⟨#[111]⟩) (pT (dN level r.outs)) (IN _) (dN level r.outs).length;have h2:=P.te (level:=level) (l:=r.outs);unfold v7;split
 ·omega
 ·simp only [ard]at*
  have c:(⟨#[111]⟩:ByteArray).size=1:=rfl;have b:(⟨#[59]⟩:ByteArray).size=1:=rfl;omega
theorem El (bits:Int) (r:eK) (s:ByteArray):(v8 bits r s).size≤s.size+66*r.trace.length+10:=by
 have a:=je (s++⟨#[116]⟩) (Eh r.trace) (OE _) r.trace.length;unfold v8;split
 ·omega
 ·simp only [ard]at*
  have c:(⟨#[116]⟩:ByteArray).size=1:=rfl;have b:(⟨#[59]⟩:ByteArray).size=1:=rfl;omega
theorem IP {F:Nat→Prop} {H H':AH} {φ:Nat→Nat} (S:P.dO ⟨F,H,φ,[]⟩) (X:Ext H H'):P.dO ⟨F,H',φ,[]⟩:=⟨X.wf S.wf,fun x a=>ari (S.fz x a) X.nx,fun b c s=>absurd (P.bO s) (arl _),fun b z cs e=>by simp at e,fun b es e=>by simp at e⟩
theorem Sj {F:Nat→Prop} {H H':AH} {φ:Nat→Nat} (S:P.dO ⟨F,H,φ,[]⟩) (X:Ext H H') {p:P.PV} {x:Value} (h:P.RF F H p x):P.RF F H' p x:=P.RF.mono X.n0 (fun x a=>⟨a,X.old x (S.fz x a)⟩) h
def VI (H0:AH) (b bx:Nat) (level bits:Int) (s:ByteArray) (fr:Fr) (H:AH):Prop:=Ext H0 H∧H.bs=some (b,s)∧fr.get 0= .int .i64 level∧fr.get 1= .int .i64 bits∧fr.get 5= .pointer (some ⟨bx,0,none⟩)∧fr.get 7= .pointer (some ⟨b,0,none⟩)∧fr.get 8= .func (.func 82) #[] #[.pointer (some ⟨b,0,none⟩)]
structure IQ (r:eK):Prop where
 en:qN r.en
 cost:qN r.cost
 outs:∀o∈r.outs,qN o.1∧qN o.2
 trace:∀e∈r.trace,qN e.kind∧qN e.at_∧qN e.val
 lo:r.outs.length≤2^31
 lt:r.trace.length≤2^31
theorem MK {level bits:Int} {r:eK} {F:Nat→Prop} {H:AH} {φ:Nat→Nat} {us uo ut:Value} (S:P.dO ⟨F,H,φ,[]⟩) (ho:P.RF F H (.fs 2 (P.vO r.outs)) uo) (ht:P.RF F H (.fs 3 (P.RX r.trace)) ut) (k:IQ r):
 Ca E O 51 [.int .i64 level,.int .i64 bits,.agg #[.int .i64 r.en,us,uo,ut,.int .i64 r.cost,.int .i64 r.used,.int .i64 r.wh]] H (fun x H'=>x= .string (jf level bits r)∧Ext H H'):=by
 have Q:H.n0≤H.nx:=S.wf;have TG:Rows H 3 ut (du r.trace):=P.Cn (by simp [P.RX,du,Ev.row,P.pi]) ht;refine Ca.aV (F:=a51) rfl rfl rfl ?_;have X1:=Ext.alloc H (.cells 7 [.int .i64 r.en,us,uo,ut,.int .i64 r.cost,.int .i64 r.used,.int .i64 r.wh]);have d0:(H.alloc (.cells 7 [.int .i64 r.en,us,uo,ut,.int .i64 r.cost,.int .i64 r.used,.int .i64 r.wh])).ld ⟨H.nx,0,none⟩=some (.int .i64 r.en):=aj Q rfl;have d1:(H.alloc (.cells 7 [.int .i64 r.en,us,uo,ut,.int .i64 r.cost,.int .i64 r.used,.int .i64 r.wh])).ld ⟨H.nx,1,none⟩=some us:=aj Q rfl;have d2:(H.alloc (.cells 7 [.int .i64 r.en,us,uo,ut,.int .i64 r.cost,.int .i64 r.used,.int .i64 r.wh])).ld ⟨H.nx,2,none⟩=some uo:=aj Q rfl;have d3:(H.alloc (.cells 7 [.int .i64 r.en,us,uo,ut,.int .i64 r.cost,.int .i64 r.used,.int .i64 r.wh])).ld ⟨H.nx,3,none⟩=some ut:=aj Q rfl;have d4:(H.alloc (.cells 7 [.int .i64 r.en,us,uo,ut,.int .i64 r.cost,.int .i64 r.used,.int .i64 r.wh])).ld ⟨H.nx,4,none⟩=some (.int .i64 r.cost):=aj Q rfl;have d5:(H.alloc (.cells 7 [.int .i64 r.en,us,uo,ut,.int .i64 r.cost,.int .i64 r.used,.int .i64 r.wh])).ld ⟨H.nx,5,none⟩=some (.int .i64 r.used):=aj Q rfl;have d6:(H.alloc (.cells 7 [.int .i64 r.en,us,uo,ut,.int .i64 r.cost,.int .i64 r.used,.int .i64 r.wh])).ld ⟨H.nx,6,none⟩=some (.int .i64 r.wh):=aj Q rfl;have d:(H.alloc (.cells 7 [.int .i64 r.en,us,uo,ut,.int .i64 r.cost,.int .i64 r.used,.int .i64 r.wh])).ldn ⟨H.nx,0,none⟩ 7=some [.int .i64 r.en,us,uo,ut,.int .i64 r.cost,.int .i64 r.used,.int .i64 r.wh]:=a7 Q 7 rfl;generalize cz:H.alloc (.cells 7 [.int .i64 r.en,us,uo,ut,.int .i64 r.cost,.int .i64 r.used,.int .i64 r.wh])=C at X1 d0 d1 d2 d3 d4 d5 d6 d;have bo:=X1.wf Q;have XB:=Ext.nM C;have hbB:(AG C).bs=some (C.nx,.empty):=rfl;have Yz:=k.lo;have ez:ByteArray.empty.size=0:=rfl;have db:=k.lt;refine sg [.r,.r,.r] (VI C C.nx H.nx level bits .empty) rfl ?_ ?_
 case refine_2=>
  intro rest A;simp (maxSteps:=9^7)-implicitDefEqProofs+contextual [-X.ev,a51,cz,Si];refine A _ _ ⟨XB,hbB,by simp,by simp,by simp,by simp,by simp⟩
 generalize C.nx=b;rintro j W ⟨o,w,m,s,g,f,p⟩;refine sg [.r] (VI C b H.nx level bits (vZ bits r .empty)) rfl ?_ ?_
 case refine_2=>
  intro rest A;have D:=Cz bits 8;have l0:=o.ld d0;have hd:=j0 r.en;by_cases h:kG bits 8=0
  ·simp (maxSteps:=9^7)-implicitDefEqProofs+contextual [-X.ev,a51,m,s,g,f,p,D,h]
   exact A _ _ ⟨o,by rw [vZ,if_pos h];exact w,by simp [m],by simp [s],by simp [g],by simp [f],by simp [p]⟩
  ·simp (maxSteps:=9^7)-implicitDefEqProofs+contextual [-X.ev,a51,m,s,g,f,p,D,h,l0]
   apply ah
   ·(simp-implicitDefEqProofs [-X.ev,g,f];rfl)
   refine (vY k.en).mono ?_;rintro x H3 ⟨rfl,rfl⟩;have c1:=CA (a:=⟨#[101]⟩) (b:=jc r.en) (by show 1+_≤_;omega);have c2:=CA (a:=⟨#[101]⟩++jc r.en) (b:=⟨#[59]⟩) (by rw [ard];show 1+_+1≤_;omega);simp (maxSteps:=9^7)-implicitDefEqProofs+contextual [-X.ev,g,f,c1,c2];apply ah
   ·(simp-implicitDefEqProofs [-X.ev,g,f];rfl)
   refine (gQ (t:=⟨#[101]⟩++jc r.en++⟨#[59]⟩) w (by simp only [ard];show 0+(1+_+1)≤_;omega)).mono ?_;rintro x H4 ⟨X4,M⟩;simp (maxSteps:=9^7)-implicitDefEqProofs+contextual [-X.ev];exact A _ _ ⟨o.trans X4,by rw [vZ,if_neg h];exact M,by simp [m],by simp [s],by simp [g],by simp [f],by simp [p]⟩
 clear o w m s g f p j W;have z1:=Ej bits r .empty;generalize hE1:vZ bits r .empty=s1 at z1⊢;rintro j W ⟨o,w,m,s,g,f,p⟩;refine sg [.r] (VI C b H.nx level bits (v7 level bits r s1)) rfl ?_ ?_
 case refine_2=>
  intro rest A;have D:=Cz bits 1;have jB:=o.wf bo;by_cases h:kG bits 1=0
  ·simp (maxSteps:=9^7)-implicitDefEqProofs+contextual [-X.ev,a51,m,s,g,f,p,D,h]
   exact A _ _ ⟨o,by rw [v7,if_pos h];exact w,by simp [m],by simp [s],by simp [g],by simp [f],by simp [p]⟩
  ·simp (maxSteps:=9^7)-implicitDefEqProofs+contextual [-X.ev,a51,m,s,g,f,p,D,h]
   apply ah
   ·(simp-implicitDefEqProofs [-X.ev,g,f];rfl)
   refine (gQ (t:=⟨#[111]⟩) w (by show _+1≤_;omega)).mono ?_;rintro x H3 ⟨X3,tm⟩;have l2:=(o.trans X3).ld d2;have zK:=X1.trans (o.trans X3);simp (maxSteps:=9^7)-implicitDefEqProofs+contextual [-X.ev,m,g,l2];apply ah
   ·(simp-implicitDefEqProofs [-X.ev,m,g];rfl)
   refine (MJ (level:=level) (IP S zK) (Sj S zK ho) (by omega)).mono ?_;rintro x H4 ⟨⟨X4,fB⟩,M⟩;rw [tm]at M
   obtain ⟨T,hT⟩:∃T,dN level r.outs=T:=⟨_,rfl⟩
   have htl:T.length≤r.outs.length:=hT▸P.te;rw [hT]at fB;have hX:Ext C H4:=(o.trans X3).trans X4;obtain ⟨xa,xc,Y⟩:=fB.len;have v:(cQ T).length=(T).length:=by simp [cQ]
   rw [v]at Y;simp (maxSteps:=9^7)-implicitDefEqProofs+contextual [-X.ev,g,f,Y];generalize C9:s1++⟨#[111]⟩=L at M;have aoU:L.size≤s1.size+1:=by rw [←C9,ard];exact aqY _
   have Z:H4.n0≤H4.nx:=hX.wf bo;refine ch (fun k j H'=>Ext H4 H'∧∃i:Nat,i+k=(T).length∧H'.bs=some (b,eg L (pT T) i)∧j.get 0= .int .i64 level∧j.get 1= .int .i64 bits∧j.get 5= .pointer (some ⟨H.nx,0,none⟩)∧j.get 7= .pointer (some ⟨b,0,none⟩)∧j.get 8= .func (.func 82) #[] #[.pointer (some ⟨b,0,none⟩)]∧j.get 30=x∧j.get 31= .int .i64 (T).length∧j.get 32= .int .i64 i) ?_ (T).length ⟨Ext.refl _,0,by simp,by simpa [eg]using M,by simp [m],by simp [s],by simp [g],by simp [f],by simp [p],by simp [Y],by simp,by simp⟩;rintro kk eV N ⟨R,i,hi,wC,g0,g1,J,I,G,B,gn,gi⟩;have qt:=R.wf Z;have jF:=je L (pT T) (IN _) i;by_cases IS:i<(T).length
   ·obtain ⟨e,V⟩:∃e,(T)[i]?=some e:=⟨_,aqU IS⟩
    have hem:e∈r.outs:=by rw [←hT]at V;exact (List.mem_filter.1 (aqZ V)).1
    obtain ⟨b1,o1,c1,wz,bC⟩:=(fB.ext R).at (r:=[.int .i64 e.1,.int .i64 e.2]) (by rw [cQ,arq,V];rfl);rw [v]at wz;rw [wz]at B;obtain ⟨u,Lf,K,Qt,Qu,q,U⟩:=dQ (H:=N) qt (z:=2) (c:=[.int .i64 0,.int .i64 0]) (vs:=[.int .i64 e.1,.int .i64 e.2]) rfl;have q0:u.ld ⟨N.nx,0,none⟩=some (.int .i64 e.1):=U 0 _ rfl;have q1:u.ld ⟨N.nx,1,none⟩=some (.int .i64 e.2):=U 1 _ rfl;clear U;replace q:u.ldn ⟨N.nx,0,none⟩ 2=some [.int .i64 e.1,.int .i64 e.2]:=q;have Gx:=K.wf qt;have Gy:=(Cu Lf).trans wC;have Dz:=K.wf qt;have lU:mB 2 1 [.int .i64 0,.int .i64 0] u [(0,1,.int .i64 e.1),(1,1,.int .i64 e.2)]=some (.slice (some ⟨u.nx,0,none⟩) 2 2,u.alloc (.cells 1 [.int .i64 e.1,.int .i64 e.2])):=rfl;have X7:=Ext.alloc u (.cells 1 [.int .i64 e.1,.int .i64 e.2]);have q6:=OD (l:=[e.1,e.2]) Dz;have GF:(u.alloc (.cells 1 [.int .i64 e.1,.int .i64 e.2])).bs=some (b,eg L (pT T) i):=Gy;simp only [List.map_cons,List.map_nil,List.length_cons,List.length_nil,Nat.zero_add]at q6;generalize u.alloc (.cells 1 [.int .i64 e.1,.int .i64 e.2])=H7 at lU X7 q6 GF;simp (maxSteps:=9^7)-implicitDefEqProofs+contextual [-X.ev,J,I,G,B,gn,gi,IS,bC,Lf,q0,q1,lU];apply jR
    ·(simp-implicitDefEqProofs [-X.ev,-Value.func.injEq,G,B];rfl)
    ·(simp-implicitDefEqProofs [-X.ev,G,B];rfl)
    refine (Cw (X7.wf Dz) q6 (by simp) (by intro n hn;simp only [arc,arx,or_false]at hn;have:=k.outs e hem;rcases hn with rfl|rfl<;>simp [this]) GF (by omega)).mono ?_;rintro y H8 ⟨X8,VS⟩;simp (maxSteps:=9^7)-implicitDefEqProofs+contextual [-X.ev,gn,gi];refine ⟨kk- 1,by omega,((R.trans K).trans X7).trans X8,i+1,by omega,?_,g0,g1,J,I,G,B.trans wz.symm,ai ⟨by omega,by omega⟩⟩;rw [VS,eg,List.getD_eq_getElem?_getD,pT,arq,V];rfl
   ·obtain rfl:i=(T).length:=by omega
    simp (maxSteps:=9^7)-implicitDefEqProofs+contextual [-X.ev,J,I,B,gn,gi];apply ah
    ·(simp-implicitDefEqProofs [-X.ev,J,I];rfl)
    refine (gQ (t:=⟨#[59]⟩) wC (by show _+1≤_;omega)).mono ?_;rintro y u ⟨K,Gy⟩;simp (maxSteps:=9^7)-implicitDefEqProofs+contextual [-X.ev];exact A _ _ ⟨(hX.trans R).trans K,by rw [v7,if_neg h,hT,C9];exact Gy,by simp [g0],by simp [g1],by simp [J],by simp [I],by simp [G]⟩
 clear o w m s g f p j W;have z2:=Ek level bits r s1;generalize hE2:v7 level bits r s1=L at z2⊢;rintro j W ⟨o,w,m,s,g,f,p⟩;refine sg [.r] (VI C b H.nx level bits (v8 bits r L)) rfl ?_ ?_
 case refine_2=>
  intro rest A;have D:=Cz bits 2;have jB:=o.wf bo;by_cases h:kG bits 2=0
  ·simp (maxSteps:=9^7)-implicitDefEqProofs+contextual [-X.ev,a51,m,s,g,f,p,D,h]
   exact A _ _ ⟨o,by rw [v8,if_pos h];exact w,by simp [m],by simp [s],by simp [g],by simp [f],by simp [p]⟩
  ·simp (maxSteps:=9^7)-implicitDefEqProofs+contextual [-X.ev,a51,m,s,g,f,p,D,h]
   apply ah
   ·(simp-implicitDefEqProofs [-X.ev,g,f];rfl)
   refine (gQ (t:=⟨#[116]⟩) w (by show _+1≤_;omega)).mono ?_;rintro x H3 ⟨X3,tm⟩;have l2:=(o.trans X3).ld d3;have zK:=X1.trans (o.trans X3);have fB:=TG.ext zK
   obtain ⟨x,hx0⟩:∃x,ut=x:=⟨_,rfl⟩
   rw [hx0]at l2 fB
   obtain ⟨H4,Z4⟩:∃H4,H3=H4:=⟨_,rfl⟩
   subst Z4;have M:=tm;have hX:Ext C H3:=o.trans X3;obtain ⟨xa,xc,Y⟩:=fB.len;have v:(du r.trace).length=(r.trace).length:=by simp [du]
   rw [v]at Y;simp (maxSteps:=9^7)-implicitDefEqProofs+contextual [-X.ev,l2,g,f,Y];generalize hs9:L++⟨#[116]⟩=s9 at M;have aoW:s9.size≤L.size+1:=by rw [←hs9,ard];exact aqY _
   have Z:H3.n0≤H3.nx:=hX.wf bo;refine ch (fun k j H'=>Ext H3 H'∧∃i:Nat,i+k=(r.trace).length∧H'.bs=some (b,eg s9 (Eh r.trace) i)∧j.get 0= .int .i64 level∧j.get 1= .int .i64 bits∧j.get 5= .pointer (some ⟨H.nx,0,none⟩)∧j.get 7= .pointer (some ⟨b,0,none⟩)∧j.get 8= .func (.func 82) #[] #[.pointer (some ⟨b,0,none⟩)]∧j.get 50=x∧j.get 51= .int .i64 (r.trace).length∧j.get 52= .int .i64 i) ?_ (r.trace).length ⟨Ext.refl _,0,by simp,by simpa [eg]using M,by simp [m],by simp [s],by simp [g],by simp [f],by simp [p],by simp [Y],by simp,by simp⟩;rintro kk eV N ⟨R,i,hi,wC,g0,g1,J,I,G,B,gn,gi⟩;have qt:=R.wf Z;have jF:=je s9 (Eh r.trace) (OE _) i;by_cases IS:i<(r.trace).length
   ·obtain ⟨e,V⟩:∃e,(r.trace)[i]?=some e:=⟨_,aqU IS⟩
    have hem:e∈r.trace:=aqZ V;obtain ⟨b1,o1,c1,wz,bC⟩:=(fB.ext R).at (r:=[.int .i64 e.kind,.int .i64 e.at_,.int .i64 e.val]) (by rw [du,arq,V];rfl);rw [v]at wz;rw [wz]at B;obtain ⟨u,Lf,K,Qt,Qu,q,U⟩:=dQ (H:=N) qt (z:=3) (c:=[.int .i64 0,.int .i64 0,.int .i64 0]) (vs:=[.int .i64 e.kind,.int .i64 e.at_,.int .i64 e.val]) rfl;have q0:u.ld ⟨N.nx,0,none⟩=some (.int .i64 e.kind):=U 0 _ rfl;have q1:u.ld ⟨N.nx,1,none⟩=some (.int .i64 e.at_):=U 1 _ rfl;have q2:u.ld ⟨N.nx,2,none⟩=some (.int .i64 e.val):=U 2 _ rfl;clear U;replace q:u.ldn ⟨N.nx,0,none⟩ 3=some [.int .i64 e.kind,.int .i64 e.at_,.int .i64 e.val]:=q;have Gx:=K.wf qt;have Gy:=(Cu Lf).trans wC;have Dz:=K.wf qt;have lU:mB 3 1 [.int .i64 0,.int .i64 0,.int .i64 0] u [(0,1,.int .i64 e.kind),(1,1,.int .i64 e.at_),(2,1,.int .i64 e.val)]=some (.slice (some ⟨u.nx,0,none⟩) 3 3,u.alloc (.cells 1 [.int .i64 e.kind,.int .i64 e.at_,.int .i64 e.val])):=rfl;have X7:=Ext.alloc u (.cells 1 [.int .i64 e.kind,.int .i64 e.at_,.int .i64 e.val]);have q6:=OD (l:=[e.kind,e.at_,e.val]) Dz;have GF:(u.alloc (.cells 1 [.int .i64 e.kind,.int .i64 e.at_,.int .i64 e.val])).bs=some (b,eg s9 (Eh r.trace) i):=Gy;simp only [List.map_cons,List.map_nil,List.length_cons,List.length_nil,Nat.zero_add]at q6;generalize u.alloc (.cells 1 [.int .i64 e.kind,.int .i64 e.at_,.int .i64 e.val])=H7 at lU X7 q6 GF;simp (maxSteps:=9^7)-implicitDefEqProofs+contextual [-X.ev,J,I,G,B,gn,gi,IS,bC,Lf,q0,q1,q2,lU];apply jR
    ·(simp-implicitDefEqProofs [-X.ev,-Value.func.injEq,G,B];rfl)
    ·(simp-implicitDefEqProofs [-X.ev,G,B];rfl)
    refine (Cw (X7.wf Dz) q6 (by simp) (by intro n hn;simp only [arc,arx,or_false]at hn;have:=k.trace e hem;rcases hn with rfl|rfl|rfl<;>simp [this]) GF (by omega)).mono ?_;rintro y H8 ⟨X8,VS⟩;simp (maxSteps:=9^7)-implicitDefEqProofs+contextual [-X.ev,gn,gi];refine ⟨kk- 1,by omega,((R.trans K).trans X7).trans X8,i+1,by omega,?_,g0,g1,J,I,G,B.trans wz.symm,ai ⟨by omega,by omega⟩⟩;rw [VS,eg,List.getD_eq_getElem?_getD,Eh,arq,V];rfl
   ·obtain rfl:i=(r.trace).length:=by omega
    simp (maxSteps:=9^7)-implicitDefEqProofs+contextual [-X.ev,J,I,B,gn,gi];apply ah
    ·(simp-implicitDefEqProofs [-X.ev,J,I];rfl)
    refine (gQ (t:=⟨#[59]⟩) wC (by show _+1≤_;omega)).mono ?_;rintro y u ⟨K,Gy⟩;simp (maxSteps:=9^7)-implicitDefEqProofs+contextual [-X.ev];exact A _ _ ⟨(hX.trans R).trans K,by rw [v8,if_neg h,hs9];exact Gy,by simp [g0],by simp [g1],by simp [J],by simp [I],by simp [G]⟩
 clear o w m s g f p j W;have z3:=El bits r L;generalize hE3:v8 bits r L=s3 at z3⊢;rintro j W ⟨o,w,m,s,g,f,p⟩;refine sg [.r] (VI C b H.nx level bits (Ei bits r s3)) rfl ?_ ?_
 case refine_2=>
  intro rest A;have D:=Cz bits 4;have l0:=o.ld d4;have hd:=j0 r.cost;by_cases h:kG bits 4=0
  ·simp (maxSteps:=9^7)-implicitDefEqProofs+contextual [-X.ev,a51,m,s,g,f,p,D,h]
   exact A _ _ ⟨o,by rw [Ei,if_pos h];exact w,by simp [m],by simp [s],by simp [g],by simp [f],by simp [p]⟩
  ·simp (maxSteps:=9^7)-implicitDefEqProofs+contextual [-X.ev,a51,m,s,g,f,p,D,h,l0]
   apply ah
   ·(simp-implicitDefEqProofs [-X.ev,g,f];rfl)
   refine (vY k.cost).mono ?_;rintro x H3 ⟨rfl,rfl⟩;have c1:=CA (a:=⟨#[99]⟩) (b:=jc r.cost) (by show 1+_≤_;omega);have c2:=CA (a:=⟨#[99]⟩++jc r.cost) (b:=⟨#[59]⟩) (by rw [ard];show 1+_+1≤_;omega);simp (maxSteps:=9^7)-implicitDefEqProofs+contextual [-X.ev,g,f,c1,c2];apply ah
   ·(simp-implicitDefEqProofs [-X.ev,g,f];rfl)
   refine (gQ (t:=⟨#[99]⟩++jc r.cost++⟨#[59]⟩) w (by simp only [ard];show _+(1+_+1)≤_;omega)).mono ?_;rintro x H4 ⟨X4,M⟩;simp (maxSteps:=9^7)-implicitDefEqProofs+contextual [-X.ev];exact A _ _ ⟨o.trans X4,by rw [Ei,if_neg h];exact M,by simp [m],by simp [s],by simp [g],by simp [f],by simp [p]⟩
 clear o w m s g f p j W;rintro j W ⟨o,w,m,s,g,f,p⟩;simp (maxSteps:=9^7)-implicitDefEqProofs+contextual [-X.ev,a51,f];apply ah
 ·(simp-implicitDefEqProofs [-X.ev,f];rfl)
 refine (MF w).mono ?_;rintro x H3 ⟨rfl,rfl⟩;simp (maxSteps:=9^7)-implicitDefEqProofs+contextual [-X.ev];exact ⟨by rw [jf,hE1,hE2,hE3],X1.trans o⟩
end
namespace P
open Go Go.RowKit
theorem Fz.Yc {f:Nat} {args:List PV} {y:Value} (k:∀F H φ vs,dO ⟨F,H,φ,[]⟩→cH ⟨F,H,φ,[]⟩ args vs→Ca E O f vs H (fun x H'=>x=y∧Ext H H')):Fz E O f args (.v y):=by
 intro F H φ vs S d;refine (k F H φ vs S d).mono ?_;rintro x H' ⟨rfl,X⟩
 have T:dq 0 tI ⟨F,H,φ,[]⟩ ⟨F,H',φ,[]⟩:=⟨X.n0,X.nx,fun x c=>⟨c,X.old x (S.fz x c)⟩,fun _ _ _ h=>h,fun x c _=>X.old x c,fun b a=>absurd (bO a) (arl _),fun _=>aqY _,fun b a=>absurd a (arl _),fun b a=>absurd a (arl _),fun b a=>absurd a (arl _)⟩
 exact ⟨_,[],F,φ,⟨rfl,rfl,rfl⟩,.v _,IP S X,T⟩
theorem IT {level bits:Int} {r:eK} (k:IQ r):Fz E O 51 [pi level,pi bits,.agg (lK r)] (.v (.string (jf level bits r))):=
 Fz.Yc fun F H l i S f=>by
  cases f with|cons a f=>
  cases f with|cons b f=>
  cases f with|cons c f=>
  cases f;cases a;cases b;obtain ⟨cs,rfl,h⟩:=sX (by simp [lK,y8]) c
  cases h with|cons a h=>
  cases h with|cons i h=>
  cases h with|cons j h=>
  cases h with|cons g h=>
  cases h with|cons b h=>
  cases h with|cons d h=>
  cases h with|cons e h=>
  cases h;cases a;cases b;cases d;cases e;exact MK S j g k
theorem Sk {level bits:Int} {r:eK} (k:IQ r) (d:0≤level∧level≤15) (e:0≤bits∧bits≤15):Fz E O 21 [pi level,pi bits,.agg (lK r)] (.gN [.v (.string (jf level bits r)),pi 0]):=by
 refine Fz.body (F:=a21) rfl rfl rfl (by simp) ?_;have c:¬ level<0:=by omega
 have h2:¬ 15<level:=by omega
 have b:¬ bits<0:=by omega
 have a:¬ 15<bits:=by omega
 simp (maxSteps:=9^7)-implicitDefEqProofs [-getElem?_pos,aqT,a21,lK,c,h2,b,a];refine bJ (IT (level:=level) (bits:=bits) k) ?_ ?_ ?_
 iterate 2· simp (maxDischargeDepth:=8)-implicitDefEqProofs [-getElem?_pos,aqT,lK]
 simp (maxSteps:=9^7)-implicitDefEqProofs [-getElem?_pos,aqT]
theorem Sl {v c:Int}:Fz E O 65 [pi v,pi c] (.agg (kQ (.mk 1 v c []))):=by
 refine tt.body (F:=Y4) rfl rfl rfl ?_;simp (maxSteps:=9^7)-implicitDefEqProofs+contextual [-getElem?_pos,aqT,Y4,kQ,ie];refine cn ?_;simp
theorem MN {n:Int}:Fz E O 67 [pi n] (.agg (kQ (.mk 0 n 0 []))):=by
 refine tt.body (F:=Y6) rfl rfl rfl ?_;simp (maxSteps:=9^7)-implicitDefEqProofs+contextual [-getElem?_pos,aqT,Y6,kQ,ie];refine cn ?_;simp
theorem Yd {op:Int} {l:List bV}:Fz E O 66 [pi op,.fs 4 (ie l)] (.agg (kQ (.mk op 0 0 l))):=by
 refine tt.body (F:=Y5) rfl rfl rfl ?_;simp (maxSteps:=9^7)-implicitDefEqProofs+contextual [-getElem?_pos,aqT,Y5,kQ,ie];refine cn ?_;simp
def AI:Option PB→List PV
 |some (.cells _ cs)=>cs
 |_=>[]
def OF (sz:Nat):Option PB→Bool
 |some (.cells z cs)=>decide (z=sz)
 |_=>false
theorem CB {A:Nat→Prop} {h:PH}:∀{ps a:List PV},Cc A h ps a→ps.length=a.length
 |[],[],_=>rfl
 |p::ps,q::a,k=>by simp [CB k.2]
 |[],q::a,k=>k.elim
 |p::ps,[],k=>k.elim
theorem tf {A:Nat→Prop} {h:PH} {sz b n:Nat} {rows:List (List PV)} (k:A b) (c:OF sz h[b]?=true) (i:0<sz) (g:rows.length=n) (f:∀r∈rows,r.length=sz) (d:Cc A h (AI h[b]?) rows.flatten):Vz A h (.sl sz b 0 n n) (.fs sz rows)↔True:=⟨fun _=>trivial,fun _=>by
 unfold OF at c;split at c
 case h_2=>cases c
 rename_i z cs e;simp only [aq6]at c;subst c;rw [e]at d
 have m:rows.flatten.length=n*z:=by
  rw [←g];clear d g
  induction rows with
  |nil=>simp
  |cons r l ih=>simp [f r (by simp),ih fun x j=>f x (by simp [j]),Nat.succ_mul];omega
 have a:cs.length=n*z:=by
  exact (CB d).trans m
 refine Ig k e (by simp [a]) i (aqY _) (aqY _) g f ?_;simp only [Nat.zero_mul,List.drop_zero];rw [aq1 (by omega)]
 exact d⟩
theorem lO {A:Nat→Prop} {a:Nat→Nat} {h j:PH} {sz b n:Nat} {rows:List (List PV)} (i:A b) (g:OF sz h[b]?=true) (c:0<sz) (f:rows.length=n) (e:∀r∈rows,r.length=sz) (d:Cc A h (AI h[b]?) rows.flatten):Vg A a h j (.sl sz b 0 n n) (.fs sz rows)↔True:=⟨fun _=>trivial,fun _=>vJ ((tf i g c f e d).2 trivial)⟩
def CC:bE:=.mk 4 0 [] [] []
def Sn:bV:=.mk 13 0 0 [.mk 1 0 0 [],.mk 0 1 0 []]
def nI:bw:=⟨1,[⟨⟨#[104]⟩,1,1⟩],[CC,.mk 1 0 [Sn] [CC] []]⟩
theorem Ye:Fz E O 36 [] (.agg (aO nI)):=by
 refine tt.body (F:=YX) rfl rfl rfl ?_;simp (maxSteps:=9^7)-implicitDefEqProofs+contextual [-getElem?_pos,aqT,YX];refine bJ (Sl (v:=0) (c:=0)) ?_ ?_ ?_
 iterate 2· simp (maxDischargeDepth:=8)-implicitDefEqProofs [-getElem?_pos,aqT]
 simp (maxSteps:=9^7)-implicitDefEqProofs+contextual [-getElem?_pos,aqT,kQ,ie];refine bJ (MN (n:=1)) ?_ ?_ ?_
 iterate 2· simp (maxDischargeDepth:=8)-implicitDefEqProofs [-getElem?_pos,aqT]
 simp (maxSteps:=9^7)-implicitDefEqProofs+contextual [-getElem?_pos,aqT,kQ,ie];refine pO [5] (Yd (op:=13) (l:=[.mk 1 0 0 [],.mk 0 1 0 []])) ?_ ?_
 ·simp (maxDischargeDepth:=8)-implicitDefEqProofs [-getElem?_pos,aqT,kQ,ie,lO,OF,AI]
 simp (maxSteps:=9^7)-implicitDefEqProofs+contextual [-getElem?_pos,aqT,kQ,ie,ee];refine cn ?_;simp (maxDischargeDepth:=12)-implicitDefEqProofs [aO,nI,Sn,CC,tJ,mS,kQ,ie,sW,Ap,lO,tf,OF,AI,tI]
open Go Go.RowKit
def MO (c:eZ):Prop:=0≤c.en∧c.en≤4
theorem MP {p:bw} {ps:List Int} {c:eZ} (h:MO c):MO (dB p ps c):=by
 unfold dB;split
 ·exact h
 split
 ·exact h
 split
 ·exact ⟨by simp [eJ],by simp [eJ]⟩
 ·rename_i k s next _ _
  obtain ⟨op,n,args,a,b⟩:=s;unfold kN
  repeat' split
  all_goals first
   |exact h
   |exact ⟨by simp [eJ],by simp [eJ]⟩
theorem CD {p:bw} {ps:List Int}:∀(n:Nat) {c:eZ},MO c→MO (iterM p ps n c)
 |0,_,h=>h
 |n+1,_,h=>CD n (MP h)
theorem IU (p:bw) (fuel:Int) (t:eY):0≤(jD p fuel t).en∧(jD p fuel t).en≤4:=by
 unfold jD;split
 ·exact CD _ (c:=fO p fuel t) ⟨by simp [fO],by simp [fO]⟩
 ·exact ⟨by decide,by decide⟩
def bump (a:List Int) (e:Nat):List Int:=a.set e (a.getD e 0+1)
def ew (p:bw) (fuel:Int) (l:List eY):Nat→List Int
 |0=>[0,0,0,0,0]
 |j+1=>bump (ew p fuel l j) (jD p fuel (l.getD j ⟨[],[]⟩)).en.toNat
theorem yA (p:bw) (fuel:Int) (l:List eY):∀j,(ew p fuel l j).length=5
 |0=>rfl
 |j+1=>by simp [ew,bump,yA p fuel l j]
theorem CE (p:bw) (fuel:Int) (l:List eY):∀j,∀x∈ew p fuel l j,0≤x∧x≤j
 |0,x,h=>by simp [ew]at h;subst h;simp
 |j+1,x,h=>by
  have ih:=CE p fuel l j;rcases List.mem_or_eq_of_mem_set h with h|h
  ·have:=ih x h;omega
  ·rw [h,List.getD_eq_getElem?_getD]
   cases a:(ew p fuel l j)[(jD p fuel (l.getD j ⟨[],[]⟩)).en.toNat]? with
   |none=>simp;omega
   |some y=>have:=ih y (aqZ a);simp;omega
def OG (p:bw) (fuel:Int):List PV:=
 if cx p fuel≠0 then [.agg [pi 0,pi 0,pi 0,pi 0,pi 0],pi (cx p fuel)]else match ff p fuel with
  |some l=>[.agg ((ew p fuel l l.length).map pi),pi 0]
  |none=>[.agg [pi 0,pi 0,pi 0,pi 0,pi 0],pi 5]
def NH (p:bw) (c:List Int):PH:=[.cells 3 (aO p),.cells 5 [pi 0,pi 0,pi 0,pi 0,pi 0],.cells 5 (c.map pi)]
def NL (fuel:Int) (e:Int) (l:List eY) (j:Nat):List (Nat×PV):=[(1,pi fuel),(2,.ref 0 0 3),(4,.ref 1 0 5),(7,pi e),(8,.ref 2 0 5),(19,.fs 2 (str l)),(20,pi l.length),(21,pi j)]
def NI (p:bw) (fuel e:Int) (l:List eY) (j:Nat) (fr:PF) (h:PH):Prop:=h=NH p (ew p fuel l j)∧∀t∈NL fuel e l j,fr.get t.1=t.2
theorem IV {p:bw} {fuel e:Int} {l:List eY} {j:Nat}:NI p fuel e l j (PF.y7 (NL fuel e l j)) (NH p (ew p fuel l j)):=⟨rfl,fun t a=>by
 simp only [NL,arc,arx,or_false]at a
 rcases a with rfl|rfl|rfl|rfl|rfl|rfl|rfl|rfl<;>simp [NL]⟩
theorem we (l:List Int):ef (l.map pi)=true:=by
 induction l with
 |nil=>rfl
 |cons a l ih=>simp [ih]
theorem tg {α:Type} {q:α}:∀{xs:List (Option (List α))} {l:List α},kE xs=some l→q∈l→∃m,some m∈xs∧q∈m
 |[],l,e,h=>by simp [kE]at e;subst e;simp at h
 |x::xs,l,e,h=>by
  simp only [kE]at e
  cases x with
  |none=>simp at e
  |some m=>
   cases a:kE xs with
   |none=>simp [a]at e
   |some b=>
    simp only [a,Option.bind_some,Option.map_some,aqV]at e;subst e;rcases are.1 h with h|h
    ·exact ⟨m,by simp,h⟩
    ·obtain ⟨c,d,h2⟩:=tg a h
     exact ⟨c,by simp [d],h2⟩
def okQ (q:List Int):Prop:=∀n∈q,0≤n∧n<256
theorem ur {p:bw} {fuel:Int} {s:List Int} (k:bU p≤256):∀(d:Nat) {ps:List Int} {l:List (List Int)},leaves p fuel s d ps=some l→okQ ps→∀q∈l,q.length≤ps.length+d∧okQ q
 |0,ps,l,e,h,q,b=>by
  rw [leaves]at e;split at e
  ·cases e
  ·cases e;simp at b;subst b;exact ⟨by simp,h⟩
 |d+1,ps,l,e,h,q,b=>by
  rw [leaves]at e;split at e
  ·obtain ⟨m,i,h2⟩:=tg e b
   simp only [aru]at i;obtain ⟨u,c,o⟩:=i;have r:=lL c
   have f:okQ u:=by
    simp only [kids,aru,List.mem_range]at c;obtain ⟨a,t,rfl⟩:=c;intro n j;rcases are.1 j with g|g
    ·exact h n g
    ·simp at g;omega
   have:=ur k d o f q h2;exact ⟨by omega,this.2⟩
  ·cases e;simp at b;subst b;exact ⟨by simp,h⟩
theorem So {p:bw} {fuel:Int} {s:List Int} {most:Nat} {m:List (List Int)} (f:bj p=true) (d:s.length<2^60) (g:∀n∈s,jG n) (h:ofM p fuel s most=some m):∀t∈qC s m,Aq t:=by
 unfold ofM at h
 cases b:mr p fuel s with
 |none=>simp [b]at h
 |some l=>
  simp [b]at h;obtain ⟨_,rfl⟩:=h;intro t c;simp only [qC,aru]at c;obtain ⟨q,e,rfl⟩:=c;have:=ur (uk f) _ b (by intro n a;simp at a) q e;refine ⟨d,by have:=this.1;simp at this;show q.length<_;omega,g,fun n a=>?_⟩;have:=this.2 n a;exact ⟨by omega,by omega⟩
theorem IW {p:bw} {fuel:Int} (h:bj p=true):∀{n:Nat} {l:List eY},eR p fuel n=some l→∀t∈l,Aq t
 |0,l,e=>by simp [eR]at e;subst e;simp
 |n+1,l,e=>by
  simp only [eR]at e
  cases b:eR p fuel n with
  |none=>simp [b]at e
  |some c=>
   have f:=IW h b;simp only [b,Option.bind_some]at e
   cases h2:ofM p fuel (dT p n) (16384- c.length)with
   |none=>simp [h2]at e
   |some m=>
    simp [h2]at e;subst e;intro t a;rcases are.1 a with a|a
    ·exact f t a
    ·have:=uq h n
     exact So h (show(dT p n).length<2^60 by omega) (fun x d=>yw (mz (qB h) _ x d)) h2 t a
theorem th {p:bw} {fuel:Int} (h:bj p=true) {l:List eY} (e:ff p fuel=some l):(∀t∈l,Aq t)∧l.length≤16384:=by
 unfold ff at e;split at e
 ·exact ⟨IW h e,vW e⟩
 ·cases e
theorem yB {p:bw} {fuel:Int}:∃x e l,qM p fuel=[x,pi e]∧(x= .fs 2 (str l)∨(x=dM∧l=[]))∧OG p fuel=[.agg ((ew p fuel l l.length).map pi),pi e]∧(∀t∈l,Aq t)∧l.length≤16384:=by
 by_cases a:cx p fuel=0
 case neg=>exact ⟨dM,cx p fuel,[],by simp [qM,a],.inr ⟨rfl,rfl⟩,by simp [OG,a,ew],by simp,by simp⟩
 have c:bj p=true:=by
  cases h:bj p with
  |true=>rfl
  |false=>simp [cx,h]at a
 cases b:ff p fuel with
 |none=>exact ⟨dM,5,[],by simp [qM,a,b],.inr ⟨rfl,rfl⟩,by simp [OG,a,b,ew],by simp,by simp⟩
 |some l=>exact ⟨.fs 2 (str l),0,l,by simp [qM,a,b],.inl rfl,by simp [OG,a,b],(th c b).1,(th c b).2⟩
theorem IX {c:List Int} {k:Nat} (a:k<c.length):tG (c.map pi) k [pi (c.getD k 0+1)]=(bump c k).map pi:=by
 rw [oZ (by simpa using a)];simp [bump]
theorem Fz.nil {f sz:Nat} {args:List PV} {y:PV} (k:Fz E O f args (.gN [dM,y])):Fz E O f args (.gN [.fs sz [],y]):=by
 intro F H e g S n;refine (k F H e g S n).mono ?_;rintro x q ⟨r,p,o,c,⟨rfl,rfl,j⟩,h,m,T⟩;refine ⟨_,[],o,c,⟨rfl,rfl,by simpa using j⟩,?_,m,T⟩
 cases h with|gN a=>
 cases a with|cons a b=>
 cases a;exact .gN (.cons (.fs (.fs (rows:=[]) (rs:=[]) ⟨_,_,rfl,fun i r hi=>by simp at hi⟩ (aqY _) (fun d l=>by cases l) .nil)) b)
theorem MQ {p:bw} {fuel:Int} (f:kD p):∃e l,Fz E O 17 [.agg (aO p),pi fuel] (.gN [.fs 2 (str l),pi e])∧(qM p fuel=[.fs 2 (str l),pi e]∨(qM p fuel=[dM,pi e]∧l=[]))∧OG p fuel=[.agg ((ew p fuel l l.length).map pi),pi e]∧(∀t∈l,Aq t)∧l.length≤16384:=by
 obtain ⟨x,e,l,c,g,h2,a,d⟩:=yB (p:=p) (fuel:=fuel);have b:=rk (fuel:=fuel) f;rw [c]at b;rcases g with rfl|⟨rfl,rfl⟩
 ·exact ⟨e,l,b,.inl c,h2,a,d⟩
 ·exact ⟨e,[],b.nil,.inr ⟨c,rfl⟩,h2,a,d⟩
theorem Sp {p:bw} {fuel:Int} (B:kD p):Fz E O 18 [.agg (aO p),pi fuel] (.gN (OG p fuel)):=by
 refine tt.body (F:=YT) rfl rfl rfl ?_;obtain ⟨e,l,N,_,h2,s,R⟩:=MQ (p:=p) (fuel:=fuel) B;rw [h2];simp (maxSteps:=9^7)-implicitDefEqProofs+contextual [-getElem?_pos,aqT,YT,aO];refine bJ (N) ?_ ?_ ?_
 iterate 2· simp (maxDischargeDepth:=8)-implicitDefEqProofs [-getElem?_pos,aqT,aO]
 simp (maxSteps:=9^7)-implicitDefEqProofs+contextual [-getElem?_pos,aqT];refine iw (NI p fuel e l) l.length (eU (h2:=NH p (ew p fuel l 0)) [0,1,2] (NL fuel e l 0) ?_ ?_ ?_ ?_ ?_ ?_) IV ?_
 ·simp [NH,NL,aO,ew]
 iterate 2· simp
 ·intro b m;omega
 iterate 2· simp (maxDischargeDepth:=8)-implicitDefEqProofs [aZ,aqT,NH,NL,aO,ew]
 rintro j T h S ⟨rfl,H⟩;simp only [NL,arc,arx,or_false,forall_eq_or_imp,forall_eq]at H;obtain ⟨r,q,o,n,d,f19,f20,f21⟩:=H;have i:=yA p fuel l j;by_cases y:j<l.length
 ·obtain ⟨t,u⟩:∃t,l[j]?=some t:=⟨_,aqU y⟩
  have Q:=IU p fuel t;have f:ew p fuel l (j+1)=bump (ew p fuel l j) (jD p fuel t).en.toNat:=by rw [ew,List.getD_eq_getElem?_getD,u];rfl
  have m:=CE p fuel l j;have M:=Au (fuel:=fuel) B (s t (aqZ u));have J:IntKind.i64.wrap ((j:Int)+1)=((j+1:Nat):Int):=ai ⟨by omega,by omega⟩
  obtain ⟨k,D⟩:∃k:Nat,(jD p fuel t).en=k:=⟨(jD p fuel t).en.toNat,by omega⟩
  rw [D,Int.toNat_natCast]at f
  obtain ⟨c,I⟩:∃c,ew p fuel l j=c:=⟨_,rfl⟩
  rw [I]at i m f;have a:k<c.length:=by omega
  have G:(c.map pi)[k]?=some (pi (c.getD k 0)):=by simp [aqU a]
  have K:c.getD k 0∈c:=by rw [List.getD_eq_getElem?_getD,aqU a];exact List.getElem_mem _
  have L:=m _ K;have A:IntKind.i64.wrap (c.getD k 0+1)=c.getD k 0+1:=ai ⟨by omega,by omega⟩;have C:=IX a;have x:k<5:=by omega
  have w:(k:Int)<5:=by omega
  have v:k≤4:=by omega
  obtain ⟨g,z⟩:∃g,c.getD k 0=g:=⟨_,rfl⟩
  rw [z]at G A C;simp (maxSteps:=9^7)-implicitDefEqProofs+contextual [-getElem?_pos,aqT,r,q,o,n,d,f19,f20,f21,y,vU,u,NH,aO,hU,I];refine bJ (M) ?_ ?_ ?_
  iterate 2· simp (maxDischargeDepth:=8)-implicitDefEqProofs [-getElem?_pos,aqT,aO,hU]
  simp (maxSteps:=9^7)-implicitDefEqProofs+contextual [-getElem?_pos,aqT,lK,D,d,x,w,v,G,C,A,f21,J,i];refine .xZ y (eU (h2:=NH p (ew p fuel l (j+1))) [0,1,2] (NL fuel e l (j+1)) ?_ ?_ ?_ ?_ ?_ ?_) IV
  ·simp [NH,NL,aO,f,r,q,o,n,d,f19,f20,we]
  iterate 2· simp
  ·intro b m;omega
  iterate 2· simp (maxDischargeDepth:=8)-implicitDefEqProofs [aZ,aqT,NH,NL,aO,f,r,q,o,n,d,f19,f20,we]
 ·obtain rfl:j=l.length:=by omega
  have P:List.take 5 ((ew p fuel l l.length).map pi)=(ew p fuel l l.length).map pi:=aq1 (by simp [i]);simp (maxSteps:=9^7)-implicitDefEqProofs+contextual [-getElem?_pos,aqT,r,q,o,n,d,f19,f20,f21,NH,aO,i,P];refine cn ?_;simp [we]
end P
namespace P
open Go Go.RowKit
theorem MR:bj nI=true:=by decide+kernel
theorem Sr:ofM nI 9 [0] 16384=some [[0],[1,0],[1,1]]:=by decide+kernel
theorem IY:jf 1 5 ⟨0,[],[(1,1),(2,1),(0,0)],[],4,0,0⟩=⟨#[111,32,49,58,49,32,48,58,48,59,99,52,59]⟩:=by decide+kernel
def IZ:List eY:=[⟨[0],[0]⟩,⟨[0],[1,0]⟩,⟨[0],[1,1]⟩,⟨[1],[0]⟩,⟨[1],[1,0]⟩,⟨[1],[1,1]⟩]
instance:DecidableEq eY:=fun a b=>decidable_of_iff (a.store=b.store∧a.bM=b.bM) (by cases a;cases b;simp)
theorem uu:ff nI 9=some IZ:=by decide+kernel
theorem I1:ew nI 9 IZ 6=[6,0,0,0,0]:=by decide+kernel
theorem AJ:kD nI:=by
 have d:jG 0:=⟨by decide,by decide⟩
 have a:jG 1:=⟨by decide,by decide⟩
 have c:jG 4:=⟨by decide,by decide⟩
 have i13:jG 13:=⟨by decide,by decide⟩
 refine ⟨a,⟨by decide,?_⟩,?_,by decide⟩
 ·intro v b
  simp only [nI,List.mem_singleton]at b;subst b;decide
 ·simp [nI,yi,Mn,Ot,D6,Sn,CC,d,a,c,i13]
theorem ti:cx nI 9=0:=by simp [cx,MR]
theorem MS:Ee nI 9 [0]=[.fs 2 (str (qC [0] [[0],[1,0],[1,1]])),pi 0]:=by
 have h:bK nI.w nI.vars [0]=true:=by decide+kernel
 simp [Ee,ti,h,Sr,AA]
theorem MT:qM nI 9=[.fs 2 (str IZ),pi 0]:=by simp [qM,ti,uu]
theorem MU:OG nI 9=[.agg [pi 6,pi 0,pi 0,pi 0,pi 0],pi 0]:=by
 simp only [OG,ti,uu];rw [show IZ.length=6 from rfl,I1];rfl
def yC:eK:=⟨0,[],[(1,1),(2,1),(0,0)],[],4,0,0⟩
theorem I3:IQ yC:=⟨⟨by decide,by decide⟩,⟨by decide,by decide⟩,by simp [yC,qN],by simp [yC],by decide,by decide⟩
theorem MW:Fz E O 11 [] (pb true):=by
 refine tt.body (F:=YP) rfl rfl rfl ?_;have d:=ahj (fuel:=9) (s:=[0]) AJ (by decide) (by intro n b;simp at b;subst b;exact ⟨by decide,by decide⟩);have f:=rk (fuel:=9) AJ;have e:=Sp (fuel:=9) AJ;rw [MS]at d;rw [MT]at f;rw [MU]at e;have c:=Sk (level:=1) (bits:=5) I3 (by decide) (by decide);rw [show jf 1 5 yC=_ from IY]at c
 have g:=R9 (l:=qC [0] [[0],[1,0],[1,1]]) (by
  intro t a;simp [qC]at a
  rcases a with rfl|rfl|rfl<;>exact ⟨by decide,by decide,by simp [jG],by simp [jG]⟩) (by decide)
 simp (maxSteps:=9^7)-implicitDefEqProofs+contextual [-getElem?_pos,aqT,YP];refine bJ (Ye) ?_ ?_ ?_
 iterate 2· simp (maxDischargeDepth:=8)-implicitDefEqProofs [-getElem?_pos,aqT]
 simp (maxSteps:=9^7)-implicitDefEqProofs+contextual [-getElem?_pos,aqT,aO];refine pO [1] (d) ?_ ?_
 ·simp (maxDischargeDepth:=8)-implicitDefEqProofs [-getElem?_pos,aqT,aO,lO,OF,AI]
 simp (maxSteps:=9^7)-implicitDefEqProofs+contextual [-getElem?_pos,aqT,aO,ee];refine bJ (f) ?_ ?_ ?_
 iterate 2· simp (maxDischargeDepth:=8)-implicitDefEqProofs [-getElem?_pos,aqT,aO]
 simp (maxSteps:=9^7)-implicitDefEqProofs+contextual [-getElem?_pos,aqT,aO];refine bJ (e) ?_ ?_ ?_
 iterate 2· simp (maxDischargeDepth:=8)-implicitDefEqProofs [-getElem?_pos,aqT,aO]
 simp (maxSteps:=9^7)-implicitDefEqProofs+contextual [-getElem?_pos,aqT,aO];refine pO [3] (c) ?_ ?_
 ·simp (maxDischargeDepth:=8)-implicitDefEqProofs [-getElem?_pos,aqT,lK,yC,lO,OF,AI,vO,RX,ir]
 simp (maxSteps:=9^7)-implicitDefEqProofs+contextual [-getElem?_pos,aqT,ee];refine pO [4,5,6,7,8,9,10] (g) ?_ ?_
 ·simp (maxDischargeDepth:=8)-implicitDefEqProofs [-getElem?_pos,aqT,lO,tf,OF,AI,str,qC,hU,ir]
 have h:IZ.length=6:=rfl;simp (maxSteps:=9^7)-implicitDefEqProofs [-getElem?_pos,aqT,ee,h,cj,gX];rw [show aX ⟨#[111,32,49,58,49,32,48,58,48,59,99,52,59]⟩ ⟨#[111,32,49,58,49,32,48,58,48,59,99,52,59]⟩=true by decide];refine cn ?_;simp
open Go Go.RowKit
theorem yD {p:bw} {fuel:Int} (h:cx p fuel=0):bj p=true:=by
 cases a:bj p with
 |true=>rfl
 |false=>simp [cx,a]at h
end P
namespace P
open Go Go.RowKit
theorem qD {p:bw} {fuel:Int} {s:List Int} (j:bj p=true):∀(d:Nat) {ps:List Int} {l:List (List Int)},leaves p fuel s d ps=some l→(∀n∈ps,isWord p.w n=true)→∀q∈l,q.length≤ps.length+d∧∀n∈q,isWord p.w n=true
 |0,ps,l,e,h,q,b=>by
  rw [leaves]at e;split at e
  ·cases e
  ·cases e;simp at b;subst b;exact ⟨by simp,h⟩
 |d+1,ps,l,e,h,q,b=>by
  rw [leaves]at e;split at e
  ·obtain ⟨m,f,h2⟩:=tg e b
   simp only [aru]at f;obtain ⟨u,g,o⟩:=f;have t:=lL g
   have i:∀n∈u,isWord p.w n=true:=by
    simp only [kids,aru,List.mem_range]at g;obtain ⟨a,v,rfl⟩:=g;intro n k;rcases are.1 k with c|c
    ·exact h n c
    ·simp only [List.mem_singleton]at c
     subst c;have r:=qB j;have f:bl p.w=true:=by simp [bl];omega
     have h2:(a:Int)<2^p.w.toNat:=by
      have c:(bU p:Int)=2^p.w.toNat:=by simp [bU]
      omega
     simp [isWord,f,h2]
   have:=qD j d o i q h2;exact ⟨by omega,this.2⟩
  ·cases e;simp at b;subst b;exact ⟨by simp,h⟩
theorem MY {p:bw} {fuel:Int} {s:List Int} {most:Nat} {m:List (List Int)} (e:bj p=true) (c:bK p.w p.vars s=true) (h:ofM p fuel s most=some m):∀t∈qC s m,iO p t=true:=by
 unfold ofM at h
 cases a:mr p fuel s with
 |none=>simp [a]at h
 |some l=>
  simp [a]at h;obtain ⟨_,rfl⟩:=h;intro t b;simp only [qC,aru]at b;obtain ⟨q,d,rfl⟩:=b;have:=qD e _ a (by intro n f;simp at f) q d;simp only [iO,c,Bool.true_and,aqX,aq6,ara];exact ⟨by have:=this.1;simp at this;exact this,this.2⟩
theorem CF {p:bw} {fuel:Int} (h:bj p=true):∀{n:Nat} {l:List eY},eR p fuel n=some l→∀t∈l,iO p t=true
 |0,l,e=>by simp [eR]at e;subst e;simp
 |n+1,l,e=>by
  simp only [eR]at e
  cases b:eR p fuel n with
  |none=>simp [b]at e
  |some c=>
   have d:=CF h b;simp only [b,Option.bind_some]at e
   cases h2:ofM p fuel (dT p n) (16384- c.length)with
   |none=>simp [h2]at e
   |some m=>
    simp [h2]at e;subst e;intro t a;rcases are.1 a with a|a
    ·exact d t a
    ·exact MY h (IB h n) h2 t a
theorem Em {p:bw} {fuel:Int} (b:cx p fuel=0) {l:List eY} (e:ff p fuel=some l):∀t∈l,fV p fuel t=0:=by
 have a:=yD b
 have d:¬ (fuel<0∨4096<fuel):=by
  intro h;simp [cx,a,h]at b
 unfold ff at e;split at e
 ·intro t c
  have:=CF a e t c;simp [fV,a,d,this]
 ·cases e
open Go Go.RowKit
end P
namespace P
open Go Go.RowKit
open Go Go.RowKit
end P
namespace P
open Go Go.RowKit
def nJ:List A.dq→AC→List Kp→List Kp
 |[],_,ks=>ks
 | .l::p,.seq a b,ks=>nJ p a (.seq b::ks)
 | .r::p,.seq _ b,ks=>nJ p b ks
 | .l::p,.block i a,ks=>nJ p a (.aS i::ks)
 | .l::p,.cond _ a _,ks=>nJ p a ks
 | .r::p,.cond _ _ b,ks=>nJ p b ks
 |_,_,ks=>ks
@[simp]theorem abe (p:List A.dq) (x:X) (a b:AC) (ks:List Kp):nJ (.l::p) (.cond x a b) ks=nJ p a ks:=rfl
@[simp]theorem abf (p:List A.dq) (x:X) (a b:AC) (ks:List Kp):nJ (.r::p) (.cond x a b) ks=nJ p b ks:=rfl
@[simp]theorem ahq (p:List A.dq) (a b:AC) (c:List Kp):nJ (.l::p) (.seq a b) c=nJ p a (.seq b::c):=rfl
@[simp]theorem ahr (p:List A.dq) (a b:AC) (ks:List Kp):nJ (.r::p) (.seq a b) ks=nJ p b ks:=rfl
@[simp]theorem ahs (p:List A.dq) (i:Nat) (a:AC) (b:List Kp):nJ (.l::p) (.block i a) b=nJ p a (.aS i::b):=rfl
theorem I4 (l:List (Int×Int)) {i:Nat} {o:Int×Int} (h:l[i]?=some o) (s:ByteArray):eg s (pT l) (i+1)=eg s (pT l) i++⟨#[32]⟩++jc o.1++⟨#[58]⟩++jc o.2:=by
 rw [eg];have:(pT l).getD i []=[o.1,o.2]:=by simp [pT,List.getD_eq_getElem?_getD,h]
 rw [this];rfl
theorem MZ (l:List Ev) {i:Nat} {e:Ev} (h:l[i]?=some e) (s:ByteArray):eg s (Eh l) (i+1)=eg s (Eh l) i++⟨#[32]⟩++jc e.kind++⟨#[58]⟩++jc e.at_++⟨#[58]⟩++jc e.val:=by
 rw [eg];have:(Eh l).getD i []=[e.kind,e.at_,e.val]:=by simp [Eh,List.getD_eq_getElem?_getD,h]
 rw [this];rfl
end P
section
open Go
def sm (n:Int):Prop:=0≤n∧n≤1024
def M0 (e:Ev):Prop:=sm e.kind∧sm e.at_∧sm e.val
structure En (c:eZ):Prop where
 outs:∀o∈c.outs,sm o.1∧sm o.2
 trace:∀e∈c.trace,M0 e
theorem CG {i m:Int} (h:sm i):sm (i%m):=by
 obtain ⟨a,rfl⟩:=Int.eq_ofNat_of_zero_le h.1
 have key:∀b:Nat,sm ((a:Int)%(b:Int)):=fun b=>by
  have e:((a:Int)%(b:Int))=((a%b:Nat):Int):=(Int.natCast_emod a b).symm;have c:=Nat.mod_le a b;have h2:=h.2;rw [e];exact ⟨Int.natCast_nonneg _,by omega⟩
 rcases Int.eq_nat_or_neg m with⟨b,rfl|rfl⟩
 ·exact key b
 ·rw [Int.emod_neg];exact key b
theorem wg {w:Int} {V:List Vr} {S:List (List Int)} {x:Ev}:∀{l:List bV},x∈eR w V S l→∃e∈l,x∈nq w V S e
 |[],h=>by simp [eR]at h
 |e::l,h=>by
  rw [eR]at h;rcases are.1 h with h|h
  ·exact ⟨e,by simp,h⟩
  ·obtain ⟨y,a,b⟩:=wg h
   exact ⟨y,by simp [a],b⟩
theorem CH {w:Int} {V:List Vr} {S:List (List Int)} (a:aA w V=true) (d:GS w V S) {l:List bV} (b:∀e∈l,cY w V S.length e=true) (i:Nat):sm (fE (cL w V S l) i):=by
 have f:=jo (w:=w) ⟨(aF a).1,(aF a).2.1⟩;unfold fE;rw [sv]
 cases c:l[i]? with
 |none=>exact ⟨by simp,by simp⟩
 |some e=>
  have:=iQ a d e (b e (aqZ c));simp only [Option.map_some,Option.getD_some];exact ⟨this.1,by omega⟩
theorem Ss {w:Int} {V:List Vr} {S:List (List Int)} (b:aA w V=true) (j:GS w V S):∀e,cY w V S.length e=true→∀x∈nq w V S e,M0 x:=lX fun op n o args ih h x a=>by
 have f:1≤w∧w≤8:=⟨(aF b).1,(aF b).2.1⟩
 have m:=(aF b).2.2.2;obtain ⟨d,i⟩:=nu f h;rw [nq]at a;rcases are.1 a with a|a
 ·obtain ⟨e,c,a⟩:=wg a
  exact ih e c (d e c) x a
 ·split at a
  ·rename_i l
   simp only [List.mem_singleton]at a;subst a
   have g:0≤n∧n<V.length:=by
    rcases i with⟨q,_⟩|⟨q,k,h2,_⟩|⟨q,_⟩|⟨q,_⟩|⟨q,_⟩;all_goals first|exact ⟨k,h2⟩|omega
   exact ⟨⟨by simp,by simp⟩,⟨g.1,by show n≤1024;omega⟩,CG (CH b j d 0)⟩
  ·cases a
theorem I5 {c:eZ} (h:En c) {e:Ev} (b:M0 e) (l:List vn):En {c with trace:=c.trace++[e],todo:=l}:=⟨h.outs,fun x a=>by
 rcases are.1 a with a|a
 ·exact h.trace x a
 ·simp only [List.mem_singleton]at a;subst a;exact b⟩
theorem CJ {V:List Vr} {c:eZ} (h:En c) {n i a:Int} (d:sm n) (hi:sm i):En (iU V c n i a):=⟨h.outs,fun x b=>by
 rcases are.1 b with b|b
 ·exact h.trace x b
 ·split at b
  ·simp only [List.mem_singleton]at b
   subst b;exact ⟨⟨by simp,by simp⟩,d,CG hi⟩
  ·cases b⟩
theorem pf {c:eZ} (h:En c) (e n:Int):En (eJ c e n):=⟨h.outs,h.trace⟩
theorem I6 {P:Prop} [Decidable P] {a b:Int} (d:sm a) (c:sm b):sm (if P then a else b):=by split<;>assumption
theorem sm0:sm 0:=⟨by decide,by decide⟩
theorem sm1:sm 1:=⟨by decide,by decide⟩
theorem I7 {p:bw} {ps:List Int} {c:eZ} (I:Inv p ps c) (h:En c):En (dB p ps c):=by
 unfold dB;by_cases f:c.over=true
 ·rw [if_pos f];exact h
 rw [if_neg f]
 cases u:c.todo with
 |nil=>exact h
 |cons it next=>
  obtain ⟨k,s⟩:=it;show En (if c.fuel=0 then _ else _);by_cases J:c.fuel=0
  ·rw [if_pos J];exact pf h _ _
  rw [if_neg J];obtain ⟨op,n,args,g,aE⟩:=s;obtain ⟨H,G,B,V⟩:=I.todo (k,.mk op n args g aE) (by rw [u];simp);obtain ⟨S,T,U,P⟩:=gv B;have R:aY (.mk op n args g aE)=1+aC g+aC aE:=by rw [aY]
  have X:=aP g;have be:=aP aE;have O:=I.TF;simp only at H G;have W:=(aF I.head).2.2.2;have M:GS p.w p.vars [c.store]:=fun t u=>by simp at u;subst u;exact I.store
  have L:∀e∈args,cY p.w p.vars [c.store].length e=true:=fun e D=>(S e D).1
  have r:∀i,sm (fE (cL p.w p.vars [c.store] args) i):=CH I.head M L
  have Q:sm k:=⟨H,by rw [R]at G;omega⟩
  have d:En (kr p c (.mk op n args g aE) next):=⟨h.outs,fun x j=>by
   rcases are.1 j with j|j
   ·exact h.trace x j
   ·obtain ⟨e,D,j⟩:=wg j
    exact Ss I.head M e (L e D) x j⟩
  have m:op=0∨op=4→sm n:=by
   intro q
   have:0≤n∧n<p.vars.length:=by
    rcases P with⟨_,a,_⟩|⟨v,_⟩|⟨v,_⟩|⟨v,_⟩|⟨_,a,_⟩|⟨v,_⟩;all_goals first|exact a|omega
   exact ⟨this.1,by omega⟩
  have C:op=3→sm n:=by
   intro q;rw [dY,aqX]at B;have N:=B.1;unfold bW at N;subst q;simp at N;exact ⟨by omega,by omega⟩
  generalize kr p c (.mk op n args g aE) next=b at d
  rw [show(bE.mk op n args g aE).args=args from rfl];generalize cL p.w p.vars [c.store] args=l at r
  have K:M0 ⟨0,k,if fE l 0=0 then 0 else 1⟩:=⟨sm0,Q,I6 sm0 sm1⟩
  unfold kN;by_cases A:op=0
  ·simp only [if_pos A]
   exact CJ d (m (.inl A)) (I6 (r 0) sm0)
  simp only [if_neg A];by_cases F:op=1
  ·simp only [if_pos F];exact I5 d K _
  simp only [if_neg F];by_cases E:op=2
  ·simp only [if_pos E];exact I5 d K _
  simp only [if_neg E];by_cases z:op=3
  ·simp only [if_pos z]
   exact ⟨fun o f=>by
    rcases are.1 f with f|f
    ·exact d.outs o f
    ·simp only [List.mem_singleton]at f;subst f;exact ⟨C z,r 0⟩,d.trace⟩
  simp only [if_neg z];by_cases y:op=4
  ·simp only [if_pos y]
   split
   ·exact pf d _ _
   ·exact CJ (c:={b with used:=b.used+1}) ⟨d.outs,d.trace⟩ (m (.inr y)) (I6 (r 0) sm0)
  simp only [if_neg y];split
  ·split
   ·exact pf d _ _
   ·exact d
  ·split
   ·exact pf d _ _
   ·exact d
theorem yE {p:bw} {ps:List Int}:∀(n:Nat) {c:eZ},Inv p ps c→En c→En (iterM p ps n c)
 |0,_,_,h=>h
 |n+1,_,I,h=>yE n (sJ I) (I7 I h)
theorem CK {p:bw} {ps:List Int}:∀(n:Nat) {c:eZ},Inv p ps c→Inv p ps (iterM p ps n c)
 |0,_,h=>h
 |n+1,_,h=>CK n (sJ h)
theorem yF {n:Int} (h:sm n):qN n:=⟨by have:=h.1;omega,by have:=h.2;omega⟩
theorem Na {p:bw} {fuel:Int} {t:eY} (h:fV p fuel t=0):IQ (jD p fuel t):=by
 have a:=P.IU p fuel t;unfold jD at a⊢;rw [if_pos h]at a⊢;obtain ⟨f,_⟩:=ue h;have b:En (sL p t.bM (fO p fuel t)):=yE _ f ⟨by simp [fO],by simp [fO]⟩;have I:Inv p t.bM (sL p t.bM (fO p fuel t)):=CK _ f;generalize sL p t.bM (fO p fuel t)=c at a b I;have j:=I.fuel;have k:=I.co;have g:=I.ou;have i:=I.tr;exact ⟨⟨by omega,by omega⟩,⟨by show-9223372036854775808≤c.cost;omega,by show c.cost≤9223372036854775807;omega⟩,fun o d=>⟨yF (b.outs o d).1,yF (b.outs o d).2⟩,fun e a=>⟨yF (b.trace e a).1,yF (b.trace e a).2.1,yF (b.trace e a).2.2⟩,by show c.outs.length≤2^31;omega,by show c.trace.length≤2^31;omega⟩
end
namespace P
open Go Go.RowKit
def fa (K:Nat→ByteArray) (i:Nat):List (List Nat)→Nat
 |[]=>0
 |c::l=>if aX (K (c.headD 0)) (K i)=true then 0 else fa K i l+1
def yG (K:Nat→ByteArray) (out:List (List Nat)) (i:Nat):List (List Nat):=if fa K i out=out.length then out++[[i]]else out.set (fa K i out) (out.getD (fa K i out) []++[i])
def fR (K:Nat→ByteArray):Nat→List (List Nat)
 |0=>[]
 |n+1=>yG K (fR K n) n
theorem CL (K:Nat→ByteArray) (i:Nat):∀l,fa K i l≤l.length
 |[]=>aqY _
 |c::l=>by
  have:=CL K i l;rw [fa,List.length_cons];split<;>omega
theorem I8 {K:Nat→ByteArray} {i:Nat}:∀{l:List (List Nat)},fa K i l<l.length→∃c,l[fa K i l]?=some c∧aX (K (c.headD 0)) (K i)=true
 |[],h=>by simp at h
 |c::l,h=>by
  rw [fa]at h⊢;by_cases q:aX (K (c.headD 0)) (K i)=true
  ·rw [if_pos q];exact ⟨c,rfl,q⟩
  ·rw [if_neg q]at h⊢
   obtain ⟨d,a,h2⟩:=I8 (l:=l) (by simpa using h);exact ⟨d,by simpa using a,h2⟩
theorem OK {K:Nat→ByteArray} {i:Nat}:∀{l:List (List Nat)} {j:Nat} {c:List Nat},j<fa K i l→l[j]?=some c→aX (K (c.headD 0)) (K i)=false
 |[],j,c,h,e=>by simp at e
 |d::l,j,c,h,e=>by
  rw [fa]at h;by_cases q:aX (K (d.headD 0)) (K i)=true
  ·rw [if_pos q]at h;omega
  ·rw [if_neg q]at h
   cases j with
   |zero=>simp at e;subst e;exact arA.2 q
   |succ j=>exact OK (l:=l) (j:=j) (by omega) (by simpa using e)
structure CI (out:List (List Nat)) (n:Nat):Prop where
 ne:∀c∈out,c≠[]
 lt:∀c∈out,∀x∈c,x<n
 len:∀c∈out,c.length≤n
 num:out.length≤n
theorem pU (K:Nat→ByteArray):∀n,CI (fR K n) n
 |0=>⟨by simp [fR],by simp [fR],by simp [fR],by simp [fR]⟩
 |n+1=>by
  have h:=pU K n;rw [fR];generalize fR K n=out at h;unfold yG;split
  ·refine ⟨fun c a=>?_,fun c a x b=>?_,fun c a=>?_,?_⟩
   ·rcases are.1 a with q|q
    ·exact h.ne c q
    ·simp at q;subst q;simp
   ·rcases are.1 a with q|q
    ·have:=h.lt c q x b;omega
    ·simp at q;subst q;simp at b;omega
   ·rcases are.1 a with q|q
    ·have:=h.len c q;omega
    ·simp at q;subst q;simp
   ·have:=h.num;simp;exact this
  ·rename_i j
   have i:fa K n out<out.length:=by have:=CL K n out;omega
   obtain ⟨d,g⟩:∃d,out[fa K n out]?=some d:=⟨_,aqU i⟩
   have e:out.getD (fa K n out) []=d:=by simp [List.getD_eq_getElem?_getD,g]
   have f:=aqZ g;rw [e];refine ⟨fun c a=>?_,fun c a x b=>?_,fun c a=>?_,?_⟩
   ·rcases List.mem_or_eq_of_mem_set a with q|q
    ·exact h.ne c q
    ·subst q;simp
   ·rcases List.mem_or_eq_of_mem_set a with q|q
    ·have:=h.lt c q x b;omega
    ·subst q
     rcases are.1 b with q|q
     ·have:=h.lt d f x q;omega
     ·simp at q;omega
   ·rcases List.mem_or_eq_of_mem_set a with q|q
    ·have:=h.len c q;omega
    ·subst q
     have:=h.len d f;simp;exact this
   ·have:=h.num;simp;omega
theorem tj (a b:ByteArray):aX a b=aX b a:=by
 rw [art,eh,eh];exact eq_comm
def ni (c:List Nat):List Int:=c.map fun(i:Nat)=>(i:Int)
@[simp]theorem Su (c:List Nat):(ni c).length=c.length:=by simp [ni]
def nr (c:List Nat):List PV:=(ni c).map pi
def pV (pos:List Nat) (out:List (List Nat)):List PV:=List.zipWith (fun p c=>PV.sl 1 p 0 c.length c.length) pos out
structure LL (h:PH) (b:Nat) (pos:List Nat) (out:List (List Nat)):Prop where
 top:h[b]?=some (.cells 1 (pV pos out))
 len:pos.length=out.length
 nd:pos.Nodup
 off:b∉pos
 OM:∀(k p:Nat) (c:List Nat),pos[k]?=some p→out[k]?=some c→h[p]?=some (.cells 1 (nr c))
theorem LL.nil {h:PH} {b:Nat} (a:h[b]?=some (.cells 1 [])):LL h b [] []:=⟨a,rfl,List.nodup_nil,by simp,by simp⟩
theorem ju {pos:List Nat} {out:List (List Nat)} (h:pos.length=out.length):(pV pos out).length=out.length:=by simp [pV,h]
theorem CM {pos:List Nat} {out:List (List Nat)} {k p:Nat} {c:List Nat} (a:pos[k]?=some p) (h2:out[k]?=some c):(pV pos out)[k]?=some (.sl 1 p 0 c.length c.length):=by
 simp [pV,List.getElem?_zipWith,a,h2]
theorem LL.pos {h:PH} {b:Nat} {pos:List Nat} {out:List (List Nat)} (L:LL h b pos out) {k:Nat} {c:List Nat} (d:out[k]?=some c):∃p,pos[k]?=some p∧(pV pos out)[k]?=some (.sl 1 p 0 c.length c.length)∧h[p]?=some (.cells 1 (nr c))∧p≠b∧p<h.length:=by
 obtain ⟨p,a⟩:∃p,pos[k]?=some p:=⟨_,aqU (by have:=(aq0.1 d).1;rw [L.len];exact this)⟩
 have hi:=L.OM k p c a d;exact ⟨p,a,CM a d,hi,fun e=>L.off (e▸aqZ a),(aq0.1 hi).1⟩
theorem LL.more {h g:PH} {b:Nat} {pos:List Nat} {out:List (List Nat)} (L:LL h b pos out):LL (h++g) b pos out:=
 ⟨by rw [aq7 (aq0.1 L.top).1];exact L.top,L.len,L.nd,L.off,fun k p c a h2=>by
  have:=L.OM k p c a h2
  rw [aq7 (aq0.1 this).1];exact this⟩
theorem LL.set {h:PH} {b a:Nat} {B:PB} {pos:List Nat} {out:List (List Nat)} (L:LL h b pos out) (g:a≠b) (f:a∉pos):LL (h.set a B) b pos out:=
 ⟨by rw [arj g];exact L.top,L.len,L.nd,L.off,fun k p c d h2=>by
  rw [arj (fun e=>f (by rw [e];exact aqZ d))];exact L.OM k p c d h2⟩
theorem LL.add {h:PH} {b:Nat} {pos:List Nat} {out:List (List Nat)} (L:LL h b pos out) {k p i:Nat} {c:List Nat} (d:pos[k]?=some p) (f:out[k]?=some c):
 LL ((h.set p (.cells 1 (nr (c++[i])))).set b (.cells 1 ((pV pos out).set k (.sl 1 p 0 (c.length+1) (c.length+1))))) b pos (out.set k (c++[i])):=by
 have s:=(aq0.1 L.top).1;have g:=(aq0.1 (L.OM k p c d f)).1;have q:p≠b:=fun e=>L.off (e▸aqZ d)
 refine ⟨?_,by simp [L.len],L.nd,L.off,fun o p' t a h2=>?_⟩
 ·rw [ary (by simpa using s)]
  congr 2;apply List.ext_getElem?;intro j;by_cases n:j=k
  ·subst n
   rw [ary (by rw [ju L.len];exact (aq0.1 f).1),CM d (ary (aq0.1 f).1)];simp
  ·rw [arj (Ne.symm n)]
   simp [pV,List.getElem?_zipWith,arj (Ne.symm n)]
 ·have l:p'≠b:=fun e=>L.off (e▸aqZ a)
  rw [arj (Ne.symm l)];by_cases m:o=k
  ·subst m
   rw [d]at a;cases a;rw [ary (aq0.1 f).1]at h2;cases h2;rw [ary g]
  ·have r:p≠p':=by
    intro e;subst e;exact m ((List.getElem?_inj (aq0.1 a).1 L.nd).1 (a.trans d.symm))
   rw [arj (Ne.symm m)]at h2;rw [arj r];exact L.OM o p' t a h2
theorem LL.new {h g:PH} {b p i:Nat} {pos:List Nat} {out:List (List Nat)} (L:LL h b pos out) (r:∀a,a<h.length→a≠b→g[a]?=h[a]?) (s:g[b]?=some (.cells 1 (pV pos out++[.sl 1 p 0 1 1]))) (n:g[p]?=some (.cells 1 [pi i])) (u:h.length≤p):LL g b (pos++[p]) (out++[[i]]):=by
 have v:=(aq0.1 L.top).1
 have l:∀q∈pos,q<h.length:=by
  intro q m;obtain ⟨k,f⟩:=List.getElem?_of_mem m
  obtain ⟨c,j⟩:∃c,out[k]?=some c:=⟨_,aqU (by rw [←L.len];exact (aq0.1 f).1)⟩
  exact (aq0.1 (L.OM k q c f j)).1
 refine ⟨?_,by simp [L.len],?_,?_,fun k q c d h2=>?_⟩
 ·rw [s,pV,pV,List.zipWith_append L.len]
  rfl
 ·rw [List.nodup_append]
  refine ⟨L.nd,by simp,fun a t c j=>?_⟩;simp at j;have:=l a t;omega
 ·intro o
  rcases are.1 o with q|q
  ·exact L.off q
  ·simp at q;omega
 ·by_cases f:k<pos.length
  ·rw [aq7 f]at d
   rw [aq7 (by rw [←L.len];exact f)]at h2;have:=L.OM k q c d h2;rw [r q (l q (aqZ d)) (fun e=>L.off (e▸aqZ d))];exact this
  ·rw [arb (by omega)]at d
   rw [arb (by rw [←L.len];omega)]at h2;rw [←L.len]at h2
   have:k- pos.length=0:=by
    have:=(aq0.1 d).1;simp at this;omega
   rw [this]at d h2;simp at d h2;subst d;subst h2;exact n
def qO (out:List (List Nat)):List (List PV):=out.map fun c=>[nE (ni c)]
theorem Yf {A:Nat→Prop} {h:PH} {p:Nat} {c:List Nat} (b:A p) (a:h[p]?=some (.cells 1 (nr c))):Vz A h (.sl 1 p 0 c.length c.length) (nE (ni c)):=by
 have:=Iq (l:=ni c) b a;rwa [Su]at this
theorem LL.vz {h:PH} {b:Nat} {pos:List Nat} {out:List (List Nat)} {A:Nat→Prop} (L:LL h b pos out) (f:∀x,A x):Vz A h (.sl 1 b 0 out.length out.length) (.fs 1 (qO out)):=by
 refine Ig (f b) L.top (by simp [pV,L.len]) (by decide) (aqY _) (aqY _) (by simp [qO]) (by intro r e;simp only [qO,aru]at e;obtain ⟨x,_,rfl⟩:=e;rfl) ?_;have hi:=L.OM;have a:=L.len;clear L;simp only [Nat.zero_mul,List.drop_zero,Nat.mul_one];rw [aq1 (by simp [pV,a])]
 induction out generalizing pos with
 |nil=>
  simp [pV,qO,Cc]
 |cons c out ih=>
  cases pos with
  |nil=>simp at a
  |cons p pos=>
   have j:=hi 0 p c rfl rfl;have g:=ih (pos:=pos) (fun k q d i h2=>hi (k+1) q d (by simpa using i) (by simpa using h2)) (by simpa using a);exact ⟨Yf (f p) j,g⟩
open Go Go.RowKit
def sr (l:List ByteArray):List (List PV):=l.map fun s=>[ps s]
@[simp]theorem Eo (l:List ByteArray):(sr l).length=l.length:=by simp [sr]
def cG (l:List ByteArray) (i:Nat):ByteArray:=l.getD i .empty
theorem Yg {l:List ByteArray} {i:Nat} (h:i<l.length):(sr l)[i]?=some [ps (cG l i)]:=by
 simp [sr,cG,aqU h]
end P
namespace P
open Go Go.RowKit
theorem AK {out:List (List Nat)} {i:Nat} {c:List Nat} (h:out[i]?=some c):(qO out)[i]?=some [nE (ni c)]:=by simp [qO,h]
@[simp]theorem Sv (out:List (List Nat)):(qO out).length=out.length:=by simp [qO]
def tK (level sees:Int) (p:bw) (fuel:Int) (l:List eY):List ByteArray:=l.map fun t=>jf level sees (jD p fuel t)
@[simp]theorem nK (level sees:Int) (p:bw) (fuel:Int) (l:List eY):(tK level sees p fuel l).length=l.length:=by simp [tK]
def src (l:List ByteArray):List PV:=(sr l).flatten
theorem yH (l:List ByteArray) (s:ByteArray):src (l++[s])=src l++[ps s]:=by simp [src,sr]
@[simp]theorem AL:∀l:List ByteArray,(src l).length=l.length
 |[]=>rfl
 |a::l=>by
  have:=AL l;simp only [src,sr,List.map_cons,List.flatten_cons,aq3,List.length_cons,List.length_nil]at*;omega
@[simp]theorem Nb:∀l:List ByteArray,ef (src l)=true
 |[]=>rfl
 |a::l=>by
  have:=Nb l;simp only [src,sr,List.map_cons,List.flatten_cons]at*;rw [aZ];exact ⟨rfl,this⟩
theorem CN:∀l:List ByteArray,(src l).all y8=true
 |[]=>rfl
 |a::l=>by
  have:=CN l;simp only [src,sr,List.map_cons,List.flatten_cons]at*;rw [List.all_append,this];rfl
theorem Yh {A:Nat→Prop} {c:Nat→Nat} {h g:PH} {b n:Nat} {l:List ByteArray} (d:l.length=n) (f:A b) (e:h[b]?=some (.cells 1 (src l))):Vg A c h g (.sl 1 b 0 n n) (.fs 1 (sr l))↔True:=⟨fun _=>trivial,fun _=>d▸vJ (ri f e (by omega) (Eo l) (by
 intro r a;simp only [sr,aru]at a;obtain ⟨t,_,rfl⟩:=a
 rfl) (oW (CN l)))⟩
theorem I9 {level sees:Int} {p:bw} {fuel:Int} {l:List eY} {j:Nat} {t:eY} (h:l[j]?=some t):tK level sees p fuel (l.take (j+1))=tK level sees p fuel (l.take j)++[jf level sees (jD p fuel t)]:=by
 rw [arf,h];simp [tK]
open Go Go.RowKit
def yI (K:Nat→ByteArray):Nat→List (List Nat)→List (Value×PV)
 |_,[]=>[]
 |b,c::l=>(.string (K (c.headD 0)),pi b)::yI K (b+1) l
theorem CO (a b:ByteArray):gX (.string a) (.string b)=some (aX a b):=rfl
theorem uv (K:Nat→ByteArray) (i:Nat):∀(b:Nat) (l:List (List Nat)),qx (.string (K i)) (yI K b l)=some (if fa K i l<l.length then some (pi ((b+fa K i l:Nat):Int))else none)
 |b,[]=>by simp [yI]
 |b,c::l=>by
  rw [yI,qx,CO,tj,fa]
  cases h:aX (K (c.headD 0)) (K i)with
  |true=>simp
  |false=>
   simp only [Bool.false_eq_true,if_false];rw [uv K i (b+1) l];simp only [List.length_cons,Nat.add_lt_add_iff_right];rw [show b+1+fa K i l=b+(fa K i l+1) by omega]
theorem yJ (K:Nat→ByteArray) (i:Nat):∀(b:Nat) (l:List (List Nat)),fa K i l=l.length→tH (.string (K i)) (pi ((b+l.length:Nat):Int)) (yI K b l)=some (yI K b (l++[[i]]))
 |b,[],_=>by simp [yI,tH]
 |b,c::l,h=>by
  rw [fa]at h;rw [yI,tH,CO,tj]
  cases q:aX (K (c.headD 0)) (K i)with
  |true=>rw [q]at h;simp at h
  |false=>
   rw [q]at h;simp only [Bool.false_eq_true,if_false,List.length_cons]at h;have:=yJ K i (b+1) l (by omega);rw [show b+(c::l).length=b+1+l.length by simp;omega];simp only [this,Option.map_some,List.cons_append];rw [yI]
theorem CP (K:Nat→ByteArray) {x i:Nat} {c:List Nat}:∀(b:Nat) (l:List (List Nat)) (a:Nat),l[a]?=some (x::c)→yI K b (l.set a ((x::c)++[i]))=yI K b l
 |b,[],a,h=>by simp at h
 |b,d::l,0,h=>by
  simp at h;subst h;rfl
 |b,d::l,a+1,h=>by
  rw [List.set_cons_succ,yI,yI,CP K (b+1) l a (by simpa using h)]
def MI (l:List ByteArray) (i:Nat) (fr:PF) (h:PH):Prop:=∃pos,LL h 1 pos (fR (cG l) i)∧h[0]?=some (.map (yI (cG l) 0 (fR (cG l) i)))∧0∉pos∧fr.get 3= .mp 0∧fr.get 4= .sl 1 1 0 (fR (cG l) i).length (fR (cG l) i).length∧fr.get 10= .fs 1 (sr l)∧fr.get 11=pi l.length∧fr.get 12=pi i
theorem Ep {l:List ByteArray} (hl:l.length≤2^20):Fz E O 62 [.fs 1 (sr l)] (.fs 1 (qO (fR (cG l) l.length))):=by
 refine tt.body (F:=Y3) rfl rfl rfl ?_;simp (maxSteps:=9^7)-implicitDefEqProofs+contextual [-getElem?_pos,aqT,Y3];have u:Vg (fun _=>False) (fun i=>([0,9]:List Nat)[i]?.getD 0) [PB.map []] [PB.map [],PB.cells 1 []] (.mp 0) (.mp 0):=XG rfl rfl rfl;refine iw (MI l) l.length (eU (h2:=[.map [],.cells 1 []]) [0,9] [(3,.mp 0),(4,.sl 1 1 0 0 0),(10,.fs 1 (sr l)),(11,pi l.length),(12,pi 0)] ?_ ?_ ?_ ?_ ?_ ?_) ⟨[],LL.nil rfl,rfl,by simp,by simp,by simp [fR],by simp,by simp,by simp⟩ ?_
 ·simp [u]
 iterate 2· simp
 ·intro b hb;omega
 iterate 2· simp (maxDischargeDepth:=8)-implicitDefEqProofs [aZ,aqT,u]
 rintro i fr h hi ⟨pos,L,y,d,r,m,f10,f11,f12⟩;have Q:=pU (cG l) i;by_cases I:i<l.length
 ·have n:fR (cG l) (i+1)=yG (cG l) (fR (cG l) i) i:=rfl
  have w4:IntKind.i64.wrap ((i:Int)+1)=((i+1:Nat):Int):=ai ⟨by omega,by omega⟩
  obtain ⟨out,ho⟩:∃out,fR (cG l) i=out:=⟨_,rfl⟩
  rw [ho]at L m Q n y;have Sw:=Q.num;have A:=(aq0.1 y).1;have Z:=(aq0.1 L.top).1;have z:=Yg I;have fh:=CL (cG l) i out;have w:=uv (cG l) i 0 out;by_cases t:fa (cG l) i out<out.length
  ·obtain ⟨a,C⟩:∃a,fa (cG l) i out=a:=⟨_,rfl⟩
   rw [if_pos t,Nat.zero_add]at w;obtain ⟨c,s,heq⟩:=I8 (K:=cG l) (i:=i) (l:=out) t;rw [C]at w s t;obtain ⟨p,hp,qc,hcp,V,U⟩:=L.pos s;have M:=aqZ s
   obtain ⟨x,c',rfl⟩:∃x c',c=x::c':=by
    cases c with
    |nil=>exact absurd rfl (Q.ne _ M)
    |cons x c'=>exact ⟨x,c',rfl⟩
   have Yk:=L.top;have mI:(pV pos out).length=out.length:=ju L.len
   have o:yG (cG l) out i=out.set a ((x::c')++[i]):=by
    rw [yG,if_neg (by omega),C];simp [List.getD_eq_getElem?_getD,s]
   have QS:(nr (x::c')).length=c'.length+1:=by simp [nr]
   have ahw:=Q.len _ M;simp only [List.length_cons]at ahw;have T:p≠0:=fun e=>d (e▸aqZ hp)
   simp (maxSteps:=9^7)-implicitDefEqProofs [-getElem?_pos,aqT,r,m,f10,f11,f12,I,z,y,w,cj,Yk,qc,mI,t];refine ⟨by omega,?_⟩;refine js (cs:=nr (x::c')) (new:=[pi i]) (by rw [aq7 U];exact hcp) rfl (by simp [fx]) (by rw [QS];omega) (by omega) rfl (by simp [gA]) (by omega) (by omega) ?_
   obtain ⟨g,j⟩:∃g,(h++[PB.cells 1 [pi i]]).set p (.cells 1 (nr (x::c')++[pi i]))=g:=⟨_,rfl⟩
   have N:g[1]?=some (.cells 1 (pV pos out)):=by
    rw [←j,arj V,aq7 Z];exact Yk
   have hgm:g[0]?=some (.map (yI (cG l) 0 out)):=by
    rw [←j,arj T,aq7 A];exact y
   have J:=oZ (x:=PV.sl 1 p 0 (c'.length+1+1) (c'.length+1+1)) (l:=pV pos out) (k:=a) (by omega);rw [j];simp (maxSteps:=9^7)-implicitDefEqProofs [-getElem?_pos,aqT,r,m,f10,f11,f12,N,mI,t,J,w4];have X:nr ((x::c')++[i])=nr (x::c')++[pi i]:=by simp [nr,ni]
   have hL:=(L.more (g:=[PB.cells 1 [pi i]])).add (i:=i) hp s;rw [X,j]at hL;refine ⟨by omega,by omega,.for I ⟨pos,?_,?_,d,by simp [r],by simp [m,n,o],by simp [f10],by simp [f11],by simp⟩⟩
   ·rw [n,o]
    exact hL
   ·rw [n,o,CP _ _ _ _ s,arj (by omega)]
    exact hgm
  ·have C:fa (cG l) i out=out.length:=by omega
   have o:yG (cG l) out i=out++[[i]]:=by rw [yG,if_pos C]
   rw [if_neg t]at w;have v:=yJ (cG l) i 0 out C;rw [Nat.zero_add]at v
   obtain ⟨h3,f⟩:∃h3,h.set 0 (.map (yI (cG l) 0 (out++[[i]])))=h3:=⟨_,rfl⟩
   have hl3:h3.length=h.length:=by rw [←f,List.length_set]
   have L3:LL h3 1 pos out:=by rw [←f];exact L.set (by omega) d
   have Y:h3[0]?=some (.map (yI (cG l) 0 (out++[[i]]))):=by rw [←f,ary A]
   simp (maxSteps:=9^7)-implicitDefEqProofs [-getElem?_pos,aqT,r,m,f10,f11,f12,I,z,y,w,cj,v,f];refine js (cs:=pV pos out) (new:=[dM]) (by rw [aq7 (by omega)];exact L3.top) rfl (by simp [fx]) (by rw [ju L.len];omega) (by omega) rfl (by simp [gA]) (by omega) (by omega) ?_
   obtain ⟨g,j⟩:∃g,(h3++[PB.cells 1 [dM]]).set 1 (.cells 1 (pV pos out++[dM]))=g:=⟨_,rfl⟩
   have N:g[1]?=some (.cells 1 (pV pos out++[dM])):=by
    rw [←j,ary (by simp;omega)]
   have B:g.length=h3.length+1:=by rw [←j];simp
   have Yl:(pV pos out++[dM]).length=out.length+1:=by rw [aq3,ju L.len];rfl
   have W:(pV pos out++[dM])[out.length]?=some dM:=by
    rw [arb (by rw [ju L.len];omega),ju L.len,Nat.sub_self];rfl
   rw [j];simp (maxSteps:=9^7)-implicitDefEqProofs [-getElem?_pos,aqT,r,m,f10,f11,f12,N,Yl,W];refine ⟨by omega,?_⟩;rw [Ia (new:=[pi i]) (by decide) rfl (by simp [fx]) (by decide) (by decide) (by decide)]
   obtain ⟨P,R⟩:∃P,(g++[PB.cells 1 [pi i]]).length=P:=⟨_,rfl⟩
   obtain ⟨G,hG⟩:∃G,g++[PB.cells 1 [pi i]]++[PB.cells 1 [pi i]]=G:=⟨_,rfl⟩
   have hPl:P=h3.length+2:=by rw [←R,aq3,B];rfl
   have D:∀a,a<h3.length+1→G[a]?=g[a]?:=by
    intro a ha;rw [←hG,aq7 (by rw [R,hPl];omega),aq7 (by rw [B];exact ha)]
   have hGP:G[P]?=some (.cells 1 [pi i]):=by
    rw [←hG,arb (by omega),R,Nat.sub_self];rfl
   have H:G[1]?=some (.cells 1 (pV pos out++[dM])):=by
    rw [D 1 (by omega)];exact N
   have J:=oZ (x:=PV.sl 1 P 0 1 1) (l:=pV pos out++[dM]) (k:=out.length) (by omega)
   have S:(pV pos out++[dM]).set out.length (.sl 1 P 0 1 1)=pV pos out++[.sl 1 P 0 1 1]:=by
    rw [List.set_append_right _ _ (by rw [ju L.len];omega),ju L.len,Nat.sub_self];rfl
   rw [S]at J;rw [R,hG];simp (maxSteps:=9^7)-implicitDefEqProofs [-getElem?_pos,aqT,r,m,f10,f11,f12,H,Yl,J,w4]
   have ON:∀a,a<h3.length→a≠1→(G.set 1 (PB.cells 1 (pV pos out++[.sl 1 P 0 1 1])))[a]?=h3[a]?:=fun a ha h0=>by
    rw [arj (Ne.symm h0),D a (by omega),←j,arj (Ne.symm h0),aq7 ha]
   refine ⟨by omega,.for I ⟨pos++[P],?_,?_,?_,by simp [r],by simp [n,o],by simp [f10],by simp [f11],by simp⟩⟩
   ·rw [n,o]
    refine L3.new ON ?_ ?_ (by omega)
    ·rw [ary (aq0.1 H).1]
    ·rw [arj (by omega)]
     exact hGP
   ·rw [n,o,ON 0 (by omega) (by omega)]
    exact Y
   ·intro M
    rcases are.1 M with q|q
    ·exact d q
    ·simp at q;omega
 ·obtain rfl:i=l.length:=by omega
  simp (maxSteps:=9^7)-implicitDefEqProofs [-getElem?_pos,aqT,m,f11,f12];refine cn ?_;exact vJ (L.vz (fun _=>trivial))
end P
namespace P
open Go Go.RowKit
def Ym (level sees:Int):Prop:=(0≤level∧level≤15)∧0≤sees∧sees≤15
instance(level sees:Int):Decidable (Ym level sees):=inferInstanceAs(Decidable (_∧_))
def kM (level sees:Int) (p:bw) (fuel:Int) (l:List eY):List (List Nat):=fR (cG (tK level sees p fuel l)) l.length
def tL (p:bw) (fuel level sees:Int):List PV:=
 if cx p fuel≠0 then [dM,pi (cx p fuel)]else if¬ Ym level sees then [dM,pi 1]else match ff p fuel with
  |some l=>[.fs 1 (qO (kM level sees p fuel l)),pi 0]
  |none=>[dM,pi 5]
def KL (fuel level sees:Int) (l:List eY) (j:Nat):List (Nat×PV):=[(1,pi fuel),(2,pi level),(3,pi sees),(4,.ref 0 0 3),(12,.sl 1 1 0 j j),(51,.fs 2 (str l)),(52,pi l.length),(53,pi j)]
def KH (level sees:Int) (p:bw) (fuel:Int) (l:List eY) (j:Nat):PH:=[.cells 3 (aO p),.cells 1 (src (tK level sees p fuel (l.take j)))]
def KI (level sees:Int) (p:bw) (fuel:Int) (l:List eY) (j:Nat) (fr:PF) (h:PH):Prop:=h=KH level sees p fuel l j∧∀t∈KL fuel level sees l j,fr.get t.1=t.2
theorem Ja {level sees:Int} {p:bw} {fuel:Int} {l:List eY} {j:Nat}:KI level sees p fuel l j (PF.y7 (KL fuel level sees l j)) (KH level sees p fuel l j):=⟨rfl,fun t a=>by
 simp only [KL,arc,arx,or_false]at a
 rcases a with rfl|rfl|rfl|rfl|rfl|rfl|rfl|rfl<;>simp [KL]⟩
theorem uw {p:bw} {fuel level sees:Int} (s:kD p):Fz E O 30 [.agg (aO p),pi fuel,pi level,pi sees] (.gN (tL p fuel level sees)):=by
 refine tt.body (F:=YU) rfl rfl rfl ?_;simp (maxSteps:=9^7)-implicitDefEqProofs+contextual [-getElem?_pos,aqT,YU,aO];refine bJ (pd s) ?_ ?_ ?_
 iterate 2· simp (maxDischargeDepth:=8)-implicitDefEqProofs [-getElem?_pos,aqT,aO]
 cases h:bj p with
 |false=>
  have e:tL p fuel level sees=[dM,pi 30]:=by simp [tL,cx,h]
  rw [e];simp (maxSteps:=9^7)-implicitDefEqProofs+contextual [-getElem?_pos,aqT,h];refine cn ?_;simp
 |true=>
  by_cases a:fuel<0
  ·have e:tL p fuel level sees=[dM,pi 1]:=by simp [tL,cx,h,a]
   rw [e];simp (maxSteps:=9^7)-implicitDefEqProofs [-getElem?_pos,aqT,h,a];refine cn ?_;simp
  by_cases h2:4096<fuel
  ·have e:tL p fuel level sees=[dM,pi 1]:=by simp [tL,cx,h,a,h2]
   rw [e];simp (maxSteps:=9^7)-implicitDefEqProofs [-getElem?_pos,aqT,h,a,h2];refine cn ?_;simp
  have c:cx p fuel=0:=by simp [cx,h];omega
  by_cases f:level<0
  ·have e:tL p fuel level sees=[dM,pi 1]:=by rw [tL,if_neg (by simp [c]),if_pos (fun k=>by have:=k.1.1;omega)]
   rw [e];simp (maxSteps:=9^7)-implicitDefEqProofs [-getElem?_pos,aqT,h,a,h2,f];refine cn ?_;simp
  by_cases g:15<level
  ·have e:tL p fuel level sees=[dM,pi 1]:=by rw [tL,if_neg (by simp [c]),if_pos (fun k=>by have:=k.1.2;omega)]
   rw [e];simp (maxSteps:=9^7)-implicitDefEqProofs [-getElem?_pos,aqT,h,a,h2,f,g];refine cn ?_;simp
  by_cases i:sees<0
  ·have e:tL p fuel level sees=[dM,pi 1]:=by rw [tL,if_neg (by simp [c]),if_pos (fun k=>by have:=k.2.1;omega)]
   rw [e];simp (maxSteps:=9^7)-implicitDefEqProofs [-getElem?_pos,aqT,h,a,h2,f,g,i];refine cn ?_;simp
  by_cases r:15<sees
  ·have e:tL p fuel level sees=[dM,pi 1]:=by rw [tL,if_neg (by simp [c]),if_pos (fun k=>by have:=k.2.2;omega)]
   rw [e];simp (maxSteps:=9^7)-implicitDefEqProofs [-getElem?_pos,aqT,h,a,h2,f,g,i,r];refine cn ?_;simp
  have I:Ym level sees:=⟨⟨by omega,by omega⟩,by omega,by omega⟩
  have P:tL p fuel level sees=match ff p fuel with|some l=>[.fs 1 (qO (kM level sees p fuel l)),pi 0]|none=>[dM,pi 5]:=by simp [tL,c,I]
  have n:=rk (fuel:=fuel) s;rw [P]
  cases m:ff p fuel with
  |none=>
   have A:qM p fuel=[dM,pi 5]:=by simp [qM,c,m]
   rw [A]at n;simp (maxSteps:=9^7)-implicitDefEqProofs [-getElem?_pos,aqT,h,a,h2,f,g,i,r,aO];refine bJ (n) ?_ ?_ ?_
   iterate 2· simp (maxDischargeDepth:=8)-implicitDefEqProofs [-getElem?_pos,aqT,aO]
   simp (maxSteps:=9^7)-implicitDefEqProofs [-getElem?_pos,aqT];refine cn ?_;simp
  |some l=>
   have A:qM p fuel=[.fs 2 (str l),pi 0]:=by simp [qM,c,m]
   rw [A]at n;have D:=th h m;have K:=Em c m;simp (maxSteps:=9^7)-implicitDefEqProofs [-getElem?_pos,aqT,h,a,h2,f,g,i,r,aO];refine bJ (n) ?_ ?_ ?_
   iterate 2· simp (maxDischargeDepth:=8)-implicitDefEqProofs [-getElem?_pos,aqT,aO]
   simp (maxSteps:=9^7)-implicitDefEqProofs [-getElem?_pos,aqT];refine iw (KI level sees p fuel l) l.length (eU (h2:=KH level sees p fuel l 0) [0,9] (KL fuel level sees l 0) ?_ ?_ ?_ ?_ ?_ ?_) Ja ?_
   ·simp [KH,KL,aO,src,sr,tK]
   iterate 2· simp
   ·intro b L;omega
   iterate 2· simp (maxDischargeDepth:=8)-implicitDefEqProofs [aZ,aqT,KH,KL,aO,src,sr,tK]
   rintro j S h R ⟨rfl,C⟩;simp only [KL,arc,arx,or_false,forall_eq_or_imp,forall_eq]at C;obtain ⟨z,q,o,y,f12,f51,f52,f53⟩:=C;have Q:=D.2;by_cases w:j<l.length
   ·obtain ⟨t,u⟩:∃t,l[j]?=some t:=⟨_,aqU w⟩
    have B:=aqZ u;have H:IntKind.i64.wrap ((j:Int)+1)=((j+1:Nat):Int):=ai ⟨by omega,by omega⟩;have J:(l.take j).length=j:=by simp;omega
    have N:=Au (fuel:=fuel) s (D.1 t B);have M:=IT (level:=level) (bits:=sees) (Na (K t B));have v:=I9 (level:=level) (sees:=sees) (p:=p) (fuel:=fuel) u
    obtain ⟨T,x⟩:∃T,tK level sees p fuel (l.take j)=T:=⟨_,rfl⟩
    have d:T.length=j:=by rw [←x,nK,J]
    rw [x]at v;simp (maxSteps:=9^7)-implicitDefEqProofs+contextual [-getElem?_pos,aqT,z,q,o,y,f12,f51,f52,f53,w,vU,u,KH,aO,hU,x];refine bJ (N) ?_ ?_ ?_
    iterate 2· simp (maxDischargeDepth:=8)-implicitDefEqProofs [-getElem?_pos,aqT,aO,hU]
    simp (maxSteps:=9^7)-implicitDefEqProofs+contextual [-getElem?_pos,aqT,lK,q,o,f12];refine bJ (M) ?_ ?_ ?_
    iterate 2· simp (maxDischargeDepth:=8)-implicitDefEqProofs [-getElem?_pos,aqT,lK]
    simp (maxSteps:=9^7)-implicitDefEqProofs+contextual [-getElem?_pos,aqT];apply js
    iterate 9· first|rfl|omega|(simp-implicitDefEqProofs [-getElem?_pos,aqT,d];first|done|rfl|omega)
    simp (maxSteps:=9^7)-implicitDefEqProofs+contextual [-getElem?_pos,aqT,f53,H];refine .xZ w (eU (h2:=KH level sees p fuel l (j+1)) [0,1] (KL fuel level sees l (j+1)) ?_ ?_ ?_ ?_ ?_ ?_) Ja
    ·simp [KH,KL,aO,v,yH,d,z,q,o,y,f51,f52]
    iterate 2· simp
    ·intro b L;omega
    iterate 2· simp (maxDischargeDepth:=8)-implicitDefEqProofs [aZ,aqT,KH,KL,aO,v,yH,d,z,q,o,y,f51,f52]
   ·obtain rfl:j=l.length:=by omega
    have G:=Ep (l:=tK level sees p fuel l) (by rw [nK];omega);rw [nK]at G;simp (maxSteps:=9^7)-implicitDefEqProofs+contextual [-getElem?_pos,aqT,f52,f53,f12,KH];refine pO [1] (G) ?_ ?_
    ·simp (maxDischargeDepth:=8)-implicitDefEqProofs [-getElem?_pos,aqT,Yh]
    simp (maxSteps:=9^7)-implicitDefEqProofs+contextual [-getElem?_pos,aqT,kM];refine cn ?_;simp
open Go Go.RowKit
def j6 (a b:Int):Int:=IntKind.i64.wrap (BitVec.ofInt 64 a|||BitVec.ofInt 64 b).toNat
theorem Yn (a b:Int):bX .or (.int .i64 a) (.int .i64 b)=some (.int .i64 (j6 a b)):=rfl
theorem wj:∀a:Nat,a<16→∀b:Nat,b<16→decide (0≤j6 (a:Int) (b:Int))&&decide (j6 (a:Int) (b:Int)≤15)&&[1,2,4,8].all (fun k:Int=>decide (kG (a:Int) k=0)|| !decide (kG (j6 (a:Int) (b:Int)) k=0))=true:=by decide+kernel
theorem Nc:∀a:Nat,a<16→∀b:Nat,b<16→(List.range 16).all (fun x=>!jd (a:Int) (x:Int)||jd (j6 (a:Int) (b:Int)) (x:Int))=true:=by decide+kernel
def DT (n:Int):List UInt8:=(jc n).data.toList
theorem CQ:∀(f n:Nat) (c:UInt8),c∈IK f n→∃k,k<10∧c=UInt8.ofNat (48+k)
 |0,n,c,h=>by simp [IK]at h
 |f+1,n,c,h=>by
  rw [IK]at h;split at h
  ·rename_i a
   simp only [List.mem_singleton]at h;exact ⟨n,a,h⟩
  ·rcases are.1 h with h|h
   ·exact CQ f _ c h
   ·simp only [List.mem_singleton]at h
    exact ⟨n%10,Nat.mod_lt _ (by omega),h⟩
theorem Sx:∀k,k<10→UInt8.ofNat (48+k)≠32∧UInt8.ofNat (48+k)≠58∧UInt8.ofNat (48+k)≠59:=by decide
theorem j7 {n:Int} {c:UInt8} (h:c∈DT n):c≠32∧c≠58∧c≠59:=by
 unfold DT jc at h
 have key:∀m,c∈IK 20 m→c≠32∧c≠58∧c≠59:=fun m a=>by
  obtain ⟨k,b,rfl⟩:=CQ 20 m c a;exact Sx k b
 split at h
 ·simp at h
  rcases h with rfl|h
  ·decide
  ·exact key _ h
 ·simp at h
  exact key _ h
theorem Sy:∀a:Nat,a<16→∀b:Nat,b<16→DT (a:Int)=DT (b:Int)→a=b:=by decide+kernel
theorem wk {s:UInt8}:∀{x x' r r':List UInt8},(∀c∈x,c≠s)→(∀c∈x',c≠s)→(r=[]∨∃t,r=s::t)→(r'=[]∨∃t,r'=s::t)→x++r=x'++r'→x=x'∧r=r'
 |[],[],r,r',_,_,_,_,h=>⟨rfl,h⟩
 |[],c::x',r,r',_,h2,g,_,h=>by
  rcases g with rfl|⟨t,rfl⟩
  ·simp at h
  ·simp at h
   exact absurd h.1.symm (h2 c (by simp))
 |c::x,[],r,r',i,_,_,f,h=>by
  rcases f with rfl|⟨t,rfl⟩
  ·simp at h
  ·simp at h
   exact absurd h.1 (i c (by simp))
 |c::x,d::x',r,r',i,h2,g,f,h=>by
  simp only [List.cons_append,List.cons.injEq]at h;obtain ⟨a,b⟩:=wk (fun y e=>i y (by simp [e])) (fun y e=>h2 y (by simp [e])) g f h.2;exact ⟨by rw [h.1,a],b⟩
def oT (o:Int×Int):List UInt8:=32::(DT o.1++58::DT o.2)
def tT (e:Ev):List UInt8:=32::(DT e.kind++58::(DT e.at_++58::DT e.val))
theorem CS (s:ByteArray) (l:List (Int×Int)):∀i,i≤l.length→(eg s (pT l) i).data.toList=s.data.toList++(l.take i).flatMap oT
 |0,_=>by simp [eg]
 |i+1,h=>by
  obtain ⟨o,a⟩:∃o,l[i]?=some o:=⟨_,aqU (by omega)⟩
  rw [I4 l a,arf,a];have:=CS s l i (by omega);simp only [ByteArray.data_append,Array.toList_append,this,Option.toList_some,List.flatMap_append,List.flatMap_cons,List.flatMap_nil,List.append_nil,oT,DT];simp
theorem CT (s:ByteArray) (l:List Ev):∀i,i≤l.length→(eg s (Eh l) i).data.toList=s.data.toList++(l.take i).flatMap tT
 |0,_=>by simp [eg]
 |i+1,h=>by
  obtain ⟨o,a⟩:∃o,l[i]?=some o:=⟨_,aqU (by omega)⟩
  rw [MZ l a,arf,a];have:=CT s l i (by omega);simp only [ByteArray.data_append,Array.toList_append,this,Option.toList_some,List.flatMap_append,List.flatMap_cons,List.flatMap_nil,List.append_nil,tT,DT];simp
def eP (bits:Int) (r:eK):List UInt8:=if kG bits 8=0 then []else 101::(DT r.en++[59])
def oP (level bits:Int) (r:eK):List UInt8:=if kG bits 1=0 then []else 111::((dN level r.outs).flatMap oT++[59])
def tP (bits:Int) (r:eK):List UInt8:=if kG bits 2=0 then []else 116::(r.trace.flatMap tT++[59])
def Er (bits:Int) (r:eK):List UInt8:=if kG bits 4=0 then []else 99::(DT r.cost++[59])
theorem Sz (bits:Int) (r:eK) (s:ByteArray):(vZ bits r s).data.toList=s.data.toList++eP bits r:=by
 unfold vZ eP;split
 ·simp
 ·simp [ByteArray.data_append,DT]
theorem SC (bits:Int) (r:eK) (s:ByteArray):(Ei bits r s).data.toList=s.data.toList++Er bits r:=by
 unfold Ei Er;split
 ·simp
 ·simp [ByteArray.data_append,DT]
theorem SE (level bits:Int) (r:eK) (s:ByteArray):(v7 level bits r s).data.toList=s.data.toList++oP level bits r:=by
 unfold v7 oP;split
 ·simp
 ·rw [ByteArray.data_append,Array.toList_append,CS _ _ _ (aqY _),List.take_length,ByteArray.data_append,Array.toList_append]
  simp
theorem SF (bits:Int) (r:eK) (s:ByteArray):(v8 bits r s).data.toList=s.data.toList++tP bits r:=by
 unfold v8 tP;split
 ·simp
 ·rw [ByteArray.data_append,Array.toList_append,CT _ _ _ (aqY _),List.take_length,ByteArray.data_append,Array.toList_append]
  simp
theorem AM (level bits:Int) (r:eK):(jf level bits r).data.toList=eP bits r++(oP level bits r++(tP bits r++Er bits r)):=by
 unfold jf;rw [SC,SF,SE,Sz];simp
theorem OO {l:List (Int×Int)} {c:UInt8} (h:c∈l.flatMap oT):c≠59:=by
 obtain ⟨o,_,h⟩:=List.mem_flatMap.1 h;simp only [oT,arc,are]at h;rcases h with rfl|h|rfl|h
 ·decide
 ·exact (j7 h).2.2
 ·decide
 ·exact (j7 h).2.2
theorem OP {l:List Ev} {c:UInt8} (h:c∈l.flatMap tT):c≠59:=by
 obtain ⟨o,_,h⟩:=List.mem_flatMap.1 h;simp only [tT,arc,are]at h;rcases h with rfl|h|rfl|h|rfl|h
 ·decide
 ·exact (j7 h).2.2
 ·decide
 ·exact (j7 h).2.2
 ·decide
 ·exact (j7 h).2.2
theorem Nd {x x' r r':List UInt8} (d:∀c∈x,c≠59) (h2:∀c∈x',c≠59) (h:x++59::r=x'++59::r'):x=x'∧r=r':=by
 obtain ⟨a,b⟩:=wk d h2 (.inr ⟨_,rfl⟩) (.inr ⟨_,rfl⟩) h;exact ⟨a,by simpa using b⟩
theorem CU (l:List (Int×Int)):l.flatMap oT=[]∨∃t,l.flatMap oT=32::t:=by
 cases l with
 |nil=>exact .inl rfl
 |cons o l=>exact .inr ⟨_,rfl⟩
theorem yK:∀{l m:List (Int×Int)},l.flatMap oT=m.flatMap oT→l.map (fun o=>(DT o.1,DT o.2))=m.map (fun o=>(DT o.1,DT o.2))
 |[],[],_=>rfl
 |[],o::m,h=>by simp [oT]at h
 |o::l,[],h=>by simp [oT]at h
 |o::l,q::m,h=>by
  simp only [List.flatMap_cons,oT,List.cons_append,List.cons.injEq,true_and,ark]at h;obtain ⟨a,b⟩:=wk (fun c e=>(j7 e).2.1) (fun c e=>(j7 e).2.1) (.inr ⟨_,rfl⟩) (.inr ⟨_,rfl⟩) h;simp only [List.cons.injEq,true_and]at b;obtain ⟨c,d⟩:=wk (fun c e=>(j7 e).1) (fun c e=>(j7 e).1) (CU l) (CU m) b;simp only [List.map_cons,a,c,yK d]
theorem yL {level more:Int} (e:0≤level∧level≤15) (d:0≤more∧more≤15) (l:List (Int×Int)):dN level l=(dN (j6 level more) l).filter fun o=>jd level o.1:=by
 unfold dN;rw [List.filter_filter];apply List.filter_congr;intro o _
 cases h:jd level o.1 with
 |false=>simp
 |true=>
  have h2:=h;simp only [jd,aqX,aq6]at h2;obtain ⟨a,g⟩:=Int.eq_ofNat_of_zero_le e.1;obtain ⟨b,f⟩:=Int.eq_ofNat_of_zero_le d.1;obtain ⟨x,c⟩:=Int.eq_ofNat_of_zero_le h2.1;have:=ara.1 (Nc a (by omega) b (by omega)) x (by simp;omega);rw [c]at h;rw [g]at h⊢;rw [f,c]
  simpa [h]using this
theorem yM {level:Int}:∀{l m:List (Int×Int)},(∀o∈l,0≤o.1∧o.1≤15)→(∀o∈m,0≤o.1∧o.1≤15)→l.map (fun o=>(DT o.1,DT o.2))=m.map (fun o=>(DT o.1,DT o.2))→(l.filter fun o=>jd level o.1).flatMap oT=(m.filter fun o=>jd level o.1).flatMap oT
 |[],[],_,_,_=>rfl
 |[],o::m,_,_,h=>by simp at h
 |o::l,[],_,_,h=>by simp at h
 |o::l,q::m,i,h2,h=>by
  simp only [List.map_cons,List.cons.injEq,aq2]at h;have ih:=yM (level:=level) (fun x c=>i x (by simp [c])) (fun x c=>h2 x (by simp [c])) h.2
  have e:o.1=q.1:=by
   have k:=i o (by simp);have j:=h2 q (by simp);obtain ⟨a,f⟩:=Int.eq_ofNat_of_zero_le k.1;obtain ⟨b,d⟩:=Int.eq_ofNat_of_zero_le j.1;have g:=h.1.1;rw [f,d]at g;rw [f,d,Sy a (by omega) b (by omega) g]
  rw [List.filter_cons,List.filter_cons,←e];split
  ·rw [List.flatMap_cons,List.flatMap_cons,ih,oT,oT,h.1.1,h.1.2]
  ·exact ih
theorem yN {level:Int} {l:List (Int×Int)}:∀o∈dN level l,0≤o.1∧o.1≤15:=by
 intro o a;have:=(List.mem_filter.1 a).2;simp only [jd,aqX,aq6]at this;exact ⟨this.1,this.2.1⟩
theorem AN {level sees more g:Int} (l:0≤level∧level≤15) (w:0≤sees∧sees≤15) (k:0≤more∧more≤15) (B:0≤g∧g≤15) {r q:eK}
 (h:jf (j6 level more) (j6 sees g) r=jf (j6 level more) (j6 sees g) q):jf level sees r=jf level sees q:=by
 have f:=congrArg (fun s=>s.data.toList) h;simp only [AM]at f;obtain ⟨a,i⟩:=Int.eq_ofNat_of_zero_le w.1;obtain ⟨b,A⟩:=Int.eq_ofNat_of_zero_le B.1;have j:=wj a (by omega) b (by omega);rw [←i,←A]at j;simp only [List.all_cons,List.all_nil,Bool.and_true,aqX,Bool.or_eq_true,Bool.not_eq_true',aq6,decide_eq_false_iff_not]at j;obtain ⟨_,v,u,t,p⟩:=j;generalize j6 sees g=S at f v u t p;have fin:∀{x y:ByteArray},x.data.toList=y.data.toList→x=y:=fun e=>ByteArray.ext (Array.toList_inj.1 e)
 apply fin;rw [AM,AM]
 have o:(kG S 8=0∨DT r.en=DT q.en)∧oP (j6 level more) S r++(tP S r++Er S r)=oP (j6 level more) S q++(tP S q++Er S q):=by
  unfold eP at f;split at f
  ·rename_i z;rw [List.nil_append,List.nil_append]at f;exact ⟨.inl z,f⟩
  ·simp only [List.cons_append,List.cons.injEq,true_and,ark,List.nil_append]at f
   obtain ⟨x,y⟩:=Nd (fun c d=>(j7 d).2.2) (fun c d=>(j7 d).2.2) f;exact ⟨.inr x,y⟩
 have n:(kG S 1=0∨(dN (j6 level more) r.outs).flatMap oT=(dN (j6 level more) q.outs).flatMap oT)∧tP S r++Er S r=tP S q++Er S q:=by
  have h2:=o.2;unfold oP at h2;split at h2
  ·rename_i z;rw [List.nil_append,List.nil_append]at h2;exact ⟨.inl z,h2⟩
  ·simp only [List.cons_append,List.cons.injEq,true_and,ark,List.nil_append]at h2
   obtain ⟨x,y⟩:=Nd (fun c d=>OO d) (fun c d=>OO d) h2;exact ⟨.inr x,y⟩
 have m:(kG S 2=0∨r.trace.flatMap tT=q.trace.flatMap tT)∧Er S r=Er S q:=by
  have h2:=n.2;unfold tP at h2;split at h2
  ·rename_i z;rw [List.nil_append,List.nil_append]at h2;exact ⟨.inl z,h2⟩
  ·simp only [List.cons_append,List.cons.injEq,true_and,ark,List.nil_append]at h2
   obtain ⟨x,y⟩:=Nd (fun c d=>OP d) (fun c d=>OP d) h2;exact ⟨.inr x,y⟩
 have C:kG S 4=0∨DT r.cost=DT q.cost:=by
  have h2:=m.2;unfold Er at h2;split at h2
  ·rename_i z;exact .inl z
  ·simp only [List.cons.injEq,true_and]at h2
   obtain ⟨x,y⟩:=Nd (fun c d=>(j7 d).2.2) (fun c d=>(j7 d).2.2) h2;exact .inr x
 have G:eP sees r=eP sees q:=by
  unfold eP;split
  ·rfl
  ·rename_i z
   rw [(o.1.resolve_left (p.resolve_left z))]
 have F:oP level sees r=oP level sees q:=by
  unfold oP;split
  ·rfl
  ·rename_i z
   have:=n.1.resolve_left (v.resolve_left z);rw [yL l k r.outs,yL l k q.outs,yM yN yN (yK this)]
 have E:tP sees r=tP sees q:=by
  unfold tP;split
  ·rfl
  ·rename_i z
   rw [m.1.resolve_left (u.resolve_left z)]
 have D:Er sees r=Er sees q:=by
  unfold Er;split
  ·rfl
  ·rename_i z
   rw [C.resolve_left (t.resolve_left z)]
 rw [G,F,E,D]
end P
namespace P
open Go Go.RowKit
structure PI (K:Nat→ByteArray) (out:List (List Nat)) (n:Nat):Prop where
 nd:∀c∈out,c.Nodup
 key:∀c∈out,∀x∈c,K x=K (c.headD 0)
 dis:∀(j k:Nat) (c d:List Nat),out[j]?=some c→out[k]?=some d→K (c.headD 0)=K (d.headD 0)→j=k
 all:∀x:Nat,x<n→∃(k:Nat) (c:List Nat),out[k]?=some c∧x∈c
 sum:(out.map List.length).sum=n
theorem CW:∀(l:List (List Nat)) (a:Nat) (c d:List Nat),l[a]?=some c→d.length=c.length+1→((l.set a d).map List.length).sum=(l.map List.length).sum+1
 |[],a,c,d,h,_=>by simp at h
 |x::l,0,c,d,h,e=>by
  simp at h;subst h;simp [e];omega
 |x::l,a+1,c,d,h,e=>by
  have:=CW l a c d (by simpa using h) e;rw [List.set_cons_succ,List.map_cons,List.sum_cons,this,List.map_cons,List.sum_cons];omega
theorem wm (K:Nat→ByteArray):∀n,PI K (fR K n) n
 |0=>⟨by simp [fR],by simp [fR],by simp [fR],by simp,by simp [fR]⟩
 |n+1=>by
  have h:=wm K n;have E:=pU K n;rw [fR];generalize fR K n=out at h E;have L:=CL K n out;unfold yG;split
  ·rename_i H
   have B:∀(j:Nat) (c:List Nat),out[j]?=some c→K (c.headD 0)≠K n:=by
    intro j c b e;have:=OK (K:=K) (i:=n) (l:=out) (j:=j) (c:=c) (by rw [H];exact (aq0.1 b).1) b;rw [e]at this;have h2:aX (K n) (K n)=true:=eh.2 rfl;rw [h2]at this;cases this
   refine ⟨fun c b=>?_,fun c b x f=>?_,fun j k c d m g e=>?_,fun x f=>?_,?_⟩
   ·rcases are.1 b with q|q
    ·exact h.nd c q
    ·simp at q;subst q;simp
   ·rcases are.1 b with q|q
    ·exact h.key c q x f
    ·simp at q;subst q;simp at f;subst f;rfl
   ·by_cases F:j<out.length
    ·rw [aq7 F]at m
     by_cases w:k<out.length
     ·rw [aq7 w]at g
      exact h.dis j k c d m g e
     ·have C:=(aq0.1 g).1
      simp at C;have:k=out.length:=by omega
      subst this;simp at g;subst g;exact absurd e (B j c m)
    ·have G:=(aq0.1 m).1
     simp at G;have:j=out.length:=by omega
     subst this;simp at m;subst m;by_cases w:k<out.length
     ·rw [aq7 w]at g
      exact absurd e.symm (B k d g)
     ·have C:=(aq0.1 g).1
      simp at C;omega
   ·by_cases q:x=n
    ·subst q
     exact ⟨out.length,[x],by simp,by simp⟩
    ·obtain ⟨k,c,b,f⟩:=h.all x (by omega)
     exact ⟨k,c,by rw [aq7 (aq0.1 b).1];exact b,f⟩
   ·have:=h.sum
    simp [this]
  ·rename_i B
   have r:fa K n out<out.length:=by omega
   obtain ⟨d,o,t⟩:=I8 (K:=K) (i:=n) (l:=out) r;rw [eh]at t;have e:out.getD (fa K n out) []=d:=by simp [List.getD_eq_getElem?_getD,o]
   have u:=aqZ o;rw [e];generalize fa K n out=a at r o;have D:=E.ne d u
   have s:(d++[n]).headD 0=d.headD 0:=by
    cases d with
    |nil=>exact absurd rfl D
    |cons x d=>rfl
   have key:∀(j:Nat) (c:List Nat),(out.set a (d++[n]))[j]?=some c→∃v,out[j]?=some v∧c.headD 0=v.headD 0:=by
    intro j c b;by_cases q:a=j
    ·subst q
     rw [ary r]at b;cases b;exact ⟨d,o,s⟩
    ·rw [arj q]at b
     exact ⟨c,b,rfl⟩
   refine ⟨fun c b=>?_,fun c b x f=>?_,fun j k c v m g e=>?_,fun x f=>?_,?_⟩
   ·rcases List.mem_or_eq_of_mem_set b with q|q
    ·exact h.nd c q
    ·subst q
     rw [List.nodup_append];refine ⟨h.nd d u,by simp,fun x f y A=>?_⟩;simp at A;have:=E.lt d u x f;omega
   ·rcases List.mem_or_eq_of_mem_set b with q|q
    ·exact h.key c q x f
    ·subst q
     rw [s];rcases are.1 f with q|q
     ·exact h.key d u x q
     ·simp at q;subst q;exact t.symm
   ·obtain ⟨x,f,J⟩:=key j c m
    obtain ⟨y,A,I⟩:=key k v g;rw [J,I]at e;exact h.dis j k x y f A e
   ·by_cases q:x=n
    ·subst q
     exact ⟨a,d++[x],by rw [ary r],by simp⟩
    ·obtain ⟨k,c,b,p⟩:=h.all x (by omega)
     by_cases z:a=k
     ·subst z
      rw [o]at b;cases b;exact ⟨a,d++[n],by rw [ary r],by simp [p]⟩
     ·exact ⟨k,c,by rw [arj z];exact b,p⟩
   ·rw [CW out a d (d++[n]) o (by simp),h.sum]
def nL (c d:List Nat):Nat:=(c.map fun x=>d.count x).sum
theorem Es (c d:List Nat) (x:Nat):nL (c++[x]) d=nL c d+d.count x:=by simp [nL]
theorem Jb {c d:List Nat} (h:∀x∈c,d.count x=1):nL c d=c.length:=by
 induction c with
 |nil=>rfl
 |cons x c ih=>
  have:=ih fun y a=>h y (by simp [a])
  simp only [nL,List.map_cons,List.sum_cons,List.length_cons]at*;rw [this,h x (by simp)];omega
theorem Nf {c d:List Nat} (h:∀x∈c,x∉d):nL c d=0:=by
 induction c with
 |nil=>rfl
 |cons x c ih=>
  have:=ih fun y a=>h y (by simp [a])
  simp only [nL,List.map_cons,List.sum_cons]at*;rw [this,List.count_eq_zero.2 (h x (by simp))]
theorem Jc {K L:Nat→ByteArray} {n:Nat} (r:∀x y,x<n→y<n→K x=K y→L x=L y) {c:List Nat} (h:c∈fR K n):c≠[]∧∃f,f<(fR L n).length∧∀k d,(fR L n)[k]?=some d→nL c d=if k=f then c.length else 0:=by
 have A:=wm K n;have b:=wm L n;have l:=pU K n;have u:=l.ne c h;refine ⟨u,?_⟩
 have v:c.headD 0∈c:=by
  cases c with
  |nil=>exact absurd rfl u
  |cons x c=>simp
 obtain ⟨f,d0,g,w⟩:=b.all (c.headD 0) (l.lt c h _ v);refine ⟨f,(aq0.1 g).1,fun k d o=>?_⟩
 have t:∀x∈c,L x=L (d0.headD 0):=fun x a=>by
  rw [←b.key d0 (aqZ g) _ w];exact r x _ (l.lt c h x a) (l.lt c h _ v) (A.key c h x a)
 have z:∀x∈c,x∈d0:=fun x a=>by
  obtain ⟨j,e,m,i⟩:=b.all x (l.lt c h x a);have s:=b.key e (aqZ m) x i;have:=b.dis j f e d0 m g (by rw [←s,t x a]);subst this;rw [g]at m;cases m;exact i
 by_cases q:k=f
 ·subst q
  rw [g]at o;cases o;rw [if_pos rfl];exact Jb fun x a=>by rw [(b.nd d0 (aqZ g)).count,if_pos (z x a)]
 ·rw [if_neg q]
  refine Nf fun x a p=>q ?_
  have s:=b.key d (aqZ o) x p;exact b.dis k f d d0 o g (by rw [←s,t x a])
open Go Go.RowKit
theorem Ng (c d:List Nat):nL c d≤c.length*d.length:=by
 induction c with
 |nil=>simp [nL]
 |cons x c ih=>
  have b:=List.count_le_length (a:=x) (l:=d);simp only [nL,List.map_cons,List.sum_cons,List.length_cons,Nat.succ_mul]at*;omega
theorem OR {c:List Nat} {i x:Nat} (h:c[i]?=some x):(ir (ni c))[i]?=some [pi x]:=by simp [ir,ni,h]
theorem pW (c:List Nat):(ir (ni c)).length=c.length:=by simp [ir,ni]
def yO (k0 k:Nat):Int:=if k0<k then 1 else 0
theorem Jd {b a:List (List Nat)} (lq:b.length≤2^20) (Nq:a.length≤2^20) (lU:∀c∈b,c.length≤2^20) (has:∀c∈a,c.length≤2^20)
 (hb:∀c∈b,c≠[]∧∃f,f<a.length∧∀(k:Nat) (d:List Nat),a[k]?=some d→nL c d=if k=f then c.length else 0):Fz E O 34 [.fs 1 (qO b),.fs 1 (qO a)] (pb true):=by
 refine Fz.body (F:=YV) rfl rfl rfl rfl ?_;simp (maxSteps:=9^7)-implicitDefEqProofs [-getElem?_pos,aqT,YV];refine pL (fun i e h=>h=[]∧e.get 0= .fs 1 (qO b)∧e.get 1= .fs 1 (qO a)∧e.get 5=pi i) b.length ?_ ?_
 ·exact ⟨rfl,by simp,by simp,by simp⟩
 rintro i e h hi ⟨rfl,f0,f1,f5⟩;by_cases Q:i<b.length
 case neg=>
  obtain rfl:i=b.length:=by omega
  simp (maxSteps:=9^7)-implicitDefEqProofs [-getElem?_pos,aqT,f0,f1,f5]
 obtain ⟨c,hc⟩:∃c,b[i]?=some c:=⟨_,aqU Q⟩
 have L:=aqZ hc;have mI:=lU c L;obtain ⟨QS,f,Ua,LC⟩:=hb c L;have hcp:0<c.length:=List.length_pos_iff.2 QS;have EO:=AK hc;have Z:=pW c;have qd:¬ c.length=0:=by omega
 have ahz:¬ c=[]:=QS;simp (maxSteps:=9^7)-implicitDefEqProofs [-getElem?_pos,aqT,f0,f1,f5,Q,EO,Z,qd,ahz];refine pL (fun k e h=>h=[]∧e.get 0= .fs 1 (qO b)∧e.get 1= .fs 1 (qO a)∧e.get 5=pi i∧e.get 6=pi (yO f k)∧e.get 7=pi k) a.length ?_ ?_
 ·exact ⟨rfl,by simp [f0],by simp [f1],by simp [f5],by simp [yO],by simp⟩
 rintro k eV h2 hk ⟨rfl,V,U,g5,g6,g7⟩;by_cases h2:k<a.length
 case neg=>
  obtain rfl:k=a.length:=by omega
  have S:yO f a.length=1:=by simp [yO,Ua]
  have g:IntKind.i64.wrap ((i:Int)+1)=((i+1:Nat):Int):=ai ⟨by omega,by omega⟩;simp (maxSteps:=9^7)-implicitDefEqProofs [-getElem?_pos,aqT,V,U,g5,g6,g7,S,g];exact .for Q ⟨rfl,by simp [V],by simp [U],by simp⟩
 obtain ⟨d,hd⟩:∃d,a[k]?=some d:=⟨_,aqU h2⟩
 have ZQ:=has d (aqZ hd);have hdi:=AK hd;have P4:=pW d;have SZ:=LC k d hd;simp (maxSteps:=9^7)-implicitDefEqProofs [-getElem?_pos,aqT,V,U,g5,g6,g7,Q,h2,EO,Z];refine pL (fun j e h=>h=[]∧e.get 0= .fs 1 (qO b)∧e.get 1= .fs 1 (qO a)∧e.get 5=pi i∧e.get 6=pi (yO f k)∧e.get 7=pi k∧e.get 8=pi (nL (c.take j) d:Nat)∧e.get 34=nE (ni c)∧e.get 35=pi c.length∧e.get 36=pi j) c.length ?_ ?_
 ·exact ⟨rfl,by simp [V],by simp [U],by simp [g5],by simp [g6],by simp [g7],by simp [nL],by simp,by simp,by simp⟩
 rintro j fr3 T hj ⟨rfl,u,t,s,v,A,r,p,o,n⟩;by_cases T:j<c.length
 case neg=>
  obtain rfl:j=c.length:=by omega
  rw [List.take_length,SZ]at r;have g:IntKind.i64.wrap ((k:Int)+1)=((k+1:Nat):Int):=ai ⟨by omega,by omega⟩;by_cases q:k=f
  ·rw [if_pos q]at r
   have S:yO f k=0:=by simp [yO,q]
   have R:yO f (k+1)=1:=by simp [yO,q]
   simp (maxSteps:=9^7)-implicitDefEqProofs [-getElem?_pos,aqT,u,t,s,v,A,r,p,o,n,hcp,EO,Z,S,Q];refine bJ (Cm true) ?_ ?_ ?_
   iterate 2· simp (maxDischargeDepth:=8)-implicitDefEqProofs [-getElem?_pos,aqT]
   simp (maxSteps:=9^7)-implicitDefEqProofs [-getElem?_pos,aqT,u,t,s,v,A,S,g];exact .for h2 ⟨rfl,by simp [u],by simp [t],by simp [s],by simp [R],by simp⟩
  ·rw [if_neg q]at r
   have R:yO f (k+1)=yO f k:=by
    unfold yO;by_cases z:f<k
    ·rw [if_pos (by omega),if_pos z]
    ·rw [if_neg (by omega),if_neg z]
   have Y:0≤yO f k∧yO f k≤1:=by unfold yO;split<;>omega
   obtain ⟨z,hz⟩:∃z,yO f k=z:=⟨_,rfl⟩
   rw [hz]at v R Y;have J:IntKind.i64.wrap (z+0)=z:=by rw [Int.add_zero];exact ai ⟨by omega,by omega⟩
   have w7:IntKind.i64.wrap z=z:=ai ⟨by omega,by omega⟩;simp (maxSteps:=9^7)-implicitDefEqProofs [-getElem?_pos,aqT,u,t,s,v,A,r,p,o,n];refine bJ (Cm false) ?_ ?_ ?_
   iterate 2· simp (maxDischargeDepth:=8)-implicitDefEqProofs [-getElem?_pos,aqT]
   simp (maxSteps:=9^7)-implicitDefEqProofs [-getElem?_pos,aqT,u,t,s,v,A,g,J,w7];exact .for h2 ⟨rfl,by simp [u],by simp [t],by simp [s],by simp [R],by simp⟩
 obtain ⟨x,hx⟩:∃x,c[j]?=some x:=⟨_,aqU T⟩
 have W:=OR hx;have Z0:c.take (j+1)=c.take j++[x]:=by rw [arf,hx];rfl
 have hN:=Ng (c.take j) d;have hNb:(c.take j).length*d.length≤2^20*2^20:=Nat.mul_le_mul (by simp;omega) ZQ
 obtain ⟨N,P⟩:∃N,nL (c.take j) d=N:=⟨_,rfl⟩
 rw [P]at r hN;have hNL:N≤2^40:=by omega
 simp (maxSteps:=9^7)-implicitDefEqProofs [-getElem?_pos,aqT,u,t,s,v,A,r,p,o,n,T,h2,W,hdi,P4];refine pL (fun m e h=>h=[]∧e.get 0= .fs 1 (qO b)∧e.get 1= .fs 1 (qO a)∧e.get 5=pi i∧e.get 6=pi (yO f k)∧e.get 7=pi k∧e.get 8=pi ((N+(d.take m).count x:Nat):Int)∧e.get 10=pi x∧e.get 34=nE (ni c)∧e.get 35=pi c.length∧e.get 36=pi j∧e.get 43=nE (ni d)∧e.get 44=pi d.length∧e.get 45=pi m) d.length ?_ ?_
 ·exact ⟨rfl,by simp [u],by simp [t],by simp [s],by simp [v],by simp [A],by simp [r],by simp,by simp [p],by simp [o],by simp [n],by simp,by simp,by simp⟩
 rintro m fr4 w hm ⟨rfl,I,H,G,D,C,B,d10,d34,d35,d36,d43,d44,d45⟩;by_cases w:m<d.length
 case neg=>
  obtain rfl:m=d.length:=by omega
  rw [List.take_length]at B;have g:IntKind.i64.wrap ((j:Int)+1)=((j+1:Nat):Int):=ai ⟨by omega,by omega⟩;simp (maxSteps:=9^7)-implicitDefEqProofs [-getElem?_pos,aqT,I,H,G,D,C,B,d34,d35,d36,d43,d44,d45,g];exact .for T ⟨rfl,by simp [I],by simp [H],by simp [G],by simp [D],by simp [C],by simp [B,Z0,Es,P],by simp [d34],by simp [d35],by simp⟩
 obtain ⟨y,hy⟩:∃y,d[m]?=some y:=⟨_,aqU w⟩
 have K:=OR hy;have hct:=List.count_le_length (a:=x) (l:=d.take m);have htl:(d.take m).length≤2^20:=by simp;omega
 have X:(d.take (m+1)).count x=(d.take m).count x+if x=y then 1 else 0:=by
  rw [arf,hy,List.count_append];congr 1;by_cases z:x=y
  ·subst z;simp
  ·simp [z,List.count_cons,Ne.symm z]
 have g:IntKind.i64.wrap ((m:Int)+1)=((m+1:Nat):Int):=ai ⟨by omega,by omega⟩
 obtain ⟨M,hM⟩:∃M,N+(d.take m).count x=M:=⟨_,rfl⟩
 rw [hM]at B;have Wz:N+(d.take (m+1)).count x=M+if x=y then 1 else 0:=by rw [X,←Nat.add_assoc,hM]
 by_cases z:x=y
 ·rw [if_pos z]at Wz
  subst z;have J:IntKind.i64.wrap ((M:Int)+1)=((M+1:Nat):Int):=ai ⟨by omega,by omega⟩;simp (maxSteps:=9^7)-implicitDefEqProofs [-getElem?_pos,aqT,I,H,G,D,C,B,d10,d34,d35,d36,d43,d44,d45,w,K];refine bJ (Cm true) ?_ ?_ ?_
  iterate 2· simp (maxDischargeDepth:=8)-implicitDefEqProofs [-getElem?_pos,aqT]
  simp (maxSteps:=9^7)-implicitDefEqProofs [-getElem?_pos,aqT,d45,g,J];exact .for w ⟨rfl,by simp [I],by simp [H],by simp [G],by simp [D],by simp [C],by simp;omega,by simp [d10],by simp [d34],by simp [d35],by simp [d36],by simp [d43],by simp [d44],by simp⟩
 ·rw [if_neg z]at Wz
  have z2:¬ (x:Int)=y:=by omega
  have J:IntKind.i64.wrap (M:Int)=(M:Int):=ai ⟨by omega,by omega⟩;simp (maxSteps:=9^7)-implicitDefEqProofs [-getElem?_pos,aqT,I,H,G,D,C,B,d10,d34,d35,d36,d43,d44,d45,w,K,z,z2];refine bJ (Cm false) ?_ ?_ ?_
  iterate 2· simp (maxDischargeDepth:=8)-implicitDefEqProofs [-getElem?_pos,aqT]
  simp (maxSteps:=9^7)-implicitDefEqProofs [-getElem?_pos,aqT,d45,g,J];exact .for w ⟨rfl,by simp [I],by simp [H],by simp [G],by simp [D],by simp [C],by simp;omega,by simp [d10],by simp [d34],by simp [d35],by simp [d36],by simp [d43],by simp [d44],by simp⟩
end P
end Go.Proofs.YtppcmpmnglaleaaGreatDoor.A
