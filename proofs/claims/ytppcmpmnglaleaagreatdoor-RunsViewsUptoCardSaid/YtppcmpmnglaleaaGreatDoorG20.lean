/- Texts that stand one behind the other: V1, V2, V3, V4, V5, V6, U9, V7. -/
import Derived.Test.YtppcmpmnglaleaaGreatDoorG19
import Derived.KernelRfl
set_option linter.unusedVariables false
set_option linter.unusedSimpArgs false
namespace Go.Proofs.YtppcmpmnglaleaaGreatDoor.A
open Go
def OC (S:Nat→Bool):cl→Bool
 | .call f _=>S f
 | .callv _ _=>false
 | .xt .mr _=>false
 |_=>true
def wH (S:Nat→Bool) (l:List AO):Bool:=l.all fun o=>OC S o.o
def wI (S:Nat→Bool):AC→Bool
 | .bW l| .bM l _=>wH S l
 | .seq a b| .cond _ a b=>wI S a&&wI S b
 | .block _ a| .loop a=>wI S a
 |_=>true
theorem Ao {H H':AH} {a:Addr} {vs:List Value} (h:H.st a vs=some H'):H'.bs=H.bs:=by
 unfold AH.st at h
 split at h
 ·obtain ⟨_,h⟩:=au h
  cases h
  rfl
 ·cases h
theorem OD {sz bytes:Nat} {H H':AH} {s x v:Value} (h:aX sz bytes H s x=some (v,H')):H'.bs=H.bs:=by
 unfold aX at h
 split at h
 case h_2=>cases h
 split at h
 ·obtain ⟨_,h⟩:=au h
  cases h;rfl
 split at h
 ·cases h
 obtain ⟨_,h⟩:=au h
 split at h
 ·split at h
  ·obtain ⟨_,h⟩:=au h
   obtain ⟨H1,h1,h2⟩:=alX.1 h
   cases h2
   exact Ao h1
  ·cases h
 split at h
 ·obtain ⟨_,h⟩:=au h
  cases h;rfl
 split at h
 ·obtain ⟨_,h⟩:=au h
  obtain ⟨_,_,h2⟩:=alX.1 h
  cases h2;rfl
 ·cases h
theorem JM {sz:Nat} {H H':AH} {d s v:Value} (h:iS sz H d s=some (v,H')):H'.bs=H.bs:=by
 unfold iS at h
 split at h
 case h_2=>cases h
 obtain ⟨c,_,h⟩:=alY.1 h
 split at h
 ·cases hc:c.isEmpty with
  |true=>simp only [hc,cond_true,alO,alV]at h;rw [h.2]
  |false=>
   simp only [hc,cond_false]at h
   obtain ⟨H1,h1,h2⟩:=alX.1 h
   cases h2
   exact Ao h1
 ·cases h;rfl
theorem FW {S:Nat→Bool} {o:AO} {fr:Fr} {H H':AH} {r:gM} (hn:OC S o.o=true) (h:aS o.o (X.ev fr) H=some (r,H')):H'.bs=H.bs:=by
 cases hk:dS o.o with
 |pure=>rw [(kK hk h).1]
 |load=>rw [(kL hk h).1]
 |read=>rw [(kM hk h).1]
 |alloc=>
  obtain ⟨aN,e2,_⟩:=gO hk h
  rw [e2];rfl
 |st=>
  obtain ⟨c,aN,h2,_,e2,_⟩:=pv hk h
  rw [e2];rfl
 |iT=>
  obtain ⟨g,d,o⟩:=o
  dsimp only at*
  cases o with
  |nu kk x k v=>
   simp only [aS]at h
   split at h
   case h_2=>cases h
   split at h
   case h_2=>cases h
   obtain ⟨_,h⟩:=au h
   obtain ⟨_,_,h2⟩:=alX.1 h
   cases h2;rfl
  |call f xs=>cases h;rfl
  |callv x xs=>cases hn
  |app sz bytes s x=>
   obtain ⟨⟨v,H1⟩,h1,h2⟩:=alX.1 h
   cases h2
   exact OD h1
  |copy sz d s=>
   obtain ⟨⟨v,H1⟩,h1,h2⟩:=alX.1 h
   cases h2
   exact JM h1
  |xt k l=>
   cases k with
   |mr=>cases hn
   |bad=>cases h
   |_=>cases hk
  |sl sz x lo hi mx=>cases lo<;>cases hk
  |_=>cases hk
def FX (S:Nat→Bool) (call:Cl):Prop:=∀f xs H v H',S f=true→call f xs H=some (v,H')→H'.bs=H.bs
section
variable{S:Nat→Bool} {call:Cl} (K:FX S call)
include K
theorem FY {o:AO} {fr bG:Fr} {H H':AH} (hn:OC S o.o=true) (h:iH call o fr H=some (bG,H')):H'.bs=H.bs:=by
 unfold iH at h
 cases hw:o.wanted fr with
 |false=>simp only [hw,cond_false,alO,alV]at h;rw [h.2]
 |true=>
  simp only [hw,cond_true]at h
  split at h
  ·rename_i x H1 e
   cases h
   exact FW hn e
  ·rename_i f xs H1 e
   have e1:=FW hn e
   split at h
   ·rename_i x H2 e2
    cases h
    refine (K f xs H1 x H' ?_ e2).trans e1
    obtain ⟨g,d,o⟩:=o
    have hk:=gG e
    dsimp only at*
    cases o with
    |call g a=>cases e;exact hn
    |callv x a=>cases hn
    |nu kk x k v=>
     simp only [aS]at e
     split at e
     case h_2=>cases e
     split at e
     case h_2=>cases e
     obtain ⟨_,e⟩:=au e
     obtain ⟨_,_,h2⟩:=alX.1 e
     cases h2
    |app sz bytes s x=>
     obtain ⟨⟨v,H1⟩,h1,h2⟩:=alX.1 e
     cases h2
    |copy sz d s=>
     obtain ⟨⟨v,H1⟩,h1,h2⟩:=alX.1 e
     cases h2
    |xt k l=>
     obtain ⟨⟨v,H1⟩,h1,h2⟩:=alX.1 e
     cases h2
    |sl sz x lo hi mx=>cases lo<;>cases hk
    |_=>cases hk
   ·cases h
  ·cases h
theorem FZ:∀{l:List AO} {fr bG:Fr} {H H':AH},wH S l=true→ops call l fr H=some (bG,H')→H'.bs=H.bs
 |[],_,_,_,_,_,h=>by cases h;rfl
 |o::l,fr,bG,H,H',hn,h=>by
  simp only [wH,List.all_cons,alQ]at hn
  unfold ops at h
  split at h
  ·rename_i iY H1 e
   exact (FZ (by simpa [wH]using hn.2) h).trans (FY K hn.1 e)
  ·cases h
theorem Ap:∀{l:List AO} {fr:Fr} {H:AH} {ss:List (Fr×AH)},wH S l=true→iJ call l fr H=some ss→(eM (fr,H) ss).2.bs=H.bs
 |[],_,_,_,_,h=>by cases h;rfl
 |o::l,fr,H,ss,hn,h=>by
  simp only [wH,List.all_cons,alQ]at hn
  unfold iJ at h
  split at h
  ·rename_i iY H1 e
   split at h
   ·rename_i ss1 e1
    cases h
    exact (Ap (by simpa [wH]using hn.2) e1).trans (FY K hn.1 e)
   ·cases h
  ·cases h
theorem JN {l:List AO} {ck:List (Nat×Nat×Nat)} {fr bG:Fr} {H H':AH} (hn:wH S l=true) (h:uH call l ck fr H=some (bG,H')):H'.bs=H.bs:=by
 unfold uH at h
 split at h
 ·rename_i ss e
  obtain ⟨_,h⟩:=au h
  have:=Ap K hn e
  cases hs:eM (fr,H) ss with
  |mk a b=>
   rw [hs]at h this
   cases h
   exact this
 ·cases h
theorem eU:∀(m:Nat) {c:AC} {fr bG:Fr} {H H':AH} {ex:Ex},wI S c=true→aA call m c fr H=some (ex,bG,H')→H'.bs=H.bs
 |0,_,_,_,_,_,_,_,h=>by cases h
 |m+1,c,fr,bG,H,H',ex,hn,h=>by
  cases c with
  |skip=>cases h;rfl
  |exit i=>cases h;rfl
  |ret=>cases h;rfl
  |bW l=>
   simp only [aA]at h
   split at h
   ·rename_i a b e
    cases h
    exact FZ K hn e
   ·cases h
  |bM l ck=>
   simp only [aA]at h
   split at h
   ·rename_i a b e
    cases h
    exact JN K hn e
   ·cases h
  |seq a b=>
   simp only [wI,alQ]at hn
   simp only [aA]at h
   split at h
   ·rename_i f1 H1 e
    exact (eU m hn.2 h).trans (eU m hn.1 e)
   ·exact eU m hn.1 h
  |cond x a b=>
   simp only [wI,alQ]at hn
   simp only [aA]at h
   split at h
   ·exact eU m hn.1 h
   ·exact eU m hn.2 h
   ·cases h
  |block i a=>
   simp only [aA]at h
   split at h
   ·rename_i j f1 H1 e
    have:=eU m (c:=a) hn e
    cases hj:Nat.beq j i<;>simp only [hj,cond_true,cond_false,alO,alV]at h<;>rw [←h.2.2]<;>exact this
   ·exact eU m (c:=a) hn h
  |loop a=>
   simp only [aA]at h
   split at h
   ·rename_i f1 H1 e
    exact (eU m (c:=.loop a) hn h).trans (eU m (c:=a) hn e)
   ·exact eU m (c:=a) hn h
end
theorem F3 {E:Env} {O:iq} {S:Nat→Bool} (hS:∀f F,S f=true→O f=none→E f=some F→wI S F.body=true) (hO:∀f g,S f=true→O f=some g→∀xs H v H',g xs H=some (v,H')→H'.bs=H.bs):∀n,FX S (ey E O n)
 |0=>fun _ _ _ _ _ _ h=>by cases h
 |n+1=>fun f xs H v H' hf h=>by
  unfold ey at h
  split at h
  · rename_i g hg
    exact hO f g hf hg xs H v H' h
  · rename_i hg
    split at h
    · cases h
    · rename_i F hF
      obtain ⟨_,h⟩:=au h
      split at h
      · cases h
      · rename_i ex fr H1 _ e
        split at h
        · cases h
          exact eU (F3 hS hO n) n (hS f F hf hg hF) e
        · cases h
      · cases h
theorem Ca.pX {E:Env} {O:iq} {S:Nat→Bool} (hS:∀f F,S f=true→O f=none→E f=some F→wI S F.body=true) (hO:∀f g,S f=true→O f=some g→∀xs H v H',g xs H=some (v,H')→H'.bs=H.bs)
 {f:Nat} {xs:List Value} {H:AH} {Q:Value→AH→Prop} (hf:S f=true) (h:Ca E O f xs H Q):Ca E O f xs H (fun x H'=>Q x H'∧H'.bs=H.bs):=by
 obtain ⟨n,x,H',e,q⟩:=h
 exact ⟨n,x,H',e,q,F3 hS hO n f xs H x H' hf e⟩
end Go.Proofs.YtppcmpmnglaleaaGreatDoor.A
set_option maxRecDepth 10000
namespace Go.Proofs.YtppcmpmnglaleaaGreatDoor.A
open Go
theorem fL {H:AH} {b:Nat} {s t:ByteArray} (h:H.bs=some (b,s)) (hs:s.size+t.size≤140737488355328):
 Ca E O 83 [.pointer (some ⟨b,0,none⟩),.string t] H (fun _ H'=>Ext H H'∧H'.bs=some (b,s++t)):=
 Ca.uV (g:=qq) (x:=.tuple #[.int .i64 t.size,.nilIface]) (H':={H with bs:=some (b,s++t)}) rfl (by simp [qq,h,hs]) ⟨⟨rfl,alR _,fun _ _=>rfl⟩,rfl⟩
theorem JO {H:AH} {b:Nat} {s:ByteArray} (h:H.bs=some (b,s)):
 Ca E O 86 [.pointer (some ⟨b,0,none⟩)] H (fun x H'=>x= .string s∧H'=H):=
 Ca.uV (g:=Dl) (x:=.string s) (H':=H) rfl (by simp [Dl,h]) ⟨rfl,rfl⟩
def JP:Nat→Nat→List UInt8
 |0,_=>[]
 |f+1,n=>if n<10 then [UInt8.ofNat (48+n)]else JP f (n/10)++[UInt8.ofNat (48+n%10)]
theorem yC:∀(f n:Nat),n<10^f→JP f n=Lib.decDigits n∨f=0
 |0,n,h=>.inr rfl
 |f+1,n,h=>by
  rw [JP,Lib.decDigits]
  by_cases h1:n<10
  ·rw [if_pos h1,dif_pos h1];exact .inl rfl
  ·rw [if_neg h1,dif_neg h1]
   rcases yC f (n/10) (by rw [Nat.pow_succ]at h;omega)with e|rfl
   ·rw [e];exact .inl rfl
   ·simp at h;omega
theorem ui:∀(f n:Nat),(JP f n).length≤f
 |0,n=>alR _
 |f+1,n=>by
  rw [JP]
  have:=ui f (n/10)
  split<;>simp<;>omega
def de (n:Int):ByteArray:=⟨(if n<0 then 45::JP 20 n.natAbs else JP 20 n.toNat).toArray⟩
def mi (n:Int):Prop:=-9223372036854775808≤n∧n≤9223372036854775807
theorem BR {n:Int} (h:mi n):(⟨(Lib.itoa n).toArray⟩:ByteArray)=de n:=by
 have h1:=h.1
 have h2:=h.2
 unfold de Lib.itoa
 split
 ·rcases yC 20 n.natAbs (by omega)with e|e
  ·rw [e]
  ·cases e
 ·rcases yC 20 n.toNat (by omega)with e|e
  ·rw [e]
  ·cases e
theorem uj {H:AH} {n:Int} (h:mi n):Ca E O 84 [.int .i64 n] H (fun x H'=>x= .string (de n)∧H'=H):=
 Ca.uV (g:=uZ) (x:=.string (de n)) (H':=H) rfl (by simp [uZ,h.1,h.2,BR h]) ⟨rfl,rfl⟩
theorem cP (n:Int):(de n).size≤21:=by
 unfold de
 have h1:=ui 20 n.natAbs
 have h2:=ui 20 n.toNat
 split<;>simp [ByteArray.size]<;>omega
def F4 (i:Nat):ByteArray:=if i=0 then⟨#[32]⟩else⟨#[58]⟩
theorem om (i:Nat):(F4 i).size=1:=by unfold F4;split<;>rfl
def lL (s:ByteArray) (ns:List Int):Nat→ByteArray
 |0=>s
 |j+1=>lL s ns j++F4 j++de (ns.getD j 0)
theorem mj (s:ByteArray) (ns:List Int):∀j,(lL s ns j).size≤s.size+22*j
 |0=>by simp [lL]
 |j+1=>by
  have h1:=mj s ns j
  have h2:=cP (ns.getD j 0)
  have h3:=om j
  simp only [lL,ByteArray.size_append]
  omega
theorem Aq {ns:List Int} {v:Value} {b:Nat} {s:ByteArray} {H:AH} (hw:H.n0≤H.nx) (hv:eY H v ns) (hl:ns.length≤3) (hn:∀n∈ns,mi n) (hb:H.bs=some (b,s)) (hs:s.size≤2^40):
 Ca E O 82 [v,.pointer (some ⟨b,0,none⟩)] H (fun _ H'=>Ext H H'∧H'.bs=some (b,lL s ns ns.length)):=by
 refine Ca.aR (F:=U0) rfl rfl rfl ?_
 obtain ⟨p1,c1,nw⟩:=hv.len
 simp (maxSteps:=4000000)-implicitDefEqProofs+contextual [-X.ev,U0,nw]
 refine b9 (fun k fr H'=>(Ext H H'∧∃i:Nat,i+k=ns.length∧H'.bs=some (b,lL s ns i)∧fr.get 1= .pointer (some ⟨b,0,none⟩)∧fr.get 5=v∧fr.get 6= .int .i64 ns.length∧fr.get 7= .int .i64 i)) ?_ ns.length ⟨Ext.refl _,0,by simp,by simpa [lL]using hb,by simp,by simp [nw],by simp,by simp⟩
 rintro k fr H1 ⟨X1,i,hi,j6,f1,f5,f6,f7⟩
 have pk:=X1.wf hw
 have gA:=mj s ns i
 by_cases h:i<ns.length
 ·obtain ⟨n,hx⟩:∃n,ns[i]?=some n:=⟨_,alN h⟩
  obtain ⟨b1,o1,c',dy,eW⟩:=(hv.ext X1).at hx
  rw [dy]at f5
  have hnn:=hn n (alS hx)
  have lD:ll 3 1 [.string ⟨#[]⟩,.string ⟨#[]⟩,.string ⟨#[]⟩] H1 [(0,1,.string ⟨#[32]⟩),(1,1,.string ⟨#[58]⟩),(2,1,.string ⟨#[58]⟩)]=some (.slice (some ⟨H1.nx,0,none⟩) 3 3,H1.alloc (.cells 1 [.string ⟨#[32]⟩,.string ⟨#[58]⟩,.string ⟨#[58]⟩])):=rfl
  have X2:=Ext.alloc H1 (.cells 1 [.string ⟨#[32]⟩,.string ⟨#[58]⟩,.string ⟨#[58]⟩])
  have Ec:(H1.alloc (.cells 1 [.string ⟨#[32]⟩,.string ⟨#[58]⟩,.string ⟨#[58]⟩])).ld ⟨H1.nx,i,none⟩=some (.string (F4 i)):=by
   refine ai pk ?_
   have:i=0∨i=1∨i=2:=by omega
   rcases this with rfl|rfl|rfl<;>rfl
  have gC:(H1.alloc (.cells 1 [.string ⟨#[32]⟩,.string ⟨#[58]⟩,.string ⟨#[58]⟩])).bs=some (b,lL s ns i):=j6
  generalize ju:H1.alloc (.cells 1 [.string ⟨#[32]⟩,.string ⟨#[58]⟩,.string ⟨#[58]⟩])=H2 at lD X2 Ec gC
  have hi3:(i:Int)<3:=by omega
  simp (maxSteps:=4000000)-implicitDefEqProofs+contextual [-X.ev,f1,f5,f6,f7,h,eW,lD,Ec,hi3]
  apply ah
  ·(simp-implicitDefEqProofs [-X.ev,f1];rfl)
  refine (fL (t:=F4 i) gC (by rw [om];omega)).mono ?_
  rintro x H3 ⟨X3,rD⟩
  simp (maxSteps:=4000000)-implicitDefEqProofs+contextual [-X.ev,f1,f5,f6,f7]
  apply ah
  ·(simp-implicitDefEqProofs [-X.ev,f1];rfl)
  refine (uj hnn).mono ?_
  rintro x H4 ⟨rfl,rfl⟩
  simp (maxSteps:=4000000)-implicitDefEqProofs+contextual [-X.ev,f1,f5,f6,f7]
  apply ah
  ·(simp-implicitDefEqProofs [-X.ev,f1];rfl)
  refine (fL (t:=de n) rD (by have:=cP n;have:=om i;simp only [ByteArray.size_append];omega)).mono ?_
  rintro x H5 ⟨X5,uB⟩
  simp (maxSteps:=4000000)-implicitDefEqProofs+contextual [-X.ev,f1,f5,f6,f7]
  refine ⟨k- 1,by omega,((X1.trans X2).trans X3).trans X5,i+1,by omega,?_,dy.symm,aj ⟨by omega,by omega⟩⟩
  rw [uB,lL,List.getD_eq_getElem?_getD,hx]
  rfl
 ·obtain rfl:i=ns.length:=by omega
  simp (maxSteps:=4000000)-implicitDefEqProofs+contextual [-X.ev,f1,f5,f6,f7]
  exact ⟨X1,j6⟩
end Go.Proofs.YtppcmpmnglaleaaGreatDoor.A
namespace Go.Proofs.YtppcmpmnglaleaaGreatDoor.A.P
open Go Go.RowKit
def uk (a b:Int):Int:=IntKind.i64.wrap (BitVec.ofInt 64 a&&&~~~BitVec.ofInt 64 b).toNat
theorem F5 (a b:Int):bq .andNot (.int .i64 a) (.int .i64 b)=some (.int .i64 (uk a b)):=rfl
def ik (level other:Int):Bool:=decide (0≤other)&&(decide (other≤15)&&decide (uk other level=0))
theorem OE {level other:Int}:Fz E O 118 [pi level,pi other] (pb (ik level other)):=by
 refine Fz.body (F:=A0) rfl rfl rfl rfl ?_
 have ha:=F5 other level
 by_cases h1:0≤other
 ·by_cases h2:other≤15
  ·simp (maxSteps:=4000000)-implicitDefEqProofs [-getElem?_pos,alM,A0,ik,h1,h2,ha]
  ·simp (maxSteps:=4000000)-implicitDefEqProofs [-getElem?_pos,alM,A0,ik,h1,h2,ha]
 ·simp (maxSteps:=4000000)-implicitDefEqProofs [-getElem?_pos,alM,A0,ik,h1]
def da (level:Int) (l:List (Int×Int)):List (Int×Int):=l.filter fun o=>ik level o.1
theorem sE {level:Int} {l:List (Int×Int)} {i:Nat} {o:Int×Int} (h:l[i]?=some o):da level (l.take (i+1))=if ik level o.1=true then da level (l.take i)++[o]else da level (l.take i):=by
 rw [List.take_add_one,h]
 simp only [da,List.filter_append,Option.toList_some,List.filter_cons,List.filter_nil]
 split<;>simp
theorem kG {level:Int} {l:List (Int×Int)}:(da level l).length≤l.length:=List.length_filter_le ..
def TL (level:Int) (l:List (Int×Int)) (i:Nat):List (Nat×PV):=[(0,pi level),(5,.sl 2 0 0 (da level (l.take i)).length (da level (l.take i)).length),(8,.fs 2 (rj l)),(9,pi l.length),(10,pi i)]
def TH (level:Int) (l:List (Int×Int)) (i:Nat):PH:=[.cells 2 (uV (da level (l.take i)))]
def TI (level:Int) (l:List (Int×Int)) (i:Nat) (fr:PF) (h:PH):Prop:=h=TH level l i∧∀t∈TL level l i,fr.get t.1=t.2
theorem yD {level:Int} {l:List (Int×Int)} {i:Nat}:TI level l i (PF.xb (TL level l i)) (TH level l i):=⟨rfl,fun t ht=>by
 simp only [TL,List.mem_cons,List.not_mem_nil,or_false]at ht
 rcases ht with rfl|rfl|rfl|rfl|rfl<;>simp [TL]⟩
theorem pR (l:List (Int×Int)) (i:Nat):(rj l)[i]?=(l[i]?).map fun e=>[pi e.1,pi e.2]:=by simp [rj]
theorem OF {level:Int} {l:List (Int×Int)} (hl:l.length≤2^40):Fz E O 85 [pi level,.fs 2 (rj l)] (.fs 2 (rj (da level l))):=by
 refine rS.body (F:=a85) rfl rfl rfl ?_
 simp (maxSteps:=4000000)-implicitDefEqProofs+contextual [-getElem?_pos,alM,a85]
 refine iC (TI level l) l.length (ei (h2:=TH level l 0) [9] (TL level l 0) ?_ ?_ ?_ ?_ ?_ ?_) yD ?_
 ·simp [TH,TL,da]
 iterate 2· simp
 ·intro b hb;omega
 iterate 2· simp (maxDischargeDepth:=8)-implicitDefEqProofs [a6,alM,TH,TL,da]
 rintro i fr h hi ⟨rfl,iX⟩
 simp only [TL,List.mem_cons,List.not_mem_nil,or_false,forall_eq_or_imp,forall_eq]at iX
 obtain ⟨f0,f5,f8,f9,f10⟩:=iX
 have ht:(da level (l.take i)).length≤i:=Nat.le_trans kG (by simp;omega)
 by_cases h:i<l.length
 ·obtain ⟨e,he⟩:∃e,l[i]?=some e:=⟨_,alN h⟩
  have hn:=sE (level:=level) he
  have w4:IntKind.i64.wrap ((i:Int)+1)=((i+1:Nat):Int):=aj ⟨by omega,by omega⟩
  obtain ⟨T,hT⟩:∃T,da level (l.take i)=T:=⟨_,rfl⟩
  rw [hT]at hn f5 ht
  simp (maxSteps:=4000000)-implicitDefEqProofs+contextual [-getElem?_pos,alM,f0,f5,f8,f9,f10,h,pR,he,TH,hT]
  refine bA (OE (level:=level) (other:=e.1)) ?_ ?_ ?_
  iterate 2· simp (maxDischargeDepth:=8)-implicitDefEqProofs [-getElem?_pos,alM]
  cases hs:ik level e.1 with
  |true=>
   rw [hs,if_pos rfl]at hn
   simp (maxSteps:=4000000)-implicitDefEqProofs+contextual [-getElem?_pos,alM,f5]
   apply k8
   iterate 9· first|rfl|omega|(simp-implicitDefEqProofs [-getElem?_pos,alM];first|done|rfl|omega)
   simp (maxSteps:=4000000)-implicitDefEqProofs+contextual [-getElem?_pos,alM,f10,w4]
   refine .tW h (ei (h2:=TH level l (i+1)) [0] (TL level l (i+1)) ?_ ?_ ?_ ?_ ?_ ?_) yD
   ·simp [TH,TL,hn,jF,f0,f8,f9]
   iterate 2· simp
   ·intro b hb;omega
   iterate 2· simp (maxDischargeDepth:=8)-implicitDefEqProofs [a6,alM,TH,TL,hn,jF,f0,f8,f9]
  |false=>
   rw [hs,if_neg (by simp)]at hn
   simp (maxSteps:=4000000)-implicitDefEqProofs+contextual [-getElem?_pos,alM,f5,f10,w4]
   refine .tW h (ei (h2:=TH level l (i+1)) [0] (TL level l (i+1)) ?_ ?_ ?_ ?_ ?_ ?_) yD
   ·simp [TH,TL,hn,f0,f5,f8,f9]
   iterate 2· simp
   ·intro b hb;omega
   iterate 2· simp (maxDischargeDepth:=8)-implicitDefEqProofs [a6,alM,TH,TL,hn,f0,f5,f8,f9]
 ·obtain rfl:i=l.length:=by omega
  rw [alU (alR _)]at f5
  simp (maxSteps:=4000000)-implicitDefEqProofs+contextual [-getElem?_pos,alM,f5,f8,f9,f10,TH]
  refine dw ?_
  simp (maxDischargeDepth:=8)-implicitDefEqProofs []
end Go.Proofs.YtppcmpmnglaleaaGreatDoor.A.P
namespace Go.Proofs.YtppcmpmnglaleaaGreatDoor.A
open Go
def yE (H:AH):AH:={H with tr:=T.put none (some none) (H.nx+1) H.tr H.nx,nx:=H.nx+1,bs:=some (H.nx,.empty)}
theorem OG {m:Md} {d:Nat} {l:List AO} {ks:List Ko} {fr:Fr} {H:AH} {Q:Ex→Fr→AH→Prop}:Vx E O m (⟨none,some d,.xt .mr []⟩::l) ks fr H Q↔
 Vx E O (m.up (fr.put d (.pointer (some ⟨H.nx,0,none⟩))) (yE H)) l ks (fr.put d (.pointer (some ⟨H.nx,0,none⟩))) (yE H) Q:=by
 rw [DH _ (r:=some (.pointer (some ⟨H.nx,0,none⟩),yE H)) rfl rfl]
 simp [Ba,v1,h2]
theorem Ext.mr (H:AH):Ext H (yE H):=⟨rfl,Nat.le_succ _,fun b hb=>by
 have e:(yE H).raw b=H.raw b:=by
  show(match(T.put none (some none) (H.nx+1) H.tr H.nx).get none b with|some x=>x|none=>H.base b)=_
  rw [T.bj _ _ _ _ _ _ (by omega),if_neg (by omega)]
  rfl
 rw [AH.dR (show b<(yE H).nx by show b<H.nx+1;omega),AH.dR hb,e]⟩
def mm (a b:Int):Int:=IntKind.i64.wrap (BitVec.ofInt 64 a&&&BitVec.ofInt 64 b).toNat
theorem Ar (a b:Int):bq .and (.int .i64 a) (.int .i64 b)=some (.int .i64 (mm a b)):=rfl
theorem db {a b:ByteArray} (h:a.size+b.size≤2^50):bq .add (.string a) (.string b)=some (.string (a++b)):=by
 have:¬ (((a.size+b.size:Nat):Int)>IntKind.i64.max):=by
  have:IntKind.i64.max=9223372036854775807:=by decide
  rw [this];omega
 simp only [bq,sR,if_neg this]
theorem Lo {H:AH} {l:List Int} (hw:H.n0≤H.nx):eY (H.alloc (.cells 1 (l.map fun n=>.int .i64 n))) (.slice (some ⟨H.nx,0,none⟩) l.length l.length) l:=by
 refine ⟨some ⟨H.nx,0,none⟩,l.length,by simp [bz],fun i r hi=>?_⟩
 refine ⟨H.nx,0,rfl,?_⟩
 simp only [bz,List.getElem?_map]at hi
 cases hx:l[i]? with
 |none=>rw [hx]at hi;cases hi
 |some n=>
  rw [hx]at hi
  cases hi
  have hil:=(alT.1 hx).1
  have hg:(H.alloc (.cells 1 (l.map fun n=>.int .i64 n))).get H.nx=some (.cells 1 (l.map fun n=>.int .i64 n)):=by rw [AH.cM,if_pos rfl]
  rw [bk hg hw (by simp;omega)]
  congr 1
  rw [List.drop_eq_getElem_cons (by simpa using hil)]
  simp
  rw [alN hil]at hx
  cases hx
  rfl
def cU (s:ByteArray) (rs:List (List Int)):Nat→ByteArray
 |0=>s
 |j+1=>lL (cU s rs j) (rs.getD j []) (rs.getD j []).length
theorem dC (s:ByteArray) (rs:List (List Int)) (h:∀r∈rs,r.length≤3):∀j,(cU s rs j).size≤s.size+66*j
 |0=>by simp [cU]
 |j+1=>by
  have h1:=dC s rs h j
  have h2:=mj (cU s rs j) (rs.getD j []) (rs.getD j []).length
  have h3:(rs.getD j []).length≤3:=by
   rw [List.getD_eq_getElem?_getD]
   cases hr:rs[j]? with
   |none=>simp
   |some r=>exact h r (alS hr)
  rw [cU]
  omega
def kH (l:List (Int×Int)):List (List Int):=l.map fun o=>[o.1,o.2]
def wJ (l:List Ev):List (List Int):=l.map fun e=>[e.kind,e.at_,e.val]
def rq (bits:Int) (r:eJ) (s:ByteArray):ByteArray:=if mm bits 8=0 then s else s++(⟨#[101]⟩++de r.en++⟨#[59]⟩)
def ru (level bits:Int) (r:eJ) (s:ByteArray):ByteArray:=if mm bits 1=0 then s else cU (s++⟨#[111]⟩) (kH (P.da level r.outs)) (P.da level r.outs).length++⟨#[59]⟩
def rv (bits:Int) (r:eJ) (s:ByteArray):ByteArray:=if mm bits 2=0 then s else cU (s++⟨#[116]⟩) (wJ r.trace) r.trace.length++⟨#[59]⟩
def yF (bits:Int) (r:eJ) (s:ByteArray):ByteArray:=if mm bits 4=0 then s else s++(⟨#[99]⟩++de r.cost++⟨#[59]⟩)
def lM (level bits:Int) (r:eJ):ByteArray:=yF bits r (rv bits r (ru level bits r (rq bits r .empty)))
open Go
open P (da)
theorem JQ {level:Int} {l:List (Int×Int)} {F:Nat→Prop} {H:AH} {φ:Nat→Nat} {uo:Value} (S:P.dx ⟨F,H,φ,[]⟩) (hu:P.RF F H (.fs 2 (P.rj l)) uo) (hl:l.length≤2^40):
 Ca E O 85 [.int .i64 level,uo] H (fun x H'=>(Ext H H'∧Rows H' 2 x (cz (da level l)))∧H'.bs=H.bs):=by
 refine Ca.pX (S:=fun f=>f==85||f==118) (fun f G hf _ hE=>?_) (fun f g hf hg=>?_) rfl ?_
 ·simp only [Bool.or_eq_true,beq_iff_eq]at hf
  rcases hf with rfl|rfl<;>(cases hE;rfl)
 ·simp only [Bool.or_eq_true,beq_iff_eq]at hf
  rcases hf with rfl|rfl<;>cases hg
 ·refine (P.OF (level:=level) hl F H φ _ S (.cons (.v _) (.cons (.fs hu) .nil))).mono ?_
  rintro x H' ⟨r,h',F',cN,⟨rfl,rfl,_⟩,hr,S',T⟩
  have no:∀x,¬ P.im ⟨F,H,φ,[]⟩ P.rR x:=fun x q=>by
   obtain ⟨b,_,s,_⟩:=q
   exact absurd (P.bF s) (Nat.not_lt_zero _)
  exact ⟨⟨T.n0,T.nx,fun b hb=>T.out b hb (no b)⟩,P.Af (by simp [P.rj,cz,xX,P.pi]) (P.T0 hr)⟩
theorem sG (bits:Int) (r:eJ) (s:ByteArray):(rq bits r s).size≤s.size+30:=by
 have:=cP r.en
 unfold rq
 split
 ·omega
 ·simp only [ByteArray.size_append]
  show _+(1+_+1)≤_
  omega
theorem um (l:List (Int×Int)):∀r∈kH l,r.length≤3:=by
 intro r hr
 simp only [kH,List.mem_map]at hr
 obtain ⟨x,_,rfl⟩:=hr
 simp
theorem As (l:List Ev):∀r∈wJ l,r.length≤3:=by
 intro r hr
 simp only [wJ,List.mem_map]at hr
 obtain ⟨x,_,rfl⟩:=hr
 simp
theorem sI (level bits:Int) (r:eJ) (s:ByteArray):(ru level bits r s).size≤s.size+66*r.outs.length+10:=by
 have h1:=dC (s++⟨#[111]⟩) (kH (da level r.outs)) (um _) (da level r.outs).length
 have h2:=P.kG (level:=level) (l:=r.outs)
 unfold ru
 split
 ·omega
 ·simp only [ByteArray.size_append]at*
  have e1:(⟨#[111]⟩:ByteArray).size=1:=rfl
  have e2:(⟨#[59]⟩:ByteArray).size=1:=rfl
  omega
theorem sJ (bits:Int) (r:eJ) (s:ByteArray):(rv bits r s).size≤s.size+66*r.trace.length+10:=by
 have h1:=dC (s++⟨#[116]⟩) (wJ r.trace) (As _) r.trace.length
 unfold rv
 split
 ·omega
 ·simp only [ByteArray.size_append]at*
  have e1:(⟨#[116]⟩:ByteArray).size=1:=rfl
  have e2:(⟨#[59]⟩:ByteArray).size=1:=rfl
  omega
theorem F6 {F:Nat→Prop} {H H':AH} {φ:Nat→Nat} (S:P.dx ⟨F,H,φ,[]⟩) (X:Ext H H'):P.dx ⟨F,H',φ,[]⟩:=⟨X.wf S.wf,fun x hx=>Nat.lt_of_lt_of_le (S.fz x hx) X.nx,fun b b' s=>absurd (P.bF s) (Nat.not_lt_zero _),fun b z cs e=>by simp at e,fun b es e=>by simp at e⟩
theorem OJ {F:Nat→Prop} {H H':AH} {φ:Nat→Nat} (S:P.dx ⟨F,H,φ,[]⟩) (X:Ext H H') {p:P.PV} {x:Value} (h:P.RF F H p x):P.RF F H' p x:=P.RF.mono X.n0 (fun x hx=>⟨hx,X.old x (S.fz x hx)⟩) h
def VI (H0:AH) (b bx:Nat) (level bits:Int) (s:ByteArray) (fr:Fr) (H:AH):Prop:=Ext H0 H∧H.bs=some (b,s)∧fr.get 0= .int .i64 level∧fr.get 1= .int .i64 bits∧fr.get 5= .pointer (some ⟨bx,0,none⟩)∧fr.get 7= .pointer (some ⟨b,0,none⟩)∧fr.get 8= .func (.func 82) #[] #[.pointer (some ⟨b,0,none⟩)]
structure BS (r:eJ):Prop where
 en:mi r.en
 cost:mi r.cost
 outs:∀o∈r.outs,mi o.1∧mi o.2
 trace:∀e∈r.trace,mi e.kind∧mi e.at_∧mi e.val
 lo:r.outs.length≤2^31
 lt:r.trace.length≤2^31
theorem JR {level bits:Int} {r:eJ} {F:Nat→Prop} {H:AH} {φ:Nat→Nat} {us uo ut:Value} (S:P.dx ⟨F,H,φ,[]⟩) (ho:P.RF F H (.fs 2 (P.rj r.outs)) uo) (ht:P.RF F H (.fs 3 (P.BJ r.trace)) ut) (k:BS r):
 Ca E O 51 [.int .i64 level,.int .i64 bits,.agg #[.int .i64 r.en,us,uo,ut,.int .i64 r.cost,.int .i64 r.used,.int .i64 r.wh]] H (fun x H'=>x= .string (lM level bits r)∧Ext H H'):=by
 have hw:H.n0≤H.nx:=S.wf
 have SR:Rows H 3 ut (cK r.trace):=P.Af (by simp [P.BJ,cK,Ev.row,P.pi]) ht
 refine Ca.aR (F:=a51) rfl rfl rfl ?_
 have X1:=Ext.alloc H (.cells 7 [.int .i64 r.en,us,uo,ut,.int .i64 r.cost,.int .i64 r.used,.int .i64 r.wh])
 have d0:(H.alloc (.cells 7 [.int .i64 r.en,us,uo,ut,.int .i64 r.cost,.int .i64 r.used,.int .i64 r.wh])).ld ⟨H.nx,0,none⟩=some (.int .i64 r.en):=ai hw rfl
 have d1:(H.alloc (.cells 7 [.int .i64 r.en,us,uo,ut,.int .i64 r.cost,.int .i64 r.used,.int .i64 r.wh])).ld ⟨H.nx,1,none⟩=some us:=ai hw rfl
 have d2:(H.alloc (.cells 7 [.int .i64 r.en,us,uo,ut,.int .i64 r.cost,.int .i64 r.used,.int .i64 r.wh])).ld ⟨H.nx,2,none⟩=some uo:=ai hw rfl
 have d3:(H.alloc (.cells 7 [.int .i64 r.en,us,uo,ut,.int .i64 r.cost,.int .i64 r.used,.int .i64 r.wh])).ld ⟨H.nx,3,none⟩=some ut:=ai hw rfl
 have d4:(H.alloc (.cells 7 [.int .i64 r.en,us,uo,ut,.int .i64 r.cost,.int .i64 r.used,.int .i64 r.wh])).ld ⟨H.nx,4,none⟩=some (.int .i64 r.cost):=ai hw rfl
 have d5:(H.alloc (.cells 7 [.int .i64 r.en,us,uo,ut,.int .i64 r.cost,.int .i64 r.used,.int .i64 r.wh])).ld ⟨H.nx,5,none⟩=some (.int .i64 r.used):=ai hw rfl
 have d6:(H.alloc (.cells 7 [.int .i64 r.en,us,uo,ut,.int .i64 r.cost,.int .i64 r.used,.int .i64 r.wh])).ld ⟨H.nx,6,none⟩=some (.int .i64 r.wh):=ai hw rfl
 have d:(H.alloc (.cells 7 [.int .i64 r.en,us,uo,ut,.int .i64 r.cost,.int .i64 r.used,.int .i64 r.wh])).ldn ⟨H.nx,0,none⟩ 7=some [.int .i64 r.en,us,uo,ut,.int .i64 r.cost,.int .i64 r.used,.int .i64 r.wh]:=ba hw 7 rfl
 generalize cV:H.alloc (.cells 7 [.int .i64 r.en,us,uo,ut,.int .i64 r.cost,.int .i64 r.used,.int .i64 r.wh])=H1 at X1 d0 d1 d2 d3 d4 d5 d6 d
 have bc:=X1.wf hw
 have XB:=Ext.mr H1
 have hbB:(yE H1).bs=some (H1.nx,.empty):=rfl
 have O4:=k.lo
 have ez:ByteArray.empty.size=0:=rfl
 have dm:=k.lt
 refine qz [.r,.r,.r] (VI H1 H1.nx H.nx level bits .empty) rfl ?_ ?_
 case refine_2=>
  intro rest bD
  simp (maxSteps:=4000000)-implicitDefEqProofs+contextual [-X.ev,a51,cV,OG]
  refine bD _ _ ⟨XB,hbB,by simp,by simp,by simp,by simp,by simp⟩
 generalize H1.nx=b
 rintro fr H2 ⟨X2,hb,f0,f1,f5,f7,f8⟩
 refine qz [.r] (VI H1 b H.nx level bits (rq bits r .empty)) rfl ?_ ?_
 case refine_2=>
  intro rest bD
  have ha:=Ar bits 8
  have l0:=X2.ld d0
  have hd:=cP r.en
  by_cases h:mm bits 8=0
  ·simp (maxSteps:=4000000)-implicitDefEqProofs+contextual [-X.ev,a51,f0,f1,f5,f7,f8,ha,h]
   exact bD _ _ ⟨X2,by rw [rq,if_pos h];exact hb,by simp [f0],by simp [f1],by simp [f5],by simp [f7],by simp [f8]⟩
  ·simp (maxSteps:=4000000)-implicitDefEqProofs+contextual [-X.ev,a51,f0,f1,f5,f7,f8,ha,h,l0]
   apply ah
   ·(simp-implicitDefEqProofs [-X.ev,f5,f7];rfl)
   refine (uj k.en).mono ?_
   rintro x H3 ⟨rfl,rfl⟩
   have c1:=db (a:=⟨#[101]⟩) (b:=de r.en) (by show 1+_≤_;omega)
   have c2:=db (a:=⟨#[101]⟩++de r.en) (b:=⟨#[59]⟩) (by rw [ByteArray.size_append];show 1+_+1≤_;omega)
   simp (maxSteps:=4000000)-implicitDefEqProofs+contextual [-X.ev,f5,f7,c1,c2]
   apply ah
   ·(simp-implicitDefEqProofs [-X.ev,f5,f7];rfl)
   refine (fL (t:=⟨#[101]⟩++de r.en++⟨#[59]⟩) hb (by simp only [ByteArray.size_append];show 0+(1+_+1)≤_;omega)).mono ?_
   rintro x H4 ⟨X4,kT⟩
   simp (maxSteps:=4000000)-implicitDefEqProofs+contextual [-X.ev]
   exact bD _ _ ⟨X2.trans X4,by rw [rq,if_neg h];exact kT,by simp [f0],by simp [f1],by simp [f5],by simp [f7],by simp [f8]⟩
 clear X2 hb f0 f1 f5 f7 f8 fr H2
 have z1:=sG bits r .empty
 generalize hE1:rq bits r .empty=s1 at z1⊢
 rintro fr H2 ⟨X2,hb,f0,f1,f5,f7,f8⟩
 refine qz [.r] (VI H1 b H.nx level bits (ru level bits r s1)) rfl ?_ ?_
 case refine_2=>
  intro rest bD
  have ha:=Ar bits 1
  have lq:=X2.wf bc
  by_cases h:mm bits 1=0
  ·simp (maxSteps:=4000000)-implicitDefEqProofs+contextual [-X.ev,a51,f0,f1,f5,f7,f8,ha,h]
   exact bD _ _ ⟨X2,by rw [ru,if_pos h];exact hb,by simp [f0],by simp [f1],by simp [f5],by simp [f7],by simp [f8]⟩
  ·simp (maxSteps:=4000000)-implicitDefEqProofs+contextual [-X.ev,a51,f0,f1,f5,f7,f8,ha,h]
   apply ah
   ·(simp-implicitDefEqProofs [-X.ev,f5,f7];rfl)
   refine (fL (t:=⟨#[111]⟩) hb (by show _+1≤_;omega)).mono ?_
   rintro x H3 ⟨X3,rD⟩
   have l2:=(X2.trans X3).ld d2
   have Xf:=X1.trans (X2.trans X3)
   simp (maxSteps:=4000000)-implicitDefEqProofs+contextual [-X.ev,f0,f5,l2]
   apply ah
   ·(simp-implicitDefEqProofs [-X.ev,f0,f5];rfl)
   refine (JQ (level:=level) (F6 S Xf) (OJ S Xf ho) (by omega)).mono ?_
   rintro x H4 ⟨⟨X4,eD⟩,kT⟩
   rw [rD]at kT
   obtain ⟨T,hT⟩:∃T,da level r.outs=T:=⟨_,rfl⟩
   have htl:T.length≤r.outs.length:=hT▸P.kG
   rw [hT]at eD
   have hX:Ext H1 H4:=(X2.trans X3).trans X4
   obtain ⟨xa,xc,IC⟩:=eD.len
   have hlen:(cz T).length=(T).length:=by simp [cz]
   rw [hlen]at IC
   simp (maxSteps:=4000000)-implicitDefEqProofs+contextual [-X.ev,f5,f7,IC]
   generalize AS:s1++⟨#[111]⟩=s2 at kT
   have aki:s2.size≤s1.size+1:=by rw [←AS,ByteArray.size_append];exact alR _
   have hwG:H4.n0≤H4.nx:=hX.wf bc
   refine b9 (fun k fr H'=>Ext H4 H'∧∃i:Nat,i+k=(T).length∧H'.bs=some (b,cU s2 (kH T) i)∧fr.get 0= .int .i64 level∧fr.get 1= .int .i64 bits∧fr.get 5= .pointer (some ⟨H.nx,0,none⟩)∧fr.get 7= .pointer (some ⟨b,0,none⟩)∧fr.get 8= .func (.func 82) #[] #[.pointer (some ⟨b,0,none⟩)]∧fr.get 30=x∧fr.get 31= .int .i64 (T).length∧fr.get 32= .int .i64 i) ?_ (T).length ⟨Ext.refl _,0,by simp,by simpa [cU]using kT,by simp [f0],by simp [f1],by simp [f5],by simp [f7],by simp [f8],by simp [IC],by simp,by simp⟩
   rintro kk fx H5 ⟨X5,i,hi,uB,g0,g1,g5,g7,g8,gx,gn,gi⟩
   have oO:=X5.wf hwG
   have gA:=dC s2 (kH T) (um _) i
   by_cases ot:i<(T).length
   ·obtain ⟨e,he⟩:∃e,(T)[i]?=some e:=⟨_,alN ot⟩
    have hem:e∈r.outs:=by rw [←hT]at he;exact (List.mem_filter.1 (alS he)).1
    obtain ⟨b1,o1,c1,GL,bN⟩:=(eD.ext X5).at (r:=[.int .i64 e.1,.int .i64 e.2]) (by rw [cz,List.getElem?_map,he];rfl)
    rw [hlen]at GL
    rw [GL]at gx
    obtain ⟨H6,Ix,X6,MU,MW,q,rL⟩:=dJ (H:=H5) oO (z:=2) (c:=[.int .i64 0,.int .i64 0]) (vs:=[.int .i64 e.1,.int .i64 e.2]) rfl
    have q0:H6.ld ⟨H5.nx,0,none⟩=some (.int .i64 e.1):=rL 0 _ rfl
    have q1:H6.ld ⟨H5.nx,1,none⟩=some (.int .i64 e.2):=rL 1 _ rfl
    clear rL
    replace q:H6.ldn ⟨H5.nx,0,none⟩ 2=some [.int .i64 e.1,.int .i64 e.2]:=q
    have DP:=X6.wf oO
    have DQ:=(Ao Ix).trans uB
    have Bi:=X6.wf oO
    have lD:ll 2 1 [.int .i64 0,.int .i64 0] H6 [(0,1,.int .i64 e.1),(1,1,.int .i64 e.2)]=some (.slice (some ⟨H6.nx,0,none⟩) 2 2,H6.alloc (.cells 1 [.int .i64 e.1,.int .i64 e.2])):=rfl
    have X7:=Ext.alloc H6 (.cells 1 [.int .i64 e.1,.int .i64 e.2])
    have vD:=Lo (l:=[e.1,e.2]) Bi
    have DW:(H6.alloc (.cells 1 [.int .i64 e.1,.int .i64 e.2])).bs=some (b,cU s2 (kH T) i):=DQ
    simp only [List.map_cons,List.map_nil,List.length_cons,List.length_nil,Nat.zero_add]at vD
    generalize H6.alloc (.cells 1 [.int .i64 e.1,.int .i64 e.2])=H7 at lD X7 vD DW
    simp (maxSteps:=4000000)-implicitDefEqProofs+contextual [-X.ev,g5,g7,g8,gx,gn,gi,ot,bN,Ix,q0,q1,lD]
    apply ja
    ·(simp-implicitDefEqProofs [-X.ev,-Value.func.injEq,g8,gx];rfl)
    ·(simp-implicitDefEqProofs [-X.ev,g8,gx];rfl)
    refine (Aq (X7.wf Bi) vD (by simp) (by intro n hn;simp only [List.mem_cons,List.not_mem_nil,or_false]at hn;have:=k.outs e hem;rcases hn with rfl|rfl<;>simp [this]) DW (by omega)).mono ?_
    rintro y H8 ⟨X8,RR⟩
    simp (maxSteps:=4000000)-implicitDefEqProofs+contextual [-X.ev,gn,gi]
    refine ⟨kk- 1,by omega,((X5.trans X6).trans X7).trans X8,i+1,by omega,?_,g0,g1,g5,g7,g8,gx.trans GL.symm,aj ⟨by omega,by omega⟩⟩
    rw [RR,cU,List.getD_eq_getElem?_getD,kH,List.getElem?_map,he]
    rfl
   ·obtain rfl:i=(T).length:=by omega
    simp (maxSteps:=4000000)-implicitDefEqProofs+contextual [-X.ev,g5,g7,gx,gn,gi]
    apply ah
    ·(simp-implicitDefEqProofs [-X.ev,g5,g7];rfl)
    refine (fL (t:=⟨#[59]⟩) uB (by show _+1≤_;omega)).mono ?_
    rintro y H6 ⟨X6,DQ⟩
    simp (maxSteps:=4000000)-implicitDefEqProofs+contextual [-X.ev]
    exact bD _ _ ⟨(hX.trans X5).trans X6,by rw [ru,if_neg h,hT,AS];exact DQ,by simp [g0],by simp [g1],by simp [g5],by simp [g7],by simp [g8]⟩
 clear X2 hb f0 f1 f5 f7 f8 fr H2
 have z2:=sI level bits r s1
 generalize hE2:ru level bits r s1=s2 at z2⊢
 rintro fr H2 ⟨X2,hb,f0,f1,f5,f7,f8⟩
 refine qz [.r] (VI H1 b H.nx level bits (rv bits r s2)) rfl ?_ ?_
 case refine_2=>
  intro rest bD
  have ha:=Ar bits 2
  have lq:=X2.wf bc
  by_cases h:mm bits 2=0
  ·simp (maxSteps:=4000000)-implicitDefEqProofs+contextual [-X.ev,a51,f0,f1,f5,f7,f8,ha,h]
   exact bD _ _ ⟨X2,by rw [rv,if_pos h];exact hb,by simp [f0],by simp [f1],by simp [f5],by simp [f7],by simp [f8]⟩
  ·simp (maxSteps:=4000000)-implicitDefEqProofs+contextual [-X.ev,a51,f0,f1,f5,f7,f8,ha,h]
   apply ah
   ·(simp-implicitDefEqProofs [-X.ev,f5,f7];rfl)
   refine (fL (t:=⟨#[116]⟩) hb (by show _+1≤_;omega)).mono ?_
   rintro x H3 ⟨X3,rD⟩
   have l2:=(X2.trans X3).ld d3
   have Xf:=X1.trans (X2.trans X3)
   have eD:=SR.ext Xf
   obtain ⟨x,hx0⟩:∃x,ut=x:=⟨_,rfl⟩
   rw [hx0]at l2 eD
   obtain ⟨H4,VW⟩:∃H4,H3=H4:=⟨_,rfl⟩
   subst VW
   have kT:=rD
   have hX:Ext H1 H3:=X2.trans X3
   obtain ⟨xa,xc,IC⟩:=eD.len
   have hlen:(cK r.trace).length=(r.trace).length:=by simp [cK]
   rw [hlen]at IC
   simp (maxSteps:=4000000)-implicitDefEqProofs+contextual [-X.ev,l2,f5,f7,IC]
   generalize GP:s2++⟨#[116]⟩=s9 at kT
   have Ud:s9.size≤s2.size+1:=by rw [←GP,ByteArray.size_append];exact alR _
   have hwG:H3.n0≤H3.nx:=hX.wf bc
   refine b9 (fun k fr H'=>Ext H3 H'∧∃i:Nat,i+k=(r.trace).length∧H'.bs=some (b,cU s9 (wJ r.trace) i)∧fr.get 0= .int .i64 level∧fr.get 1= .int .i64 bits∧fr.get 5= .pointer (some ⟨H.nx,0,none⟩)∧fr.get 7= .pointer (some ⟨b,0,none⟩)∧fr.get 8= .func (.func 82) #[] #[.pointer (some ⟨b,0,none⟩)]∧fr.get 50=x∧fr.get 51= .int .i64 (r.trace).length∧fr.get 52= .int .i64 i) ?_ (r.trace).length ⟨Ext.refl _,0,by simp,by simpa [cU]using kT,by simp [f0],by simp [f1],by simp [f5],by simp [f7],by simp [f8],by simp [IC],by simp,by simp⟩
   rintro kk fx H5 ⟨X5,i,hi,uB,g0,g1,g5,g7,g8,gx,gn,gi⟩
   have oO:=X5.wf hwG
   have gA:=dC s9 (wJ r.trace) (As _) i
   by_cases ot:i<(r.trace).length
   ·obtain ⟨e,he⟩:∃e,(r.trace)[i]?=some e:=⟨_,alN ot⟩
    have hem:e∈r.trace:=alS he
    obtain ⟨b1,o1,c1,GL,bN⟩:=(eD.ext X5).at (r:=[.int .i64 e.kind,.int .i64 e.at_,.int .i64 e.val]) (by rw [cK,List.getElem?_map,he];rfl)
    rw [hlen]at GL
    rw [GL]at gx
    obtain ⟨H6,Ix,X6,MU,MW,q,rL⟩:=dJ (H:=H5) oO (z:=3) (c:=[.int .i64 0,.int .i64 0,.int .i64 0]) (vs:=[.int .i64 e.kind,.int .i64 e.at_,.int .i64 e.val]) rfl
    have q0:H6.ld ⟨H5.nx,0,none⟩=some (.int .i64 e.kind):=rL 0 _ rfl
    have q1:H6.ld ⟨H5.nx,1,none⟩=some (.int .i64 e.at_):=rL 1 _ rfl
    have q2:H6.ld ⟨H5.nx,2,none⟩=some (.int .i64 e.val):=rL 2 _ rfl
    clear rL
    replace q:H6.ldn ⟨H5.nx,0,none⟩ 3=some [.int .i64 e.kind,.int .i64 e.at_,.int .i64 e.val]:=q
    have DP:=X6.wf oO
    have DQ:=(Ao Ix).trans uB
    have Bi:=X6.wf oO
    have lD:ll 3 1 [.int .i64 0,.int .i64 0,.int .i64 0] H6 [(0,1,.int .i64 e.kind),(1,1,.int .i64 e.at_),(2,1,.int .i64 e.val)]=some (.slice (some ⟨H6.nx,0,none⟩) 3 3,H6.alloc (.cells 1 [.int .i64 e.kind,.int .i64 e.at_,.int .i64 e.val])):=rfl
    have X7:=Ext.alloc H6 (.cells 1 [.int .i64 e.kind,.int .i64 e.at_,.int .i64 e.val])
    have vD:=Lo (l:=[e.kind,e.at_,e.val]) Bi
    have DW:(H6.alloc (.cells 1 [.int .i64 e.kind,.int .i64 e.at_,.int .i64 e.val])).bs=some (b,cU s9 (wJ r.trace) i):=DQ
    simp only [List.map_cons,List.map_nil,List.length_cons,List.length_nil,Nat.zero_add]at vD
    generalize H6.alloc (.cells 1 [.int .i64 e.kind,.int .i64 e.at_,.int .i64 e.val])=H7 at lD X7 vD DW
    simp (maxSteps:=4000000)-implicitDefEqProofs+contextual [-X.ev,g5,g7,g8,gx,gn,gi,ot,bN,Ix,q0,q1,q2,lD]
    apply ja
    ·(simp-implicitDefEqProofs [-X.ev,-Value.func.injEq,g8,gx];rfl)
    ·(simp-implicitDefEqProofs [-X.ev,g8,gx];rfl)
    refine (Aq (X7.wf Bi) vD (by simp) (by intro n hn;simp only [List.mem_cons,List.not_mem_nil,or_false]at hn;have:=k.trace e hem;rcases hn with rfl|rfl|rfl<;>simp [this]) DW (by omega)).mono ?_
    rintro y H8 ⟨X8,RR⟩
    simp (maxSteps:=4000000)-implicitDefEqProofs+contextual [-X.ev,gn,gi]
    refine ⟨kk- 1,by omega,((X5.trans X6).trans X7).trans X8,i+1,by omega,?_,g0,g1,g5,g7,g8,gx.trans GL.symm,aj ⟨by omega,by omega⟩⟩
    rw [RR,cU,List.getD_eq_getElem?_getD,wJ,List.getElem?_map,he]
    rfl
   ·obtain rfl:i=(r.trace).length:=by omega
    simp (maxSteps:=4000000)-implicitDefEqProofs+contextual [-X.ev,g5,g7,gx,gn,gi]
    apply ah
    ·(simp-implicitDefEqProofs [-X.ev,g5,g7];rfl)
    refine (fL (t:=⟨#[59]⟩) uB (by show _+1≤_;omega)).mono ?_
    rintro y H6 ⟨X6,DQ⟩
    simp (maxSteps:=4000000)-implicitDefEqProofs+contextual [-X.ev]
    exact bD _ _ ⟨(hX.trans X5).trans X6,by rw [rv,if_neg h,GP];exact DQ,by simp [g0],by simp [g1],by simp [g5],by simp [g7],by simp [g8]⟩
 clear X2 hb f0 f1 f5 f7 f8 fr H2
 have z3:=sJ bits r s2
 generalize hE3:rv bits r s2=s3 at z3⊢
 rintro fr H2 ⟨X2,hb,f0,f1,f5,f7,f8⟩
 refine qz [.r] (VI H1 b H.nx level bits (yF bits r s3)) rfl ?_ ?_
 case refine_2=>
  intro rest bD
  have ha:=Ar bits 4
  have l0:=X2.ld d4
  have hd:=cP r.cost
  by_cases h:mm bits 4=0
  ·simp (maxSteps:=4000000)-implicitDefEqProofs+contextual [-X.ev,a51,f0,f1,f5,f7,f8,ha,h]
   exact bD _ _ ⟨X2,by rw [yF,if_pos h];exact hb,by simp [f0],by simp [f1],by simp [f5],by simp [f7],by simp [f8]⟩
  ·simp (maxSteps:=4000000)-implicitDefEqProofs+contextual [-X.ev,a51,f0,f1,f5,f7,f8,ha,h,l0]
   apply ah
   ·(simp-implicitDefEqProofs [-X.ev,f5,f7];rfl)
   refine (uj k.cost).mono ?_
   rintro x H3 ⟨rfl,rfl⟩
   have c1:=db (a:=⟨#[99]⟩) (b:=de r.cost) (by show 1+_≤_;omega)
   have c2:=db (a:=⟨#[99]⟩++de r.cost) (b:=⟨#[59]⟩) (by rw [ByteArray.size_append];show 1+_+1≤_;omega)
   simp (maxSteps:=4000000)-implicitDefEqProofs+contextual [-X.ev,f5,f7,c1,c2]
   apply ah
   ·(simp-implicitDefEqProofs [-X.ev,f5,f7];rfl)
   refine (fL (t:=⟨#[99]⟩++de r.cost++⟨#[59]⟩) hb (by simp only [ByteArray.size_append];show _+(1+_+1)≤_;omega)).mono ?_
   rintro x H4 ⟨X4,kT⟩
   simp (maxSteps:=4000000)-implicitDefEqProofs+contextual [-X.ev]
   exact bD _ _ ⟨X2.trans X4,by rw [yF,if_neg h];exact kT,by simp [f0],by simp [f1],by simp [f5],by simp [f7],by simp [f8]⟩
 clear X2 hb f0 f1 f5 f7 f8 fr H2
 rintro fr H2 ⟨X2,hb,f0,f1,f5,f7,f8⟩
 simp (maxSteps:=4000000)-implicitDefEqProofs+contextual [-X.ev,a51,f7]
 apply ah
 ·(simp-implicitDefEqProofs [-X.ev,f7];rfl)
 refine (JO hb).mono ?_
 rintro x H3 ⟨rfl,rfl⟩
 simp (maxSteps:=4000000)-implicitDefEqProofs+contextual [-X.ev]
 exact ⟨by rw [lM,hE1,hE2,hE3],X1.trans X2⟩
end Go.Proofs.YtppcmpmnglaleaaGreatDoor.A
namespace Go.Proofs.YtppcmpmnglaleaaGreatDoor.A.P
open Go Go.RowKit
theorem Fz.Ue {f:Nat} {args:List PV} {y:Value} (k:∀F H φ vs,dx ⟨F,H,φ,[]⟩→cx ⟨F,H,φ,[]⟩ args vs→Ca E O f vs H (fun x H'=>x=y∧Ext H H')):Fz E O f args (.v y):=by
 intro F H φ vs S Rv
 refine (k F H φ vs S Rv).mono ?_
 rintro x H' ⟨rfl,X⟩
 have T:cH 0 rR ⟨F,H,φ,[]⟩ ⟨F,H',φ,[]⟩:=⟨X.n0,X.nx,fun x hx=>⟨hx,X.old x (S.fz x hx)⟩,fun _ _ _ h=>h,fun x hx _=>X.old x hx,fun b hb=>absurd (bF hb) (Nat.not_lt_zero _),fun _=>alR _,fun b hb=>absurd hb (Nat.not_lt_zero _),fun b hb=>absurd hb (Nat.not_lt_zero _),fun b hb=>absurd hb (Nat.not_lt_zero _)⟩
 exact ⟨_,[],F,φ,⟨rfl,rfl,rfl⟩,.v _,F6 S X,T⟩
theorem OK {level bits:Int} {r:eJ} (k:BS r):Fz E O 51 [pi level,pi bits,.agg (cT r)] (.v (.string (lM level bits r))):=
 Fz.Ue fun F H φ vs S Rv=>by
  cases Rv with|cons a Rv=>
  cases Rv with|cons b Rv=>
  cases Rv with|cons c Rv=>
  cases Rv
  cases a;cases b
  obtain ⟨cs,rfl,h⟩:=sr (by simp [cT,yh]) c
  cases h with|cons a h=>
  cases h with|cons vs h=>
  cases h with|cons vo h=>
  cases h with|cons vt h=>
  cases h with|cons b h=>
  cases h with|cons d h=>
  cases h with|cons e h=>
  cases h
  cases a;cases b;cases d;cases e
  exact JR S vo vt k
theorem F7 {level bits:Int} {r:eJ} (k:BS r) (hl:0≤level∧level≤15) (hb:0≤bits∧bits≤15):Fz E O 21 [pi level,pi bits,.agg (cT r)] (.fJ [.v (.string (lM level bits r)),pi 0]):=by
 refine Fz.body (F:=a21) rfl rfl rfl (by simp) ?_
 have h1:¬ level<0:=by omega
 have h2:¬ 15<level:=by omega
 have h3:¬ bits<0:=by omega
 have h4:¬ 15<bits:=by omega
 simp (maxSteps:=4000000)-implicitDefEqProofs [-getElem?_pos,alM,a21,cT,h1,h2,h3,h4]
 refine bA (OK (level:=level) (bits:=bits) k) ?_ ?_ ?_
 iterate 2· simp (maxDischargeDepth:=8)-implicitDefEqProofs [-getElem?_pos,alM,cT]
 simp (maxSteps:=4000000)-implicitDefEqProofs [-getElem?_pos,alM]
theorem OM {v c:Int}:Fz E O 65 [pi v,pi c] (.agg (nj (.mk 1 v c []))):=by
 refine rS.body (F:=US) rfl rfl rfl ?_
 simp (maxSteps:=4000000)-implicitDefEqProofs+contextual [-getElem?_pos,alM,US,nj,iE]
 refine dw ?_
 simp
theorem JS {n:Int}:Fz E O 67 [pi n] (.agg (nj (.mk 0 n 0 []))):=by
 refine rS.body (F:=UU) rfl rfl rfl ?_
 simp (maxSteps:=4000000)-implicitDefEqProofs+contextual [-getElem?_pos,alM,UU,nj,iE]
 refine dw ?_
 simp
theorem Uf {op:Int} {l:List cn}:Fz E O 66 [pi op,.fs 4 (iE l)] (.agg (nj (.mk op 0 0 l))):=by
 refine rS.body (F:=UT) rfl rfl rfl ?_
 simp (maxSteps:=4000000)-implicitDefEqProofs+contextual [-getElem?_pos,alM,UT,nj,iE]
 refine dw ?_
 simp
def yG:Option PB→List PV
 |some (.cells _ cs)=>cs
 |_=>[]
def Lp (sz:Nat):Option PB→Bool
 |some (.cells z cs)=>decide (z=sz)
 |_=>false
theorem Au {A:Nat→Prop} {h:PH}:∀{ps qs:List PV},BF A h ps qs→ps.length=qs.length
 |[],[],_=>rfl
 |p::ps,q::qs,k=>by simp [Au k.2]
 |[],q::qs,k=>k.elim
 |p::ps,[],k=>k.elim
theorem rz {A:Nat→Prop} {h:PH} {sz b n:Nat} {rows:List (List PV)} (hA:A b) (hb:Lp sz h[b]?=true) (hz:0<sz) (hl:rows.length=n) (hr:∀r∈rows,r.length=sz) (hv:BF A h (yG h[b]?) rows.flatten):Vz A h (.sl sz b 0 n n) (.fs sz rows)↔True:=⟨fun _=>trivial,fun _=>by
 unfold Lp at hb
 split at hb
 case h_2=>cases hb
 rename_i z cs e
 simp only [alZ]at hb
 subst hb
 rw [e]at hv
 have e2:rows.flatten.length=n*z:=by
  rw [←hl]
  clear hv hl
  induction rows with
  |nil=>simp
  |cons r l ih=>simp [hr r (by simp),ih fun x hx=>hr x (by simp [hx]),Nat.succ_mul];omega
 have hlen:cs.length=n*z:=by
  exact (Au hv).trans e2
 refine Lb hA e (by simp [hlen]) hz (alR _) (alR _) hl hr ?_
 simp only [Nat.zero_mul,List.drop_zero]
 rw [alU (by omega)]
 exact hv⟩
theorem kI {A:Nat→Prop} {σ:Nat→Nat} {h bs:PH} {sz b n:Nat} {rows:List (List PV)} (hA:A b) (hb:Lp sz h[b]?=true) (hz:0<sz) (hl:rows.length=n) (hr:∀r∈rows,r.length=sz) (hv:BF A h (yG h[b]?) rows.flatten):Vg A σ h bs (.sl sz b 0 n n) (.fs sz rows)↔True:=⟨fun _=>trivial,fun _=>ye ((rz hA hb hz hl hr hv).2 trivial)⟩
def Av:bI:=.mk 4 0 [] [] []
def ON:cn:=.mk 13 0 0 [.mk 1 0 0 [],.mk 0 1 0 []]
def mn:bH:=⟨1,[⟨⟨#[104]⟩,1,1⟩],[Av,.mk 1 0 [ON] [Av] []]⟩
theorem Ug:Fz E O 36 [] (.agg (bB mn)):=by
 refine rS.body (F:=UJ) rfl rfl rfl ?_
 simp (maxSteps:=4000000)-implicitDefEqProofs+contextual [-getElem?_pos,alM,UJ]
 refine bA (OM (v:=0) (c:=0)) ?_ ?_ ?_
 iterate 2· simp (maxDischargeDepth:=8)-implicitDefEqProofs [-getElem?_pos,alM]
 simp (maxSteps:=4000000)-implicitDefEqProofs+contextual [-getElem?_pos,alM,nj,iE]
 refine bA (JS (n:=1)) ?_ ?_ ?_
 iterate 2· simp (maxDischargeDepth:=8)-implicitDefEqProofs [-getElem?_pos,alM]
 simp (maxSteps:=4000000)-implicitDefEqProofs+contextual [-getElem?_pos,alM,nj,iE]
 refine rf [5] (Uf (op:=13) (l:=[.mk 1 0 0 [],.mk 0 1 0 []])) ?_ ?_
 ·simp (maxDischargeDepth:=8)-implicitDefEqProofs [-getElem?_pos,alM,nj,iE,kI,Lp,yG]
 simp (maxSteps:=4000000)-implicitDefEqProofs+contextual [-getElem?_pos,alM,nj,iE,dI]
 refine dw ?_
 simp (maxDischargeDepth:=12)-implicitDefEqProofs [bB,mn,ON,Av,FF,rh,nj,iE,ri,FG,kI,rz,Lp,yG,rR]
open Go Go.RowKit
def JT (c:eK):Prop:=0≤c.en∧c.en≤4
theorem JU {p:bH} {ps:List Int} {c:eK} (h:JT c):JT (du p ps c):=by
 unfold du
 split
 ·exact h
 split
 ·exact h
 split
 ·exact ⟨by simp [ek],by simp [ek]⟩
 ·rename_i k s next _ _
  obtain ⟨op,n,args,aB,aC⟩:=s
  unfold kr
  repeat' split
  all_goals first
   |exact h
   |exact ⟨by simp [ek],by simp [ek]⟩
theorem Aw {p:bH} {ps:List Int}:∀(n:Nat) {c:eK},JT c→JT (iterM p ps n c)
 |0,_,h=>h
 |n+1,_,h=>Aw n (JU h)
theorem OO (p:bH) (fuel:Int) (t:fy):0≤(lr p fuel t).en∧(lr p fuel t).en≤4:=by
 unfold lr
 split
 ·exact Aw _ (c:=jA p fuel t) ⟨by simp [jA],by simp [jA]⟩
 ·exact ⟨by decide,by decide⟩
def bump (a:List Int) (e:Nat):List Int:=a.set e (a.getD e 0+1)
def dQ (p:bH) (fuel:Int) (l:List fy):Nat→List Int
 |0=>[0,0,0,0,0]
 |j+1=>bump (dQ p fuel l j) (lr p fuel (l.getD j ⟨[],[]⟩)).en.toNat
theorem wK (p:bH) (fuel:Int) (l:List fy):∀j,(dQ p fuel l j).length=5
 |0=>rfl
 |j+1=>by simp [dQ,bump,wK p fuel l j]
theorem Ax (p:bH) (fuel:Int) (l:List fy):∀j,∀x∈dQ p fuel l j,0≤x∧x≤j
 |0,x,h=>by simp [dQ]at h;subst h;simp
 |j+1,x,h=>by
  have ih:=Ax p fuel l j
  rcases List.mem_or_eq_of_mem_set h with h|h
  ·have:=ih x h;omega
  ·rw [h,List.getD_eq_getElem?_getD]
   cases hx:(dQ p fuel l j)[(lr p fuel (l.getD j ⟨[],[]⟩)).en.toNat]? with
   |none=>simp;omega
   |some y=>have:=ih y (alS hx);simp;omega
def Lq (p:bH) (fuel:Int):List PV:=
 if ew p fuel≠0 then [.agg [pi 0,pi 0,pi 0,pi 0,pi 0],pi (ew p fuel)]else match iR p fuel with
  |some l=>[.agg ((dQ p fuel l l.length).map pi),pi 0]
  |none=>[.agg [pi 0,pi 0,pi 0,pi 0,pi 0],pi 5]
def NH (p:bH) (c:List Int):PH:=[.cells 3 (bB p),.cells 5 [pi 0,pi 0,pi 0,pi 0,pi 0],.cells 5 (c.map pi)]
def NL (fuel:Int) (e:Int) (l:List fy) (j:Nat):List (Nat×PV):=[(1,pi fuel),(2,.ref 0 0 3),(4,.ref 1 0 5),(7,pi e),(8,.ref 2 0 5),(19,.fs 2 (str l)),(20,pi l.length),(21,pi j)]
def NI (p:bH) (fuel e:Int) (l:List fy) (j:Nat) (fr:PF) (h:PH):Prop:=h=NH p (dQ p fuel l j)∧∀t∈NL fuel e l j,fr.get t.1=t.2
theorem F8 {p:bH} {fuel e:Int} {l:List fy} {j:Nat}:NI p fuel e l j (PF.xb (NL fuel e l j)) (NH p (dQ p fuel l j)):=⟨rfl,fun t ht=>by
 simp only [NL,List.mem_cons,List.not_mem_nil,or_false]at ht
 rcases ht with rfl|rfl|rfl|rfl|rfl|rfl|rfl|rfl<;>simp [NL]⟩
theorem uq (l:List Int):dN (l.map pi)=true:=by
 induction l with
 |nil=>rfl
 |cons a l ih=>simp [ih]
theorem wL {α:Type} {q:α}:∀{xs:List (Option (List α))} {l:List α},jG xs=some l→q∈l→∃m,some m∈xs∧q∈m
 |[],l,e,h=>by simp [jG]at e;subst e;simp at h
 |x::xs,l,e,h=>by
  simp only [jG]at e
  cases x with
  |none=>simp at e
  |some m=>
   cases hc:jG xs with
   |none=>simp [hc]at e
   |some b=>
    simp only [hc,Option.bind_some,Option.map_some,alO]at e
    subst e
    rcases List.mem_append.1 h with h|h
    ·exact ⟨m,by simp,h⟩
    ·obtain ⟨m',h1,h2⟩:=wL hc h
     exact ⟨m',by simp [h1],h2⟩
def okQ (q:List Int):Prop:=∀n∈q,0≤n∧n<256
theorem sK {p:bH} {fuel:Int} {s:List Int} (hN:bV p≤256):∀(d:Nat) {ps:List Int} {l:List (List Int)},leaves p fuel s d ps=some l→okQ ps→∀q∈l,q.length≤ps.length+d∧okQ q
 |0,ps,l,e,h,q,hq=>by
  rw [leaves]at e
  split at e
  ·cases e
  ·cases e;simp at hq;subst hq;exact ⟨by simp,h⟩
 |d+1,ps,l,e,h,q,hq=>by
  rw [leaves]at e
  split at e
  ·obtain ⟨m,h1,h2⟩:=wL e hq
   simp only [List.mem_map]at h1
   obtain ⟨u,hu,e2⟩:=h1
   have hl:=nq hu
   have hku:okQ u:=by
    simp only [kids,List.mem_map,List.mem_range]at hu
    obtain ⟨a,ha,rfl⟩:=hu
    intro n hn
    rcases List.mem_append.1 hn with h3|h3
    ·exact h n h3
    ·simp at h3;omega
   have:=sK hN d e2 hku q h2
   exact ⟨by omega,this.2⟩
  ·cases e;simp at hq;subst hq;exact ⟨by simp,h⟩
theorem OP {p:bH} {fuel:Int} {s:List Int} {most:Nat} {m:List (List Int)} (hp:bQ p=true) (hs:s.length<2^60) (Ln:∀n∈s,e8 n) (h:ofM p fuel s most=some m):∀t∈pQ s m,ym t:=by
 unfold ofM at h
 cases hl:nr p fuel s with
 |none=>simp [hl]at h
 |some l=>
  simp [hl]at h
  obtain ⟨_,rfl⟩:=h
  intro t ht
  simp only [pQ,List.mem_map]at ht
  obtain ⟨q,hq,rfl⟩:=ht
  have:=sK (sA hp) _ hl (by intro n hn;simp at hn) q hq
  refine ⟨hs,by have:=this.1;simp at this;show q.length<_;omega,Ln,fun n hn=>?_⟩
  have:=this.2 n hn
  exact ⟨by omega,by omega⟩
theorem F9 {p:bH} {fuel:Int} (h:bQ p=true):∀{n:Nat} {l:List fy},eE p fuel n=some l→∀t∈l,ym t
 |0,l,e=>by simp [eE]at e;subst e;simp
 |n+1,l,e=>by
  simp only [eE]at e
  cases h1:eE p fuel n with
  |none=>simp [h1]at e
  |some l1=>
   have hl:=F9 h h1
   simp only [h1,Option.bind_some]at e
   cases h2:ofM p fuel (ep p n) (16384- l1.length)with
   |none=>simp [h2]at e
   |some m=>
    simp [h2]at e
    subst e
    intro t ht
    rcases List.mem_append.1 ht with ht|ht
    ·exact hl t ht
    ·have:=sD h n
     exact OP h (show(ep p n).length<2^60 by omega) (fun x hx=>wE (oi (sy h) _ x hx)) h2 t ht
theorem wM {p:bH} {fuel:Int} (h:bQ p=true) {l:List fy} (e:iR p fuel=some l):(∀t∈l,ym t)∧l.length≤16384:=by
 unfold iR at e
 split at e
 ·exact ⟨F9 h e,uh e⟩
 ·cases e
theorem wN {p:bH} {fuel:Int}:∃x e l,wG p fuel=[x,pi e]∧(x= .fs 2 (str l)∨(x=jS∧l=[]))∧Lq p fuel=[.agg ((dQ p fuel l l.length).map pi),pi e]∧(∀t∈l,ym t)∧l.length≤16384:=by
 by_cases hf:ew p fuel=0
 case neg=>exact ⟨jS,ew p fuel,[],by simp [wG,hf],.inr ⟨rfl,rfl⟩,by simp [Lq,hf,dQ],by simp,by simp⟩
 have hp:bQ p=true:=by
  cases h:bQ p with
  |true=>rfl
  |false=>simp [ew,h]at hf
 cases he:iR p fuel with
 |none=>exact ⟨jS,5,[],by simp [wG,hf,he],.inr ⟨rfl,rfl⟩,by simp [Lq,hf,he,dQ],by simp,by simp⟩
 |some l=>exact ⟨.fs 2 (str l),0,l,by simp [wG,hf,he],.inl rfl,by simp [Lq,hf,he],(wM hp he).1,(wM hp he).2⟩
theorem Ga {c:List Int} {k:Nat} (hk:k<c.length):rP (c.map pi) k [pi (c.getD k 0+1)]=(bump c k).map pi:=by
 rw [uc (by simpa using hk)]
 simp [bump]
theorem Fz.nil {f sz:Nat} {args:List PV} {y:PV} (k:Fz E O f args (.fJ [jS,y])):Fz E O f args (.fJ [.fs sz [],y]):=by
 intro F H φ vs S Rv
 refine (k F H φ vs S Rv).mono ?_
 rintro x H' ⟨r,h',F',cN,⟨rfl,rfl,hf⟩,hr,S',T⟩
 refine ⟨_,[],F',cN,⟨rfl,rfl,by simpa using hf⟩,?_,S',T⟩
 cases hr with|fJ a=>
 cases a with|cons a b=>
 cases a
 exact .fJ (.cons (.fs (.fs (rows:=[]) (rs:=[]) ⟨_,_,rfl,fun i r hi=>by simp at hi⟩ (alR _) (fun d hd=>by cases hd) .nil)) b)
theorem JV {p:bH} {fuel:Int} (lK:nk p):∃e l,Fz E O 17 [.agg (bB p),pi fuel] (.fJ [.fs 2 (str l),pi e])∧(wG p fuel=[.fs 2 (str l),pi e]∨(wG p fuel=[jS,pi e]∧l=[]))∧Lq p fuel=[.agg ((dQ p fuel l l.length).map pi),pi e]∧(∀t∈l,ym t)∧l.length≤16384:=by
 obtain ⟨x,e,l,h1,hx,h2,Xg,hl⟩:=wN (p:=p) (fuel:=fuel)
 have hE:=An (fuel:=fuel) lK
 rw [h1]at hE
 rcases hx with rfl|⟨rfl,rfl⟩
 ·exact ⟨e,l,hE,.inl h1,h2,Xg,hl⟩
 ·exact ⟨e,[],hE.nil,.inr ⟨h1,rfl⟩,h2,Xg,hl⟩
theorem OQ {p:bH} {fuel:Int} (lK:nk p):Fz E O 18 [.agg (bB p),pi fuel] (.fJ (Lq p fuel)):=by
 refine rS.body (F:=UI) rfl rfl rfl ?_
 obtain ⟨e,l,hE,_,h2,Xg,hl⟩:=JV (p:=p) (fuel:=fuel) lK
 rw [h2]
 simp (maxSteps:=4000000)-implicitDefEqProofs+contextual [-getElem?_pos,alM,UI,bB]
 refine bA (hE) ?_ ?_ ?_
 iterate 2· simp (maxDischargeDepth:=8)-implicitDefEqProofs [-getElem?_pos,alM,bB]
 simp (maxSteps:=4000000)-implicitDefEqProofs+contextual [-getElem?_pos,alM]
 refine iC (NI p fuel e l) l.length (ei (h2:=NH p (dQ p fuel l 0)) [0,1,2] (NL fuel e l 0) ?_ ?_ ?_ ?_ ?_ ?_) F8 ?_
 ·simp [NH,NL,bB,dQ]
 iterate 2· simp
 ·intro b hb;omega
 iterate 2· simp (maxDischargeDepth:=8)-implicitDefEqProofs [a6,alM,NH,NL,bB,dQ]
 rintro j fr h hj ⟨rfl,iX⟩
 simp only [NL,List.mem_cons,List.not_mem_nil,or_false,forall_eq_or_imp,forall_eq]at iX
 obtain ⟨f1,f2,f4,f7,f8,f19,f20,f21⟩:=iX
 have nv:=wK p fuel l j
 by_cases uv:j<l.length
 ·obtain ⟨t,ht⟩:∃t,l[j]?=some t:=⟨_,alN uv⟩
  have hr:=OO p fuel t
  have xA:dQ p fuel l (j+1)=bump (dQ p fuel l j) (lr p fuel t).en.toNat:=by rw [dQ,List.getD_eq_getElem?_getD,ht];rfl
  have hb:=Ax p fuel l j
  have hM:=FM (fuel:=fuel) lK (Xg t (alS ht))
  have w4:IntKind.i64.wrap ((j:Int)+1)=((j+1:Nat):Int):=aj ⟨by omega,by omega⟩
  obtain ⟨k,hk⟩:∃k:Nat,(lr p fuel t).en=k:=⟨(lr p fuel t).en.toNat,by omega⟩
  rw [hk,Int.toNat_natCast]at xA
  obtain ⟨c,hc⟩:∃c,dQ p fuel l j=c:=⟨_,rfl⟩
  rw [hc]at nv hb xA
  have hkc:k<c.length:=by omega
  have hg:(c.map pi)[k]?=some (pi (c.getD k 0)):=by simp [alN hkc]
  have hm:c.getD k 0∈c:=by rw [List.getD_eq_getElem?_getD,alN hkc];exact List.getElem_mem _
  have hbx:=hb _ hm
  have w5:IntKind.i64.wrap (c.getD k 0+1)=c.getD k 0+1:=aj ⟨by omega,by omega⟩
  have hps:=Ga hkc
  have V9:k<5:=by omega
  have hk6:(k:Int)<5:=by omega
  have hk7:k≤4:=by omega
  obtain ⟨g,hgg⟩:∃g,c.getD k 0=g:=⟨_,rfl⟩
  rw [hgg]at hg w5 hps
  simp (maxSteps:=4000000)-implicitDefEqProofs+contextual [-getElem?_pos,alM,f1,f2,f4,f7,f8,f19,f20,f21,uv,Ah,ht,NH,bB,ij,hc]
  refine bA (hM) ?_ ?_ ?_
  iterate 2· simp (maxDischargeDepth:=8)-implicitDefEqProofs [-getElem?_pos,alM,bB,ij]
  simp (maxSteps:=4000000)-implicitDefEqProofs+contextual [-getElem?_pos,alM,cT,hk,f8,V9,hk6,hk7,hg,hps,w5,f21,w4,nv]
  refine .tW uv (ei (h2:=NH p (dQ p fuel l (j+1))) [0,1,2] (NL fuel e l (j+1)) ?_ ?_ ?_ ?_ ?_ ?_) F8
  ·simp [NH,NL,bB,xA,f1,f2,f4,f7,f8,f19,f20,uq]
  iterate 2· simp
  ·intro b hb;omega
  iterate 2· simp (maxDischargeDepth:=8)-implicitDefEqProofs [a6,alM,NH,NL,bB,xA,f1,f2,f4,f7,f8,f19,f20,uq]
 ·obtain rfl:j=l.length:=by omega
  have h5:List.take 5 ((dQ p fuel l l.length).map pi)=(dQ p fuel l l.length).map pi:=alU (by simp [nv])
  simp (maxSteps:=4000000)-implicitDefEqProofs+contextual [-getElem?_pos,alM,f1,f2,f4,f7,f8,f19,f20,f21,NH,bB,nv,h5]
  refine dw ?_
  simp [uq]
end Go.Proofs.YtppcmpmnglaleaaGreatDoor.A.P
namespace Go.Proofs.YtppcmpmnglaleaaGreatDoor.A.P
open Go Go.RowKit
theorem JW:bQ mn=true:=by decide+kernel
theorem OR:ofM mn 9 [0] 16384=some [[0],[1,0],[1,1]]:=by decide+kernel
theorem Gb:lM 1 5 ⟨0,[],[(1,1),(2,1),(0,0)],[],4,0,0⟩=⟨#[111,32,49,58,49,32,48,58,48,59,99,52,59]⟩:=by decide+kernel
def Gc:List fy:=[⟨[0],[0]⟩,⟨[0],[1,0]⟩,⟨[0],[1,1]⟩,⟨[1],[0]⟩,⟨[1],[1,0]⟩,⟨[1],[1,1]⟩]
instance:DecidableEq fy:=fun a b=>decidable_of_iff (a.store=b.store∧a.bR=b.bR) (by cases a;cases b;simp)
theorem sL:iR mn 9=some Gc:=by decide+kernel
theorem Gd:dQ mn 9 Gc 6=[6,0,0,0,0]:=by decide+kernel
theorem yH:nk mn:=by
 have i0:e8 0:=⟨by decide,by decide⟩
 have i1:e8 1:=⟨by decide,by decide⟩
 have i4:e8 4:=⟨by decide,by decide⟩
 have i13:e8 13:=⟨by decide,by decide⟩
 refine ⟨i1,⟨by decide,?_⟩,?_,by decide⟩
 ·intro v hv
  simp only [mn,List.mem_singleton]at hv
  subst hv
  decide
 ·simp [mn,BI,WZ,WY,FH,ON,Av,i0,i1,i4,i13]
theorem rA:ew mn 9=0:=by simp [ew,JW]
theorem JX:BQ mn 9 [0]=[.fs 2 (str (pQ [0] [[0],[1,0],[1,1]])),pi 0]:=by
 have h:bX mn.w mn.vars [0]=true:=by decide+kernel
 simp [BQ,rA,h,OR,yA]
theorem JY:wG mn 9=[.fs 2 (str Gc),pi 0]:=by simp [wG,rA,sL]
theorem JZ:Lq mn 9=[.agg [pi 6,pi 0,pi 0,pi 0,pi 0],pi 0]:=by
 simp only [Lq,rA,sL]
 rw [show Gc.length=6 from rfl,Gd]
 rfl
def wO:eJ:=⟨0,[],[(1,1),(2,1),(0,0)],[],4,0,0⟩
theorem Ge:BS wO:=⟨⟨by decide,by decide⟩,⟨by decide,by decide⟩,by simp [wO,mi],by simp [wO],by decide,by decide⟩
theorem J0:Fz E O 11 [] (pb true):=by
 refine rS.body (F:=UF) rfl rfl rfl ?_
 have hO:=ac3 (fuel:=9) (s:=[0]) yH (by decide) (by intro n hn;simp at hn;subst hn;exact ⟨by decide,by decide⟩)
 have hE:=An (fuel:=9) yH
 have hN:=OQ (fuel:=9) yH
 rw [JX]at hO
 rw [JY]at hE
 rw [JZ]at hN
 have hV:=F7 (level:=1) (bits:=5) Ge (by decide) (by decide)
 rw [show lM 1 5 wO=_ from Gb]at hV
 have hS:=Ox (l:=pQ [0] [[0],[1,0],[1,1]]) (by
  intro t ht
  simp [pQ]at ht
  rcases ht with rfl|rfl|rfl<;>exact ⟨by decide,by decide,by simp [e8],by simp [e8]⟩) (by decide)
 simp (maxSteps:=4000000)-implicitDefEqProofs+contextual [-getElem?_pos,alM,UF]
 refine bA (Ug) ?_ ?_ ?_
 iterate 2· simp (maxDischargeDepth:=8)-implicitDefEqProofs [-getElem?_pos,alM]
 simp (maxSteps:=4000000)-implicitDefEqProofs+contextual [-getElem?_pos,alM,bB]
 refine rf [1] (hO) ?_ ?_
 ·simp (maxDischargeDepth:=8)-implicitDefEqProofs [-getElem?_pos,alM,bB,kI,Lp,yG]
 simp (maxSteps:=4000000)-implicitDefEqProofs+contextual [-getElem?_pos,alM,bB,dI]
 refine bA (hE) ?_ ?_ ?_
 iterate 2· simp (maxDischargeDepth:=8)-implicitDefEqProofs [-getElem?_pos,alM,bB]
 simp (maxSteps:=4000000)-implicitDefEqProofs+contextual [-getElem?_pos,alM,bB]
 refine bA (hN) ?_ ?_ ?_
 iterate 2· simp (maxDischargeDepth:=8)-implicitDefEqProofs [-getElem?_pos,alM,bB]
 simp (maxSteps:=4000000)-implicitDefEqProofs+contextual [-getElem?_pos,alM,bB]
 refine rf [3] (hV) ?_ ?_
 ·simp (maxDischargeDepth:=8)-implicitDefEqProofs [-getElem?_pos,alM,cT,wO,kI,Lp,yG,rj,BJ,ir]
 simp (maxSteps:=4000000)-implicitDefEqProofs+contextual [-getElem?_pos,alM,dI]
 refine rf [4,5,6,7,8,9,10] (hS) ?_ ?_
 ·simp (maxDischargeDepth:=8)-implicitDefEqProofs [-getElem?_pos,alM,kI,rz,Lp,yG,str,pQ,ij,ir]
 have h6:Gc.length=6:=rfl
 simp (maxSteps:=4000000)-implicitDefEqProofs [-getElem?_pos,alM,dI,h6,cq,fZ]
 rw [show ch ⟨#[111,32,49,58,49,32,48,58,48,59,99,52,59]⟩ ⟨#[111,32,49,58,49,32,48,58,48,59,99,52,59]⟩=true by decide]
 refine dw ?_
 simp
end Go.Proofs.YtppcmpmnglaleaaGreatDoor.A.P
