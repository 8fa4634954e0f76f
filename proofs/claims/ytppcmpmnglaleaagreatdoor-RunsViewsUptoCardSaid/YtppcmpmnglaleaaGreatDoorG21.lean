/- Texts that stand one behind the other: V11, V12, V13. -/
import Derived.Test.YtppcmpmnglaleaaGreatDoorG20
set_option linter.unusedVariables false
set_option linter.unusedSimpArgs false
set_option maxRecDepth 10000
namespace Go.Proofs.YtppcmpmnglaleaaGreatDoor.A.P
open Go Go.RowKit
def pq (d:Nat):ByteArray:=⟨#[UInt8.ofNat (48+d)]⟩
def il (n:Nat):ByteArray:=if n<10 then pq n else il (n/10)++pq (n%10)
def Gf (n:Int):ByteArray:=if n<0 then⟨#[45]⟩++il n.natAbs else il n.toNat
theorem pS {d:Nat} (h:d<10):Utf8.encode (48+(d:Int))=pq d:=by
 have:d=0∨d=1∨d=2∨d=3∨d=4∨d=5∨d=6∨d=7∨d=8∨d=9:=by omega
 rcases this with rfl|rfl|rfl|rfl|rfl|rfl|rfl|rfl|rfl|rfl<;>decide+kernel
theorem gK (d:Nat):(pq d).size=1:=rfl
theorem sM:∀(k n:Nat),n<10^(k+1)→(il n).size≤k+1
 |0,n,h=>by
  rw [il,if_pos (by simpa using h),gK]
  exact alR _
 |k+1,n,h=>by
  rw [il]
  split
  ·rw [gK];omega
  ·have:=sM k (n/10) (by rw [Nat.pow_succ]at h;omega)
   rw [ByteArray.size_append,gK]
   omega
theorem Ay {n:Nat} (h:n<2^64):(il n).size≤20:=sM 19 n (by omega)
theorem rB:∀n:Nat,n<2^63→Fz E O 53 [pi n] (.v (.string (il n))):=by
 intro n
 induction n using Nat.strongRecOn with
 |_ n ih=>
  intro hn
  refine Fz.body (F:=a53) rfl rfl rfl rfl ?_
  have h0:¬ (n:Int)<0:=by omega
  by_cases h:n<10
  ·have h1:(n:Int)<10:=by omega
   have w1:IntKind.i64.wrap (48+(n:Int))=48+n:=aj ⟨by omega,by omega⟩
   have w2:IntKind.i32.wrap (48+(n:Int))=48+n:=by simp [IntKind.wrap,IntKind.bits,IntKind.signed];omega
   have e:il n=pq n:=by rw [il,if_pos h]
   rw [e]
   simp (maxSteps:=4000000)-implicitDefEqProofs [-getElem?_pos,alM,a53,h0,h1,w1,w2,pS h]
  ·have h1:¬ (n:Int)<10:=by omega
   have hd:n%10<10:=Nat.mod_lt _ (by omega)
   have q1:bq .quo (.int .i64 n) (.int .i64 10)=some (.int .i64 ((n/10:Nat):Int)):=by
    have:IntKind.i64.wrap ((n:Int)/10)=(n:Int)/10:=aj ⟨by omega,by omega⟩
    simp [bq,cd,eX,Int.tdiv_eq_ediv_of_nonneg,this]
   have q2:bq .rem (.int .i64 n) (.int .i64 10)=some (.int .i64 ((n%10:Nat):Int)):=by
    simp [bq,cd,eX,Int.tmod_eq_emod_of_nonneg]
   have w1:IntKind.i64.wrap (48+((n%10:Nat):Int))=48+((n%10:Nat):Int):=aj ⟨by omega,by omega⟩
   have w2:IntKind.i32.wrap (48+((n%10:Nat):Int))=48+((n%10:Nat):Int):=by simp [IntKind.wrap,IntKind.bits,IntKind.signed];omega
   have hD:=ih (n/10) (by omega) (by omega)
   have gA:=Ay (n:=n/10) (by omega)
   have e:il n=il (n/10)++pq (n%10):=by rw [il,if_neg h]
   rw [e]
   have hc:=db (a:=il (n/10)) (b:=pq (n%10)) (by rw [gK];omega)
   have OS:=pS hd
   obtain ⟨a,ha⟩:∃a,n/10=a:=⟨_,rfl⟩
   obtain ⟨b,hb⟩:∃b,n%10=b:=⟨_,rfl⟩
   rw [ha]at q1 hD hc⊢
   rw [hb]at q2 w1 w2 OS hc⊢
   simp (maxSteps:=4000000)-implicitDefEqProofs [-getElem?_pos,alM,a53,h0,h1,q1]
   refine bA (hD) ?_ ?_ ?_
   iterate 2· simp (maxDischargeDepth:=8)-implicitDefEqProofs [-getElem?_pos,alM]
   simp (maxSteps:=4000000)-implicitDefEqProofs [-getElem?_pos,alM,q2,w1,w2,OS,hc]
theorem Gg {n:Int} (hn:e8 n):Fz E O 53 [pi n] (.v (.string (Gf n))):=by
 by_cases h0:n<0
 case neg=>
  obtain ⟨m,rfl⟩:=Int.eq_ofNat_of_zero_le (show 0≤n by omega)
  have h1:=hn.2
  have:=rB m (by omega)
  rw [Gf,if_neg h0]
  exact this
 rw [Gf,if_pos h0]
 have hb:=hn.1
 obtain ⟨m,hm⟩:∃m:Nat,n=-(m:Int):=⟨n.natAbs,by omega⟩
 have hna:n.natAbs=m:=by omega
 rw [hna]
 have Np:0<m:=by omega
 refine Fz.body (F:=a53) rfl rfl rfl rfl ?_
 by_cases h:m<10
 ·have h1:(-10:Int)<n:=by omega
  have w1:IntKind.i64.wrap (48- n)=48+(m:Int):=by rw [show 48- n=48+(m:Int) by omega];exact aj ⟨by omega,by omega⟩
  have w2:IntKind.i32.wrap (48+(m:Int))=48+m:=by simp [IntKind.wrap,IntKind.bits,IntKind.signed];omega
  have e:il m=pq m:=by rw [il,if_pos h]
  have hc:=db (a:=⟨#[45]⟩) (b:=pq m) (by rw [gK];decide)
  have OS:=pS h
  rw [e]
  simp (maxSteps:=4000000)-implicitDefEqProofs [-getElem?_pos,alM,a53,h0,h1,w1,w2,OS,hc]
 ·have h1:¬ (-10:Int)<n:=by omega
  have hd:m%10<10:=Nat.mod_lt _ (by omega)
  have q0:n.tdiv 10=-((m/10:Nat):Int):=by rw [hm,Int.neg_tdiv,Int.tdiv_eq_ediv_of_nonneg (by omega)];rfl
  have q1:bq .quo (.int .i64 n) (.int .i64 10)=some (.int .i64 (-((m/10:Nat):Int))):=by
   have:IntKind.i64.wrap (-((m/10:Nat):Int))=-((m/10:Nat):Int):=aj ⟨by omega,by omega⟩
   simp only [bq,cd,eX]
   rw [if_pos trivial,if_neg (by decide),q0,this]
  have q2:bq .rem (.int .i64 n) (.int .i64 10)=some (.int .i64 (-((m%10:Nat):Int))):=by
   simp only [bq,cd,eX]
   rw [if_pos trivial,if_neg (by decide),hm,Int.neg_tmod,Int.tmod_eq_emod_of_nonneg (by omega)]
   rfl
  have w0:IntKind.i64.wrap ((m/10:Nat):Int)=((m/10:Nat):Int):=aj ⟨by omega,by omega⟩
  have w1:IntKind.i64.wrap (48+((m%10:Nat):Int))=48+((m%10:Nat):Int):=aj ⟨by omega,by omega⟩
  have w2:IntKind.i32.wrap (48+((m%10:Nat):Int))=48+((m%10:Nat):Int):=by simp [IntKind.wrap,IntKind.bits,IntKind.signed];omega
  have hD:=rB (m/10) (by omega)
  have gA:=Ay (n:=m/10) (by omega)
  have e:il m=il (m/10)++pq (m%10):=by rw [il,if_neg h]
  rw [e]
  have Gx:=db (a:=⟨#[45]⟩) (b:=il (m/10)) (by show 1+_≤_;omega)
  have LK:=db (a:=⟨#[45]⟩++il (m/10)) (b:=pq (m%10)) (by rw [ByteArray.size_append,gK];show 1+_+1≤_;omega)
  have OS:=pS hd
  obtain ⟨a,ha⟩:∃a,m/10=a:=⟨_,rfl⟩
  obtain ⟨b,hb⟩:∃b,m%10=b:=⟨_,rfl⟩
  rw [ha]at q1 w0 hD Gx LK⊢
  rw [hb]at q2 w1 w2 OS LK⊢
  simp (maxSteps:=4000000)-implicitDefEqProofs [-getElem?_pos,alM,a53,h0,h1,q1,w0]
  refine bA (hD) ?_ ?_ ?_
  iterate 2· simp (maxDischargeDepth:=8)-implicitDefEqProofs [-getElem?_pos,alM]
  simp (maxSteps:=4000000)-implicitDefEqProofs [-getElem?_pos,alM,q2,w1,w2,OS,Gx,LK,ByteArray.append_assoc]
open Go Go.RowKit
theorem Lr {a:Int} {i:Nat} (ha:0≤a∧a≤2^40) (hi:i≤60):Fz E O 119 [pi a,pi i] (pi (a/2^i%2)):=
 Fz.su fun F H φ vs w Rv=>by
  cases Rv with|cons b Rv=>
  cases Rv with|cons c Rv=>
  cases Rv
  cases b;cases c
  refine (IH ha hi H).mono ?_
  rintro x H' ⟨rfl,rfl⟩
  exact ⟨rfl,Ext.refl _⟩
theorem BU:∀a:Nat,a<16→∀b:Nat,b<16→decide (uk (b:Int) (a:Int)=0)=(List.range 4).all (fun i=>decide ((b:Int)/2^i%2≤(a:Int)/2^i%2)):=by decide+kernel
theorem J1 {level other:Int} (hl:0≤level∧level≤15):Fz E O 87 [pi level,pi other] (pb (ik level other)):=by
 refine Fz.body (F:=a87) rfl rfl rfl rfl ?_
 by_cases h1:other<0
 ·have e:ik level other=false:=by simp [ik];omega
  rw [e]
  simp (maxSteps:=4000000)-implicitDefEqProofs [-getElem?_pos,alM,a87,h1]
 by_cases h2:15<other
 ·have e:ik level other=false:=by simp [ik];omega
  rw [e]
  simp (maxSteps:=4000000)-implicitDefEqProofs [-getElem?_pos,alM,a87,h1,h2]
 have e:ik level other=(List.range 4).all (fun i=>decide (other/2^i%2≤level/2^i%2)):=by
  obtain ⟨a,ha⟩:=Int.eq_ofNat_of_zero_le hl.1
  obtain ⟨b,hb⟩:=Int.eq_ofNat_of_zero_le (show 0≤other by omega)
  subst ha hb
  rw [←BU a (by omega) b (by omega)]
  have h3:(0:Int)≤(b:Int):=by omega
  have h4:(b:Int)≤15:=by omega
  simp [ik,h4]
 rw [e]
 simp (maxSteps:=4000000)-implicitDefEqProofs [-getElem?_pos,alM,a87,h1,h2]
 refine tX (fun j fr h=>h=[]∧fr.get 0=pi level∧fr.get 1=pi other∧fr.get 5=pi j∧∀i,i<j→other/2^i%2≤level/2^i%2) 4 ?_ ?_
 ·exact ⟨rfl,by simp,by simp,by simp,by simp⟩
 rintro j fr h hj ⟨rfl,f0,f1,f5,aT⟩
 by_cases hj4:j<4
 ·have hj5:(j:Int)<4:=by omega
  have w4:IntKind.i64.wrap ((j:Int)+1)=((j+1:Nat):Int):=aj ⟨by omega,by omega⟩
  simp (maxSteps:=4000000)-implicitDefEqProofs [-getElem?_pos,alM,f0,f1,f5,hj5]
  refine bA (Lr (a:=other) (i:=j) ⟨by omega,by omega⟩ (by omega)) ?_ ?_ ?_
  iterate 2· simp (maxDischargeDepth:=8)-implicitDefEqProofs [-getElem?_pos,alM]
  simp (maxSteps:=4000000)-implicitDefEqProofs [-getElem?_pos,alM,f0,f5]
  refine bA (Lr (a:=level) (i:=j) ⟨by omega,by omega⟩ (by omega)) ?_ ?_ ?_
  iterate 2· simp (maxDischargeDepth:=8)-implicitDefEqProofs [-getElem?_pos,alM]
  by_cases hb:level/2^j%2<other/2^j%2
  ·have e2:(List.range 4).all (fun i=>decide (other/2^i%2≤level/2^i%2))=false:=by
    rw [List.all_eq_false]
    exact ⟨j,by simp;omega,by simp;omega⟩
   rw [e2]
   simp (maxSteps:=4000000)-implicitDefEqProofs [-getElem?_pos,alM,hb]
  ·simp (maxSteps:=4000000)-implicitDefEqProofs [-getElem?_pos,alM,hb,f5,w4]
   refine .for hj4 ⟨rfl,by simp [f0],by simp [f1],by simp,fun i hi=>?_⟩
   by_cases q:i=j
   ·subst q;omega
   ·exact aT i (by omega)
 ·obtain rfl:j=4:=by omega
  have e2:(List.range 4).all (fun i=>decide (other/2^i%2≤level/2^i%2))=true:=by
   rw [al3]
   intro i hi
   simp at hi
   simpa using aT i hi
  rw [e2]
  simp (maxSteps:=4000000)-implicitDefEqProofs [-getElem?_pos,alM,f5]
def Az (level:Int) (l:List (Int×Int)) (i:Nat):List (Nat×PV):=[(0,pi level),(1,.fs 2 (rj l)),(5,.sl 2 0 0 (da level (l.take i)).length (da level (l.take i)).length),(6,pi i)]
def SeI (level:Int) (l:List (Int×Int)) (i:Nat) (fr:PF) (h:PH):Prop:=h=TH level l i∧∀t∈Az level l i,fr.get t.1=t.2
theorem ur {level:Int} {l:List (Int×Int)} {i:Nat}:SeI level l i (PF.xb (Az level l i)) (TH level l i):=⟨rfl,fun t ht=>by
 simp only [Az,List.mem_cons,List.not_mem_nil,or_false]at ht
 rcases ht with rfl|rfl|rfl|rfl<;>simp [Az]⟩
theorem OT {level:Int} {l:List (Int×Int)} (hv:0≤level∧level≤15) (hl:l.length≤2^40):Fz E O 54 [pi level,.fs 2 (rj l)] (.fs 2 (rj (da level l))):=by
 refine rS.body (F:=UR) rfl rfl rfl ?_
 simp (maxSteps:=4000000)-implicitDefEqProofs+contextual [-getElem?_pos,alM,UR]
 refine iC (SeI level l) l.length (ei (h2:=TH level l 0) [9] (Az level l 0) ?_ ?_ ?_ ?_ ?_ ?_) ur ?_
 ·simp [TH,Az,da]
 iterate 2· simp
 ·intro b hb;omega
 iterate 2· simp (maxDischargeDepth:=8)-implicitDefEqProofs [a6,alM,TH,Az,da]
 rintro i fr h hi ⟨rfl,iX⟩
 simp only [Az,List.mem_cons,List.not_mem_nil,or_false,forall_eq_or_imp,forall_eq]at iX
 obtain ⟨f0,f1,f5,f6⟩:=iX
 have ht:(da level (l.take i)).length≤i:=Nat.le_trans kG (by simp;omega)
 by_cases h:i<l.length
 ·obtain ⟨e,he⟩:∃e,l[i]?=some e:=⟨_,alN h⟩
  have hn:=sE (level:=level) he
  have w4:IntKind.i64.wrap ((i:Int)+1)=((i+1:Nat):Int):=aj ⟨by omega,by omega⟩
  obtain ⟨T,hT⟩:∃T,da level (l.take i)=T:=⟨_,rfl⟩
  rw [hT]at hn f5 ht
  simp (maxSteps:=4000000)-implicitDefEqProofs+contextual [-getElem?_pos,alM,f0,f1,f5,f6,h,pR,he,TH,hT]
  refine bA (J1 (level:=level) (other:=e.1) hv) ?_ ?_ ?_
  iterate 2· simp (maxDischargeDepth:=8)-implicitDefEqProofs [-getElem?_pos,alM]
  cases hs:ik level e.1 with
  |true=>
   rw [hs,if_pos rfl]at hn
   simp (maxSteps:=4000000)-implicitDefEqProofs+contextual [-getElem?_pos,alM,f1,f5,f6,h,pR,he]
   apply k8
   iterate 9· first|rfl|omega|(simp-implicitDefEqProofs [-getElem?_pos,alM];first|done|rfl|omega)
   simp (maxSteps:=4000000)-implicitDefEqProofs+contextual [-getElem?_pos,alM,f6,w4]
   refine .tW h (ei (h2:=TH level l (i+1)) [0] (Az level l (i+1)) ?_ ?_ ?_ ?_ ?_ ?_) ur
   ·simp [TH,Az,hn,jF,f0,f1]
   iterate 2· simp
   ·intro b hb;omega
   iterate 2· simp (maxDischargeDepth:=8)-implicitDefEqProofs [a6,alM,TH,Az,hn,jF,f0,f1]
  |false=>
   rw [hs,if_neg (by simp)]at hn
   simp (maxSteps:=4000000)-implicitDefEqProofs+contextual [-getElem?_pos,alM,f5,f6,w4]
   refine .tW h (ei (h2:=TH level l (i+1)) [0] (Az level l (i+1)) ?_ ?_ ?_ ?_ ?_ ?_) ur
   ·simp [TH,Az,hn,f0,f1,f5]
   iterate 2· simp
   ·intro b hb;omega
   iterate 2· simp (maxDischargeDepth:=8)-implicitDefEqProofs [a6,alM,TH,Az,hn,f0,f1,f5]
 ·obtain rfl:i=l.length:=by omega
  rw [alU (alR _)]at f5
  simp (maxSteps:=4000000)-implicitDefEqProofs+contextual [-getElem?_pos,alM,f0,f1,f5,f6,TH]
  refine dw ?_
  simp (maxDischargeDepth:=8)-implicitDefEqProofs []
end Go.Proofs.YtppcmpmnglaleaaGreatDoor.A.P
namespace Go.Proofs.YtppcmpmnglaleaaGreatDoor.A.P
open Go Go.RowKit
theorem Gi:∀a:Nat,a<16→∀b∈[1,2,4,8],decide ((a:Int)/(b:Nat)%2=1)= !decide (mm (a:Int) (b:Nat)=0):=by decide+kernel
theorem uu {sees:Int} {b:Nat} (hs:0≤sees∧sees≤15) (hb:b∈[1,2,4,8]):Fz E O 52 [pi sees,pi b] (pb (!decide (mm sees b=0))):=by
 refine Fz.body (F:=UQ) rfl rfl rfl rfl ?_
 obtain ⟨a,rfl⟩:=Int.eq_ofNat_of_zero_le hs.1
 have tC:(0:Int)<(b:Int):=by
  simp at hb
  omega
 have q:=Uc (a:=(a:Int)) (b:=b) ⟨by omega,by omega⟩ tC
 have r:=Ub (a:=(a:Int)/b) (b:=2) (Int.ediv_nonneg (by omega) (by omega)) (by omega)
 rw [←Gi a (by omega) b hb]
 simp (maxSteps:=4000000)-implicitDefEqProofs [-getElem?_pos,alM,UQ,q,r]
end Go.Proofs.YtppcmpmnglaleaaGreatDoor.A.P
