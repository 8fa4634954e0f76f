/- Texts that stand one behind the other: W11. -/
import Derived.Test.YtppcmpmnglaleaaGreatDoorG21
set_option linter.unusedVariables false
set_option linter.unusedSimpArgs false
set_option maxRecDepth 10000
set_option maxHeartbeats 2000000
namespace Go.Proofs.YtppcmpmnglaleaaGreatDoor.A.P
open Go Go.RowKit
def Je (a b:Int):Int:=if b<a then b else a
def Jf (a b:Int):Int:=if b>a then b else a
theorem ahD (a b c d:Int):Jk (.int .i64 a) [.int .i64 b,.int .i64 c,.int .i64 d]=some (.int .i64 (Je (Je (Je a b) c) d)):=rfl
theorem ahE (a b c d:Int):Eu (.int .i64 a) [.int .i64 b,.int .i64 c,.int .i64 d]=some (.int .i64 (Jf (Jf (Jf a b) c) d)):=rfl
theorem AP {a b:Int}:Je a b<0↔a<0∨b<0:=by unfold Je;split<;>omega
theorem AQ {a b:Int}:15<Jf a b↔15<a∨15<b:=by unfold Jf;split<;>omega
theorem rl {level sees:Int} {p:bw} {fuel:Int} {l:List eY} {x:Nat} (a:x<l.length):cG (tK level sees p fuel l) x=jf level sees (jD p fuel l[x]):=by
 simp [cG,tK,aqU a]
theorem Jg (l:List (List Nat)) {i:Nat} {c:List Nat} (h:l[i]?=some c):((l.take (i+1)).map List.length).sum=((l.take i).map List.length).sum+c.length:=by
 rw [arf,h];simp
theorem Jh:∀(l:List (List Nat)) (i:Nat),((l.take i).map List.length).sum≤(l.map List.length).sum
 |[],i=>by simp
 |c::l,0=>by simp
 |c::l,i+1=>by
  have:=Jh l i;simp only [List.take_succ_cons,List.map_cons,List.sum_cons];omega
theorem yP {p:bw} {fuel level sees more fk:Int} (r:kD p):Fz E O 9 [.agg (aO p),pi fuel,pi level,pi sees,pi more,pi fk] (pb true):=by
 refine Fz.body (F:=a9) rfl rfl rfl rfl ?_;have hF:=R8 (fuel:=fuel) r;have o:=MW;have C:=ahD level sees more fk;have H:=ahE level sees more fk;have u:Je (Je (Je level sees) more) fk<0↔((level<0∨sees<0)∨more<0)∨fk<0:=by rw [AP,AP,AP]
 have t:15<Jf (Jf (Jf level sees) more) fk↔((15<level∨15<sees)∨15<more)∨15<fk:=by rw [AQ,AQ,AQ]
 generalize Je (Je (Je level sees) more) fk=mn at C u;generalize Jf (Jf (Jf level sees) more) fk=mx at H t;simp (maxSteps:=9^7)-implicitDefEqProofs+contextual [-getElem?_pos,aqT,a9,aO];refine bJ (Ms (l:=p.body) (m:=600) r.2.2.1 r.2.2.2 (by omega)) ?_ ?_ ?_
 iterate 2· simp (maxDischargeDepth:=8)-implicitDefEqProofs [-getElem?_pos,aqT]
 by_cases W:au p.body≤600
 case neg=>
  simp (maxSteps:=9^7)-implicitDefEqProofs [-getElem?_pos,aqT,W];refine bJ (o) ?_ ?_ ?_
  iterate 2· simp (maxDischargeDepth:=8)-implicitDefEqProofs [-getElem?_pos,aqT]
  simp (maxSteps:=9^7)-implicitDefEqProofs [-getElem?_pos,aqT]
 simp (maxSteps:=9^7)-implicitDefEqProofs [-getElem?_pos,aqT,W,aO];refine bJ (hF) ?_ ?_ ?_
 iterate 2· simp (maxDischargeDepth:=8)-implicitDefEqProofs [-getElem?_pos,aqT,aO]
 by_cases j:cx p fuel=0
 case neg=>
  simp (maxSteps:=9^7)-implicitDefEqProofs [-getElem?_pos,aqT,j];refine bJ (o) ?_ ?_ ?_
  iterate 2· simp (maxDischargeDepth:=8)-implicitDefEqProofs [-getElem?_pos,aqT]
  simp (maxSteps:=9^7)-implicitDefEqProofs [-getElem?_pos,aqT]
 rw [j];by_cases z:mn<0
 ·simp (maxSteps:=9^7)-implicitDefEqProofs [-getElem?_pos,aqT,C,z]
  refine bJ (o) ?_ ?_ ?_
  iterate 2· simp (maxDischargeDepth:=8)-implicitDefEqProofs [-getElem?_pos,aqT]
  simp (maxSteps:=9^7)-implicitDefEqProofs [-getElem?_pos,aqT]
 by_cases G:15<mx
 ·simp (maxSteps:=9^7)-implicitDefEqProofs [-getElem?_pos,aqT,C,z,H,G]
  refine bJ (o) ?_ ?_ ?_
  iterate 2· simp (maxDischargeDepth:=8)-implicitDefEqProofs [-getElem?_pos,aqT]
  simp (maxSteps:=9^7)-implicitDefEqProofs [-getElem?_pos,aqT]
 have hl4:¬ (((level<0∨sees<0)∨more<0)∨fk<0):=fun q=>z (u.2 q)
 have hh4:¬ (((15<level∨15<sees)∨15<more)∨15<fk):=fun q=>G (t.2 q)
 have qg:Ym level sees:=⟨⟨by omega,by omega⟩,by omega,by omega⟩
 have J:=rk (fuel:=fuel) r;have hp:=yD j
 cases I:ff p fuel with
 |none=>
  have R:qM p fuel=[dM,pi 5]:=by simp [qM,j,I]
  rw [R]at J;simp (maxSteps:=9^7)-implicitDefEqProofs [-getElem?_pos,aqT,C,z,H,G,aO];refine bJ (J) ?_ ?_ ?_
  iterate 2· simp (maxDischargeDepth:=8)-implicitDefEqProofs [-getElem?_pos,aqT,aO]
  simp (maxSteps:=9^7)-implicitDefEqProofs [-getElem?_pos,aqT];refine bJ (o) ?_ ?_ ?_
  iterate 2· simp (maxDischargeDepth:=8)-implicitDefEqProofs [-getElem?_pos,aqT]
  simp (maxSteps:=9^7)-implicitDefEqProofs [-getElem?_pos,aqT]
 |some l=>
  have R:qM p fuel=[.fs 2 (str l),pi 0]:=by simp [qM,j,I]
  rw [R]at J;simp (maxSteps:=9^7)-implicitDefEqProofs [-getElem?_pos,aqT,C,z,H,G,aO];refine bJ (J) ?_ ?_ ?_
  iterate 2· simp (maxDischargeDepth:=8)-implicitDefEqProofs [-getElem?_pos,aqT,aO]
  by_cases X:(300:Int)<l.length
  ·simp (maxSteps:=9^7)-implicitDefEqProofs [-getElem?_pos,aqT,X]
   refine bJ (o) ?_ ?_ ?_
   iterate 2· simp (maxDischargeDepth:=8)-implicitDefEqProofs [-getElem?_pos,aqT]
   simp (maxSteps:=9^7)-implicitDefEqProofs [-getElem?_pos,aqT]
  obtain ⟨a,ha⟩:=Int.eq_ofNat_of_zero_le (show 0≤level by omega);obtain ⟨b,hb⟩:=Int.eq_ofNat_of_zero_le (show 0≤more by omega);obtain ⟨c,k⟩:=Int.eq_ofNat_of_zero_le (show 0≤sees by omega);obtain ⟨d,hd⟩:=Int.eq_ofNat_of_zero_le (show 0≤fk by omega);have N:=wj a (by omega) b (by omega);have M:=wj c (by omega) d (by omega);rw [←ha,←hb]at N;rw [←k,←hd]at M;simp only [aqX,aq6]at N M
  have LJ:∀x y,x<l.length→y<l.length→cG (tK (j6 level more) (j6 sees fk) p fuel l) x=cG (tK (j6 level more) (j6 sees fk) p fuel l) y→cG (tK level sees p fuel l) x=cG (tK level sees p fuel l) y:=by
   intro x y s T e;rw [rl s,rl T]at e;rw [rl s,rl T];exact AN ⟨by omega,by omega⟩ ⟨by omega,by omega⟩ ⟨by omega,by omega⟩ ⟨by omega,by omega⟩ e
  have w:=Yn level more;have v:=Yn sees fk
  have Qr:Ym (j6 level more) (j6 sees fk):=⟨N.1,M.1⟩
  have n:=uw (fuel:=fuel) (level:=level) (sees:=sees) r;have D:=uw (fuel:=fuel) (level:=j6 level more) (sees:=j6 sees fk) r;have e2:tL p fuel level sees=[.fs 1 (qO (kM level sees p fuel l)),pi 0]:=by simp [tL,j,qg,I]
  have e3:tL p fuel (j6 level more) (j6 sees fk)=[.fs 1 (qO (kM (j6 level more) (j6 sees fk) p fuel l)),pi 0]:=by simp [tL,j,Qr,I]
  rw [e2]at n;rw [e3]at D;have pI:=wm (cG (tK (j6 level more) (j6 sees fk) p fuel l)) l.length;have cI:=pU (cG (tK (j6 level more) (j6 sees fk) p fuel l)) l.length;have Y:=pU (cG (tK level sees p fuel l)) l.length;have P:=Jd (b:=kM (j6 level more) (j6 sees fk) p fuel l) (a:=kM level sees p fuel l) (by have:=cI.num;unfold kM;omega) (by have:=Y.num;unfold kM;omega) (fun c k=>by have:=cI.len c k;omega) (fun c k=>by have:=Y.len c k;omega) (fun c k=>Jc LJ k);have L:=pI.sum;have V:=cI.num;have f:=cI.len;rw [show fR (cG (tK (j6 level more) (j6 sees fk) p fuel l)) l.length=kM (j6 level more) (j6 sees fk) p fuel l from rfl]at L V f;generalize kM (j6 level more) (j6 sees fk) p fuel l=B at D P L V f;generalize kM level sees p fuel l=A at n P;generalize j6 level more=LM at w D;generalize j6 sees fk=SA at v D;simp (maxSteps:=9^7)-implicitDefEqProofs [-getElem?_pos,aqT,X,aO];refine bJ (n) ?_ ?_ ?_
  iterate 2· simp (maxDischargeDepth:=8)-implicitDefEqProofs [-getElem?_pos,aqT,aO]
  simp (maxSteps:=9^7)-implicitDefEqProofs [-getElem?_pos,aqT,aO,w,v];refine bJ (D) ?_ ?_ ?_
  iterate 2· simp (maxDischargeDepth:=8)-implicitDefEqProofs [-getElem?_pos,aqT,aO]
  simp (maxSteps:=9^7)-implicitDefEqProofs [-getElem?_pos,aqT];refine pL (fun i g h=>h=[.cells 3 (aO p)]∧g.get 13= .fs 2 (str l)∧g.get 15= .fs 1 (qO A)∧g.get 16=pi 0∧g.get 17= .fs 1 (qO B)∧g.get 18=pi 0∧g.get 19=pi (((B.take i).map List.length).sum:Nat)∧g.get 20=pi i) B.length ?_ ?_
  ·exact ⟨by simp [aO],by simp,by simp,by simp,by simp,by simp,by simp,by simp⟩
  rintro i g h hi ⟨rfl,f13,f15,f16,f17,f18,f19,f20⟩;by_cases Q:i<B.length
  ·obtain ⟨x,s⟩:∃x,B[i]?=some x:=⟨_,aqU Q⟩
   have hxl:=f x (aqZ s);have K:=AK s;have Gc:=pW x;have U:=Jg B s;have vw:=Jh B i
   obtain ⟨S,hS⟩:∃S,((B.take i).map List.length).sum=S:=⟨_,rfl⟩
   rw [hS]at f19 U vw;have w4:IntKind.i64.wrap ((i:Int)+1)=((i+1:Nat):Int):=ai ⟨by omega,by omega⟩;have Z:IntKind.i64.wrap ((S:Int)+x.length)=(S:Int)+x.length:=ai ⟨by omega,by omega⟩;simp (maxSteps:=9^7)-implicitDefEqProofs [-getElem?_pos,aqT,f17,f19,f20,Q,K,Gc,w4,Z];refine .for Q ⟨rfl,by simp [f13],by simp [f15],by simp [f16],by simp [f17],by simp [f18],?_,by simp⟩;rw [show((B.map List.length).take (i+1)).sum=S+x.length by rw [←List.map_take];exact U];simp
  ·obtain rfl:i=B.length:=by omega
   rw [show(((B.take B.length).map List.length).sum:Nat)=l.length by rw [List.take_length];exact L]at f19;simp (maxSteps:=9^7)-implicitDefEqProofs [-getElem?_pos,aqT,f13,f15,f16,f17,f18,f19,f20];refine bJ (P) ?_ ?_ ?_
   iterate 2· simp (maxDischargeDepth:=8)-implicitDefEqProofs [-getElem?_pos,aqT]
   simp (maxSteps:=9^7)-implicitDefEqProofs [-getElem?_pos,aqT];refine bJ (o) ?_ ?_ ?_
   iterate 2· simp (maxDischargeDepth:=8)-implicitDefEqProofs [-getElem?_pos,aqT]
   simp (maxSteps:=9^7)-implicitDefEqProofs [-getElem?_pos,aqT]
end Go.Proofs.YtppcmpmnglaleaaGreatDoor.A.P
