/- Texts that stand one behind the other: S3, S4, S5, S6, S7, S8, S9, S10, S11, S12, S13, S14, AbsO, AbsP, S15, S16, S17. -/
import Derived.Test.YtppcmpmnglaleaaGreatDoorG12
set_option linter.unusedVariables false
set_option linter.unusedSimpArgs false
namespace Go.Proofs.YtppcmpmnglaleaaGreatDoor.A
open Go
structure Vr where
 name:ByteArray
 level:Int
 cells:Int
def Vr.row (v:Vr):List Value:=[.string v.name,.int .i64 v.level,.int .i64 v.cells]
def dz (H:AH) (v:Value) (l:List Vr):Prop:=Rows H 3 v (l.map Vr.row)
theorem dz.ext {H H':AH} (E:Ext H H') {v:Value} {l:List Vr} (h:dz H v l):dz H' v l:=Rows.ext E h
theorem dz.len {H:AH} {v:Value} {l:List Vr} (h:dz H v l):∃a c,v= .slice a l.length c:=by
 obtain ⟨a,c,e⟩:=Rows.len h
 exact ⟨a,c,by simpa using e⟩
theorem dz.at {H:AH} {v:Value} {l:List Vr} (h:dz H v l) {i:Nat} {x:Vr} (hi:l[i]?=some x):
 ∃b o c,v= .slice (some ⟨b,o,none⟩) l.length c∧H.ldn ⟨b,o+i*3,none⟩ 3=some x.row∧H.ld ⟨b,o+i*3,none⟩=some (.string x.name)∧H.ld ⟨b,o+i*3+1,none⟩=some (.int .i64 x.level)∧H.ld ⟨b,o+i*3+2,none⟩=some (.int .i64 x.cells):=by
 obtain ⟨b,o,c,e,h2⟩:=Rows.at h (i:=i) (r:=x.row) (by simp [hi])
 exact ⟨b,o,c,by simpa using e,h2,by simpa using aR h2 (j:=0) rfl,aR h2 (j:=1) rfl,aR h2 (j:=2) rfl⟩
def jq (l:List Vr) (s:ByteArray):Int:=match l.findIdx? (fun v=>bY v.name s)with|some i=>i|none=>-1
theorem tj {l:List Vr} {s:ByteArray} {i:Nat} {x:Vr} (hi:l[i]?=some x) (hx:bY x.name s=true) (hb:∀j y,j<i→l[j]?=some y→bY y.name s=false):jq l s=i:=by
 have:l.findIdx? (fun v=>bY v.name s)=some i:=by
  rw [List.findIdx?_eq_some_iff_getElem]
  obtain ⟨h,e⟩:=asr.1 hi
  refine ⟨h,by rw [e];exact hx,fun j hj=>?_⟩
  rw [hb j _ hj (asl (by omega))]
  simp
 unfold jq;rw [this]
theorem Az {l:List Vr} {s:ByteArray} (hb:∀(j:Nat) (y:Vr),l[j]?=some y→bY y.name s=false):jq l s=-1:=by
 have:l.findIdx? (fun v=>bY v.name s)=none:=by
  rw [List.findIdx?_eq_none_iff]
  intro x hx
  obtain ⟨j,hj,e⟩:=List.mem_iff_getElem.1 hx
  exact hb j x (by rw [asl hj,e])
 unfold jq;rw [this]
theorem L8 {v:Value} {l:List Vr} {H:AH} (hv:dz H v l) (iu:l.length<2^60) (s:ByteArray):Ca E O 100 [v,.string s] H (fun x H'=>x= .int .i64 (jq l s)∧H'=H):=by
 refine Ca.dO (F:=Lx) rfl rfl rfl ?_
 simp-implicitDefEqProofs [Lx,aA]
 obtain ⟨a,c,gq⟩:=hv.len
 refine eL (fun k fr H'=>H'=H∧∃i:Nat,i+k=l.length∧fr.get 0=v∧fr.get 1= .string s∧fr.get 5= .int .i64 i∧∀j y,j<i→l[j]?=some y→bY y.name s=false) ?_ l.length ⟨rfl,0,by simp,by simp,by simp,by simp,fun j y hj=>by omega⟩
 rintro k fr H' ⟨rfl,i,hi,h0,h1,h5,aG⟩
 by_cases h:i<l.length
 ·obtain ⟨y,hy⟩:∃y,l[i]?=some y:=⟨_,asl h⟩
  obtain ⟨b,o,c',cA,_,eh,_⟩:=hv.at hy
  rw [cA]at h0
  simp-implicitDefEqProofs [aA,h0,h1,h5,h,eh]
  cases hw:bY y.name s with
  |true=>
   simp-implicitDefEqProofs [aA,h0,h1,h5,hw]
   exact (tj hy hw aG).symm
  |false=>
   simp-implicitDefEqProofs [aA,h0,h1,h5,hw]
   rw [ai ⟨by omega,by omega⟩]
   refine ⟨k- 1,by omega,i+1,by omega,cA.symm,by simp,fun j z hj hz=>?_⟩
   by_cases e:j=i
   ·subst e;rw [hy]at hz;cases hz;exact hw
   ·exact aG j z (by omega) hz
 ·rw [gq]at h0
  simp-implicitDefEqProofs [aA,h0,h1,h5,h]
  refine (Az fun j y hj=>aG j y ?_ hj).symm
  have:=(asr.1 hj).1
  omega
def du (l:List Int):Int:=l.foldl (fun a c=>IntKind.i64.wrap (a+c)) 0
theorem tk {v:Value} {l:List Vr} {H:AH} (hv:dz H v l) (iu:l.length<2^60) (n:Nat) (hn:n≤l.length):Ca E O 41 [v,.int .i64 n] H (fun x H'=>x= .int .i64 (du ((l.take n).map (·.cells)))∧H'=H):=by
 refine Ca.dO (F:=a41) rfl rfl rfl ?_
 simp-implicitDefEqProofs [a41,aA]
 refine eL (fun k fr H'=>H'=H∧∃i:Nat,i+k=n∧fr.get 0=v∧fr.get 1= .int .i64 n∧fr.get 6= .int .i64 i∧fr.get 5= .int .i64 (du ((l.take i).map (·.cells)))) ?_ n ⟨rfl,0,by simp,by simp,by simp,by simp,by simp [du]⟩
 rintro k fr H' ⟨rfl,i,hi,h0,h1,h6,h5⟩
 by_cases h:i<n
 ·obtain ⟨y,hy⟩:∃y,l[i]?=some y:=⟨_,asl (by omega)⟩
  obtain ⟨b,o,c',cA,_,_,_,eh⟩:=hv.at hy
  rw [cA]at h0
  have qG:i<l.length:=by omega
  simp-implicitDefEqProofs [aA,h0,h1,h5,h6,h,eh,qG]
  rw [ai (n:=(i:Int)+1) ⟨by omega,by omega⟩]
  refine ⟨k- 1,by omega,i+1,by omega,cA.symm,by simp,?_⟩
  rw [List.take_add_one]
  simp [du,List.getElem?_map,hy,List.foldl_append]
 ·simp-implicitDefEqProofs [aA,h0,h1,h5,h6,h]
  rw [show i=n by omega]
def eX (l:List Vr) (i:Nat) (v:Vr):Bool:=isName v.name&&(decide (0≤v.level)&&(decide (v.level≤47)&&(decide (1≤v.cells)&&(decide (v.cells≤8)&&decide (jq l v.name=i)))))
def aC (w:Int) (l:List Vr):Bool:=bC w&&(decide (1≤l.length)&&(decide (l.length≤18)&&((List.range l.length).all (fun i=>match l[i]? with|some v=>eX l i v|none=>true)&&decide (du (l.map (·.cells))≤48))))
theorem rF {l:List Vr} {i:Nat} {v:Vr} (h:eX l i v=true):1≤v.cells∧v.cells≤8:=by
 simp [eX]at h
 exact ⟨h.2.2.2.1,h.2.2.2.2.1⟩
def oM (l:List Vr):Prop:=l.length<2^60∧∀v∈l,v.name.size<2^60
theorem AA {v:Value} {l:List Vr} {H:AH} (hw:H.n0≤H.nx) (hv:dz H v l) (rU:oM l) (w:Int):Ca E O 71 [.int .i64 w,v] H (fun x H'=>x= .bool (aC w l)∧Ext H H'):=by
 refine Ca.dO (F:=a71) rfl rfl rfl ?_
 obtain ⟨a,c,gq⟩:=hv.len
 have iu:=rU.1
 simp-implicitDefEqProofs [a71,aA]
 refine bB ?_
 simp-implicitDefEqProofs
 refine (yh w H).mono ?_
 rintro x H' ⟨rfl,rfl⟩
 cases e1:bC w with
 |false=>simp-implicitDefEqProofs [aA,aC,e1,Ext.refl]
 |true=>
  by_cases h1:1≤l.length
  case neg=>
   have sM:l.length=0:=by omega
   simp-implicitDefEqProofs [aA,aC,e1,gq,sM,Ext.refl]
  by_cases h2:l.length≤18
  case neg=>
   have sM:¬ (l.length:Int)<1:=by omega
   have xR:(18:Int)<l.length:=by omega
   have Ay:18<l.length:=by omega
   simp-implicitDefEqProofs [aA,aC,e1,gq,h1,sM,h2,xR,Ay,Ext.refl]
  have sM:¬ (l.length:Int)<1:=by omega
  have xR:¬ (18:Int)<l.length:=by omega
  have Ay:¬ 18<l.length:=by omega
  simp-implicitDefEqProofs [aA,e1,gq,h1,sM,h2,xR,Ay]
  refine eL (fun k fr H1=>Ext H' H1∧∃i:Nat,i+k=l.length∧fr.get 1=v∧fr.get 6= .int .i64 i∧fr.get 5= .int .i64 (du ((l.take i).map (·.cells)))∧∀j y,j<i→l[j]?=some y→eX l j y=true) ?_ l.length ⟨Ext.refl _,0,by simp,by simp [gq],by simp,by simp [du],fun j y hj=>by omega⟩
  rintro k fr H1 ⟨X1,i,hi,f1,f6,f5,aG⟩
  have lI:=X1.wf hw
  have tm:=hv.ext X1
  have nW:∀y,l[i]?=some y→eX l i y=false→aC w l=false:=by
   intro y hy hn
   have:((List.range l.length).all (fun i=>match l[i]? with|some v=>eX l i v|none=>true))=false:=by
    rw [List.all_eq_false]
    refine ⟨i,?_,?_⟩
    ·have:=(asr.1 hy).1;simpa using this
    ·rw [hy];simp [hn]
   simp [aC,this]
  by_cases h:i<l.length
  ·obtain ⟨y,hy⟩:∃y,l[i]?=some y:=⟨_,asl h⟩
   obtain ⟨b,o,c',cA,bJ,_⟩:=tm.at hy
   have rq:=rU.2 y (asq hy)
   have f1v:=f1
   rw [cA]at f1
   obtain ⟨H2,eT,X2,xF,qt,xE,tn⟩:=eN (H:=H1) lI (z:=3) (c:=[.string ⟨#[]⟩,.int .i64 0,.int .i64 0]) (vs:=y.row) rfl
   have d0:H2.ld ⟨H1.nx,0,none⟩=some (.string y.name):=tn 0 _ rfl
   have d1:H2.ld ⟨H1.nx,1,none⟩=some (.int .i64 y.level):=tn 1 _ rfl
   have d2:H2.ld ⟨H1.nx,2,none⟩=some (.int .i64 y.cells):=tn 2 _ rfl
   simp-implicitDefEqProofs [aA,f1,f6,h,bJ,aZ,cY,Vr.row]at eT⊢
   simp-implicitDefEqProofs [aA,eT,d0]
   refine bB ?_
   simp-implicitDefEqProofs
   refine (L7 y.name rq H2).mono ?_
   rintro x H3 ⟨rfl,rfl⟩
   cases n1:isName y.name with
   |false=>
    simp-implicitDefEqProofs [aA,f1,f6,d0,d1,d2,n1]
    exact ⟨nW y hy (by simp [eX,n1]),X1.trans X2⟩
   |true=>
    by_cases n2:0≤y.level
    case neg=>
     have El:y.level<0:=by omega
     simp-implicitDefEqProofs [aA,f1,f6,d0,d1,d2,n1,n2,El]
     exact ⟨nW y hy (by simp [eX,n1,n2,El]),X1.trans X2⟩
    have El:¬ y.level<0:=by omega
    by_cases n3:y.level≤47
    case neg=>
     have HA:47<y.level:=by omega
     simp-implicitDefEqProofs [aA,f1,f6,d0,d1,d2,n1,n2,El,n3,HA]
     exact ⟨nW y hy (by simp [eX,n1,n2,El,n3,HA]),X1.trans X2⟩
    have HA:¬ 47<y.level:=by omega
    by_cases n4:1≤y.cells
    case neg=>
     have L9:y.cells<1:=by omega
     simp-implicitDefEqProofs [aA,f1,f6,d0,d1,d2,n1,n2,El,n3,HA,n4,L9]
     exact ⟨nW y hy (by simp [eX,n1,n2,El,n3,HA,n4,L9]),X1.trans X2⟩
    have L9:¬ y.cells<1:=by omega
    by_cases n5:y.cells≤8
    case neg=>
     have Ry:8<y.cells:=by omega
     simp-implicitDefEqProofs [aA,f1,f6,d0,d1,d2,n1,n2,El,n3,HA,n4,L9,n5,Ry]
     exact ⟨nW y hy (by simp [eX,n1,n2,El,n3,HA,n4,L9,n5,Ry]),X1.trans X2⟩
    have Ry:¬ 8<y.cells:=by omega
    simp-implicitDefEqProofs [aA,f1,f6,d0,d1,d2,n1,n2,El,n3,HA,n4,L9,n5,Ry]
    refine bB ?_
    simp-implicitDefEqProofs [f1]
    rw [←cA]
    refine (L8 (tm.ext X2) iu y.name).mono ?_
    rintro x H4 ⟨rfl,rfl⟩
    by_cases n6:jq l y.name=i
    case neg=>
     simp-implicitDefEqProofs [aA,f1,f6,d0,d1,d2,n1,n2,El,n3,HA,n4,L9,n5,Ry,n6]
     exact ⟨nW y hy (by simp [eX,n1,n2,El,n3,HA,n4,L9,n5,Ry,n6]),X1.trans X2⟩
    simp-implicitDefEqProofs [aA,f1,f5,f6,d0,d1,d2,n1,n2,El,n3,HA,n4,L9,n5,Ry,n6]
    rw [ai (n:=(i:Int)+1) ⟨by omega,by omega⟩]
    refine ⟨k- 1,by omega,X1.trans X2,i+1,by omega,cA.symm,by simp,?_,fun j z hj hz=>?_⟩
    ·rw [List.take_add_one]
     simp [du,List.getElem?_map,hy,List.foldl_append]
    ·by_cases e:j=i
     ·subst e;rw [hy]at hz;cases hz
      simp [eX,n1,n2,n3,n4,n5,n6]
     ·exact aG j z (by omega) hz
  ·have qG:i=l.length:=by omega
   rw [gq]at f1
   simp-implicitDefEqProofs [aA,f1,f5,f6,h]
   refine ⟨?_,X1⟩
   have HB:((List.range l.length).all (fun i=>match l[i]? with|some v=>eX l i v|none=>true))=true:=by
    rw [asB]
    intro j hj
    have FJ:j<l.length:=by simpa using hj
    rw [asl FJ]
    exact aG j _ (by omega) (asl FJ)
   rw [aC,e1,HB,qG]
   have:List.take l.length (l.map fun x=>x.cells)=l.map fun x=>x.cells:=ass (by simp)
   simp [h1,h2,this]
open Go
inductive b9 where
 |mk (op n cp:Int) (args:List b9)
def b9.op:b9→Int| .mk a _ _ _=>a
def b9.n:b9→Int| .mk _ a _ _=>a
def b9.cp:b9→Int| .mk _ _ a _=>a
mutual
inductive nX (H:AH):List Value→b9→Prop where
 |mk {op n cp:Int} {v:Value} {rows:List (List Value)} {args:List b9}:kK op→kK n→kK cp→args.length<2^60→Rows H 4 v rows→gG H rows args→nX H [.int .i64 op,.int .i64 n,.int .i64 cp,v] (.mk op n cp args)
inductive gG (H:AH):List (List Value)→List b9→Prop where
 |nil:gG H [] []
 |cons {r:List Value} {e:b9} {rs:List (List Value)} {es:List b9}:nX H r e→gG H rs es→gG H (r::rs) (e::es)
end
mutual
theorem nX.ext {H H':AH} (E:Ext H H') {c:List Value} {e:b9}:nX H c e→nX H' c e
 | .mk a b c d r l=>.mk a b c d (r.ext E) (gG.ext E l)
theorem gG.ext {H H':AH} (E:Ext H H') {c:List (List Value)} {e:List b9}:gG H c e→gG H' c e
 | .nil=>.nil
 | .cons a b=>.cons (nX.ext E a) (gG.ext E b)
end
theorem gG.length {H:AH}:∀{c:List (List Value)} {e:List b9},gG H c e→c.length=e.length
 |_,_,.nil=>rfl
 |_,_,.cons _ b=>by simp [gG.length b]
theorem gG.at {H:AH}:∀{c:List (List Value)} {e:List b9} {i:Nat} {x:b9},gG H c e→e[i]?=some x→∃r,c[i]?=some r∧nX H r x
 |_,_,i,x,.nil,h=>by simp at h
 |_,_,0,x,.cons a b,h=>by simp at h;subst h;exact ⟨_,rfl,a⟩
 |_,_,i+1,x,.cons a b,h=>by obtain ⟨r,h1,h2⟩:=gG.at b (by simpa using h);exact ⟨r,by simpa using h1,h2⟩
theorem gO {op n cp:Int} {args:List b9} {i:Nat} {x:b9} (h:args[i]?=some x):SizeOf.sizeOf x<SizeOf.sizeOf (b9.mk op n cp args):=by
 have:=List.sizeOf_lt_of_mem (asq h)
 simp
 omega
mutual
def ko:b9→Int→Int
 | .mk _ _ _ args,most=>if most<1 then 0 else dP args (most- 1)
def dP:List b9→Int→Int
 |[],n=>n
 |e::es,n=>dP es (ko e n)
end
theorem rG:∀(l:List b9) (n:Int),dP l n=l.foldl (fun n e=>ko e n) n
 |[],n=>rfl
 |e::es,n=>by simp [dP,rG es]
@[simp]theorem fZ (c:Array Value):aZ (.agg c)=c.toList:=rfl
@[simp]theorem UR (c:Array Value):cY (.agg c)=false:=rfl
theorem yi:∀(N:Nat) (e:b9) (m:Int),SizeOf.sizeOf e<N→ko e m≤max m 0∧0≤ko e m:=by
 intro N
 induction N with
 |zero=>intro e m h;omega
 |succ N ih=>
  intro e m h
  obtain ⟨op,n,cp,args⟩:=e
  rw [ko]
  split
  ·omega
  ·have key:∀(l:List b9) (k:Int),(∀e∈l,SizeOf.sizeOf e<N)→0≤k→dP l k≤k∧0≤dP l k:=by
    intro l
    induction l with
    |nil=>intro k _ hk;rw [dP];omega
    |cons x l tp=>
     intro k hl hk
     rw [dP]
     have h1:=ih x k (hl x (by simp))
     have h2:=tp (ko x k) (fun e he=>hl e (by simp [he])) h1.2
     omega
   have:=key args (m- 1) (fun e he=>by have:=List.sizeOf_lt_of_mem he;simp at h;omega) (by omega)
   omega
theorem Co:∀(N:Nat) (e:b9) (c:List Value) (H:AH) (most:Int),SizeOf.sizeOf e<N→H.n0≤H.nx→nX H c e→kK most→
 Ca E O 64 [.agg c.toArray,.int .i64 most] H (fun x H'=>x= .int .i64 (ko e most)∧Ext H H'):=by
 intro N
 induction N with
 |zero=>intro e c H most h;omega
 |succ N ih=>
  intro e c H most hN hw he hm
  cases he with| @mk op n cp v rows args i1 i2 i3 hlen hr hl=>
  refine Ca.dO (F:=WK) rfl rfl rfl ?_
  have X0:=Ext.alloc H (.cells 4 [.int .i64 op,.int .i64 n,.int .i64 cp,v])
  have d3:(H.alloc (.cells 4 [.int .i64 op,.int .i64 n,.int .i64 cp,v])).ld ⟨H.nx,3,none⟩=some v:=ak hw rfl
  generalize cJ:H.alloc (.cells 4 [.int .i64 op,.int .i64 n,.int .i64 cp,v])=H1 at X0 d3
  by_cases h1:most<1
  ·simp-implicitDefEqProofs [WK,aA,h1,cJ]
   refine ⟨?_,X0⟩
   rw [ko,if_pos h1]
  ·unfold kK at hm
   simp-implicitDefEqProofs [WK,aA,h1,cJ]
   rw [ai (n:=most- 1) ⟨by omega,by omega⟩]
   obtain ⟨a0,c0,hv⟩:=hr.len
   rw [hl.length]at hv
   refine eL (fun k fr H'=>Ext H1 H'∧∃i:Nat,i+k=args.length∧fr.get 2= .pointer (some ⟨H.nx,0,none⟩)∧fr.get 6= .int .i64 i∧fr.get 5= .int .i64 (dP (args.take i) (most- 1))∧0≤dP (args.take i) (most- 1)∧dP (args.take i) (most- 1)≤most- 1) ?_ args.length ⟨Ext.refl _,0,by simp,by simp,by simp,by simp [dP],by simp [dP];omega,by simp [dP]⟩
   rintro k fr H2 ⟨X2,i,hi,f2,f6,f5,b1,b2⟩
   have dd:=X2.ld d3
   have jr:=(X0.trans X2).wf hw
   by_cases h:i<args.length
   ·obtain ⟨y,hy⟩:∃y,args[i]?=some y:=⟨_,asl h⟩
    obtain ⟨r,Em,kO⟩:=hl.at hy
    obtain ⟨b,o,c',cA,bJ⟩:=(hr.ext (X0.trans X2)).at Em
    rw [hl.length]at cA
    rw [cA]at dd
    simp-implicitDefEqProofs [aA,f2,f6,f5,dd,h,bJ]
    refine bB ?_
    simp-implicitDefEqProofs [f5]
    have hs:=gO (op:=op) (n:=n) (cp:=cp) hy
    refine (ih y r H2 _ (by omega) jr (kO.ext (X0.trans X2)) ⟨by omega,by omega⟩).mono ?_
    rintro x H3 ⟨rfl,X3⟩
    simp-implicitDefEqProofs [aA,f2,f6,f5]
    rw [ai (n:=(i:Int)+1) ⟨by omega,by omega⟩]
    have e2:dP (args.take (i+1)) (most- 1)=ko y (dP (args.take i) (most- 1)):=by
     rw [List.take_add_one,hy]
     simp [rG,List.foldl_append]
    have:=yi (SizeOf.sizeOf y+1) y (dP (args.take i) (most- 1)) (by omega)
    exact ⟨k- 1,by omega,X2.trans X3,i+1,by omega,by simp,e2.symm,by rw [e2];omega,by rw [e2];omega⟩
   ·rw [hv]at dd
    simp-implicitDefEqProofs [aA,f2,f6,f5,dd,h]
    rw [ass (by omega)]
    refine ⟨?_,X0.trans X2⟩
    rw [ko,if_neg h1]
end Go.Proofs.YtppcmpmnglaleaaGreatDoor.A
namespace Go.Proofs.YtppcmpmnglaleaaGreatDoor.A
open Go
mutual
def aB:b9→Int
 | .mk _ _ _ args=>1+aw args
def aw:List b9→Int
 |[]=>0
 |e::es=>aB e+aw es
end
mutual
def dh:b9→Int
 | .mk _ _ _ args=>dE args 0+1
def dE:List b9→Int→Int
 |[],n=>n
 |e::es,n=>dE es (max n (dh e))
end
theorem pI:∀(l:List b9) (n:Int),dE l n=l.foldl (fun n e=>max n (dh e)) n
 |[],n=>rfl
 |e::es,n=>by simp [dE,pI es]
theorem pJ {M:b9→Prop} (h:∀op n cp args,(∀e∈args,M e)→M (.mk op n cp args)):∀e,M e:=by
 have key:∀(N:Nat) (e:b9),SizeOf.sizeOf e<N→M e:=by
  intro N
  induction N with
  |zero=>intro e h;omega
  |succ N ih=>
   intro e he
   obtain ⟨op,n,cp,args⟩:=e
   refine h op n cp args fun e hm=>ih e ?_
   have:=List.sizeOf_lt_of_mem hm
   simp at he
   omega
 exact fun e=>key _ e (asA _)
theorem nY {l:List b9} (h:∀e∈l,1≤aB e):0≤aw l:=by
 induction l with
 |nil=>simp [aw]
 |cons e es ih=>
  rw [aw]
  have h1:=h e (by simp)
  have h2:=ih fun x hx=>h x (by simp [hx])
  omega
theorem ec:∀e,1≤aB e:=pJ fun op n cp args ih=>by
 rw [aB]
 have:=nY ih
 omega
theorem bc (l:List b9):0≤aw l:=nY fun e _=>ec e
theorem yj:∀e m,ko e m=max (m- aB e) 0:=pJ fun op n cp args ih m=>by
 have key:∀(l:List b9) (k:Int),(∀e∈l,∀m,ko e m=max (m- aB e) 0)→0≤k→dP l k=max (k- aw l) 0:=by
  intro l
  induction l with
  |nil=>intro k _ hk;rw [dP,aw];omega
  |cons x l tp=>
   intro k hl hk
   rw [dP,aw,hl x (by simp),tp _ (fun e he=>hl e (by simp [he])) (by omega)]
   have:=bc l
   omega
 rw [ko,aB]
 have:=bc args
 split
 ·omega
 ·rw [key args (m- 1) ih (by omega)]
  omega
theorem pK:∀e,1≤dh e∧dh e≤aB e:=pJ fun op n cp args ih=>by
 have key:∀(l:List b9) (k:Int),(∀e∈l,1≤dh e∧dh e≤aB e)→0≤k→k≤dE l k∧dE l k≤max k (aw l):=by
  intro l
  induction l with
  |nil=>intro k _ hk;rw [dE,aw];omega
  |cons x l tp=>
   intro k hl hk
   rw [dE,aw]
   have h1:=hl x (by simp)
   have h2:=tp (max k (dh x)) (fun e he=>hl e (by simp [he])) (by omega)
   have h3:=bc l
   omega
 rw [dh,aB]
 have:=key args 0 ih (by omega)
 have:=bc args
 omega
theorem bl {H:AH} (hw:H.n0≤H.nx) {z:Nat} {c:List Value} (n:Nat) (hn:c.length=n):(H.alloc (.cells z c)).ldn ⟨H.nx,0,none⟩ n=some c:=by
 rw [←hn];exact sq hw z c
theorem Ma {e:b9} {c:List Value} {H:AH} {most:Int} (hw:H.n0≤H.nx) (he:nX H c e) (hm:0≤most∧most≤1000000):
 Ca E O 137 [.agg c.toArray,.int .i64 most] H (fun x H'=>x= .bool (decide (aB e≤most))∧Ext H H'):=by
 refine Ca.dO (F:=LL) rfl rfl rfl ?_
 have hc:c.length=4:=by cases he;rfl
 have X0:=Ext.alloc H (.cells c.length c)
 have d:=bl hw (z:=c.length) (c:=c) 4 hc
 generalize cJ:H.alloc (.cells c.length c)=H1 at X0 d
 simp-implicitDefEqProofs [LL,aA,cJ,d]
 refine bB ?_
 rw [ai ⟨by omega,by omega⟩]
 simp-implicitDefEqProofs
 refine (Co _ e c H1 (most+1) (asA _) (X0.wf hw) (he.ext X0) ⟨by omega,by omega⟩).mono ?_
 rintro x H2 ⟨rfl,X2⟩
 simp-implicitDefEqProofs [aA]
 refine ⟨?_,X0.trans X2⟩
 rw [yj]
 omega
theorem HC:∀(N:Nat) (e:b9) (c:List Value) (H:AH),SizeOf.sizeOf e<N→H.n0≤H.nx→nX H c e→aB e<2^60→
 Ca E O 138 [.agg c.toArray] H (fun x H'=>x= .int .i64 (dh e)∧Ext H H'):=by
 intro N
 induction N with
 |zero=>intro e c H h;omega
 |succ N ih=>
  intro e c H hN hw he hm
  cases he with| @mk op n cp v rows args i1 i2 i3 hlen hr hl=>
  refine Ca.dO (F:=a138) rfl rfl rfl ?_
  have X0:=Ext.alloc H (.cells 4 [.int .i64 op,.int .i64 n,.int .i64 cp,v])
  have d3:(H.alloc (.cells 4 [.int .i64 op,.int .i64 n,.int .i64 cp,v])).ld ⟨H.nx,3,none⟩=some v:=ak hw rfl
  generalize cJ:H.alloc (.cells 4 [.int .i64 op,.int .i64 n,.int .i64 cp,v])=H1 at X0 d3
  have hmm:=hm
  rw [aB]at hm
  obtain ⟨a0,c0,hv⟩:=hr.len
  rw [hl.length]at hv
  have Rz:∀(l:List b9) (y:b9),y∈l→aB y≤aw l:=by
   intro l
   induction l with
   |nil=>intro y hy;cases hy
   |cons x l tp=>
    intro y hy
    rw [aw]
    have h3:=bc l
    have h4:=ec x
    rcases List.mem_cons.1 hy with rfl|hy
    ·omega
    ·have:=tp y hy;omega
  simp-implicitDefEqProofs [a138,aA,cJ]
  refine eL (fun k fr H'=>Ext H1 H'∧∃i:Nat,i+k=args.length∧fr.get 1= .pointer (some ⟨H.nx,0,none⟩)∧fr.get 4= .int .i64 i∧fr.get 3= .int .i64 (dE (args.take i) 0)∧0≤dE (args.take i) 0∧dE (args.take i) 0≤aw args) ?_ args.length ⟨Ext.refl _,0,by simp,by simp,by simp,by simp [dE],by simp [dE],by simp [dE,bc]⟩
  rintro k fr H2 ⟨X2,i,hi,f1,f4,f3,b1,b2⟩
  have dd:=X2.ld d3
  have jr:=(X0.trans X2).wf hw
  by_cases h:i<args.length
  ·obtain ⟨y,hy⟩:∃y,args[i]?=some y:=⟨_,asl h⟩
   obtain ⟨r,Em,kO⟩:=hl.at hy
   obtain ⟨b,o,c',cA,bJ⟩:=(hr.ext (X0.trans X2)).at Em
   rw [hl.length]at cA
   rw [cA]at dd
   have hyn:=Rz args y (asq hy)
   have hyd:=pK y
   simp-implicitDefEqProofs [aA,f1,f4,f3,dd,h,bJ]
   refine bB ?_
   simp-implicitDefEqProofs
   have hs:=gO (op:=op) (n:=n) (cp:=cp) hy
   refine (ih y r H2 (by omega) jr (kO.ext (X0.trans X2)) (by omega)).mono ?_
   rintro x H3 ⟨rfl,X3⟩
   simp-implicitDefEqProofs [aA,f1,f4,f3,KB]
   rw [ai (n:=(i:Int)+1) ⟨by omega,by omega⟩]
   have e2:dE (args.take (i+1)) 0=max (dE (args.take i) 0) (dh y):=by
    rw [List.take_add_one,hy]
    simp [pI,List.foldl_append]
   refine ⟨k- 1,by omega,X2.trans X3,i+1,by omega,by simp,?_,?_,?_⟩
   ·rw [e2];split<;>omega
   ·rw [e2];omega
   ·rw [e2];omega
  ·rw [hv]at dd
   simp-implicitDefEqProofs [aA,f1,f4,f3,dd,h]
   rw [ass (by omega)]at b1 b2⊢
   rw [ai ⟨by omega,by omega⟩]
   refine ⟨?_,X0.trans X2⟩
   rw [dh]
def rH (op:Int):Bool:=(decide (2≤op)&&decide (op≤11))||(decide (op=13)||decide (op=14))
theorem RA (op:Int) (H:AH):Ca E O 175 [.int .i64 op] H (fun x H'=>x= .bool (rH op)∧H'=H):=by
 refine Ca.dO (F:=a175) rfl rfl rfl ?_
 by_cases h1:2≤op
 ·by_cases h2:op≤11
  ·simp-implicitDefEqProofs [a175,aA,rH,h1,h2]
  ·by_cases h3:op=13
   ·simp-implicitDefEqProofs [a175,aA,rH,h3]
   ·simp-implicitDefEqProofs [a175,aA,rH,h1,h2,h3]
 ·have h3:¬ op=13:=by omega
  simp-implicitDefEqProofs [a175,aA,rH,h1,h3]
def jT (op:Int):Int:=if op=0 then 0 else if op=12 then 1 else if op=15 then 3 else if rH op=true then 2 else-1
theorem Mb (op:Int) (H:AH):Ca E O 167 [.int .i64 op] H (fun x H'=>x= .int .i64 (jT op)∧H'=H):=by
 refine Ca.dO (F:=a167) rfl rfl rfl ?_
 by_cases h1:op=0
 ·simp-implicitDefEqProofs [a167,aA,jT,h1]
 by_cases h2:op=12
 ·simp-implicitDefEqProofs [a167,aA,jT,h2]
 by_cases h3:op=15
 ·simp-implicitDefEqProofs [a167,aA,jT,h3]
 simp-implicitDefEqProofs [a167,aA,h1,h2,h3]
 refine bB ?_
 simp-implicitDefEqProofs
 refine (RA op H).mono ?_
 rintro x H' ⟨rfl,rfl⟩
 cases h4:rH op with
 |true=>simp-implicitDefEqProofs [aA,jT,h1,h2,h3,h4]
 |false=>simp-implicitDefEqProofs [aA,jT,h1,h2,h3,h4]
open Go
def al (l:List Vr) (n:Int):Int:=match l[n.toNat]? with|some v=>v.cells|none=>0
def fL (w:Int) (l:List Vr) (k:Int) (op n cp:Int) (na:Nat):Bool:=
 if op=1 then(!(decide (n<0)||(decide ((l.length:Int)≤n)||(decide (cp<0)||decide (k≤cp))))&&decide ((na:Int)=if 1<al l n then 1 else 0))
 else(!(!decide (cp=0)|| !decide ((na:Int)=jT op))&&(if op=0 then isWord w n else decide (n=0)))
theorem Mc {w k op n cp:Int} {v va:Value} {l:List Vr} {rows:List (List Value)} {H:AH} (hw:H.n0≤H.nx) (hv:dz H v l) (hl:l.length<2^60) (hr:Rows H 4 va rows) (hn:rows.length<2^60):
 Ca E O 156 [.int .i64 w,v,.int .i64 k,.agg #[.int .i64 op,.int .i64 n,.int .i64 cp,va]] H (fun x H'=>x= .bool (fL w l k op n cp rows.length)∧Ext H H'):=by
 refine Ca.dO (F:=a156) rfl rfl rfl ?_
 obtain ⟨a1,c1,gq⟩:=hr.len
 obtain ⟨a2,c2,lC⟩:=hv.len
 by_cases h1:op=1
 ·subst h1
  have X0:=Ext.alloc H (.cells 4 [.int .i64 1,.int .i64 n,.int .i64 cp,va])
  have d0:(H.alloc (.cells 4 [.int .i64 1,.int .i64 n,.int .i64 cp,va])).ld ⟨H.nx,0,none⟩=some (.int .i64 1):=ak hw rfl
  have d1:(H.alloc (.cells 4 [.int .i64 1,.int .i64 n,.int .i64 cp,va])).ld ⟨H.nx,1,none⟩=some (.int .i64 n):=ak hw rfl
  have d2:(H.alloc (.cells 4 [.int .i64 1,.int .i64 n,.int .i64 cp,va])).ld ⟨H.nx,2,none⟩=some (.int .i64 cp):=ak hw rfl
  have d3:(H.alloc (.cells 4 [.int .i64 1,.int .i64 n,.int .i64 cp,va])).ld ⟨H.nx,3,none⟩=some va:=ak hw rfl
  generalize cJ:H.alloc (.cells 4 [.int .i64 1,.int .i64 n,.int .i64 cp,va])=H1 at X0 d0 d1 d2 d3
  by_cases h2:n<0
  ·simp-implicitDefEqProofs [a156,aA,cJ,d0,d1,d2,h2,fL]
   exact X0
  by_cases h3:(l.length:Int)≤n
  ·simp-implicitDefEqProofs [a156,aA,cJ,d0,d1,d2,h2,h3,lC,fL]
   exact X0
  by_cases h4:cp<0
  ·simp-implicitDefEqProofs [a156,aA,cJ,d0,d1,d2,h2,h3,h4,lC,fL]
   exact X0
  by_cases h5:k≤cp
  ·simp-implicitDefEqProofs [a156,aA,cJ,d0,d1,d2,h2,h3,h4,h5,lC,fL]
   exact X0
  obtain ⟨y,hy⟩:∃y,l[n.toNat]?=some y:=⟨_,asl (by omega)⟩
  obtain ⟨b,o,c',cA,_,_,_,eh⟩:=(hv.ext X0).at hy
  simp-implicitDefEqProofs [a156,aA,cJ,d0,d1,d2,h2,h3,h4,h5,lC,fL]
  refine pF _ _ ?_
  have n0':0≤n:=by omega
  have n1':n<l.length:=by omega
  rw [←lC,cA,gq]at*
  simp-implicitDefEqProofs [aA,d1,d3,n0',n1',eh]
  refine ni ?_
  simp-implicitDefEqProofs
  have US:=bg.1 d3
  have GY:=wy (decide (1<y.cells)) H1
  refine GY.mono ?_
  rintro x H2 ⟨rfl,rfl⟩
  simp-implicitDefEqProofs [aA,uJ,chain,kQ,nth,AO.wanted,ff,sameAt,fk,dG,US]
  have hc:al l n=y.cells:=by simp [al,hy]
  exact ⟨by rw [hc],X0⟩
 ·have X0:=Ext.alloc H (.cells 4 [.int .i64 op,.int .i64 n,.int .i64 cp,va])
  have d0:(H.alloc (.cells 4 [.int .i64 op,.int .i64 n,.int .i64 cp,va])).ld ⟨H.nx,0,none⟩=some (.int .i64 op):=ak hw rfl
  have d1:(H.alloc (.cells 4 [.int .i64 op,.int .i64 n,.int .i64 cp,va])).ld ⟨H.nx,1,none⟩=some (.int .i64 n):=ak hw rfl
  have d2:(H.alloc (.cells 4 [.int .i64 op,.int .i64 n,.int .i64 cp,va])).ld ⟨H.nx,2,none⟩=some (.int .i64 cp):=ak hw rfl
  have d3:(H.alloc (.cells 4 [.int .i64 op,.int .i64 n,.int .i64 cp,va])).ld ⟨H.nx,3,none⟩=some va:=ak hw rfl
  generalize cJ:H.alloc (.cells 4 [.int .i64 op,.int .i64 n,.int .i64 cp,va])=H1 at X0 d0 d1 d2 d3
  have US:=bg.1 d3
  have d0n:=bg.1 d0
  simp-implicitDefEqProofs [a156,aA,cJ,d0,h1]
  refine pF _ _ ?_
  by_cases h2:cp=0
  case neg=>
   simp-implicitDefEqProofs [aA,uJ,chain,kQ,nth,AO.wanted,ff,sameAt,fk,dG,d0,d1,d2,d3,US,d0n,h1,h2,fL]
   exact X0
  rw [gq]at d3 US
  simp-implicitDefEqProofs [aA,d0,d1,d2,d3,h1,h2]
  refine ni ?_
  simp-implicitDefEqProofs
  refine (Mb op H1).mono ?_
  rintro x H2 ⟨rfl,rfl⟩
  by_cases h3:(rows.length:Int)=jT op
  case neg=>
   simp-implicitDefEqProofs [aA,uJ,chain,kQ,nth,AO.wanted,ff,sameAt,fk,dG,d0,d1,d2,d3,US,d0n,h1,h2,h3,fL]
   exact X0
  simp-implicitDefEqProofs [aA,uJ,chain,kQ,nth,AO.wanted,ff,sameAt,fk,dG,d0,d1,d2,d3,US,d0n,h1,h2,h3]
  by_cases h4:op=0
  case neg=>
   simp-implicitDefEqProofs [aA,d0,d1,h1,h2,h3,h4,fL]
   exact X0
  simp-implicitDefEqProofs [aA,d0,d1,h4]
  refine bB ?_
  simp-implicitDefEqProofs
  refine (Cn w n H2).mono ?_
  rintro x H3 ⟨rfl,rfl⟩
  rw [h4]at h3
  simp-implicitDefEqProofs [aA,fL,h2,h3,h4]
  exact X0
mutual
def dA (w:Int) (l:List Vr) (k:Int):b9→Bool
 | .mk op n cp args=>fL w l k op n cp args.length&&vh w l k args
def vh (w:Int) (l:List Vr) (k:Int):List b9→Bool
 |[]=>true
 |e::es=>dA w l k e&&vh w l k es
end
theorem jI {w:Int} {l:List Vr} {k:Int}:∀{es:List b9},vh w l k es=true↔∀e∈es,dA w l k e=true
 |[]=>by simp [vh]
 |e::es=>by simp [vh,jI (es:=es)]
theorem Mg {w k:Int} {v:Value} {l:List Vr} (hl:l.length<2^60):∀(N:Nat) (e:b9) (c:List Value) (H:AH),SizeOf.sizeOf e<N→H.n0≤H.nx→dz H v l→nX H c e→
 Ca E O 139 [.int .i64 w,v,.int .i64 k,.agg c.toArray] H (fun x H'=>x= .bool (dA w l k e)∧Ext H H'):=by
 intro N
 induction N with
 |zero=>intro e c H h;omega
 |succ N ih=>
  intro e c H hN hw hv he
  cases he with| @mk op n cp va rows args i1 i2 i3 hlen hr Pg=>
  refine Ca.dO (F:=a139) rfl rfl rfl ?_
  have X0:=Ext.alloc H (.cells 4 [.int .i64 op,.int .i64 n,.int .i64 cp,va])
  have d3:(H.alloc (.cells 4 [.int .i64 op,.int .i64 n,.int .i64 cp,va])).ld ⟨H.nx,3,none⟩=some va:=ak hw rfl
  have d:=bl hw (z:=4) (c:=[.int .i64 op,.int .i64 n,.int .i64 cp,va]) 4 rfl
  generalize cJ:H.alloc (.cells 4 [.int .i64 op,.int .i64 n,.int .i64 cp,va])=H1 at X0 d3 d
  simp-implicitDefEqProofs [a139,aA,cJ,d]
  refine bB ?_
  simp-implicitDefEqProofs
  have wz:=Pg.length
  refine (Mc (w:=w) (k:=k) (op:=op) (n:=n) (cp:=cp) (X0.wf hw) (hv.ext X0) hl (hr.ext X0) (by omega)).mono ?_
  rintro x H2 ⟨rfl,X2⟩
  rw [wz]
  cases h1:fL w l k op n cp args.length with
  |false=>
   simp-implicitDefEqProofs [aA,h1,dA]
   exact X0.trans X2
  |true=>
   simp-implicitDefEqProofs [aA,h1]
   obtain ⟨a0,c0,gq⟩:=hr.len
   rw [wz]at gq
   refine eL (fun j fr H'=>Ext H2 H'∧∃i:Nat,i+j=args.length∧fr.get 0= .int .i64 w∧fr.get 1=v∧fr.get 2= .int .i64 k∧fr.get 7= .pointer (some ⟨H.nx,0,none⟩)∧fr.get 9= .int .i64 i∧∀e∈args.take i,dA w l k e=true) ?_ args.length ⟨Ext.refl _,0,by simp,by simp,by simp,by simp,by simp,by simp,by simp⟩
   rintro j fr H3 ⟨X3,i,hi,f0,f1,f2,f7,f9,aG⟩
   have X:=X0.trans (X2.trans X3)
   have dd:=(X2.trans X3).ld d3
   have jr:=X.wf hw
   by_cases h:i<args.length
   ·obtain ⟨y,hy⟩:∃y,args[i]?=some y:=⟨_,asl h⟩
    obtain ⟨r,Em,kO⟩:=Pg.at hy
    obtain ⟨b,o,c',cA,bJ⟩:=(hr.ext X).at Em
    rw [wz]at cA
    rw [cA]at dd
    simp-implicitDefEqProofs [aA,f0,f1,f2,f7,f9,dd,h,bJ]
    refine bB ?_
    simp-implicitDefEqProofs [f0,f1,f2]
    have hs:=gO (op:=op) (n:=n) (cp:=cp) hy
    refine (ih y r H3 (by omega) jr (hv.ext X) (kO.ext X)).mono ?_
    rintro x H4 ⟨rfl,X4⟩
    cases h2:dA w l k y with
    |true=>
     simp-implicitDefEqProofs [aA,f0,f1,f2,f7,f9,h2]
     rw [ai (n:=(i:Int)+1) ⟨by omega,by omega⟩]
     refine ⟨j- 1,by omega,X3.trans X4,i+1,by omega,by simp,fun z hz=>?_⟩
     rw [List.take_add_one,hy]at hz
     rcases List.mem_append.1 hz with hz|hz
     ·exact aG z hz
     ·simp at hz;subst hz;exact h2
    |false=>
     simp-implicitDefEqProofs [aA,f0,f1,f2,f7,f9,h2]
     refine ⟨?_,X.trans X4⟩
     have:vh w l k args=false:=by
      rw [Bool.eq_false_iff]
      intro e
      have:=jI.1 e y (asq hy)
      rw [h2]at this
      cases this
     rw [dA,this,Bool.and_false]
   ·rw [gq]at dd
    simp-implicitDefEqProofs [aA,f7,f9,dd,h]
    rw [ass (by omega)]at aG
    refine ⟨?_,X⟩
    rw [dA,h1,jI.2 aG]
    rfl
def ie (w:Int) (l:List Vr) (k:Int) (e:b9):Bool:=decide (aB e≤400)&&(decide (dh e≤16)&&dA w l k e)
theorem W6 {w k:Int} {v:Value} {l:List Vr} (hl:l.length<2^60) {e:b9} {c:List Value} {H:AH} (hw:H.n0≤H.nx) (hv:dz H v l) (he:nX H c e):
 Ca E O 102 [.int .i64 w,v,.int .i64 k,.agg c.toArray] H (fun x H'=>x= .bool (ie w l k e)∧Ext H H'):=by
 refine Ca.dO (F:=Ly) rfl rfl rfl ?_
 have hc:c.length=4:=by cases he;rfl
 have X0:=Ext.alloc H (.cells c.length c)
 have d:=bl hw (z:=c.length) (c:=c) 4 hc
 generalize cJ:H.alloc (.cells c.length c)=H1 at X0 d
 simp-implicitDefEqProofs [Ly,aA,cJ,d]
 refine bB ?_
 simp-implicitDefEqProofs
 refine (Ma (X0.wf hw) (he.ext X0) (by omega)).mono ?_
 rintro x H2 ⟨rfl,X2⟩
 by_cases h1:aB e≤400
 case neg=>
  simp-implicitDefEqProofs [aA,h1,ie]
  exact X0.trans X2
 have dd:=X2.ldn d
 simp-implicitDefEqProofs [aA,h1,dd]
 refine bB ?_
 simp-implicitDefEqProofs
 refine (HC _ e c H2 (asA _) ((X0.trans X2).wf hw) (he.ext (X0.trans X2)) (by omega)).mono ?_
 rintro x H3 ⟨rfl,X3⟩
 have iM:=X0.trans (X2.trans X3)
 by_cases h2:dh e≤16
 case neg=>
  simp-implicitDefEqProofs [aA,h1,h2,ie]
  exact iM
 have ddd:=X3.ldn dd
 simp-implicitDefEqProofs [aA,h1,h2,ddd]
 refine bB ?_
 simp-implicitDefEqProofs
 refine (Mg hl _ e c H3 (asA _) (iM.wf hw) (hv.ext iM) (he.ext iM)).mono ?_
 rintro x H4 ⟨rfl,X4⟩
 simp-implicitDefEqProofs [aA,h1,h2,ie]
 exact iM.trans X4
end Go.Proofs.YtppcmpmnglaleaaGreatDoor.A
namespace Go.Proofs.YtppcmpmnglaleaaGreatDoor.A
open Go
inductive bD where
 |mk (op n:Int) (args:List b9) (thn els:List bD)
mutual
inductive oN (H:AH):List Value→bD→Prop where
 |mk {op n:Int} {va vt ve:Value} {ra rt re:List (List Value)} {args:List b9} {thn els:List bD}:kK op→kK n→args.length<2^60→thn.length<2^60→els.length<2^60→
  Rows H 4 va ra→gG H ra args→Rows H 5 vt rt→iN H rt thn→Rows H 5 ve re→iN H re els→oN H [.int .i64 op,.int .i64 n,va,vt,ve] (.mk op n args thn els)
inductive iN (H:AH):List (List Value)→List bD→Prop where
 |nil:iN H [] []
 |cons {r:List Value} {e:bD} {rs:List (List Value)} {es:List bD}:oN H r e→iN H rs es→iN H (r::rs) (e::es)
end
mutual
theorem oN.ext {H H':AH} (E:Ext H H') {c:List Value} {e:bD}:oN H c e→oN H' c e
 | .mk a b c d e ra la rt lt re le=>.mk a b c d e (ra.ext E) (gG.ext E la) (rt.ext E) (iN.ext E lt) (re.ext E) (iN.ext E le)
theorem iN.ext {H H':AH} (E:Ext H H') {c:List (List Value)} {e:List bD}:iN H c e→iN H' c e
 | .nil=>.nil
 | .cons a b=>.cons (oN.ext E a) (iN.ext E b)
end
theorem iN.length {H:AH}:∀{c:List (List Value)} {e:List bD},iN H c e→c.length=e.length
 |_,_,.nil=>rfl
 |_,_,.cons _ b=>by simp [iN.length b]
theorem iN.at {H:AH}:∀{c:List (List Value)} {e:List bD} {i:Nat} {x:bD},iN H c e→e[i]?=some x→∃r,c[i]?=some r∧oN H r x
 |_,_,i,x,.nil,h=>by simp at h
 |_,_,0,x,.cons a b,h=>by simp at h;subst h;exact ⟨_,rfl,a⟩
 |_,_,i+1,x,.cons a b,h=>by obtain ⟨r,h1,h2⟩:=iN.at b (by simpa using h);exact ⟨r,by simpa using h1,h2⟩
theorem mC {l:List bD} {i:Nat} {op n:Int} {args:List b9} {thn els:List bD} (h:l[i]?=some (.mk op n args thn els)):SizeOf.sizeOf thn<SizeOf.sizeOf l∧SizeOf.sizeOf els<SizeOf.sizeOf l:=by
 have:=List.sizeOf_lt_of_mem (asq h)
 simp at this
 omega
mutual
def wA:bD→Int→Int
 | .mk _ _ args thn els,m=>dB els (dB thn (dP args (m- 1)))
def dB:List bD→Int→Int
 |[],m=>m
 |s::ss,m=>if 0<m then dB ss (wA s m)else m
end
theorem iN.row {H:AH} {v:Value} {rows:List (List Value)} {l:List bD} (hr:Rows H 5 v rows) (hl:iN H rows l) {i:Nat} {op n:Int} {args:List b9} {thn els:List bD} (hy:l[i]?=some (.mk op n args thn els)):
 ∃b o c va vt ve ra rt re,v= .slice (some ⟨b,o,none⟩) l.length c∧H.ldn ⟨b,o+i*5,none⟩ 5=some [.int .i64 op,.int .i64 n,va,vt,ve]∧
  H.ld ⟨b,o+i*5,none⟩=some (.int .i64 op)∧H.ld ⟨b,o+i*5+1,none⟩=some (.int .i64 n)∧H.ld ⟨b,o+i*5+2,none⟩=some va∧H.ld ⟨b,o+i*5+3,none⟩=some vt∧H.ld ⟨b,o+i*5+4,none⟩=some ve∧
  kK op∧kK n∧args.length<2^60∧thn.length<2^60∧els.length<2^60∧Rows H 4 va ra∧gG H ra args∧Rows H 5 vt rt∧iN H rt thn∧Rows H 5 ve re∧iN H re els:=by
 obtain ⟨r,Em,hc⟩:=hl.at hy
 obtain ⟨b,o,c,hv,bJ⟩:=hr.at Em
 rw [hl.length]at hv
 cases hc with| @mk _ _ va vt ve ra rt re _ _ _ i1 i2 i3 i4 i5 h1 h2 h3 h4 h5 h6=>
 exact ⟨b,o,c,va,vt,ve,ra,rt,re,hv,bJ,by simpa using aR bJ (j:=0) rfl,aR bJ (j:=1) rfl,aR bJ (j:=2) rfl,aR bJ (j:=3) rfl,aR bJ (j:=4) rfl,i1,i2,i3,i4,i5,h1,h2,h3,h4,h5,h6⟩
open Go
theorem wB {l:List bD} {i:Nat} {s:bD} (h:l[i]?=some s) (m:Int) (hm:0<m):dB (l.drop i) m=dB (l.drop (i+1)) (wA s m):=by
 obtain ⟨c8,e⟩:=asr.1 h
 rw [List.drop_eq_getElem_cons c8,dB,if_pos hm,e]
theorem AB {l:List b9} {i:Nat} {s:b9} (h:l[i]?=some s) (m:Int):dP (l.drop i) m=dP (l.drop (i+1)) (ko s m):=by
 obtain ⟨c8,e⟩:=asr.1 h
 rw [List.drop_eq_getElem_cons c8,dP,e]
theorem Mh:∀(N:Nat) (l:List bD) (v:Value) (rows:List (List Value)) (H:AH) (m:Int),SizeOf.sizeOf l<N→H.n0≤H.nx→l.length<2^60→Rows H 5 v rows→iN H rows l→0≤m→m≤1000001→
 Ca E O 35 [v,.int .i64 m] H (fun x H'=>(x= .int .i64 (dB l m)∧Ext H H')∧0≤dB l m∧dB l m≤m):=by
 intro N
 induction N with
 |zero=>intro l v rows H m h;omega
 |succ N ih=>
  intro l v rows H m hN hw hlen hr hl Ph hm1
  refine Ca.dO (F:=a35) rfl rfl rfl ?_
  obtain ⟨a0,c0,hv⟩:=hr.len
  rw [hl.length]at hv
  simp-implicitDefEqProofs [a35,aA]
  refine eL (fun k fr H'=>Ext H H'∧∃(i:Nat) (cur:Int),i+k=l.length∧fr.get 0=v∧fr.get 5= .int .i64 i∧fr.get 1= .int .i64 cur∧0≤cur∧cur≤m∧dB l m=dB (l.drop i) cur) ?_ l.length ⟨Ext.refl _,0,m,by simp,by simp,by simp,by simp,Ph,Int.le_refl _,by simp⟩
  rintro k fr H1 ⟨X1,i,cur,hi,f0,f5,f1,b0,b1,yk⟩
  have fin:∀q:Prop,(dB l m=cur→q)→(dB (l.drop i) cur=cur)→q:=fun q h1 h2=>h1 (yk.trans h2)
  by_cases h:i<l.length
  ·by_cases hp:0<cur
   ·obtain ⟨⟨op,n,args,thn,els⟩,hy⟩:∃y,l[i]?=some y:=⟨_,asl h⟩
    have hs:=mC hy
    obtain ⟨b,o,c,va,vt,ve,ra,rt,re,cA,_,_,_,e2,e3,e4,i1,i2,i3,i4,i5,g1,g2,g3,g4,g5,g6⟩:=iN.row (hr.ext X1) (hl.ext X1) hy
    obtain ⟨a3,c3,gq⟩:=g1.len
    rw [g2.length]at gq
    have f0v:=f0
    rw [cA]at f0
    simp-implicitDefEqProofs [aA,f0,f5,f1,h,hp]
    rw [ai (n:=cur- 1) ⟨by omega,by omega⟩]
    refine eL (fun k2 fK H2=>Ext H1 H2∧∃(j:Nat) (cu:Int),j+k2=args.length∧fK.get 0= .slice (some ⟨b,o,none⟩) l.length c∧fK.get 5= .int .i64 i∧fK.get 1= .int .i64 cu∧fK.get 6= .int .i64 j∧0≤cu∧cu≤cur- 1∧dP args (cur- 1)=dP (args.drop j) cu) ?_ args.length ⟨Ext.refl _,0,cur- 1,by simp,by simp [f0],by simp [f5],by simp,by simp,by omega,by omega,by simp⟩
    rintro k2 fK H2 ⟨X2,j,cu,hj,p0,p5,p1,p6,q0,q1,hcu⟩
    have Mi:=X2.ld e2
    have Uw:=X2.ld e3
    have e4':=X2.ld e4
    have jr:=(X1.trans X2).wf hw
    by_cases h2:j<args.length
    ·obtain ⟨y,Al⟩:∃y,args[j]?=some y:=⟨_,asl h2⟩
     obtain ⟨r,Em,kO⟩:=g2.at Al
     obtain ⟨b2,o2,c2,xB,bJ⟩:=(g1.ext X2).at Em
     rw [g2.length]at xB
     rw [xB]at Mi
     simp-implicitDefEqProofs [aA,p0,p5,p1,p6,h,h2,Mi,bJ]
     refine bB ?_
     simp-implicitDefEqProofs [p1]
     refine (Co _ y r H2 cu (asA _) jr (kO.ext X2) ⟨by omega,by omega⟩).mono ?_
     rintro x H3 ⟨rfl,X3⟩
     have hle:=yi _ y cu (asA _)
     simp-implicitDefEqProofs [aA,p0,p5,p1,p6]
     rw [ai (n:=(j:Int)+1) ⟨by omega,by omega⟩]
     refine ⟨k2- 1,by omega,X2.trans X3,j+1,by omega,by simp,by omega,by omega,?_⟩
     rw [hcu,AB Al]
    ·rw [gq]at Mi
     have FJ:j=args.length:=by omega
     rw [FJ,List.drop_length,dP]at hcu
     simp-implicitDefEqProofs [aA,p0,p5,p1,p6,h,h2,Mi,Uw,e4']
     refine bB ?_
     simp-implicitDefEqProofs [p1]
     refine (ih thn vt rt H2 cu (by omega) jr i4 (g3.ext X2) (g4.ext X2) q0 (by omega)).mono ?_
     rintro x H3 ⟨⟨rfl,X3⟩,r0,r1⟩
     have aft:=X3.ld e4'
     simp-implicitDefEqProofs [aA,p0,p5,p1,p6,h,aft]
     refine bB ?_
     simp-implicitDefEqProofs
     refine (ih els ve re H3 _ (by omega) (X3.wf jr) i5 (g5.ext (X2.trans X3)) (g6.ext (X2.trans X3)) r0 (by omega)).mono ?_
     rintro x H4 ⟨⟨rfl,X4⟩,s0,s1⟩
     simp-implicitDefEqProofs [aA,p0,p5,p1,p6]
     rw [ai (n:=(i:Int)+1) ⟨by omega,by omega⟩]
     refine ⟨k- 1,by omega,X1.trans (X2.trans (X3.trans X4)),i+1,by omega,cA.symm,by simp,s0,by omega,?_⟩
     rw [yk,wB hy cur hp,wA,hcu]
   ·have xB:=hv
    rw [hv]at f0
    simp-implicitDefEqProofs [aA,f0,f5,f1,h,hp]
    have rT:dB (l.drop i) cur=cur:=by
     rw [List.drop_eq_getElem_cons h,dB,if_neg hp]
    exact ⟨⟨(yk.trans rT).symm,X1⟩,by rw [yk,rT];exact b0,by rw [yk,rT];exact b1⟩
  ·rw [hv]at f0
   simp-implicitDefEqProofs [aA,f0,f5,f1,h]
   have rT:dB (l.drop i) cur=cur:=by
    rw [List.drop_of_length_le (by omega),dB]
   exact ⟨⟨(yk.trans rT).symm,X1⟩,by rw [yk,rT];exact b0,by rw [yk,rT];exact b1⟩
end Go.Proofs.YtppcmpmnglaleaaGreatDoor.A
namespace Go.Proofs.YtppcmpmnglaleaaGreatDoor.A
open Go
mutual
def bu:bD→Int
 | .mk _ _ args thn els=>1+aw args+av thn+av els
def av:List bD→Int
 |[]=>0
 |s::ss=>bu s+av ss
end
theorem wC {M:List bD→Prop} (h:∀l,(∀op n args thn els,.mk op n args thn els∈l→M thn∧M els)→M l):∀l,M l:=by
 have key:∀(N:Nat) (l:List bD),SizeOf.sizeOf l<N→M l:=by
  intro N
  induction N with
  |zero=>intro l h;omega
  |succ N ih=>
   intro l hl
   refine h l fun op n args thn els hm=>?_
   have:=List.sizeOf_lt_of_mem hm
   simp at this
   exact ⟨ih thn (by omega),ih els (by omega)⟩
 exact fun l=>key _ l (asA _)
theorem HD (l:List b9) (k:Int) (hk:0≤k):dP l k=max (k- aw l) 0:=by
 induction l generalizing k with
 |nil=>rw [dP,aw];omega
 |cons x l tp=>
  rw [dP,aw,yj,tp _ (by omega)]
  have:=bc l
  omega
theorem dM:∀l,0≤av l∧∀m,0≤m→dB l m=max (m- av l) 0:=wC fun l ih=>by
 induction l with
 |nil=>exact ⟨by rw [av];omega,fun m hm=>by rw [dB,av];omega⟩
 |cons s ss tp=>
  obtain ⟨op,n,args,thn,els⟩:=s
  obtain ⟨⟨t0,t1⟩,⟨u0,u1⟩⟩:=ih op n args thn els (by simp)
  obtain ⟨v0,v1⟩:=tp fun op n args thn els h=>ih op n args thn els (by simp [h])
  have a0:=bc args
  refine ⟨by rw [av,bu];omega,fun m hm=>?_⟩
  rw [dB,av,bu]
  split
  ·rw [wA,HD _ _ (by omega),t1 _ (by omega),u1 _ (by omega),v1 _ (by omega)]
   omega
  ·omega
theorem yl {l:List bD} {v:Value} {rows:List (List Value)} {H:AH} {m:Int} (hw:H.n0≤H.nx) (hlen:l.length<2^60) (hr:Rows H 5 v rows) (hl:iN H rows l) (hm:0≤m∧m≤1000000):
 Ca E O 10 [v,.int .i64 m] H (fun x H'=>x= .bool (decide (av l≤m))∧Ext H H'):=by
 refine Ca.dO (F:=a10) rfl rfl rfl ?_
 simp-implicitDefEqProofs [a10,aA]
 refine bB ?_
 rw [ai ⟨by omega,by omega⟩]
 simp-implicitDefEqProofs
 refine (Mh _ l v rows H (m+1) (asA _) hw hlen hr hl (by omega) (by omega)).mono ?_
 rintro x H2 ⟨⟨rfl,X2⟩,_⟩
 simp-implicitDefEqProofs [aA]
 refine ⟨?_,X2⟩
 rw [(dM l).2 _ (by omega)]
 have:=(dM l).1
 omega
def mD (l:List Vr) (n:Int) (na:Nat) (more:Int):Bool:=decide (0≤n)&&(decide (n<l.length)&&decide ((na:Int)=more+if 1<al l n then 1 else 0))
theorem ym {n more:Int} {v v0 va vt ve:Value} {l:List Vr} {rows:List (List Value)} {H:AH} (hw:H.n0≤H.nx) (hv:dz H v l) (hl:l.length<2^60) (hr:Rows H 4 va rows) (hn:rows.length<2^60) (ajL:0≤more∧more≤1):
 Ca E O 136 [v,.agg #[v0,.int .i64 n,va,vt,ve],.int .i64 more] H (fun x H'=>x= .bool (mD l n rows.length more)∧Ext H H'):=by
 refine Ca.dO (F:=LK) rfl rfl rfl ?_
 have X0:=Ext.alloc H (.cells 5 [v0,.int .i64 n,va,vt,ve])
 have d1:(H.alloc (.cells 5 [v0,.int .i64 n,va,vt,ve])).ld ⟨H.nx,1,none⟩=some (.int .i64 n):=ak hw rfl
 have d2:(H.alloc (.cells 5 [v0,.int .i64 n,va,vt,ve])).ld ⟨H.nx,2,none⟩=some va:=ak hw rfl
 generalize cJ:H.alloc (.cells 5 [v0,.int .i64 n,va,vt,ve])=H1 at X0 d1 d2
 obtain ⟨a1,c1,gq⟩:=hr.len
 obtain ⟨a2,c2,lC⟩:=hv.len
 have d1n:=bg.1 d1
 have d2n:=bg.1 d2
 simp-implicitDefEqProofs [LK,aA,cJ]
 refine pF _ _ ?_
 by_cases h2:0≤n
 case neg=>
  simp-implicitDefEqProofs [aA,uJ,chain,kQ,nth,AO.wanted,ff,sameAt,fk,dG,d1,d1n,d2n,h2,mD]
  exact X0
 by_cases h3:n<l.length
 case neg=>
  simp-implicitDefEqProofs [aA,uJ,chain,kQ,nth,AO.wanted,ff,sameAt,fk,dG,d1,d1n,d2n,h2,h3,lC,mD]
  exact X0
 obtain ⟨y,hy⟩:∃y,l[n.toNat]?=some y:=⟨_,asl (by omega)⟩
 obtain ⟨b,o,c',cA,_,_,_,eh⟩:=(hv.ext X0).at hy
 have hc:al l n=y.cells:=by simp [al,hy]
 rw [gq]at d2 d2n
 rw [cA]
 simp-implicitDefEqProofs [aA,d1,d2,eh,h2,h3]
 refine ni ?_
 simp-implicitDefEqProofs
 refine (wy (decide (1<y.cells)) H1).mono ?_
 rintro x H2 ⟨rfl,rfl⟩
 simp-implicitDefEqProofs [aA,uJ,chain,kQ,nth,AO.wanted,ff,sameAt,fk,dG,d1,d2,d1n,d2n,eh,h2,h3,mD,hc]
 refine ⟨?_,X0⟩
 rw [ai (by unfold kK;split<;>omega)]
open Go
mutual
def kr:bD→Int→Int
 | .mk _ _ _ thn els,n=>max (max n (1+bE thn 0)) (1+bE els 0)
def bE:List bD→Int→Int
 |[],n=>n
 |s::ss,n=>bE ss (kr s n)
end
theorem pL:∀(l:List bD) (n:Int),bE l n=l.foldl (fun n e=>kr e n) n
 |[],n=>rfl
 |e::es,n=>by simp [bE,pL es]
theorem lJ:∀l,∀k,0≤k→k≤bE l k∧bE l k≤max k (av l):=wC fun l ih=>by
 induction l with
 |nil=>intro k hk;rw [bE,av];omega
 |cons s ss tp=>
  obtain ⟨op,n,args,thn,els⟩:=s
  intro k hk
  obtain ⟨t,u⟩:=ih op n args thn els (by simp)
  have t:=t 0 (by omega)
  have u:=u 0 (by omega)
  have t2:=(dM thn).1
  have u2:=(dM els).1
  have v2:=(dM ss).1
  have a0:=bc args
  rw [bE,av,bu,kr]
  have w:=tp (fun op n args thn els h=>ih op n args thn els (by simp [h])) (max (max k (1+bE thn 0)) (1+bE els 0)) (by omega)
  omega
theorem oO {l:List bD} {op n:Int} {args:List b9} {thn els:List bD} (h:bD.mk op n args thn els∈l):1+av thn≤av l∧1+av els≤av l∧1+aw args≤av l:=by
 induction l with
 |nil=>cases h
 |cons s ss ih=>
  rw [av]
  have v2:=(dM ss).1
  rcases List.mem_cons.1 h with h|h
  ·rw [←h,bu]
   have t2:=(dM thn).1
   have u2:=(dM els).1
   have a0:=bc args
   omega
  ·have:=ih h
   obtain ⟨op',n',Cp,En,Eo⟩:=s
   rw [bu]
   have t2:=(dM En).1
   have u2:=(dM Eo).1
   have a0:=bc Cp
   omega
theorem Ep:∀(N:Nat) (l:List bD) (v:Value) (rows:List (List Value)) (H:AH),SizeOf.sizeOf l<N→H.n0≤H.nx→l.length<2^60→Rows H 5 v rows→iN H rows l→av l<2^60→
 Ca E O 72 [v] H (fun x H'=>x= .int .i64 (bE l 0)∧Ext H H'):=by
 intro N
 induction N with
 |zero=>intro l v rows H h;omega
 |succ N ih=>
  intro l v rows H hN hw hlen hr hl hm
  refine Ca.dO (F:=a72) rfl rfl rfl ?_
  obtain ⟨a0,c0,hv⟩:=hr.len
  rw [hl.length]at hv
  simp-implicitDefEqProofs [a72,aA]
  refine eL (fun k fr H'=>Ext H H'∧∃i:Nat,i+k=l.length∧fr.get 0=v∧fr.get 4= .int .i64 i∧fr.get 3= .int .i64 (bE (l.take i) 0)) ?_ l.length ⟨Ext.refl _,0,by simp,by simp,by simp,by simp [bE]⟩
  rintro k fr H1 ⟨X1,i,hi,f0,f4,f3⟩
  by_cases h:i<l.length
  ·obtain ⟨⟨op,n,args,thn,els⟩,hy⟩:∃y,l[i]?=some y:=⟨_,asl h⟩
   have hs:=mC hy
   have hn:=oO (asq hy)
   obtain ⟨b,o,c,va,vt,ve,ra,rt,re,cA,_,_,_,e2,e3,e4,i1,i2,i3,i4,i5,g1,g2,g3,g4,g5,g6⟩:=iN.row (hr.ext X1) (hl.ext X1) hy
   obtain ⟨a4,c4,tq⟩:=g5.len
   have lI:=X1.wf hw
   rw [cA]at f0
   simp-implicitDefEqProofs [aA,f0,f4,f3,h]
   refine pF _ _ ?_
   simp-implicitDefEqProofs [aA,f0,f4,f3,h,e3,e4]
   refine ni ?_
   simp-implicitDefEqProofs
   refine (ih thn vt rt H1 (by omega) lI i4 g3 g4 (by omega)).mono ?_
   rintro x H2 ⟨rfl,X2⟩
   have bt:=lJ thn 0 (by omega)
   have be:=lJ els 0 (by omega)
   simp-implicitDefEqProofs [aA]
   rw [ai (n:=1+bE thn 0) ⟨by omega,by omega⟩]
   refine ni ?_
   simp-implicitDefEqProofs
   refine (ih els ve re H2 (by omega) (X2.wf lI) i5 (g5.ext X2) (g6.ext X2) (by omega)).mono ?_
   rintro x H3 ⟨rfl,X3⟩
   have UT:=bg.1 e4
   have W7:=X2.ldn UT
   rw [tq]at UT W7
   simp-implicitDefEqProofs [aA,KB,uJ,chain,kQ,nth,AO.wanted,ff,sameAt,fk,dG,UT,W7,X2.n0,X3.n0,X2.nx,X3.nx,f0,f4]
   rw [ai (n:=1+bE els 0) ⟨by omega,by omega⟩,ai (n:=(i:Int)+1) ⟨by omega,by omega⟩]
   have e5:bE (l.take (i+1)) 0=max (max (bE (l.take i) 0) (1+bE thn 0)) (1+bE els 0):=by
    rw [List.take_add_one,hy]
    simp [pL,List.foldl_append,kr]
   refine ⟨k- 1,by omega,X1.trans (X2.trans X3),i+1,by omega,cA.symm,by simp,?_⟩
   rw [e5]
   split<;>split<;>omega
  ·rw [hv]at f0
   simp-implicitDefEqProofs [aA,f0,f4,f3,h]
   rw [ass (by omega)]
   exact ⟨rfl,X1⟩
end Go.Proofs.YtppcmpmnglaleaaGreatDoor.A
namespace Go.Proofs.YtppcmpmnglaleaaGreatDoor.A
open Go
def cB (l:List Vr) (op n:Int) (na nt ne:Nat):Bool:=
 if op=0 then(decide (nt=0)&&decide (ne=0))&&mD l n na 1
 else if op=1 then decide (n=0)&&decide (na=1)
 else if op=2 then decide (n=0)&&(decide (na=1)&&decide (ne=0))
 else if op=3 then(decide (nt=0)&&decide (ne=0))&&(decide (0≤n)&&(decide (n≤47)&&decide (na=1)))
 else if op=4 then(decide (nt=0)&&decide (ne=0))&&mD l n na 0
 else if op=5∨op=6 then(decide (nt=0)&&decide (ne=0))&&(decide (n=0)&&decide (na=1))
 else false
def qH:AC:=match Ef.body with| .seq _ (.seq _ r)=>r|c=>c
theorem AD:Ef.body= .seq (.bR [o 3 (.box (.t 1)),o 4 (.mv (.k (.bool false)))]) (.seq (.bR [o 6 (.fa 3 (.t 3)),o 7 (.ld (.t 6)),o 8 (.eE (.t 7)),o 9 (.bin .eql (.t 8) (i 0)),o 10 (.mv (.t 9)),og 10 true 11 (.fa 4 (.t 3)),og 10 true 12 (.ld (.t 11)),og 10 true 13 (.eE (.t 12)),og 10 true 14 (.bin .eql (.t 13) (i 0)),o 15 (.pick (.t 10) (.t 14) (.k (.bool false))),o 5 (.mv (.t 15))]) qH):=rfl
theorem dQ (n:Nat):((n:Int)=0)=(n=0):=by apply propext;omega
theorem dC (n:Nat):((n:Int)=1)=(n=1):=by apply propext;omega
theorem Mj {op n:Int} {v va vt ve:Value} {l:List Vr} {ra rt re:List (List Value)} {H:AH} (hw:H.n0≤H.nx) (hv:dz H v l) (hl:l.length<2^60) (ha:Rows H 4 va ra) (ht:Rows H 5 vt rt) (he:Rows H 5 ve re) (hn:ra.length<2^60):
 Ca E O 101 [v,.agg #[.int .i64 op,.int .i64 n,va,vt,ve]] H (fun x H'=>x= .bool (cB l op n ra.length rt.length re.length)∧Ext H H'):=by
 refine Ca.dO (F:=Ef) rfl rfl rfl ?_
 have X0:=Ext.alloc H (.cells 5 [.int .i64 op,.int .i64 n,va,vt,ve])
 have d0:(H.alloc (.cells 5 [.int .i64 op,.int .i64 n,va,vt,ve])).ld ⟨H.nx,0,none⟩=some (.int .i64 op):=ak hw rfl
 have d1:(H.alloc (.cells 5 [.int .i64 op,.int .i64 n,va,vt,ve])).ld ⟨H.nx,1,none⟩=some (.int .i64 n):=ak hw rfl
 have d2:(H.alloc (.cells 5 [.int .i64 op,.int .i64 n,va,vt,ve])).ld ⟨H.nx,2,none⟩=some va:=ak hw rfl
 have d3:(H.alloc (.cells 5 [.int .i64 op,.int .i64 n,va,vt,ve])).ld ⟨H.nx,3,none⟩=some vt:=ak hw rfl
 have d4:(H.alloc (.cells 5 [.int .i64 op,.int .i64 n,va,vt,ve])).ld ⟨H.nx,4,none⟩=some ve:=ak hw rfl
 have d:=bl hw (z:=5) (c:=[.int .i64 op,.int .i64 n,va,vt,ve]) 5 rfl
 generalize cJ:H.alloc (.cells 5 [.int .i64 op,.int .i64 n,va,vt,ve])=H1 at X0 d0 d1 d2 d3 d4 d
 obtain ⟨a2,c2,gq⟩:=ha.len
 obtain ⟨a3,c3,xG⟩:=ht.len
 obtain ⟨a4,c4,tq⟩:=he.len
 have D2:=d2
 have D3:=d3
 have D4:=d4
 rw [gq]at D2
 rw [xG]at D3
 rw [tq]at D4
 have vc:∀more:Int,0≤more∧more≤1→Ca E O 136 [v,.agg #[.int .i64 op,.int .i64 n,va,vt,ve],.int .i64 more] H1 (fun x H'=>x= .bool (mD l n ra.length more)∧Ext H1 H'):=fun more hm=>ym (X0.wf hw) (hv.ext X0) hl (ha.ext X0) hn hm
 clear ha ht he hn
 generalize ra.length=na at*
 generalize rt.length=nt at*
 generalize re.length=ne at*
 obtain ⟨fl,fX⟩:∃b,b=(decide (nt=0)&&decide (ne=0)):=⟨_,rfl⟩
 suffices hs:∀fr:Fr,fr.get 0=v→fr.get 3= .pointer (some ⟨H.nx,0,none⟩)→fr.get 5= .bool fl→Wk E O qH [] fr H1 (x7 [.tmp 4] fun x H'=>x= .bool (cB l op n na nt ne)∧Ext H H') by
  rw [AD]
  by_cases h3:nt=0
  ·subst h3
   simp-implicitDefEqProofs [aA,cJ,D3,D4,dQ]
   refine hs _ ?_ ?_ ?_<;>simp [fX]
  ·simp-implicitDefEqProofs [aA,cJ,D3,D4,h3,dQ]
   refine hs _ ?_ ?_ ?_<;>simp [fX,h3]
 intro fr f0 f3 f5
 simp-implicitDefEqProofs [qH,Ef,aA,f3,d0]
 by_cases g0:op=0
 ·subst g0
  cases hb:fl with
  |false=>
   rw [hb]at f5
   simp-implicitDefEqProofs [aA,f0,f3,f5,d,cB,←fX,hb]
   exact X0
  |true=>
   rw [hb]at f5
   simp-implicitDefEqProofs [aA,f0,f3,f5,d]
   refine bB ?_
   simp-implicitDefEqProofs [f0]
   refine (vc 1 (by omega)).mono ?_
   rintro x H2 ⟨rfl,X2⟩
   simp-implicitDefEqProofs [aA,cB,←fX,hb]
   exact X0.trans X2
 simp-implicitDefEqProofs [aA,g0]
 by_cases g1:op=1
 ·subst g1
  by_cases k1:n=0
  case neg=>
   simp-implicitDefEqProofs [aA,f0,f3,f5,d1,D2,D4,dQ,dC,cB,k1]
   exact X0
  by_cases k2:na=1
  case neg=>
   simp-implicitDefEqProofs [aA,f0,f3,f5,d1,D2,D4,dQ,dC,cB,k1,k2]
   exact X0
  simp-implicitDefEqProofs [aA,f0,f3,f5,d1,D2,D4,dQ,dC,cB,k1,k2]
  exact X0
 simp-implicitDefEqProofs [aA,g1]
 by_cases g2:op=2
 ·subst g2
  by_cases k1:n=0
  case neg=>
   simp-implicitDefEqProofs [aA,f0,f3,f5,d1,D2,D4,dQ,dC,cB,k1]
   exact X0
  by_cases k2:na=1
  case neg=>
   simp-implicitDefEqProofs [aA,f0,f3,f5,d1,D2,D4,dQ,dC,cB,k1,k2]
   exact X0
  by_cases k3:ne=0
  case neg=>
   simp-implicitDefEqProofs [aA,f0,f3,f5,d1,D2,D4,dQ,dC,cB,k1,k2,k3]
   exact X0
  simp-implicitDefEqProofs [aA,f0,f3,f5,d1,D2,D4,dQ,dC,cB,k1,k2,k3]
  exact X0
 simp-implicitDefEqProofs [aA,g2]
 by_cases g3:op=3
 ·subst g3
  cases hb:fl with
  |false=>
   rw [hb]at f5
   simp-implicitDefEqProofs [aA,f0,f3,f5,d1,D2,D4,dQ,dC,cB,←fX,hb]
   exact X0
  |true=>
  rw [hb]at f5
  by_cases k1:0≤n
  case neg=>
   simp-implicitDefEqProofs [aA,f0,f3,f5,d1,D2,D4,dQ,dC,cB,←fX,hb,k1]
   exact X0
  by_cases k2:n≤47
  case neg=>
   simp-implicitDefEqProofs [aA,f0,f3,f5,d1,D2,D4,dQ,dC,cB,←fX,hb,k1,k2]
   exact X0
  by_cases k3:na=1
  case neg=>
   simp-implicitDefEqProofs [aA,f0,f3,f5,d1,D2,D4,dQ,dC,cB,←fX,hb,k1,k2,k3]
   exact X0
  simp-implicitDefEqProofs [aA,f0,f3,f5,d1,D2,D4,dQ,dC,cB,←fX,hb,k1,k2,k3]
  exact X0
 simp-implicitDefEqProofs [aA,g3]
 by_cases g4:op=4
 ·subst g4
  cases hb:fl with
  |false=>
   rw [hb]at f5
   simp-implicitDefEqProofs [aA,f0,f3,f5,d,cB,←fX,hb]
   exact X0
  |true=>
   rw [hb]at f5
   simp-implicitDefEqProofs [aA,f0,f3,f5,d]
   refine bB ?_
   simp-implicitDefEqProofs [f0]
   refine (vc 0 (by omega)).mono ?_
   rintro x H2 ⟨rfl,X2⟩
   simp-implicitDefEqProofs [aA,cB,←fX,hb]
   exact X0.trans X2
 simp-implicitDefEqProofs [aA,g4]
 by_cases g5:op=5
 ·subst g5
  cases hb:fl with
  |false=>
   rw [hb]at f5
   simp-implicitDefEqProofs [aA,f0,f3,f5,d1,D2,D4,dQ,dC,cB,←fX,hb]
   exact X0
  |true=>
  rw [hb]at f5
  by_cases k1:n=0
  case neg=>
   simp-implicitDefEqProofs [aA,f0,f3,f5,d1,D2,D4,dQ,dC,cB,←fX,hb,k1]
   exact X0
  by_cases k2:na=1
  case neg=>
   simp-implicitDefEqProofs [aA,f0,f3,f5,d1,D2,D4,dQ,dC,cB,←fX,hb,k1,k2]
   exact X0
  simp-implicitDefEqProofs [aA,f0,f3,f5,d1,D2,D4,dQ,dC,cB,←fX,hb,k1,k2]
  exact X0
 simp-implicitDefEqProofs [aA,g5]
 by_cases g6:op=6
 ·subst g6
  cases hb:fl with
  |false=>
   rw [hb]at f5
   simp-implicitDefEqProofs [aA,f0,f3,f5,d1,D2,D4,dQ,dC,cB,←fX,hb]
   exact X0
  |true=>
  rw [hb]at f5
  by_cases k1:n=0
  case neg=>
   simp-implicitDefEqProofs [aA,f0,f3,f5,d1,D2,D4,dQ,dC,cB,←fX,hb,k1]
   exact X0
  by_cases k2:na=1
  case neg=>
   simp-implicitDefEqProofs [aA,f0,f3,f5,d1,D2,D4,dQ,dC,cB,←fX,hb,k1,k2]
   exact X0
  simp-implicitDefEqProofs [aA,f0,f3,f5,d1,D2,D4,dQ,dC,cB,←fX,hb,k1,k2]
  exact X0
 simp-implicitDefEqProofs [aA,g6]
 simp-implicitDefEqProofs [cB,g0,g1,g2,g3,g4,g5,g6]
 exact X0
open Go
mutual
def fm (w:Int) (V:List Vr):bD→Bool
 | .mk op n args thn els=>cB V op n args.length thn.length els.length&&(gu w V thn&&(gu w V els&&args.all (ie w V 1)))
def gu (w:Int) (V:List Vr):List bD→Bool
 |[]=>true
 |s::ss=>fm w V s&&gu w V ss
end
theorem kV {w:Int} {V:List Vr}:∀{es:List bD},gu w V es=true↔∀e∈es,fm w V e=true
 |[]=>by simp [gu]
 |e::es=>by simp [gu,kV (es:=es)]
theorem pM {w:Int} {V:List Vr} {es:List bD} {e:bD} (h:e∈es) (k:fm w V e=false):gu w V es=false:=by
 rw [Bool.eq_false_iff]
 intro q
 rw [kV.1 q e h]at k
 cases k
theorem Mk {w:Int} {v:Value} {V:List Vr} (hV:V.length<2^60):∀(N:Nat) (l:List bD) (vl:Value) (rows:List (List Value)) (H:AH),SizeOf.sizeOf l<N→H.n0≤H.nx→dz H v V→l.length<2^60→Rows H 5 vl rows→iN H rows l→
 Ca E O 73 [.int .i64 w,v,vl] H (fun x H'=>x= .bool (gu w V l)∧Ext H H'):=by
 intro N
 induction N with
 |zero=>intro l vl rows H h;omega
 |succ N ih=>
  intro l vl rows H hN hw hv hlen hr hl
  refine Ca.dO (F:=a73) rfl rfl rfl ?_
  obtain ⟨a0,c0,kW⟩:=hr.len
  rw [hl.length]at kW
  simp-implicitDefEqProofs [a73,aA]
  refine eL (fun k fr H'=>Ext H H'∧∃i:Nat,i+k=l.length∧fr.get 0= .int .i64 w∧fr.get 1=v∧fr.get 2=vl∧fr.get 7= .int .i64 i∧∀e∈l.take i,fm w V e=true) ?_ l.length ⟨Ext.refl _,0,by simp,by simp,by simp,by simp,by simp,by simp⟩
  rintro k fr H1 ⟨X1,i,hi,f0,f1,f2,f7,aG⟩
  by_cases h:i<l.length
  case neg=>
   rw [kW]at f2
   simp-implicitDefEqProofs [aA,f2,f7,h]
   rw [ass (by omega)]at aG
   exact ⟨kV.2 aG,X1⟩
  obtain ⟨⟨op,n,args,thn,els⟩,hy⟩:∃y,l[i]?=some y:=⟨_,asl h⟩
  have hs:=mC hy
  have pN:=asq hy
  obtain ⟨b,o,c,va,vt,ve,ra,rt,re,cA,bJ,_,_,e2,e3,e4,i1,i2,i3,i4,i5,g1,g2,g3,g4,g5,g6⟩:=iN.row (hr.ext X1) (hl.ext X1) hy
  have lI:=X1.wf hw
  have tm:=hv.ext X1
  rw [cA]at f2
  simp-implicitDefEqProofs [aA,f0,f1,f2,f7,h,bJ]
  refine bB ?_
  simp-implicitDefEqProofs [f1]
  refine (Mj lI tm hV g1 g3 g5 (by rw [g2.length];exact i3)).mono ?_
  rintro x H2 ⟨rfl,X2⟩
  rw [g2.length,g4.length,g6.length]
  cases q1:cB V op n args.length thn.length els.length with
  |false=>
   simp-implicitDefEqProofs [aA,q1]
   exact ⟨pM pN (by simp [fm,q1]),X1.trans X2⟩
  |true=>
   simp-implicitDefEqProofs [aA,f0,f1,f2,f7,h,q1,X2.ld e3]
   refine bB ?_
   simp-implicitDefEqProofs
   refine (ih thn vt rt H2 (by omega) (X2.wf lI) (tm.ext X2) i4 (g3.ext X2) (g4.ext X2)).mono ?_
   rintro x H3 ⟨rfl,X3⟩
   have AE:=X2.trans X3
   cases q2:gu w V thn with
   |false=>
    simp-implicitDefEqProofs [aA,q2]
    exact ⟨pM pN (by simp [fm,q1,q2]),X1.trans AE⟩
   |true=>
    simp-implicitDefEqProofs [aA,f0,f1,f2,f7,h,q2,AE.ld e4]
    refine bB ?_
    simp-implicitDefEqProofs
    refine (ih els ve re H3 (by omega) (AE.wf lI) (tm.ext AE) i5 (g5.ext AE) (g6.ext AE)).mono ?_
    rintro x H4 ⟨rfl,X4⟩
    have Ml:=AE.trans X4
    cases q3:gu w V els with
    |false=>
     simp-implicitDefEqProofs [aA,q3]
     exact ⟨pM pN (by simp [fm,q1,q2,q3]),X1.trans Ml⟩
    |true=>
     simp-implicitDefEqProofs [aA,q3]
     obtain ⟨a3,c3,gq⟩:=g1.len
     rw [g2.length]at gq
     refine eL (fun k2 fK H5=>Ext H4 H5∧∃j:Nat,j+k2=args.length∧fK.get 0= .int .i64 w∧fK.get 1=v∧fK.get 2= .slice (some ⟨b,o,none⟩) l.length c∧fK.get 7= .int .i64 i∧fK.get 8= .int .i64 j∧∀e∈args.take j,ie w V 1 e=true) ?_ args.length ⟨Ext.refl _,0,by simp,by simp [f0],by simp [f1],by simp [f2],by simp [f7],by simp,by simp⟩
     rintro k2 fK H5 ⟨X5,j,hj,p0,p1,p2,p7,p8,ts⟩
     have RB:=Ml.trans X5
     have Mi:=RB.ld e2
     by_cases h2:j<args.length
     ·obtain ⟨y,Al⟩:∃y,args[j]?=some y:=⟨_,asl h2⟩
      obtain ⟨r,Em,kO⟩:=g2.at Al
      obtain ⟨b2,o2,c2,xB,yp⟩:=(g1.ext RB).at Em
      rw [g2.length]at xB
      rw [xB]at Mi
      simp-implicitDefEqProofs [aA,p0,p1,p2,p7,p8,h,h2,Mi,yp]
      refine bB ?_
      simp-implicitDefEqProofs [p0,p1]
      refine (W6 (k:=1) hV (RB.wf lI) (tm.ext RB) (kO.ext RB)).mono ?_
      rintro x H6 ⟨rfl,X6⟩
      cases q4:ie w V 1 y with
      |true=>
       simp-implicitDefEqProofs [aA,p0,p1,p2,p7,p8,q4]
       rw [ai (n:=(j:Int)+1) ⟨by omega,by omega⟩]
       refine ⟨k2- 1,by omega,X5.trans X6,j+1,by omega,by simp,fun z hz=>?_⟩
       rw [List.take_add_one,Al]at hz
       rcases List.mem_append.1 hz with hz|hz
       ·exact ts z hz
       ·simp at hz;subst hz;exact q4
      |false=>
       simp-implicitDefEqProofs [aA,p0,p1,p2,p7,p8,q4]
       refine ⟨pM pN ?_,X1.trans (RB.trans X6)⟩
       have:args.all (ie w V 1)=false:=by
        rw [List.all_eq_false]
        exact ⟨y,asq Al,by simp [q4]⟩
       simp only [fm,this,Bool.and_false]
     ·rw [gq]at Mi
      simp-implicitDefEqProofs [aA,p0,p1,p2,p7,p8,h,h2,Mi]
      rw [ai (n:=(i:Int)+1) ⟨by omega,by omega⟩]
      rw [ass (by omega)]at ts
      refine ⟨k- 1,by omega,X1.trans RB,i+1,by omega,cA.symm,by simp,fun z hz=>?_⟩
      rw [List.take_add_one,hy]at hz
      rcases List.mem_append.1 hz with hz|hz
      ·exact aG z hz
      ·simp at hz
       subst hz
       have:args.all (ie w V 1)=true:=asB.2 ts
       simp only [fm,q1,q2,q3,this,Bool.and_self]
end Go.Proofs.YtppcmpmnglaleaaGreatDoor.A
namespace Go.Proofs.YtppcmpmnglaleaaGreatDoor.A
open Go
structure bf where
 w:Int
 vars:List Vr
 body:List bD
structure qI (H:AH) (c:List Value) (p:bf):Prop where
 is:∃vv vb rb,c=[.int .i64 p.w,vv,vb]∧kK p.w∧dz H vv p.vars∧oM p.vars∧Rows H 5 vb rb∧iN H rb p.body∧p.body.length<2^60
theorem qI.ext {H H':AH} (E:Ext H H') {c:List Value} {p:bf} (h:qI H c p):qI H' c p:=by
 obtain ⟨vv,vb,rb,e,a,b,c',d,f,g⟩:=h.is
 exact ⟨vv,vb,rb,e,a,b.ext E,c',d.ext E,iN.ext E f,g⟩
theorem qI.len {H:AH} {c:List Value} {p:bf} (h:qI H c p):c.length=3:=by
 obtain ⟨vv,vb,rb,e,_⟩:=h.is
 rw [e];rfl
def bq (p:bf):Bool:=aC p.w p.vars&&(decide (av p.body≤400)&&(decide (bE p.body 0≤16)&&gu p.w p.vars p.body))
theorem RC {p:bf} {c:List Value} {H:AH} (hw:H.n0≤H.nx) (hp:qI H c p):Ca E O 40 [.agg c.toArray] H (fun x H'=>x= .bool (bq p)∧Ext H H'):=by
 obtain ⟨vv,vb,rb,rfl,hi,hv,zK,hr,hl,nK⟩:=hp.is
 refine Ca.dO (F:=a40) rfl rfl rfl ?_
 have X0:=Ext.alloc H (.cells 3 [.int .i64 p.w,vv,vb])
 have d0:(H.alloc (.cells 3 [.int .i64 p.w,vv,vb])).ld ⟨H.nx,0,none⟩=some (.int .i64 p.w):=ak hw rfl
 have d1:(H.alloc (.cells 3 [.int .i64 p.w,vv,vb])).ld ⟨H.nx,1,none⟩=some vv:=ak hw rfl
 have d2:(H.alloc (.cells 3 [.int .i64 p.w,vv,vb])).ld ⟨H.nx,2,none⟩=some vb:=ak hw rfl
 generalize cJ:H.alloc (.cells 3 [.int .i64 p.w,vv,vb])=H1 at X0 d0 d1 d2
 simp-implicitDefEqProofs [a40,aA,cJ,d0,d1]
 refine bB ?_
 simp-implicitDefEqProofs
 refine (AA (X0.wf hw) (hv.ext X0) zK p.w).mono ?_
 rintro x H2 ⟨rfl,X2⟩
 cases q1:aC p.w p.vars with
 |false=>
  simp-implicitDefEqProofs [aA,q1,bq]
  exact X0.trans X2
 |true=>
  have fU:=X0.trans X2
  simp-implicitDefEqProofs [aA,q1,X2.ld d2]
  refine bB ?_
  simp-implicitDefEqProofs
  refine (yl (fU.wf hw) nK (hr.ext fU) (hl.ext fU) (by omega)).mono ?_
  rintro x H3 ⟨rfl,X3⟩
  have iM:=fU.trans X3
  have AE:=X2.trans X3
  by_cases q2:av p.body≤400
  case neg=>
   simp-implicitDefEqProofs [aA,q1,q2,bq]
   exact iM
  simp-implicitDefEqProofs [aA,q2,AE.ld d2]
  refine bB ?_
  simp-implicitDefEqProofs
  refine (Ep _ p.body vb rb H3 (asA _) (iM.wf hw) nK (hr.ext iM) (hl.ext iM) (by omega)).mono ?_
  rintro x H4 ⟨rfl,X4⟩
  have qu:=iM.trans X4
  have Ml:=AE.trans X4
  by_cases q3:bE p.body 0≤16
  case neg=>
   simp-implicitDefEqProofs [aA,q1,q2,q3,bq]
   exact qu
  simp-implicitDefEqProofs [aA,q3,Ml.ld d0,Ml.ld d1,Ml.ld d2]
  refine bB ?_
  simp-implicitDefEqProofs
  refine (Mk zK.1 _ p.body vb rb H4 (asA _) (qu.wf hw) (hv.ext qu) nK (hr.ext qu) (hl.ext qu)).mono ?_
  rintro x H5 ⟨rfl,X5⟩
  simp-implicitDefEqProofs [aA,q1,q2,q3,bq]
  exact qu.trans X5
open Go
theorem eM.ext {H H':AH} (E:Ext H H') {v:Value} {l:List Int} (h:eM H v l):eM H' v l:=Rows.ext E h
def aO (w:Int) (V:List Vr) (l:List Int):Bool:=decide ((l.length:Int)=du (V.map (·.cells)))&&l.all (isWord w)
theorem HE {w:Int} {v vs:Value} {V:List Vr} {l:List Int} {H:AH} (hv:dz H v V) (hV:V.length<2^60) (hs:eM H vs l) (hl:l.length<2^60):
 Ca E O 14 [.int .i64 w,v,vs] H (fun x H'=>x= .bool (aO w V l)∧H'=H):=by
 refine Ca.dO (F:=a14) rfl rfl rfl ?_
 obtain ⟨a1,c1,oH⟩:=hs.len
 obtain ⟨a2,c2,lC⟩:=hv.len
 have hf:=tk hv hV V.length (asp _)
 have hws:=Hv w vs l H hs hl
 rw [lC,oH]at*
 simp-implicitDefEqProofs [a14,aA]
 refine bB ?_
 simp-implicitDefEqProofs
 refine hf.mono ?_
 rintro x H' ⟨rfl,rfl⟩
 rw [List.take_length]
 by_cases q:(l.length:Int)=du (V.map (·.cells))
 case neg=>simp-implicitDefEqProofs [aA,q,aO]
 simp-implicitDefEqProofs [aA,q]
 refine bB ?_
 simp-implicitDefEqProofs
 refine hws.mono ?_
 rintro x Uo ⟨rfl,rfl⟩
 simp-implicitDefEqProofs [aA,q,aO]
structure eG where
 store:List Int
 bS:List Int
structure yq (H:AH) (c:List Value) (s:eG):Prop where
 is:∃vs vp,c=[vs,vp]∧eM H vs s.store∧eM H vp s.bS∧s.store.length<2^60∧s.bS.length<2^60∧(∀n∈s.store,kK n)∧∀n∈s.bS,kK n
theorem yq.ext {H H':AH} (E:Ext H H') {c:List Value} {s:eG} (h:yq H c s):yq H' c s:=by
 obtain ⟨vs,vp,e,a,b,f,g⟩:=h.is
 exact ⟨vs,vp,e,a.ext E,b.ext E,f,g⟩
def iX (p:bf) (s:eG):Bool:=aO p.w p.vars s.store&&(decide (s.bS.length≤16)&&s.bS.all (isWord p.w))
theorem aaV {p:bf} {t:eG} {c d:List Value} {H:AH} (hw:H.n0≤H.nx) (hp:qI H c p) (ht:yq H d t):
 Ca E O 55 [.agg c.toArray,.agg d.toArray] H (fun x H'=>x= .bool (iX p t)∧Ext H H'):=by
 obtain ⟨vv,vb,rb,rfl,hi,hv,zK,hr,hl,nK⟩:=hp.is
 obtain ⟨vs,vp,rfl,ss,sp,l1,l2,_,_⟩:=ht.is
 refine Ca.dO (F:=a55) rfl rfl rfl ?_
 have X0:=Ext.alloc H (.cells 3 [.int .i64 p.w,vv,vb])
 have d0:(H.alloc (.cells 3 [.int .i64 p.w,vv,vb])).ld ⟨H.nx,0,none⟩=some (.int .i64 p.w):=ak hw rfl
 have d1:(H.alloc (.cells 3 [.int .i64 p.w,vv,vb])).ld ⟨H.nx,1,none⟩=some vv:=ak hw rfl
 generalize cJ:H.alloc (.cells 3 [.int .i64 p.w,vv,vb])=H1 at X0 d0 d1
 have lI:=X0.wf hw
 have X1:=Ext.alloc H1 (.cells 2 [vs,vp])
 have e0:(H1.alloc (.cells 2 [vs,vp])).ld ⟨H1.nx,0,none⟩=some vs:=ak lI rfl
 have e1:(H1.alloc (.cells 2 [vs,vp])).ld ⟨H1.nx,1,none⟩=some vp:=ak lI rfl
 generalize kl:H1.alloc (.cells 2 [vs,vp])=H2 at X1 e0 e1
 have X:=X0.trans X1
 obtain ⟨a1,c1,Pv⟩:=sp.len
 have KF:=e1
 rw [Pv]at KF
 simp-implicitDefEqProofs [a55,aA,cJ,kl,X1.ld d0,X1.ld d1,e0]
 refine bB ?_
 simp-implicitDefEqProofs
 refine (HE (hv.ext X) zK.1 (ss.ext X) l1).mono ?_
 rintro x H3 ⟨rfl,rfl⟩
 cases q1:aO p.w p.vars t.store with
 |false=>
  simp-implicitDefEqProofs [aA,q1,iX]
  exact X
 |true=>
  by_cases q2:t.bS.length≤16
  case neg=>
   have q2':¬ (t.bS.length:Int)≤16:=by omega
   simp-implicitDefEqProofs [aA,q1,q2,q2',KF,iX]
   exact X
  have q2':(t.bS.length:Int)≤16:=by omega
  have hws:=Hv p.w vp t.bS H3 (sp.ext X) l2
  rw [Pv]at hws
  simp-implicitDefEqProofs [aA,q1,q2,q2',KF,X1.ld d0]
  refine bB ?_
  simp-implicitDefEqProofs
  refine hws.mono ?_
  rintro x H4 ⟨rfl,rfl⟩
  simp-implicitDefEqProofs [aA,q1,q2,iX]
  exact X
def fM (p:bf) (fuel:Int) (t:eG):Int:=if bq p=false then 30 else if fuel<0∨4096<fuel then 1 else if iX p t=false then 50 else 0
theorem aaP {p:bf} {t:eG} {c d:List Value} {fuel:Int} {H:AH} (hw:H.n0≤H.nx) (hp:qI H c p) (ht:yq H d t):
 Ca E O 23 [.agg c.toArray,.int .i64 fuel,.agg d.toArray] H (fun x H'=>x= .int .i64 (fM p fuel t)∧Ext H H'):=by
 refine Ca.dO (F:=a23) rfl rfl rfl ?_
 have hd:d.length=2:=by obtain ⟨vs,vp,e,_⟩:=ht.is;rw [e];rfl
 have X0:=Ext.alloc H (.cells c.length c)
 have d0:=bl hw (z:=c.length) (c:=c) 3 hp.len
 generalize cJ:H.alloc (.cells c.length c)=H1 at X0 d0
 have lI:=X0.wf hw
 have X1:=Ext.alloc H1 (.cells d.length d)
 have e0:=bl lI (z:=d.length) (c:=d) 2 hd
 generalize kl:H1.alloc (.cells d.length d)=H2 at X1 e0
 have X:=X0.trans X1
 simp-implicitDefEqProofs [a23,aA,cJ,kl,X1.ldn d0]
 refine bB ?_
 simp-implicitDefEqProofs
 refine (RC (X.wf hw) (hp.ext X)).mono ?_
 rintro x H3 ⟨rfl,X3⟩
 cases q1:bq p with
 |false=>
  simp-implicitDefEqProofs [aA,q1,fM]
  exact X.trans X3
 |true=>
  by_cases q2:fuel<0
  ·simp-implicitDefEqProofs [aA,q1,q2,fM]
   exact X.trans X3
  by_cases q3:4096<fuel
  ·simp-implicitDefEqProofs [aA,q1,q2,q3,fM]
   exact X.trans X3
  simp-implicitDefEqProofs [aA,q1,q2,q3,(X1.trans X3).ldn d0,X3.ldn e0]
  refine bB ?_
  simp-implicitDefEqProofs
  refine (aaV ((X.trans X3).wf hw) (hp.ext (X.trans X3)) (ht.ext (X.trans X3))).mono ?_
  rintro x H4 ⟨rfl,X4⟩
  cases q4:iX p t with
  |false=>
   simp-implicitDefEqProofs [aA,q1,q2,q3,q4,fM]
   exact X.trans (X3.trans X4)
  |true=>
   simp-implicitDefEqProofs [aA,q1,q2,q3,q4,fM]
   exact X.trans (X3.trans X4)
end Go.Proofs.YtppcmpmnglaleaaGreatDoor.A
namespace Go.Proofs.YtppcmpmnglaleaaGreatDoor.A
open Go
section
variable{E:Env} {O:kj} {ks:List Ko} {fr:Fr} {H:AH} {Q:Ex→Fr→AH→Prop}
def eY (b:Bool):Value→Bool
 | .bool c=>c==b
 |_=>false
@[simp]theorem aa7 (c:Bool):eY true (.bool c)=c:=by cases c<;>rfl
@[simp]theorem aa8 (c:Bool):eY false (.bool c)= !c:=by cases c<;>rfl
@[simp]theorem aa9 (b:Bool):eY b undef=false:=rfl
def br (c a b:Prop):Prop:=(c→a)∧(¬ c→b)
@[congr]theorem W8 {c c' a a' b b':Prop} (h1:c=c') (h2:c'→a=a') (h3:¬ c'→b=b'):br c a b=br c' a' b':=by
 subst h1
 unfold br
 exact propext ⟨fun k=>⟨fun h=>h2 h▸k.1 h,fun h=>h3 h▸k.2 h⟩,fun k=>⟨fun h=>(h2 h).symm▸k.1 h,fun h=>(h3 h).symm▸k.2 h⟩⟩
@[simp]theorem RE (a b:Prop):br True a b=a:=propext ⟨fun h=>h.1 trivial,fun h=>⟨fun _=>h,fun k=>(k trivial).elim⟩⟩
@[simp]theorem RG (a b:Prop):br False a b=b:=propext ⟨fun h=>h.2 id,fun h=>⟨fun k=>k.elim,fun _=>h⟩⟩
@[simp]theorem ajM (c:Prop):br c True True=True:=propext ⟨fun _=>trivial,fun _=>⟨fun _=>trivial,fun _=>trivial⟩⟩
theorem yr {c a b:Prop} (h:c→a) (k:¬ c→b):br c a b:=⟨h,k⟩
theorem nj (t:Nat) (b:Bool) (d:Option Nat) (p:cN):(AO.mk (some (t,b)) d p).wanted fr=eY b (fr.get t):=by
 unfold AO.wanted eY
 simp only
 split<;>rename_i h<;>simp_all
theorem afx (t:Nat) (b:Bool) (d:Option Nat) (p:cN) (l:List AO):Wr E O (⟨some (t,b),d,p⟩::l) ks fr H Q↔
 br (eY b (fr.get t)=true) (Wr E O (⟨none,d,p⟩::l) ks fr H Q) (Wr E O l ks (fr.aU d undef) H Q):=by
 by_cases hw:eY b (fr.get t)=true
 ·simp only [hw,RE]
  exact Wn _ _ _ (by unfold eY at hw;split at hw<;>simp_all)
 ·simp only [hw]
  rw [show(false=true)=False by simp,RG]
  exact Av _ _ _ (by intro h;rw [h]at hw;simp [eY]at hw)
theorem afy {l0:List AO} {ck:List (Nat×Nat×Nat)} {acc:List (Fr×AH)} (t:Nat) (b:Bool) (d:Option Nat) (p:cN) (l:List AO):Wd E O l0 ck acc (⟨some (t,b),d,p⟩::l) ks fr H Q↔
 br (eY b (fr.get t)=true) (Wd E O l0 ck acc (⟨none,d,p⟩::l) ks fr H Q) (Wd E O l0 ck ((fr.aU d undef,H)::acc) l ks (fr.aU d undef) H Q):=by
 by_cases hw:eY b (fr.get t)=true
 ·simp only [hw,RE]
  exact Ws _ _ _ (by unfold eY at hw;split at hw<;>simp_all)
 ·simp only [hw]
  rw [show(false=true)=False by simp,RG]
  exact Aw _ _ _ (by intro h;rw [h]at hw;simp [eY]at hw)
@[simp]theorem UU (f:Fr) (d:Nat) (v:Value):f.aU (some d) v=f.put d v:=rfl
@[simp]theorem UW (f:Fr) (v:Value):f.aU none v=f:=rfl
def HF:Value→Bool
 | .bool _=>true
 |_=>false
@[simp]theorem afz (c:Bool):HF (.bool c)=true:=rfl
theorem afA {x:X} {a b:AC}:Wk E O (.cond x a b) ks fr H Q↔HF (x.ev fr)=true∧br (eY true (x.ev fr)=true) (Wk E O a ks fr H Q) (Wk E O b ks fr H Q):=by
 cases hx:x.ev fr with
 |bool c=>
  cases c
  ·simp [Hg hx]
  ·simp [G9 hx]
 |_=>
  refine ⟨?_,fun h=>by simp [HF]at h⟩
  rintro ⟨n,ex,cq,H',e,q⟩
  cases n with
  |zero=>simp [aE]at e
  |succ n=>
   rw [aE,hx]at e
   cases e
end
structure Mod (S:Nat→Prop) (H H':AH):Prop where
 n0:H'.n0=H.n0
 nx:H.nx≤H'.nx
 old:∀b,b<H.nx→¬ S b→H'.get b=H.get b
theorem Mod.refl (S:Nat→Prop) (H:AH):Mod S H H:=⟨rfl,asp _,fun _ _ _=>rfl⟩
theorem Mod.trans {S:Nat→Prop} {a b c:AH} (h:Mod S a b) (k:Mod S b c):Mod S a c:=⟨k.n0.trans h.n0,Nat.le_trans h.nx k.nx,fun x hx hs=>(k.old x (Nat.lt_of_lt_of_le hx h.nx) hs).trans (h.old x hx hs)⟩
theorem Mod.cj {S:Nat→Prop} {a b:AH} (h:Ext a b):Mod S a b:=⟨h.n0,h.nx,fun x hx _=>h.old x hx⟩
theorem Mod.mono {S T:Nat→Prop} {a b:AH} (h:Mod S a b) (k:∀x,x<a.nx→S x→T x):Mod T a b:=⟨h.n0,h.nx,fun x hx ht=>h.old x hx fun hs=>ht (k x hx hs)⟩
theorem Ext.mod {S:Nat→Prop} {a b c:AH} (h:Ext a b) (k:Mod S b c) (hs:∀x,S x→a.nx≤x):Ext a c:=⟨k.n0.trans h.n0,Nat.le_trans h.nx k.nx,fun x hx=>(k.old x (Nat.lt_of_lt_of_le hx h.nx) (fun q=>absurd (hs x q) (Nat.not_le.2 hx))).trans (h.old x hx)⟩
theorem Mod.get {S:Nat→Prop} {a b:AH} (h:Mod S a b) {x:Nat} (hs:¬ S x) {y:qy} (k:a.get x=some y):b.get x=some y:=by rw [h.old x (AH.a8 k) hs];exact k
theorem Mod.ldn {S:Nat→Prop} {H H':AH} (h:Mod S H H') {a:Addr} {n:Nat} {vs:List Value} (hs:¬ S a.block) (k:H.ldn a n=some vs):H'.ldn a n=some vs:=by
 obtain ⟨x,hx⟩:=Option.isSome_iff_exists.1 (dH k).1
 rw [←k]
 exact fx (h.old _ (AH.a8 hx) hs) h.n0
theorem Mod.ld {S:Nat→Prop} {H H':AH} (h:Mod S H H') {a:Addr} {v:Value} (hs:¬ S a.block) (k:H.ld a=some v):H'.ld a=some v:=bg.2 (h.ldn hs (bg.1 k))
theorem Mod.wf {S:Nat→Prop} {H H':AH} (h:Mod S H H') (w:H.n0≤H.nx):H'.n0≤H'.nx:=by rw [h.n0];exact Nat.le_trans w h.nx
theorem cg {H:AH} {b z k:Nat} {c vs:List Value} (hg:H.get b=some (.cells z c)) (h0:H.n0≤b) (hl:k+vs.length≤c.length):
 ∃H2,H.st ⟨b,k,none⟩ vs=some H2∧Mod (fun x=>x=b) H H2∧H2.nx=H.nx∧H2.n0=H.n0∧H2.get b=some (.cells z (aP c k vs)):=by
 have hb:=AH.a8 hg
 refine ⟨H.put b (some (.cells z (aP c k vs))),?_,⟨rfl,asp _,fun x hx hs=>?_⟩,rfl,rfl,?_⟩
 ·unfold AH.st
  simp [hg,h0,hl]
 ·rw [AH.bV _ _ _ _ hb,if_neg hs]
 ·rw [AH.bV _ _ _ _ hb,if_pos rfl]
theorem jy {H:AH} (w:H.n0≤H.nx) {z:Nat} {c vs:List Value} (hl:vs.length=c.length):
 ∃H2,(H.alloc (.cells z c)).st ⟨H.nx,0,none⟩ vs=some H2∧Ext H H2∧H2.nx=H.nx+1∧H2.n0=H.n0∧H2.get H.nx=some (.cells z vs):=by
 have hg:(H.alloc (.cells z c)).get H.nx=some (.cells z c):=by rw [AH.dS,if_pos rfl]
 obtain ⟨H2,h1,h2,h3,h4,h5⟩:=cg hg w (k:=0) (vs:=vs) (by omega)
 have e:aP c 0 vs=vs:=by
  have:aP c 0 vs=vs++c.drop vs.length:=by cases c<;>rfl
  rw [this,List.drop_eq_nil_of_le (by omega)];simp
 rw [e]at h5
 exact ⟨H2,h1,(Ext.alloc H _).mod h2 (by rintro x rfl;exact asp _),h3,h4,h5⟩
theorem bW {H:AH} {b z k n:Nat} {c:List Value} (hg:H.get b=some (.cells z c)) (h0:H.n0≤b) (hl:k+n≤c.length):H.ldn ⟨b,k,none⟩ n=some ((c.drop k).take n):=by
 unfold AH.ldn
 have:¬ b<H.n0:=Nat.not_lt.2 h0
 simp [hg,hl,this]
theorem aI {H:AH} {b z k:Nat} {c:List Value} {v:Value} (hg:H.get b=some (.cells z c)) (h0:H.n0≤b) (hv:c[k]?=some v):H.ld ⟨b,k,none⟩=some v:=by
 unfold AH.ld
 have:¬ b<H.n0:=Nat.not_lt.2 h0
 simp [hg,hv,this]
theorem cK (H:AH) (x:qy):(H.alloc x).get H.nx=some x:=by rw [AH.dS,if_pos rfl]
end Go.Proofs.YtppcmpmnglaleaaGreatDoor.A
namespace Go.Proofs.YtppcmpmnglaleaaGreatDoor.A
open Go
section
variable{E:Env} {O:kj} {ks:List Ko} {fr:Fr} {H:AH} {Q:Ex→Fr→AH→Prop}
inductive Md where
 |pl
 |dr (l0:List AO) (ck:List (Nat×Nat×Nat)) (acc:List (Fr×AH))
def Md.up:Md→Fr→AH→Md
 | .pl,_,_=>.pl
 | .dr l0 ck acc,fr,H=>.dr l0 ck ((fr,H)::acc)
@[simp]theorem ajN:Md.up .pl fr H= .pl:=rfl
@[simp]theorem ajO (l0:List AO) (ck:List (Nat×Nat×Nat)) (acc:List (Fr×AH)):Md.up (.dr l0 ck acc) fr H= .dr l0 ck ((fr,H)::acc):=rfl
def Vx (E:Env) (O:kj) (m:Md) (l:List AO) (ks:List Ko) (fr:Fr) (H:AH) (Q:Ex→Fr→AH→Prop):Prop:=match m with
 | .pl=>Wr E O l ks fr H Q
 | .dr l0 ck acc=>Wd E O l0 ck acc l ks fr H Q
def Vk (E:Env) (O:kj) (c:AC) (ks:List Ko) (fr:Fr) (H:AH) (Q:Ex→Fr→AH→Prop):Prop:=Wk E O c ks fr H Q
def Vn (E:Env) (O:kj) (ex:Ex) (ks:List Ko) (fr:Fr) (H:AH) (Q:Ex→Fr→AH→Prop):Prop:=Un E O ex ks fr H Q
@[simp]theorem afB (ex:Ex):Vn E O ex [] fr H Q=Q ex fr H:=G7 _
@[simp]theorem ajP (b:AC):Vn E O .normal (.seq b::ks) fr H Q=Vk E O b ks fr H Q:=rfl
@[simp]theorem ajQ (i:Nat):Vn E O .normal (.aX i::ks) fr H Q=Vn E O .normal ks fr H Q:=rfl
@[simp]theorem ajR (j:Nat) (b:AC):Vn E O (.exit j) (.seq b::ks) fr H Q=Vn E O (.exit j) ks fr H Q:=rfl
@[simp]theorem afC (i:Nat):Vn E O (.exit i) (.aX i::ks) fr H Q=Vn E O .normal ks fr H Q:=QY _
@[simp]theorem anT (k:Ko):Vn E O .ret (k::ks) fr H Q=Vn E O .ret ks fr H Q:=adJ _
@[simp]theorem aba:Vk E O .skip ks fr H Q↔Vn E O .normal ks fr H Q:=Ll
@[simp]theorem afD:Vk E O .ret ks fr H Q↔Vn E O .ret ks fr H Q:=QZ
@[simp]theorem abb (i:Nat):Vk E O (.exit i) ks fr H Q↔Vn E O (.exit i) ks fr H Q:=Lm _
@[simp]theorem afE (l:List AO):Vk E O (.bR l) ks fr H Q↔Vx E O .pl l ks fr H Q:=Q5 _
@[simp]theorem afF (a b:AC):Vk E O (.seq a b) ks fr H Q↔Vk E O a (.seq b::ks) fr H Q:=Q6 _ _
@[simp]theorem W9 (i:Nat) (a:AC):Vk E O (.block i a) ks fr H Q↔Vk E O a (.aX i::ks) fr H Q:=G8 _ _
theorem afG {x:X} {a b:AC}:Vk E O (.cond x a b) ks fr H Q↔HF (x.ev fr)=true∧br (eY true (x.ev fr)=true) (Vk E O a ks fr H Q) (Vk E O b ks fr H Q):=afA
@[simp]theorem abc (l:List AO) (ck:List (Nat×Nat×Nat)):Vk E O (.bA l ck) ks fr H Q↔Vx E O (.dr l ck [(fr,H)]) l ks fr H Q:=by
 refine ⟨?_,fun h=>pF _ _ h⟩
 rintro ⟨n,ex,cq,H',e,q⟩
 cases n with
 |zero=>simp [aE]at e
 |succ n=>
  simp only [aE,xK]at e
  cases h1:kG (fW E O (n+1)) l fr H with
  |none=>simp [h1]at e
  |some ss=>
   simp only [h1]at e
   cases h2:chain ((fr,H)::ss)&&ck.all (kQ l ((fr,H)::ss))with
   |false=>simp [h2]at e
   |true=>
    simp only [h2,cond_true,asm,ast]at e
    obtain ⟨rfl,rfl,rfl⟩:=e
    refine ⟨n+1,ss,h1,?_,q⟩
    unfold uJ
    simpa using h2
@[simp]theorem afH:Vx E O .pl [] ks fr H Q↔Vn E O .normal ks fr H Q:=Q7
@[simp]theorem abd {l0:List AO} {ck:List (Nat×Nat×Nat)} {acc:List (Fr×AH)}:Vx E O (.dr l0 ck acc) [] ks fr H Q↔uJ l0 ck acc=true∧Vn E O .normal ks fr H Q:=Q8
theorem afI {m:Md} (t:Nat) (b:Bool) (d:Option Nat) (p:cN) (l:List AO):Vx E O m (⟨some (t,b),d,p⟩::l) ks fr H Q↔
 br (eY b (fr.get t)=true) (Vx E O m (⟨none,d,p⟩::l) ks fr H Q) (Vx E O (m.up (fr.aU d undef) H) l ks (fr.aU d undef) H Q):=by
 cases m
 ·exact afx _ _ _ _ _
 ·exact afy _ _ _ _ _
def CV (E:Env) (O:kj) (v:Value) (a b:AC) (ks:List Ko) (fr:Fr) (H:AH) (Q:Ex→Fr→AH→Prop):Prop:=
 HF v=true∧br (eY true v=true) (Vk E O a ks fr H Q) (Vk E O b ks fr H Q)
@[simp]theorem ajS {x:X} {a b:AC}:Vk E O (.cond x a b) ks fr H Q↔CV E O (x.ev fr) a b ks fr H Q:=afG
variable{a b:AC}
@[simp]theorem anU:CV E O (.bool true) a b ks fr H Q↔Vk E O a ks fr H Q:=by simp [CV]
@[simp]theorem anV:CV E O (.bool false) a b ks fr H Q↔Vk E O b ks fr H Q:=by simp [CV]
@[simp]theorem anW (c:Prop) [Decidable c]:CV E O (.bool (decide c)) a b ks fr H Q↔br c (Vk E O a ks fr H Q) (Vk E O b ks fr H Q):=by simp [CV]
@[simp]theorem anX (c:Bool):CV E O (.bool (!c)) a b ks fr H Q↔CV E O (.bool c) b a ks fr H Q:=by cases c<;>simp
def GV (E:Env) (O:kj) (v:Value) (b:Bool) (m:Md) (d:Option Nat) (p:cN) (l:List AO) (ks:List Ko) (fr:Fr) (H:AH) (Q:Ex→Fr→AH→Prop):Prop:=
 br (eY b v=true) (Vx E O m (⟨none,d,p⟩::l) ks fr H Q) (Vx E O (m.up (fr.aU d undef) H) l ks (fr.aU d undef) H Q)
@[simp]theorem ajT {m:Md} (t:Nat) (b:Bool) (d:Option Nat) (p:cN) (l:List AO):Vx E O m (⟨some (t,b),d,p⟩::l) ks fr H Q↔GV E O (fr.get t) b m d p l ks fr H Q:=afI _ _ _ _ _
section
variable{m:Md} {d:Option Nat} {p:cN} {l:List AO}
@[simp]theorem ajU:GV E O (.bool true) true m d p l ks fr H Q↔Vx E O m (⟨none,d,p⟩::l) ks fr H Q:=by simp [GV]
@[simp]theorem ajV:GV E O (.bool false) false m d p l ks fr H Q↔Vx E O m (⟨none,d,p⟩::l) ks fr H Q:=by simp [GV]
@[simp]theorem ajW:GV E O (.bool true) false m d p l ks fr H Q↔Vx E O (m.up (fr.aU d undef) H) l ks (fr.aU d undef) H Q:=by simp [GV]
@[simp]theorem ajX:GV E O (.bool false) true m d p l ks fr H Q↔Vx E O (m.up (fr.aU d undef) H) l ks (fr.aU d undef) H Q:=by simp [GV]
@[simp]theorem anY (b:Bool):GV E O undef b m d p l ks fr H Q↔Vx E O (m.up (fr.aU d undef) H) l ks (fr.aU d undef) H Q:=by simp [GV]
@[simp]theorem ajY (c:Prop) [Decidable c]:GV E O (.bool (decide c)) true m d p l ks fr H Q↔br c (Vx E O m (⟨none,d,p⟩::l) ks fr H Q) (Vx E O (m.up (fr.aU d undef) H) l ks (fr.aU d undef) H Q):=by simp [GV]
@[simp]theorem ajZ (c:Prop) [Decidable c]:GV E O (.bool (decide c)) false m d p l ks fr H Q↔br c (Vx E O (m.up (fr.aU d undef) H) l ks (fr.aU d undef) H Q) (Vx E O m (⟨none,d,p⟩::l) ks fr H Q):=by
 by_cases h:c<;>simp [h]
@[simp]theorem aj0 (c:Bool):GV E O (.bool (!c)) true m d p l ks fr H Q↔GV E O (.bool c) false m d p l ks fr H Q:=by cases c<;>simp
@[simp]theorem aj1 (c:Bool):GV E O (.bool (!c)) false m d p l ks fr H Q↔GV E O (.bool c) true m d p l ks fr H Q:=by cases c<;>simp
end
theorem afJ (c:Bool):CV E O (.bool c) a b ks fr H Q↔br (c=true) (Vk E O a ks fr H Q) (Vk E O b ks fr H Q):=by simp [CV]
@[simp]theorem Xd (x y:ByteArray):CV E O (.bool (bY x y)) a b ks fr H Q↔br (bY x y=true) (Vk E O a ks fr H Q) (Vk E O b ks fr H Q):=afJ _
theorem HG {m:Md} (d:Nat) (p:cN) (l:List AO) (h:p.bh=false):Vx E O m (⟨none,some d,p⟩::l) ks fr H Q↔
 Cm (aA p (X.ev fr) H)=true∧Vx E O (m.up (fr.put d (valOf (aA p (X.ev fr) H))) (gN H (aA p (X.ev fr) H))) l ks (fr.put d (valOf (aA p (X.ev fr) H))) (gN H (aA p (X.ev fr) H)) Q:=by
 cases m
 ·exact adK _ _ _ h
 ·exact adM _ _ _ h
theorem Xe {m:Md} (p:cN) (l:List AO) (h:p.bh=false):Vx E O m (⟨none,none,p⟩::l) ks fr H Q↔
 Cm (aA p (X.ev fr) H)=true∧Vx E O (m.up fr (gN H (aA p (X.ev fr) H))) l ks fr (gN H (aA p (X.ev fr) H)) Q:=by
 cases m
 ·exact adL _ _ h
 ·exact adN _ _ h
theorem eA {m:Md} {d:Nat} {p:cN} {l:List AO} (h:p.bh=false) {r:Option Value} (e:aA p (X.ev fr) H=r.map fun v=>(.v v,H)):Vx E O m (⟨none,some d,p⟩::l) ks fr H Q↔
 r.isSome=true∧Vx E O (m.up (fr.put d (r.getD undef)) H) l ks (fr.put d (r.getD undef)) H Q:=by
 rw [HG _ _ _ h,e]
 cases r<;>simp [Cm]
def yu:Value→Value→Value→Option Value
 | .bool t,a,b=>some (bif t then a else b)
 |_,_,_=>none
@[simp]theorem abe (t:Bool) (a b:Value):yu (.bool t) a b=some (bif t then a else b):=rfl
def UX (H:AH):Value→Option Value
 | .pointer (some a)=>H.ld a
 |_=>none
@[simp]theorem aj2 (a:Addr):UX H (.pointer (some a))=H.ld a:=rfl
def uQ (n:Nat) (H:AH):Value→Option Value
 | .pointer (some a)=>(H.ldn a n).map fun l=>.agg l.toArray
 |_=>none
@[simp]theorem RJ (n:Nat) (a:Addr):uQ n H (.pointer (some a))=(H.ldn a n).map fun l=>.agg l.toArray:=rfl
def HI (n:Nat) (H:AH):Value→Value→Option AH
 | .pointer (some a),v=>bif Nat.beq (aZ v).length n&& !cY v then H.st a (aZ v)else none
 |_,_=>none
@[simp]theorem Xf (n:Nat) (a:Addr) (v:Value):HI n H (.pointer (some a)) v=if(aZ v).length=n∧cY v=false then H.st a (aZ v)else none:=by
 unfold HI
 simp only [nb,Bool.cond_eq_ite,aso,asx,Bool.not_eq_true']
@[simp]theorem oP (k:IntKind) (n:Int):aZ (.int k n)=[.int k n]:=rfl
@[simp]theorem Pj (b:Bool):aZ (.bool b)=[.bool b]:=rfl
@[simp]theorem KH (b:ByteArray):aZ (.string b)=[.string b]:=rfl
@[simp]theorem Mm (a:Option Addr) (n c:Nat):aZ (.slice a n c)=[.slice a n c]:=rfl
@[simp]theorem HJ (a:Option Addr):aZ (.pointer a)=[.pointer a]:=rfl
@[simp]theorem RK (a:Option Nat):aZ (.map a)=[.map a]:=rfl
@[simp]theorem Pk (f:Fn) (a b:Array Value):aZ (.func f a b)=[.func f a b]:=rfl
@[simp]theorem HK:aZ .nilFunc=[.nilFunc]:=rfl
@[simp]theorem UY (k:IntKind) (n:Int):cY (.int k n)=false:=rfl
@[simp]theorem RM (b:Bool):cY (.bool b)=false:=rfl
@[simp]theorem Mn (b:ByteArray):cY (.string b)=false:=rfl
@[simp]theorem Pl (a:Option Addr) (n c:Nat):cY (.slice a n c)=false:=rfl
@[simp]theorem aa2 (a:Option Addr):cY (.pointer a)=false:=rfl
@[simp]theorem UZ (a:Option Nat):cY (.map a)=false:=rfl
@[simp]theorem RN (f:Fn) (a b:Array Value):cY (.func f a b)=false:=rfl
@[simp]theorem KJ:cY .nilFunc=false:=rfl
def vi:Value→Option Value
 | .pointer (some a)=>some (.pointer (some a))
 |_=>none
@[simp]theorem abf (a:Addr):vi (.pointer (some a))=some (.pointer (some a)):=rfl
def HM (k:IntKind):Value→Option Value
 | .int _ n=>some (.int k (k.wrap n))
 |_=>none
@[simp]theorem afK (k k':IntKind) (n:Int):HM k (.int k' n)=some (.int k (k.wrap n)):=rfl
def Xg:Value→Option Value
 | .int _ n=>some (.string (Utf8.encode n))
 |_=>none
@[simp]theorem afL (k':IntKind) (n:Int):Xg (.int k' n)=some (.string (Utf8.encode n)):=rfl
def Pm (off:Nat):Value→Option Value
 | .pointer (some a)=>bif a.spot.isNone then some (.pointer (some ⟨a.block,a.off+off,none⟩))else none
 |_=>none
@[simp]theorem aj3 (off b o:Nat):Pm off (.pointer (some ⟨b,o,none⟩))=some (.pointer (some ⟨b,o+off,none⟩)):=rfl
def Pn (sz:Nat):Value→Value→Option Value
 | .slice (some a) len _,.int _ n=>if 0≤n∧n<len then(bif a.spot.isNone then some (.pointer (some ⟨a.block,a.off+n.toNat*sz,none⟩))else none)else none
 |_,_=>none
@[simp]theorem Po (sz b o len c:Nat) (k:IntKind) (n:Int):Pn sz (.slice (some ⟨b,o,none⟩) len c) (.int k n)=if 0≤n∧n<len then some (.pointer (some ⟨b,o+n.toNat*sz,none⟩))else none:=rfl
def yw (len sz:Nat):Value→Value→Option Value
 | .pointer (some a),.int _ n=>if 0≤n∧n<len then(bif a.spot.isNone then some (.pointer (some ⟨a.block,a.off+n.toNat*sz,none⟩))else none)else none
 |_,_=>none
@[simp]theorem HO (sz b o len:Nat) (k:IntKind) (n:Int):yw len sz (.pointer (some ⟨b,o,none⟩)) (.int k n)=if 0≤n∧n<len then some (.pointer (some ⟨b,o+n.toNat*sz,none⟩))else none:=rfl
def FO:Value→Value→Option Value
 | .string s,.int _ n=>if 0≤n then(match s[n.toNat]? with|some b=>some (.int .u8 b.toNat)|none=>none)else none
 |_,_=>none
theorem Pp {s:ByteArray} {k:IntKind} {n:Nat} (h:n<s.size):FO (.string s) (.int k n)=some (.int .u8 (df s n)):=by
 have:s[n]?=some s[n]:=getElem?_pos s n h
 simp only [FO,Int.toNat_natCast]
 rw [if_pos (by omega),this]
 unfold df
 rw [this]
 rfl
def yx:Value→Nat→Option Value
 | .tuple vs,i=>vs.toList[i]?
 |_,_=>none
@[simp]theorem afM (vs:Array Value) (i:Nat):yx (.tuple vs) i=vs.toList[i]?:=rfl
def tt:Value→Option Value
 | .string s=>some (.int .i64 s.size)
 |_=>none
@[simp]theorem abg (s:ByteArray):tt (.string s)=some (.int .i64 s.size):=rfl
def tu:Value→Option Value
 | .slice _ n _=>some (.int .i64 n)
 |_=>none
@[simp]theorem abh (a:Option Addr) (n c:Nat):tu (.slice a n c)=some (.int .i64 n):=rfl
def HP (k:Nat) (neg:Bool) (x y:Value):Option Value:=(iK k x y).map fun b=>.bool (bif neg then !b else b)
@[simp]theorem aj4 (neg a b:Bool):HP 0 neg (.bool a) (.bool b)=some (.bool (bif neg then !(a==b)else(a==b))):=rfl
@[simp]theorem afN (neg:Bool) (b:Option Addr):HP 1 neg (.pointer none) (.pointer b)=some (.bool (bif neg then !b.isNone else b.isNone)):=rfl
@[simp]theorem afO (neg:Bool) (b:Addr):HP 1 neg (.pointer (some b)) (.pointer none)=some (.bool neg):=by cases neg<;>rfl
@[simp]theorem afP (neg:Bool) (n c n' c':Nat) (b:Option Addr):HP 2 neg (.slice none n c) (.slice b n' c')=some (.bool (bif neg then !b.isNone else b.isNone)):=rfl
@[simp]theorem afQ (neg:Bool) (n c n' c':Nat) (b:Addr):HP 2 neg (.slice (some b) n c) (.slice none n' c')=some (.bool neg):=by cases neg<;>rfl
@[simp]theorem afR (neg:Bool) (f:Fn) (a b:Array Value):HP 3 neg (.func f a b) .nilFunc=some (.bool neg):=by cases neg<;>rfl
@[simp]theorem afS (neg:Bool) (b:Option Nat):HP 4 neg (.map none) (.map b)=some (.bool (bif neg then !b.isNone else b.isNone)):=rfl
def Mo (neg:Bool) (offs:List (Nat×Nat)):Value→Value→Option Value
 | .agg cs,.agg ds=>(ep cs.toList ds.toList offs).map fun b=>.bool (bif neg then !b else b)
 |_,_=>none
@[simp]theorem afT (neg:Bool) (offs:List (Nat×Nat)) (cs ds:Array Value):Mo neg offs (.agg cs) (.agg ds)=(ep cs.toList ds.toList offs).map fun b=>.bool (bif neg then !b else b):=rfl
def js (kk:Nat) (z:Value) (H:AH) (x k:Value) (ok:Bool):Option Value:=
 match x with
 | .map none=>bif cH kk k then some (bif ok then .tuple #[z, .bool false]else z)else none
 | .map (some r)=>match H.get r with
   |some (.map es)=>bif cH kk k&&decide (H.n0≤r)then(match gI k es with
    |some (some v)=>some (bif ok then .tuple #[v, .bool true]else v)
    |some none=>some (bif ok then .tuple #[z, .bool false]else z)
    |none=>none)else none
   |_=>none
 |_=>none
section
variable{m:Md} {l:List AO} (d:Nat)
@[simp]theorem aj5 (x:X):Vx E O m (⟨none,some d,.mv x⟩::l) ks fr H Q↔Vx E O (m.up (fr.put d (x.ev fr)) H) l ks (fr.put d (x.ev fr)) H Q:=by
 rw [eA (r:=some (x.ev fr)) rfl rfl];simp
@[simp]theorem abi (c a b:X):Vx E O m (⟨none,some d,.pick c a b⟩::l) ks fr H Q↔(yu (c.ev fr) (a.ev fr) (b.ev fr)).isSome=true∧Vx E O (m.up (fr.put d ((yu (c.ev fr) (a.ev fr) (b.ev fr)).getD undef)) H) l ks (fr.put d ((yu (c.ev fr) (a.ev fr) (b.ev fr)).getD undef)) H Q:=
 eA rfl (by simp only [aA];cases c.ev fr<;>rfl)
@[simp]theorem aj6 (x:X):Vx E O m (⟨none,some d,.ld x⟩::l) ks fr H Q↔(UX H (x.ev fr)).isSome=true∧Vx E O (m.up (fr.put d ((UX H (x.ev fr)).getD undef)) H) l ks (fr.put d ((UX H (x.ev fr)).getD undef)) H Q:=
 eA rfl (by
  simp only [aA]
  cases x.ev fr with
  |pointer a=>cases a<;>rfl
  |_=>rfl)
@[simp]theorem afU (n:Nat) (x:X):Vx E O m (⟨none,some d,.ldn n x⟩::l) ks fr H Q↔(uQ n H (x.ev fr)).isSome=true∧Vx E O (m.up (fr.put d ((uQ n H (x.ev fr)).getD undef)) H) l ks (fr.put d ((uQ n H (x.ev fr)).getD undef)) H Q:=
 eA rfl (by
  simp only [aA]
  cases x.ev fr with
  |pointer a=>
   cases a with
   |none=>rfl
   |some a=>simp only [uQ];cases H.ldn a n<;>rfl
  |_=>rfl)
@[simp]theorem abj (x:X):Vx E O m (⟨none,some d,.bz x⟩::l) ks fr H Q↔(vi (x.ev fr)).isSome=true∧Vx E O (m.up (fr.put d ((vi (x.ev fr)).getD undef)) H) l ks (fr.put d ((vi (x.ev fr)).getD undef)) H Q:=
 eA rfl (by
  simp only [aA]
  cases x.ev fr with
  |pointer a=>cases a<;>rfl
  |_=>rfl)
@[simp]theorem afV (op:BinOp) (x y:X):Vx E O m (⟨none,some d,.bin op x y⟩::l) ks fr H Q↔(cx op (x.ev fr) (y.ev fr)).isSome=true∧Vx E O (m.up (fr.put d ((cx op (x.ev fr) (y.ev fr)).getD undef)) H) l ks (fr.put d ((cx op (x.ev fr) (y.ev fr)).getD undef)) H Q:=
 eA rfl rfl
@[simp]theorem afW (k:Nat) (neg:Bool) (x y:X):Vx E O m (⟨none,some d,.eqk k neg x y⟩::l) ks fr H Q↔(HP k neg (x.ev fr) (y.ev fr)).isSome=true∧Vx E O (m.up (fr.put d ((HP k neg (x.ev fr) (y.ev fr)).getD undef)) H) l ks (fr.put d ((HP k neg (x.ev fr) (y.ev fr)).getD undef)) H Q:=
 eA rfl (by simp only [aA,HP];cases iK k (x.ev fr) (y.ev fr)<;>rfl)
@[simp]theorem aj7 (op:UnOp) (x:X):Vx E O m (⟨none,some d,.un op x⟩::l) ks fr H Q↔(F8 op (x.ev fr)).isSome=true∧Vx E O (m.up (fr.put d ((F8 op (x.ev fr)).getD undef)) H) l ks (fr.put d ((F8 op (x.ev fr)).getD undef)) H Q:=
 eA rfl rfl
@[simp]theorem afX (k:IntKind) (x:X):Vx E O m (⟨none,some d,.nP k x⟩::l) ks fr H Q↔(HM k (x.ev fr)).isSome=true∧Vx E O (m.up (fr.put d ((HM k (x.ev fr)).getD undef)) H) l ks (fr.put d ((HM k (x.ev fr)).getD undef)) H Q:=
 eA rfl (by simp only [aA];cases x.ev fr<;>rfl)
@[simp]theorem aj8 (off:Nat) (x:X):Vx E O m (⟨none,some d,.fa off x⟩::l) ks fr H Q↔(Pm off (x.ev fr)).isSome=true∧Vx E O (m.up (fr.put d ((Pm off (x.ev fr)).getD undef)) H) l ks (fr.put d ((Pm off (x.ev fr)).getD undef)) H Q:=
 eA rfl (by
  simp only [aA]
  cases x.ev fr with
  |pointer a=>
   cases a with
   |none=>rfl
   |some a=>simp only [Pm];cases a.spot.isNone<;>rfl
  |_=>rfl)
@[simp]theorem aj9 (sz:Nat) (x i:X):Vx E O m (⟨none,some d,.ia sz x i⟩::l) ks fr H Q↔(Pn sz (x.ev fr) (i.ev fr)).isSome=true∧Vx E O (m.up (fr.put d ((Pn sz (x.ev fr) (i.ev fr)).getD undef)) H) l ks (fr.put d ((Pn sz (x.ev fr) (i.ev fr)).getD undef)) H Q:=
 eA rfl (by
  simp only [aA]
  cases x.ev fr with
  |slice a len c=>
   cases a with
   |none=>rfl
   |some a=>
    cases i.ev fr<;>first
     |rfl
     |(simp only [Pn];split<;>first|rfl|(cases a.spot.isNone<;>rfl))
  |_=>rfl)
@[simp]theorem afY (len sz:Nat) (x i:X):Vx E O m (⟨none,some d,.qo len sz x i⟩::l) ks fr H Q↔(yw len sz (x.ev fr) (i.ev fr)).isSome=true∧Vx E O (m.up (fr.put d ((yw len sz (x.ev fr) (i.ev fr)).getD undef)) H) l ks (fr.put d ((yw len sz (x.ev fr) (i.ev fr)).getD undef)) H Q:=
 eA rfl (by
  simp only [aA]
  cases x.ev fr with
  |pointer a=>
   cases a with
   |none=>rfl
   |some a=>
    cases i.ev fr<;>first
     |rfl
     |(simp only [yw];split<;>first|rfl|(cases a.spot.isNone<;>rfl))
  |_=>rfl)
@[simp]theorem aka (x i:X):Vx E O m (⟨none,some d,.ix x i⟩::l) ks fr H Q↔(FO (x.ev fr) (i.ev fr)).isSome=true∧Vx E O (m.up (fr.put d ((FO (x.ev fr) (i.ev fr)).getD undef)) H) l ks (fr.put d ((FO (x.ev fr) (i.ev fr)).getD undef)) H Q:=
 eA rfl (by
  simp only [aA]
  cases x.ev fr with
  |string s=>
   cases i.ev fr<;>first
    |rfl
    |(simp only [FO];rename_i n;cases s[n.toNat]?<;>(split<;>rfl))
  |_=>rfl)
@[simp]theorem afZ (x:X) (i:Nat):Vx E O m (⟨none,some d,.ext x i⟩::l) ks fr H Q↔(yx (x.ev fr) i).isSome=true∧Vx E O (m.up (fr.put d ((yx (x.ev fr) i).getD undef)) H) l ks (fr.put d ((yx (x.ev fr) i).getD undef)) H Q:=
 eA rfl (by
  simp only [aA]
  cases x.ev fr with
  |tuple vs=>simp only [yx];cases vs.toList[i]?<;>rfl
  |_=>rfl)
@[simp]theorem abk (x:X):Vx E O m (⟨none,some d,.lens x⟩::l) ks fr H Q↔(tt (x.ev fr)).isSome=true∧Vx E O (m.up (fr.put d ((tt (x.ev fr)).getD undef)) H) l ks (fr.put d ((tt (x.ev fr)).getD undef)) H Q:=
 eA rfl (by simp only [aA];cases x.ev fr<;>rfl)
@[simp]theorem abl (x:X):Vx E O m (⟨none,some d,.eE x⟩::l) ks fr H Q↔(tu (x.ev fr)).isSome=true∧Vx E O (m.up (fr.put d ((tu (x.ev fr)).getD undef)) H) l ks (fr.put d ((tu (x.ev fr)).getD undef)) H Q:=
 eA rfl (by simp only [aA];cases x.ev fr<;>rfl)
@[simp]theorem abm (kk:Nat) (z:Value) (x k:X) (ok:Bool):Vx E O m (⟨none,some d,.look kk z x k ok⟩::l) ks fr H Q↔(js kk z H (x.ev fr) (k.ev fr) ok).isSome=true∧Vx E O (m.up (fr.put d ((js kk z H (x.ev fr) (k.ev fr) ok).getD undef)) H) l ks (fr.put d ((js kk z H (x.ev fr) (k.ev fr) ok).getD undef)) H Q:=
 eA rfl (by
  simp only [aA,js]
  cases x.ev fr with
  |map r=>
   cases r with
   |none=>dsimp only;cases cH kk (k.ev fr)<;>rfl
   |some r=>
    dsimp only
    cases H.get r with
    |none=>rfl
    |some b=>
     cases b with
     |cells=>rfl
     |map es=>
      dsimp only
      cases cH kk (k.ev fr)&&decide (H.n0≤r)
      ·rfl
      ·cases gI (k.ev fr) es with
       |none=>rfl
       |some q=>cases q<;>rfl
  |_=>rfl)
@[simp]theorem af0 (f:Nat) (a b:List X):Vx E O m (⟨none,some d,.mkf f a b⟩::l) ks fr H Q↔Vx E O (m.up (fr.put d (.func (.func f) (a.map (X.ev fr)).toArray (b.map (X.ev fr)).toArray)) H) l ks (fr.put d (.func (.func f) (a.map (X.ev fr)).toArray (b.map (X.ev fr)).toArray)) H Q:=by
 rw [eA (r:=some (.func (.func f) (a.map (X.ev fr)).toArray (b.map (X.ev fr)).toArray)) rfl rfl];simp
@[simp]theorem akb (sz:Nat) (x:X) (lo hi mx:Option X):Vx E O m (⟨none,some d,.sl sz x lo hi mx⟩::l) ks fr H Q↔(cl sz H (x.ev fr) (lo.map (X.ev fr)) (hi.map (X.ev fr)) (mx.map (X.ev fr))).isSome=true∧Vx E O (m.up (fr.put d ((cl sz H (x.ev fr) (lo.map (X.ev fr)) (hi.map (X.ev fr)) (mx.map (X.ev fr))).getD undef)) H) l ks (fr.put d ((cl sz H (x.ev fr) (lo.map (X.ev fr)) (hi.map (X.ev fr)) (mx.map (X.ev fr))).getD undef)) H Q:=
 eA rfl rfl
def fg (z:List Value) (ps:List (Nat×Nat×Value)):Option Value:=(jM z ps).map fun c=>.agg c.toArray
@[simp]theorem Xh (z:List Value) (ps:List (Nat×Nat×X)):Vx E O m (⟨none,some d,.build z ps⟩::l) ks fr H Q↔(fg z (ps.map fun p=>(p.1,p.2.1,p.2.2.ev fr))).isSome=true∧Vx E O (m.up (fr.put d ((fg z (ps.map fun p=>(p.1,p.2.1,p.2.2.ev fr))).getD undef)) H) l ks (fr.put d ((fg z (ps.map fun p=>(p.1,p.2.1,p.2.2.ev fr))).getD undef)) H Q:=
 eA rfl (by simp only [aA,fg];cases jM z (ps.map fun p=>(p.1,p.2.1,p.2.2.ev fr))<;>rfl)
@[simp]theorem Xi (z:List Value):Vx E O m (⟨none,some d,.alloc z⟩::l) ks fr H Q↔Vx E O (m.up (fr.put d (.pointer (some ⟨H.nx,0,none⟩))) (H.alloc (.cells z.length z))) l ks (fr.put d (.pointer (some ⟨H.nx,0,none⟩))) (H.alloc (.cells z.length z)) Q:=by
 rw [HG _ _ _ rfl];simp [aA]
@[simp]theorem af1 (x:X):Vx E O m (⟨none,some d,.box x⟩::l) ks fr H Q↔cY (x.ev fr)=false∧Vx E O (m.up (fr.put d (.pointer (some ⟨H.nx,0,none⟩))) (H.alloc (.cells (aZ (x.ev fr)).length (aZ (x.ev fr))))) l ks (fr.put d (.pointer (some ⟨H.nx,0,none⟩))) (H.alloc (.cells (aZ (x.ev fr)).length (aZ (x.ev fr)))) Q:=by
 rw [HG _ _ _ rfl]
 simp only [aA]
 cases cY (x.ev fr)<;>simp [Cm]
@[simp]theorem Xj:Vx E O m (⟨none,some d,.mkmap⟩::l) ks fr H Q↔Vx E O (m.up (fr.put d (.map (some H.nx))) (H.alloc (.map []))) l ks (fr.put d (.map (some H.nx))) (H.alloc (.map [])) Q:=by
 rw [HG _ _ _ rfl];simp [aA]
@[simp]theorem akc (n:Nat) (x v:X):Vx E O m (⟨none,none,.st n x v⟩::l) ks fr H Q↔(HI n H (x.ev fr) (v.ev fr)).isSome=true∧Vx E O (m.up fr ((HI n H (x.ev fr) (v.ev fr)).getD H)) l ks fr ((HI n H (x.ev fr) (v.ev fr)).getD H) Q:=by
 rw [Xe _ _ rfl]
 have e:aA (.st n x v) (X.ev fr) H=(HI n H (x.ev fr) (v.ev fr)).map fun H'=>(.v undef,H'):=by
  simp only [aA]
  cases x.ev fr with
  |pointer a=>
   cases a with
   |none=>rfl
   |some a=>
    simp only [HI]
    cases (Nat.beq (aZ (v.ev fr)).length n&& !cY (v.ev fr))<;>simp
  |_=>rfl
 rw [e]
 cases HI n H (x.ev fr) (v.ev fr)<;>simp [Cm,gN]
def Er:Option (Value×AH)→Bool
 |some _=>true
 |none=>false
def v1:Option (Value×AH)→Value
 |some (v,_)=>v
 |none=>undef
def h2 (H:AH):Option (Value×AH)→AH
 |some (_,H')=>H'
 |none=>H
@[simp]theorem af2 (r:Value×AH):Er (some r)=true:=rfl
@[simp]theorem anZ (v:Value) (H':AH):v1 (some (v,H'))=v:=rfl
@[simp]theorem an0 (v:Value) (H':AH):h2 H (some (v,H'))=H':=rfl
theorem HQ {p:cN} (h:p.bh=false) {r:Option (Value×AH)} (e:aA p (X.ev fr) H=r.map fun q=>(.v q.1,q.2)):Vx E O m (⟨none,some d,p⟩::l) ks fr H Q↔
 Er r=true∧Vx E O (m.up (fr.put d (v1 r)) (h2 H r)) l ks (fr.put d (v1 r)) (h2 H r) Q:=by
 rw [HG _ _ _ h,e]
 cases r with
 |none=>simp [Er,Cm]
 |some q=>obtain ⟨v,H'⟩:=q;simp
@[simp]theorem af3 (sz bytes:Nat) (s x:X):Vx E O m (⟨none,some d,.app sz bytes s x⟩::l) ks fr H Q↔Er (bI sz bytes H (s.ev fr) (x.ev fr))=true∧Vx E O (m.up (fr.put d (v1 (bI sz bytes H (s.ev fr) (x.ev fr)))) (h2 H (bI sz bytes H (s.ev fr) (x.ev fr)))) l ks (fr.put d (v1 (bI sz bytes H (s.ev fr) (x.ev fr)))) (h2 H (bI sz bytes H (s.ev fr) (x.ev fr))) Q:=
 HQ _ rfl rfl
def nL (len sz:Nat) (z:List Value) (H:AH) (ps:List (Nat×Nat×Value)):Option (Value×AH):=(jM z ps).map fun c=>(.slice (some ⟨H.nx,0,none⟩) len len,H.alloc (.cells sz c))
@[simp]theorem af4 (len sz:Nat) (z:List Value) (ps:List (Nat×Nat×X)):Vx E O m (⟨none,some d,.bsl len sz z ps⟩::l) ks fr H Q↔Er (nL len sz z H (ps.map fun p=>(p.1,p.2.1,p.2.2.ev fr)))=true∧Vx E O (m.up (fr.put d (v1 (nL len sz z H (ps.map fun p=>(p.1,p.2.1,p.2.2.ev fr))))) (h2 H (nL len sz z H (ps.map fun p=>(p.1,p.2.1,p.2.2.ev fr))))) l ks (fr.put d (v1 (nL len sz z H (ps.map fun p=>(p.1,p.2.1,p.2.2.ev fr))))) (h2 H (nL len sz z H (ps.map fun p=>(p.1,p.2.1,p.2.2.ev fr)))) Q:=
 HQ _ rfl (by simp only [aA,nL];cases jM z (ps.map fun p=>(p.1,p.2.1,p.2.2.ev fr))<;>rfl)
def rX (kk:Nat) (H:AH) (x k v:Value):Option AH:=
 match x with
 | .map (some r)=>match H.get r with
   |some (.map es)=>bif cH kk k&&decide (H.n0≤r)&& !cY v then(mn k v es).map fun es'=>H.put r (some (.map es'))else none
   |_=>none
 |_=>none
@[simp]theorem af5 (kk:Nat) (x k v:X):Vx E O m (⟨none,none,.qp kk x k v⟩::l) ks fr H Q↔(rX kk H (x.ev fr) (k.ev fr) (v.ev fr)).isSome=true∧Vx E O (m.up fr ((rX kk H (x.ev fr) (k.ev fr) (v.ev fr)).getD H)) l ks fr ((rX kk H (x.ev fr) (k.ev fr) (v.ev fr)).getD H) Q:=by
 rw [Xe _ _ rfl]
 have e:aA (.qp kk x k v) (X.ev fr) H=(rX kk H (x.ev fr) (k.ev fr) (v.ev fr)).map fun H'=>(.v undef,H'):=by
  simp only [aA,rX]
  cases x.ev fr with
  |map r=>
   cases r with
   |none=>rfl
   |some r=>
    dsimp only
    cases H.get r with
    |none=>rfl
    |some b=>
     cases b with
     |cells=>rfl
     |map es=>
      dsimp only
      cases (cH kk (k.ev fr)&&decide (H.n0≤r)&& !cY (v.ev fr))
      ·rfl
      ·simp only [cond_true]
       cases mn (k.ev fr) (v.ev fr) es<;>rfl
  |_=>rfl
 rw [e]
 cases rX kk H (x.ev fr) (k.ev fr) (v.ev fr)<;>simp [Cm,gN]
theorem Mq {d f:Nat} {«as»:List X} {vs:List Value} {R:Value→AH→Prop} (ha:«as».map (X.ev fr)=vs) (h:Ca E O f vs H R) (k:∀x H',R x H'→Vx E O (m.up (fr.put d x) H') l ks (fr.put d x) H' Q):Vx E O m (⟨none,some d,.call f «as»⟩::l) ks fr H Q:=by
 subst ha
 cases m
 ·exact bB (h.mono k)
 ·exact ni (h.mono k)
theorem ah {d f:Nat} {«as»:List X} {vs:List Value} (ha:«as».map (X.ev fr)=vs) (h:Ca E O f vs H fun x H'=>Vx E O (m.up (fr.put d x) H') l ks (fr.put d x) H' Q):Vx E O m (⟨none,some d,.call f «as»⟩::l) ks fr H Q:=Mq ha h fun _ _ k=>k
theorem HR {d f:Nat} {x:X} {«as»:List X} {first cap:Array Value} {vs:List Value} {R:Value→AH→Prop} (hx:x.ev fr= .func (.func f) first cap) (ha:first.toList++«as».map (X.ev fr)++cap.toList=vs) (h:Ca E O f vs H R) (k:∀x H',R x H'→Vx E O (m.up (fr.put d x) H') l ks (fr.put d x) H' Q):Vx E O m (⟨none,some d,.callv x «as»⟩::l) ks fr H Q:=by
 subst ha
 have e:aA (.callv x «as») (X.ev fr) H=some (.enter f (first.toList++«as».map (X.ev fr)++cap.toList),H):=by simp only [aA,hx]
 cases m
 ·show Wo E O _ _ _ _
  rw [iW,gM _ _ _ _ rfl,e]
  exact h.mono k
 ·show Wd E O _ _ _ _ _ _ _ _
  rw [jS,gM _ _ _ _ rfl,e]
  exact h.mono k
theorem kX {d f:Nat} {x:X} {«as»:List X} {first cap:Array Value} {vs:List Value} (hx:x.ev fr= .func (.func f) first cap) (ha:first.toList++«as».map (X.ev fr)++cap.toList=vs) (h:Ca E O f vs H fun x H'=>Vx E O (m.up (fr.put d x) H') l ks (fr.put d x) H' Q):Vx E O m (⟨none,some d,.callv x «as»⟩::l) ks fr H Q:=HR hx ha h fun _ _ k=>k
end
def HS:AO→Fr→Bool
 |⟨none,_,_⟩,_=>true
 |⟨some (t,b),_,_⟩,fr=>eY b (fr.get t)
@[simp]theorem akd (d:Option Nat) (p:cN) (fr:Fr):HS ⟨none,d,p⟩ fr=true:=rfl
@[simp]theorem ake (t:Nat) (b:Bool) (d:Option Nat) (p:cN) (fr:Fr):HS ⟨some (t,b),d,p⟩ fr=eY b (fr.get t):=rfl
theorem RO (o:AO) (fr:Fr):o.wanted fr=HS o fr:=by
 obtain ⟨g,d,p⟩:=o
 cases g with
 |none=>rfl
 |some q=>obtain ⟨t,b⟩:=q;exact nj _ _ _ _
def U0 (H:AH) (n:Nat):Value→Option (Addr×List Value)
 | .pointer (some a)=>(H.ldn a n).map fun l=>(a,l)
 |_=>none
@[simp]theorem akf (n:Nat) (a:Addr):U0 H n (.pointer (some a))=(H.ldn a n).map fun l=>(a,l):=rfl
def Xk:cN→Fr→AH→Option (Addr×List Value)
 | .ld x,fr,H=>U0 H 1 (x.ev fr)
 | .ldn n x,fr,H=>U0 H n (x.ev fr)
 |_,_,_=>none
@[simp]theorem af6 (x:X):Xk (.ld x) fr H=U0 H 1 (x.ev fr):=rfl
@[simp]theorem abn (n:Nat) (x:X):Xk (.ldn n x) fr H=U0 H n (x.ev fr):=rfl
def RP (H':AH):Option (Addr×List Value)→Bool
 |some x=>sameAt H' x
 |none=>false
@[simp]theorem af7 (x:Addr×List Value):RP H (some x)=sameAt H x:=rfl
def RQ:Option (List Value)→List Value→Bool
 |some m,l=>fk m l
 |none,_=>false
@[simp]theorem af8 (m l:List Value):RQ (some m) l=fk m l:=rfl
@[simp]theorem yy (a:Addr) (l:List Value):sameAt H (a,l)=RQ (H.ldn a l.length) l:=by
 unfold sameAt RQ
 dsimp only
 cases H.ldn a l.length<;>rfl
@[simp]theorem abo:fk [] []=true:=rfl
@[simp]theorem abp (x y:Value) (l m:List Value):fk (x::l) (y::m)=(dG x y&&fk l m):=rfl
@[simp]theorem abq (k:IntKind) (n:Int):dG (.int k n) (.int k n)=true:=by simp [dG]
@[simp]theorem abr (b:Bool):dG (.bool b) (.bool b)=true:=by simp [dG]
@[simp]theorem abt (a:Option Addr):dG (.pointer a) (.pointer a)=true:=by simp [dG]
@[simp]theorem abu (a:Option Addr) (n c:Nat):dG (.slice a n c) (.slice a n c)=true:=by simp [dG]
def RR (l:List AO):Nat→Option AO→Option (Fr×AH)→Option (Fr×AH)→Option AO→Option (Fr×AH)→Option (Fr×AH)→Bool
 |k,some op,some (fp,Hp),some (_,KD),some oq,some (fq,_),some (_,DR)=>
  !HS op fp|| !HS oq fq||(match k with
   |0=>RP DR (Xk op.o fp Hp)
   |1=>nQ (KD.get Hp.nx) (DR.get Hp.nx)
   |_=>match dk op fp,dk oq fq with|some b,some b'=>!Nat.beq b b'|_,_=>true)
 |_,_,_,_,_,_,_=>false
@[simp]theorem akg (l:List AO) (op oq:AO) (fp fq f1 f2:Fr) (Hp KD H1 DR:AH):RR l 0 (some op) (some (fp,Hp)) (some (f1,KD)) (some oq) (some (fq,H1)) (some (f2,DR))=(!HS op fp|| !HS oq fq||RP DR (Xk op.o fp Hp)):=rfl
@[simp]theorem akh (l:List AO) (op oq:AO) (fp fq f1 f2:Fr) (Hp KD H1 DR:AH):RR l 1 (some op) (some (fp,Hp)) (some (f1,KD)) (some oq) (some (fq,H1)) (some (f2,DR))=(!HS op fp|| !HS oq fq||nQ (KD.get Hp.nx) (DR.get Hp.nx)):=rfl
theorem Cq (l:List AO) (op oq:AO) (fp fq f1 f2:Fr) (Hp KD H1 DR:AH):RR l 2 (some op) (some (fp,Hp)) (some (f1,KD)) (some oq) (some (fq,H1)) (some (f2,DR))=(!HS op fp|| !HS oq fq||(match dk op fp,dk oq fq with|some b,some b'=>!Nat.beq b b'|_,_=>true)):=rfl
theorem Mr (l:List AO) (ss:List (Fr×AH)) (k p q:Nat):kQ l ss (k,p,q)=RR l k (nth l p) (nth ss p) (nth ss (p+1)) (nth l q) (nth ss q) (nth ss (q+1)):=by
 unfold kQ
 dsimp only
 cases nth l p with
 |none=>rfl
 |some op=>
  cases nth ss p with
  |none=>rfl
  |some a=>
   cases nth ss (p+1)with
   |none=>rfl
   |some b=>
    cases nth l q with
    |none=>rfl
    |some oq=>
     cases nth ss q with
     |none=>rfl
     |some c=>
      cases nth ss (q+1)with
      |none=>rfl
      |some d=>
       obtain ⟨a1,a2⟩:=a
       obtain ⟨b1,b2⟩:=b
       obtain ⟨c1,c2⟩:=c
       obtain ⟨d1,d2⟩:=d
       simp only [RR,RO]
       congr 1
       match k with
       |0=>
        obtain ⟨g,dd,p⟩:=op
        cases p<;>first
         |rfl
         |(simp only [ff,Xk]
           rename_i x
           cases x.ev a1 with
           |pointer z=>
            cases z with
            |none=>rfl
            |some z=>simp only [U0];cases AH.ldn a2 z _<;>rfl
           |_=>rfl)
       |1=>rfl
       |k+2=>rfl
theorem RT (l:List AO) (ck:List (Nat×Nat×Nat)) (acc:List (Fr×AH)):uJ l ck acc=(chain acc.reverse&&ck.all fun c=>RR l c.1 (nth l c.2.1) (nth acc.reverse c.2.1) (nth acc.reverse (c.2.1+1)) (nth l c.2.2) (nth acc.reverse c.2.2) (nth acc.reverse (c.2.2+1))):=by
 unfold uJ
 congr 1
 congr 1
 funext c
 obtain ⟨k,p,q⟩:=c
 exact Mr _ _ _ _ _
theorem bm (l:List AO) (ck:List (Nat×Nat×Nat)) (acc:List (Fr×AH)):uJ l ck acc=true↔chain acc.reverse=true∧ck.all (fun c=>RR l c.1 (nth l c.2.1) (nth acc.reverse c.2.1) (nth acc.reverse (c.2.1+1)) (nth l c.2.2) (nth acc.reverse c.2.2) (nth acc.reverse (c.2.2+1)))=true:=by
 rw [RT,aso]
theorem aJ (a b:Fr×AH) (l:List (Fr×AH)):chain (a::b::l)=true↔(a.2.n0=b.2.n0∧a.2.nx≤b.2.nx)∧chain (b::l)=true:=by
 simp only [chain,aso,Nat.beq_eq,Nat.ble_eq]
theorem aK (a:Fr×AH):chain [a]=true:=rfl
@[simp]theorem Xl {α:Type} (x:α) (l:List α):nth (x::l) 0=some x:=rfl
@[simp]theorem aki {α:Type} (x:α) (l:List α) (n:Nat):nth (x::l) (n+1)=nth l n:=rfl
theorem vj {α:Type}:∀(l:List α) (n:Nat),nth l n=l[n]?
 |[],n=>by cases n<;>rfl
 |x::l,0=>rfl
 |x::l,n+1=>by simp [vj l n]
def spine:Nat→AC→AC→AC
 |0,_,r=>r
 |k+1,.seq a b,r=>.seq a (spine k b r)
 |_,c,_=>c
def tv:Nat→AC→AC
 |0,c=>c
 |k+1,.seq _ b=>tv k b
 |_,c=>c
theorem Ms (a b r:AC):spine 1 (.seq a b) r= .seq a r:=by cases b<;>rfl
theorem Mu (a b r:AC):spine 2 (.seq a b) r= .seq a (spine 1 b r):=rfl
theorem Mv (a b r:AC):spine 3 (.seq a b) r= .seq a (spine 2 b r):=rfl
theorem Mw (a b r:AC):spine 4 (.seq a b) r= .seq a (spine 3 b r):=rfl
theorem Mx (a b r:AC):spine 5 (.seq a b) r= .seq a (spine 4 b r):=rfl
theorem My (a b r:AC):spine 6 (.seq a b) r= .seq a (spine 5 b r):=rfl
theorem Mz (a b r:AC):spine 7 (.seq a b) r= .seq a (spine 6 b r):=rfl
theorem MA (a b r:AC):spine 8 (.seq a b) r= .seq a (spine 7 b r):=rfl
attribute [simp] Ms Mu Mv Mw Mx My Mz MA
inductive dU where
 |l
 |r
def gP:List dU→AC→AC
 |[],c=>c
 | .l::p,.seq a _=>gP p a
 | .r::p,.seq _ b=>gP p b
 | .l::p,.block _ a=>gP p a
 | .l::p,.cond _ a _=>gP p a
 | .r::p,.cond _ _ b=>gP p b
 |_,c=>c
def lK:List dU→AC→AC→AC
 |[],_,r=>r
 | .l::p,.seq a b,r=>.seq (lK p a r) b
 | .r::p,.seq a b,r=>.seq a (lK p b r)
 | .l::p,.block i a,r=>.block i (lK p a r)
 | .l::p,.cond x a b,r=>.cond x (lK p a r) b
 | .r::p,.cond x a b,r=>.cond x a (lK p b r)
 |_,c,_=>c
def lL:List dU→AC→List Ko→List Ko
 |[],_,ks=>ks
 | .l::p,.seq a b,ks=>lL p a (.seq b::ks)
 | .r::p,.seq _ b,ks=>lL p b ks
 | .l::p,.block i a,ks=>lL p a (.aX i::ks)
 | .l::p,.cond _ a _,ks=>lL p a ks
 | .r::p,.cond _ _ b,ks=>lL p b ks
 |_,_,ks=>ks
@[simp]theorem MB (c:AC):gP [] c=c:=by cases c<;>rfl
@[simp]theorem abv (p:List dU) (a b:AC):gP (.l::p) (.seq a b)=gP p a:=rfl
@[simp]theorem MC (p:List dU) (a b:AC):gP (.r::p) (.seq a b)=gP p b:=rfl
@[simp]theorem abw (p:List dU) (i:Nat) (a:AC):gP (.l::p) (.block i a)=gP p a:=rfl
@[simp]theorem Xm (p:List dU) (x:X) (a b:AC):gP (.l::p) (.cond x a b)=gP p a:=rfl
@[simp]theorem Xn (p:List dU) (x:X) (a b:AC):gP (.r::p) (.cond x a b)=gP p b:=rfl
@[simp]theorem abx (p:List dU) (x:X) (a b r:AC):lK (.l::p) (.cond x a b) r= .cond x (lK p a r) b:=rfl
@[simp]theorem aby (p:List dU) (x:X) (a b r:AC):lK (.r::p) (.cond x a b) r= .cond x a (lK p b r):=rfl
@[simp]theorem abz (p:List dU) (x:X) (a b:AC) (ks:List Ko):lL (.l::p) (.cond x a b) ks=lL p a ks:=rfl
@[simp]theorem abA (p:List dU) (x:X) (a b:AC) (ks:List Ko):lL (.r::p) (.cond x a b) ks=lL p b ks:=rfl
@[simp]theorem af9 (c r:AC):lK [] c r=r:=by cases c<;>rfl
@[simp]theorem aga (p:List dU) (a b r:AC):lK (.l::p) (.seq a b) r= .seq (lK p a r) b:=rfl
@[simp]theorem agb (p:List dU) (a b r:AC):lK (.r::p) (.seq a b) r= .seq a (lK p b r):=rfl
@[simp]theorem agc (p:List dU) (i:Nat) (a r:AC):lK (.l::p) (.block i a) r= .block i (lK p a r):=rfl
@[simp]theorem AG (c:AC) (ks:List Ko):lL [] c ks=ks:=by cases c<;>rfl
@[simp]theorem agd (p:List dU) (a b:AC) (ks:List Ko):lL (.l::p) (.seq a b) ks=lL p a (.seq b::ks):=rfl
@[simp]theorem AI (p:List dU) (a b:AC) (ks:List Ko):lL (.r::p) (.seq a b) ks=lL p b ks:=rfl
@[simp]theorem age (p:List dU) (i:Nat) (a:AC) (ks:List Ko):lL (.l::p) (.block i a) ks=lL p a (.aX i::ks):=rfl
def Cr:Nat→List dU→List Ko→AC
 |0,p,.seq c::_=>gP p c
 |j+1,p,_::ks=>Cr j p ks
 |_,_,_=>.skip
def wD:Nat→List dU→List Ko→AC→List Ko
 |0,p,.seq c::ks,r=>.seq (lK p c r)::ks
 |j+1,p,k::ks,r=>k::wD j p ks r
 |_,_,ks,_=>ks
def yz:Nat→List dU→List Ko→List Ko
 |0,p,.seq c::ks=>lL p c ks
 |j+1,p,_::ks=>yz j p ks
 |_,_,ks=>ks
theorem tw {c:AC} (p:List dU) (P:Fr→AH→Prop) (hp:lK p c (gP p c)=c) (h2:∀fr H,P fr H→Vk E O (gP p c) (lL p c ks) fr H Q) (h1:∀rest,(∀fr H,P fr H→Vk E O rest (lL p c ks) fr H Q)→Vk E O (lK p c rest) ks fr H Q):Vk E O c ks fr H Q:=by
 have:=h1 _ h2
 rwa [hp]at this
theorem Xo {m:Md} {l:List AO} (j:Nat) (p:List dU) (P:Fr→AH→Prop) (hp:wD j p ks (Cr j p ks)=ks) (h2:∀fr H,P fr H→Vk E O (Cr j p ks) (yz j p ks) fr H Q) (h1:∀rest,(∀fr H,P fr H→Vk E O rest (yz j p ks) fr H Q)→Vx E O m l (wD j p ks rest) fr H Q):Vx E O m l ks fr H Q:=by
 have:=h1 _ h2
 rwa [hp]at this
theorem Ca.Xp {f:Nat} {F:AF} {«as»:List Value} {H:AH} {Q:Value→AH→Prop} (k:Nat) (ho:O f=none) (he:E f=some F) (hl:«as».length=F.np) (hk:spine k F.body (tv k F.body)=F.body) (h:Vk E O (spine k F.body (tv k F.body)) [] (Fr.of «as») H (x7 F.res Q)):Ca E O f «as» H Q:=Ca.dO ho he hl (hk▸h)
theorem Ca.aS {f:Nat} {F:AF} {«as»:List Value} {H:AH} {Q:Value→AH→Prop} (ho:O f=none) (he:E f=some F) (hl:«as».length=F.np) (h:Vk E O F.body [] (Fr.of «as») H (x7 F.res Q)):Ca E O f «as» H Q:=Ca.dO ho he hl h
def yA (E:Env) (O:kj) (I:Nat→Fr→AH→Prop) (k:Nat) (ks:List Ko) (Q:Ex→Fr→AH→Prop):Ex→Fr→AH→Prop
 | .normal,fr,H=>∃j,j<k∧I j fr H
 | .exit i,fr,H=>Vn E O (.exit i) ks fr H Q
 | .ret,fr,H=>Vn E O .ret ks fr H Q
@[simp]theorem abB (I:Nat→Fr→AH→Prop) (k:Nat):yA E O I k ks Q .normal fr H=∃j,j<k∧I j fr H:=rfl
@[simp]theorem abC (I:Nat→Fr→AH→Prop) (k i:Nat):yA E O I k ks Q (.exit i) fr H=Vn E O (.exit i) ks fr H Q:=rfl
@[simp]theorem abD (I:Nat→Fr→AH→Prop) (k:Nat):yA E O I k ks Q .ret fr H=Vn E O .ret ks fr H Q:=rfl
theorem ch {a:AC} (I:Nat→Fr→AH→Prop) (step:∀k fr H,I k fr H→Vk E O a [] fr H (yA E O I k ks Q)) (k:Nat) (h:I k fr H):Vk E O (.loop a) ks fr H Q:=by
 refine eL I (fun k fr H hI=>?_) k h
 have:=step k fr H hI
 unfold Vk at this
 have e:yA E O I k ks Q=x8 E O I k ks Q:=by
  funext ex fr H
  cases ex<;>rfl
 rw [e]at this
 exact this
@[simp]theorem X_t (n:Nat):X.ev fr (.t n)=fr.get n:=rfl
@[simp]theorem X_k (v:Value):X.ev fr (.k v)=v:=rfl
@[simp]theorem X_f (n:Nat):X.ev fr (.f n)= .func (.func n) #[] #[]:=rfl
end
end Go.Proofs.YtppcmpmnglaleaaGreatDoor.A
set_option maxRecDepth 10000
namespace Go.Proofs.YtppcmpmnglaleaaGreatDoor.A
open Go
theorem Es (c:Int) (H:AH):Ca E O 154 [.int .u8 c] H (fun x H'=>x= .bool (eW c)∧H'=H):=by
 refine Ca.aS (F:=a154) rfl rfl rfl ?_
 simp (maxSteps:=4000000)-implicitDefEqProofs+contextual [-X.ev,a154]
 simp [br,eW,fT,isDigit]
 by_cases h1:97≤c<;>by_cases h2:c≤122<;>by_cases h3:48≤c<;>by_cases h4:c≤57<;>simp [*]<;>omega
theorem vk {s:ByteArray}:bY s ⟨#[]⟩=decide (s.size=0):=by
 rw [Bool.eq_iff_iff,jH]
 constructor
 ·rintro rfl;rfl
 ·intro h;simp at h;exact h
theorem Eu (s:ByteArray) (iu:s.size<2^60) (H:AH):Ca E O 129 [.string s] H (fun x H'=>x= .bool (isName s)∧H'=H):=by
 refine Ca.aS (F:=Hq) rfl rfl rfl ?_
 by_cases h1:s.size=0
 ·simp (maxSteps:=4000000)-implicitDefEqProofs+contextual [-X.ev,Hq,vk,h1,isName]
 have sM:0<s.size:=by omega
 have W5:FO (.string s) (.int .i64 0)=some (.int .u8 (df s 0)):=Pp (n:=0) sM
 have ltr:fT (df s 0)=(decide (97≤df s 0)&&decide (df s 0≤122)):=rfl
 obtain ⟨b0,MD⟩:∃b,df s 0=b:=⟨_,rfl⟩
 rw [MD]at W5 ltr
 simp (maxSteps:=4000000)-implicitDefEqProofs+contextual [-X.ev,Hq,vk,h1,W5]
 refine yr (fun q=>?_) (fun q=>yr (fun q1=>?_) (fun q1=>yr (fun q2=>?_) (fun q2=>?_)))
 ·have:¬ s.size≤12:=by omega
  simp [isName,this]
 ·have q1':¬ 97≤b0:=by omega
  simp [isName,MD,ltr,q1']
 ·have q2':¬ b0≤122:=by omega
  simp [isName,MD,ltr,q2']
 refine ch (fun k fr H'=>H'=H∧∃i:Nat,i+k=s.size∧fr.get 0= .string s∧fr.get 3= .int .i64 i∧∀j,j<i→eW (df s j)=true) ?_ s.size ⟨rfl,0,by simp,by simp,by simp,fun j hj=>by omega⟩
 rintro k fr H' ⟨rfl,i,hi,f0,f3,aG⟩
 by_cases h:i<s.size
 ·have KG:FO (.string s) (.int .i64 i)=some (.int .u8 (df s i)):=Pp h
  simp (maxSteps:=4000000)-implicitDefEqProofs+contextual [-X.ev,f0,f3,h,KG]
  apply ah
  ·(simp-implicitDefEqProofs [-X.ev];rfl)
  refine (Es (df s i) H').mono ?_
  rintro x H1 ⟨rfl,rfl⟩
  cases h5:eW (df s i)with
  |true=>
   simp (maxSteps:=4000000)-implicitDefEqProofs+contextual [-X.ev,f0,f3]
   rw [ai ⟨by omega,by omega⟩]
   refine ⟨k- 1,by omega,i+1,by omega,by simp,fun j hj=>?_⟩
   by_cases e:j=i
   ·subst e;exact h5
   ·exact aG j (by omega)
  |false=>
   simp (maxSteps:=4000000)-implicitDefEqProofs+contextual [-X.ev]
   simp [isName]
   intro _ _ _ _
   exact ⟨i,h,h5⟩
 ·have HB:((List.range s.size).all fun i=>eW (df s i))=true:=by simpa using fun j hj=>aG j (by omega)
  have z1:1≤s.size:=by omega
  have z2:s.size≤12:=by omega
  have z3:fT (df s 0)=true:=by rw [MD,ltr];simp;omega
  have e:isName s= !dX s:=by simp [isName,HB,z1,z2,z3]
  simp (maxSteps:=4000000)-implicitDefEqProofs+contextual [-X.ev,f0,f3,h,e,dX]
open Go
def smap (l:List (ByteArray×Value)):List (Value×Value):=l.map fun p=>(.string p.1,p.2)
theorem Cs (s:ByteArray):∀l:List (ByteArray×Value),gI (.string s) (smap l)=some ((l.find? fun p=>bY s p.1).map (·.2))
 |[]=>rfl
 |p::l=>by
  have ih:=Cs s l
  unfold smap at ih⊢
  simp only [List.map_cons,gI,iq,List.find?_cons]
  change (match some (bY s p.1)with|some true=>_|some false=>_|none=>_)=_
  cases bY s p.1
  ·exact ih
  ·rfl
theorem HT (s:ByteArray) (v:Value):∀l:List (ByteArray×Value),(∀p∈l,bY s p.1=false)→mn (.string s) v (smap l)=some (smap (l++[(s,v)]))
 |[],_=>rfl
 |p::l,h=>by
  have ih:=HT s v l fun q hq=>h q (by simp [hq])
  unfold smap at ih⊢
  simp only [List.map_cons,mn,iq,List.cons_append]
  change (match some (bY s p.1)with|some true=>_|some false=>_|none=>_)=_
  rw [h p (by simp)]
  simp [ih]
theorem fG {kk m:Nat} {z k v:Value} {H:AH} {es:List (Value×Value)} (hg:H.get m=some (.map es)) (h0:H.n0≤m) (hk:cH kk k=true) (hf:gI k es=some (some v)):js kk z H (.map (some m)) k false=some v:=by
 simp [js,hg,h0,hk,hf]
theorem Ct {kk m:Nat} {z k:Value} {H:AH} {es:List (Value×Value)} (hg:H.get m=some (.map es)) (h0:H.n0≤m) (hk:cH kk k=true) (hf:gI k es=some none):js kk z H (.map (some m)) k false=some z:=by
 simp [js,hg,h0,hk,hf]
theorem iy {kk m:Nat} {k v:Value} {H:AH} {es es':List (Value×Value)} (hg:H.get m=some (.map es)) (h0:H.n0≤m) (hk:cH kk k=true) (ht:cY v=false) (hu:mn k v es=some es'):
 ∃H2,rX kk H (.map (some m)) k v=some H2∧Mod (fun x=>x=m) H H2∧H2.nx=H.nx∧H2.n0=H.n0∧H2.get m=some (.map es'):=by
 have hb:=AH.a8 hg
 refine ⟨H.put m (some (.map es')),by simp [rX,hg,h0,hk,ht,hu],⟨rfl,asp _,fun x hx hs=>?_⟩,rfl,rfl,?_⟩
 ·rw [AH.bV _ _ _ _ hb,if_neg hs]
 ·rw [AH.bV _ _ _ _ hb,if_pos rfl]
def lM (l:List Vr):List (ByteArray×Value):=l.map fun v=>(v.name,.bool true)
theorem yB (l:List Vr) (s:ByteArray):((lM l).find? fun p=>bY s p.1).map (·.2)=if l.any (fun v=>bY v.name s)=true then some (.bool true)else none:=by
 induction l with
 |nil=>rfl
 |cons v l ih=>
  simp only [lM,List.map_cons,List.find?_cons,List.any_cons]
  have e:bY s v.name=bY v.name s:=by
   rw [Bool.eq_iff_iff,jH,jH];exact eq_comm
  rcases Bool.eq_false_or_eq_true (bY v.name s)with q|q
  ·rw [q]at e
   simp [e,q]
  ·rw [q]at e
   simp only [e,q,Bool.false_or]
   simpa [lM]using ih
theorem yC {l:List Vr} {i:Nat} {y:Vr} (hy:l[i]?=some y):((l.take i).any fun v=>bY v.name y.name)= !decide (jq l y.name=i):=by
 have hi:=(asr.1 hy).1
 cases q:(l.take i).any fun v=>bY v.name y.name with
 |false=>
  have:jq l y.name=i:=tj hy (by rw [jH]) fun j z hj hz=>by
   rw [List.any_eq_false]at q
   have:=q z (asq (i:=j) (by rw [List.getElem?_take,if_pos hj];exact hz))
   simpa using this
  simp [this]
 |true=>
  rw [List.any_eq_true]at q
  obtain ⟨z,hz,hs⟩:=q
  obtain ⟨j,hj,e⟩:=List.mem_iff_getElem.1 hz
  have:¬ jq l y.name=i:=by
   intro hf
   unfold jq at hf
   split at hf
   ·rename_i k hk
    rw [List.findIdx?_eq_some_iff_getElem]at hk
    obtain ⟨_,_,hk⟩:=hk
    have hji:j<i:=by simp at hj;omega
    have:=hk j (by omega)
    rw [List.getElem_take]at e
    rw [e,hs]at this
    simp at this
   ·omega
  simp [this]
def Ew (l:List Vr) (i:Nat):Bool:=match l[i]? with|some v=>eX l i v|none=>true
theorem gQ (w:Int) (l:List Vr):aC w l=(bC w&&(decide (1≤l.length)&&(decide (l.length≤18)&&((List.range l.length).all (Ew l)&&decide (du (l.map (·.cells))≤48))))):=rfl
theorem qJ {l:List Vr} {i:Nat} {y:Vr} (h:l[i]?=some y):Ew l i=eX l i y:=by unfold Ew;rw [h]
set_option maxHeartbeats 1000000 in
theorem Cu {v:Value} {l:List Vr} {H:AH} (hw:H.n0≤H.nx) (hv:dz H v l) (rU:oM l) (w:Int):Ca E O 96 [.int .i64 w,v] H (fun x H'=>x= .int .i64 (if aC w l=true then 0 else 1)∧Ext H H'):=by
 refine Ca.aS (F:=a96) rfl rfl rfl ?_
 obtain ⟨a,c,gq⟩:=hv.len
 have iu:=rU.1
 have X0:=Ext.alloc H (.map [])
 have g0:=cK H (.map [])
 generalize Ch:H.alloc (.map [])=H0 at X0 g0
 simp (maxSteps:=4000000)-implicitDefEqProofs+contextual [-X.ev,a96,gq,Ch]
 have z1:aC w l=true→1≤w∧w≤8∧1≤l.length∧l.length≤18:=by
  intro h;simp [aC,bC]at h;omega
 have nf:¬ (1≤w∧w≤8∧1≤l.length∧l.length≤18)→aC w l=false:=fun q=>by
  rw [Bool.eq_false_iff];exact fun h=>q (z1 h)
 refine yr (fun q=>?_) (fun q1=>yr (fun q=>?_) (fun q2=>yr (fun q=>?_) (fun q3=>yr (fun q=>?_) (fun q4=>?_))))
 ·exact ⟨nf (by omega),Ext.refl _⟩
 ·exact ⟨nf (by omega),Ext.refl _⟩
 ·exact ⟨nf (by omega),Ext.refl _⟩
 ·exact ⟨nf (by omega),Ext.refl _⟩
 refine ch (fun k fr H1=>Ext H H1∧H1.get H.nx=some (.map (smap (lM (l.take (l.length- k)))))∧k≤l.length∧∃i:Nat,i+k=l.length∧fr.get 26=v∧fr.get 27= .int .i64 l.length∧fr.get 28= .int .i64 i∧fr.get 5= .map (some H.nx)∧fr.get 6= .int .i64 (du ((l.take i).map (·.cells)))∧∀j y,j<i→l[j]?=some y→eX l j y=true) ?_ l.length ⟨X0,by simpa [lM,smap]using g0,asp _,0,by simp,by simp [gq],by simp,by simp,by simp,by simp [du],fun j y hj=>by omega⟩
 rintro k fr H1 ⟨X1,gm,hk,i,hi,f26,f27,f28,f5,f6,aG⟩
 rw [show l.length- k=i by omega]at gm
 have lI:=X1.wf hw
 have nJ:H1.n0≤H.nx:=by rw [X1.n0];exact hw
 have nW:∀y,l[i]?=some y→eX l i y=false→aC w l=false:=by
  intro y hy hn
  have:((List.range l.length).all (Ew l))=false:=by
   rw [List.all_eq_false]
   refine ⟨i,?_,?_⟩
   ·have:=(asr.1 hy).1;simpa using this
   ·rw [qJ hy];simp [hn]
  simp only [gQ,this,Bool.false_and,Bool.and_false]
 by_cases h:i<l.length
 ·obtain ⟨y,hy⟩:∃y,l[i]?=some y:=⟨_,asl h⟩
  obtain ⟨b,o,c',cA,bJ,_⟩:=(hv.ext X1).at hy
  have rq:=rU.2 y (asq hy)
  have an3:=f26
  rw [cA]at f26
  obtain ⟨H2,sH2,X2,agf,Xq,d,lH2⟩:=eN (H:=H1) lI (z:=3) (c:=[.string ⟨#[]⟩,.int .i64 0,.int .i64 0]) (vs:=[.string y.name,.int .i64 y.level,.int .i64 y.cells]) rfl
  have d0:H2.ld ⟨H1.nx,0,none⟩=some (.string y.name):=lH2 0 _ rfl
  have d1:H2.ld ⟨H1.nx,1,none⟩=some (.int .i64 y.level):=lH2 1 _ rfl
  have d2:H2.ld ⟨H1.nx,2,none⟩=some (.int .i64 y.cells):=lH2 2 _ rfl
  clear lH2
  replace d:H2.ldn ⟨H1.nx,0,none⟩ 3=some [.string y.name,.int .i64 y.level,.int .i64 y.cells]:=d
  have jU:=X2.wf lI
  have Xr:=X2.get gm
  have h0:H2.n0≤H.nx:=by rw [Xq];exact nJ
  have key:aC w l=true→eX l i y=true:=fun hh=>by
   cases e:eX l i y with
   |true=>rfl
   |false=>rw [nW y hy e]at hh;cases hh
  have lk:js 1 (.bool false) H2 (.map (some H.nx)) (.string y.name) false=some (.bool (!decide (jq l y.name=i))):=by
   have hf:=Cs y.name (lM (l.take i))
   rw [yB,yC hy]at hf
   by_cases e:jq l y.name=i
   ·rw [Ct Xr h0 rfl (by simpa [e]using hf)];simp [e]
   ·rw [fG Xr h0 rfl (by simpa [e]using hf)];simp [e]
  simp (maxSteps:=4000000)-implicitDefEqProofs+contextual [-X.ev,f26,f27,f28,f5,f6,h,bJ,Vr.row,sH2,d0]
  apply ah
  ·(simp-implicitDefEqProofs [-X.ev];rfl)
  refine (Eu y.name rq H2).mono ?_
  rintro x H3 ⟨rfl,rfl⟩
  have X3:=X1.trans X2
  cases n1:isName y.name with
  |false=>
   simp (maxSteps:=4000000)-implicitDefEqProofs+contextual [-X.ev,f26,f27,f28,f5,f6]
   rw [nW y hy (by simp [eX,n1])]
   exact ⟨rfl,X3⟩
  |true=>
   by_cases ME:eX l i y=true
   ·obtain ⟨_,m1,m2,m3,m4,m5⟩:isName y.name=true∧0≤y.level∧y.level≤47∧1≤y.cells∧y.cells≤8∧jq l y.name=i:=by simpa [eX]using ME
    have m1':¬ y.level<0:=by omega
    have m2':¬ 47<y.level:=by omega
    have m3':¬ y.cells<1:=by omega
    have m4':¬ 8<y.cells:=by omega
    obtain ⟨H4,sm,X4,zP,oQ,gm4⟩:=iy (v:=.bool true) Xr h0 (kk:=1) (k:=.string y.name) rfl rfl (HT y.name (.bool true) (lM (l.take i)) (by
     have:=yC hy
     simp only [m5,decide_true,Bool.not_true]at this
     rw [List.any_eq_false]at this
     intro p hp
     unfold lM at hp
     obtain ⟨z,hz,rfl⟩:=List.mem_map.1 hp
     have:=this z hz
     have e:bY y.name z.name=bY z.name y.name:=by
      rw [Bool.eq_iff_iff,jH,jH];exact eq_comm
     simpa [e]using this))
    have gF:¬ H1.nx=H.nx:=by have:=AH.a8 gm;omega
    have Ey:=X4.ld (a:=⟨H1.nx,2,none⟩) gF d2
    simp (maxSteps:=4000000)-implicitDefEqProofs+contextual [-X.ev,f26,f27,f28,f5,f6,d0,d1,d2,lk,m5,m1',m2',m3',m4',sm,Ey]
    have KM:-9223372036854775808≤(i:Int)+1∧(i:Int)+1≤9223372036854775807:=by omega
    rw [ai (n:=(i:Int)+1) KM]
    refine ⟨k- 1,by omega,X3.mod X4 (by rintro x rfl;exact asp _),?_,by omega,i+1,by omega,cA.symm,by simp,?_,?_⟩
    ·rw [gm4,show l.length- (k- 1)=i+1 by omega,List.take_add_one,hy]
     simp [lM]
    ·rw [List.take_add_one]
     simp [du,List.getElem?_map,hy,List.foldl_append]
    ·intro j z hj hz
     by_cases e:j=i
     ·subst e;rw [hy]at hz;cases hz;exact ME
     ·exact aG j z (by omega) hz
   ·have Ez:eX l i y=false:=by simpa using ME
    have rv:=nW y hy Ez
    have hor:¬ (jq l y.name=i∧¬ y.level<0∧¬ 47<y.level∧¬ y.cells<1∧¬ 8<y.cells):=by
     rintro ⟨a1,a2,a3,a4,a5⟩
     apply ME
     simp [eX,n1,a1]
     omega
    by_cases p1:jq l y.name=i
    case neg=>
     simp (maxSteps:=4000000)-implicitDefEqProofs+contextual [-X.ev,f26,f27,f28,f5,f6,d0,d1,d2,lk,p1,rv,X3]
    by_cases p2:y.level<0
    case pos=>
     simp (maxSteps:=4000000)-implicitDefEqProofs+contextual [-X.ev,f26,f27,f28,f5,f6,d0,d1,d2,lk,p1,p2,rv,X3]
    by_cases p3:47<y.level
    case pos=>
     simp (maxSteps:=4000000)-implicitDefEqProofs+contextual [-X.ev,f26,f27,f28,f5,f6,d0,d1,d2,lk,p1,p2,p3,rv,X3]
    by_cases p4:y.cells<1
    case pos=>
     simp (maxSteps:=4000000)-implicitDefEqProofs+contextual [-X.ev,f26,f27,f28,f5,f6,d0,d1,d2,lk,p1,p2,p3,p4,rv,X3]
    have p5:8<y.cells:=by
     rcases Int.lt_or_le 8 y.cells with e|e
     ·exact e
     ·exact absurd ⟨p1,p2,p3,p4,by omega⟩ hor
    simp (maxSteps:=4000000)-implicitDefEqProofs+contextual [-X.ev,f26,f27,f28,f5,f6,d0,d1,d2,lk,p1,p2,p3,p4,p5,rv,X3]
 ·have hl:i=l.length:=by omega
  have hc:aC w l=decide (du (l.map (·.cells))≤48):=by
   have a1:bC w=true:=by simp [bC];omega
   have a2:((List.range l.length).all (Ew l))=true:=by
    rw [asB]
    intro j hj
    cases e:l[j]? with
    |none=>unfold Ew;rw [e]
    |some y=>rw [qJ e];exact aG j y (by simp at hj;omega) e
   have a3:1≤l.length:=by omega
   have a4:l.length≤18:=by omega
   simp only [gQ,a1,a2,a3,a4,decide_true,Bool.true_and]
  rw [hl,List.take_length]at f6
  simp (maxSteps:=4000000)-implicitDefEqProofs+contextual [-X.ev,f26,f27,f28,f5,f6,h,X1,hc]
end Go.Proofs.YtppcmpmnglaleaaGreatDoor.A
namespace Go.Proofs.YtppcmpmnglaleaaGreatDoor.A
open Go
theorem eK {l:List b9} {i:Nat} {y:b9} (h:l[i]?=some y):aw (l.take (i+1))=aw (l.take i)+aB y:=by
 induction l generalizing i with
 |nil=>simp at h
 |cons x l ih=>
  cases i with
  |zero=>simp at h;subst h;simp [aw]
  |succ i=>simp only [List.take_succ_cons,aw];rw [ih (by simpa using h)];omega
theorem bj (l:List b9) (i:Nat):0≤aw (l.take i)∧aw (l.take i)≤aw l:=by
 induction l generalizing i with
 |nil=>simp [aw]
 |cons x l ih=>
  have h1:=ec x
  have h2:=bc l
  cases i with
  |zero=>simp only [List.take_zero,aw];omega
  |succ i=>simp only [List.take_succ_cons,aw];have:=ih i;omega
theorem gG.row {H:AH} {v:Value} {rows:List (List Value)} {l:List b9} (hr:Rows H 4 v rows) (hl:gG H rows l) {i:Nat} {y:b9} (hy:l[i]?=some y):
 ∃b o c va r,v= .slice (some ⟨b,o,none⟩) l.length c∧H.ldn ⟨b,o+i*4,none⟩ 4=some [.int .i64 y.op,.int .i64 y.n,.int .i64 y.cp,va]∧r=[.int .i64 y.op,.int .i64 y.n,.int .i64 y.cp,va]∧nX H r y:=by
 obtain ⟨r,Em,kO⟩:=hl.at hy
 obtain ⟨b,o,c',cA,bJ⟩:=hr.at Em
 rw [hl.length]at cA
 cases kO with| @mk op n cp va rows args i1 i2 i3 hlen hr Pg=>
 exact ⟨b,o,c',va,_,cA,bJ,rfl,.mk i1 i2 i3 hlen hr Pg⟩
theorem vn:∀(N:Nat) (e:b9) (c:List Value) (H:AH),SizeOf.sizeOf e<N→H.n0≤H.nx→nX H c e→aB e<2^60→
 Ca E O 132 [.agg c.toArray] H (fun x H'=>x= .int .i64 (aB e)∧Ext H H'):=by
 intro N
 induction N with
 |zero=>intro e c H h;omega
 |succ N ih=>
  intro e c H hN hw he hm
  cases he with| @mk op n cp v rows args i1 i2 i3 hlen hr hl=>
  refine Ca.aS (F:=LJ) rfl rfl rfl ?_
  have X1:=Ext.alloc H (.cells 4 [.int .i64 op,.int .i64 n,.int .i64 cp,v])
  have d0:(H.alloc (.cells 4 [.int .i64 op,.int .i64 n,.int .i64 cp,v])).ld ⟨H.nx,0,none⟩=some (.int .i64 op):=ak hw rfl
  have d1:(H.alloc (.cells 4 [.int .i64 op,.int .i64 n,.int .i64 cp,v])).ld ⟨H.nx,1,none⟩=some (.int .i64 n):=ak hw rfl
  have d2:(H.alloc (.cells 4 [.int .i64 op,.int .i64 n,.int .i64 cp,v])).ld ⟨H.nx,2,none⟩=some (.int .i64 cp):=ak hw rfl
  have d3:(H.alloc (.cells 4 [.int .i64 op,.int .i64 n,.int .i64 cp,v])).ld ⟨H.nx,3,none⟩=some v:=ak hw rfl
  have d:(H.alloc (.cells 4 [.int .i64 op,.int .i64 n,.int .i64 cp,v])).ldn ⟨H.nx,0,none⟩ 4=some [.int .i64 op,.int .i64 n,.int .i64 cp,v]:=bl hw 4 rfl
  generalize cJ:H.alloc (.cells 4 [.int .i64 op,.int .i64 n,.int .i64 cp,v])=H1 at X1 d0 d1 d2 d3 d
  have bP:=X1.wf hw
  rw [aB]at hm
  obtain ⟨a0,c0,hv⟩:=hr.len
  rw [hl.length]at hv
  have D3:=d3
  rw [hv]at D3
  simp (maxSteps:=4000000)-implicitDefEqProofs+contextual [-X.ev,LJ,cJ,D3]
  refine ch (fun k fr H'=>Ext H1 H'∧∃i:Nat,i+k=args.length∧fr.get 7=v∧fr.get 8= .int .i64 args.length∧fr.get 9= .int .i64 i∧fr.get 3= .int .i64 (1+aw (args.take i))) ?_ args.length ⟨Ext.refl _,0,by simp,by simp [hv],by simp,by simp,by simp [aw]⟩
  rintro k fr H2 ⟨X2,i,hi,f7,f8,f9,f3⟩
  have fU:=X1.trans X2
  have jr:=fU.wf hw
  by_cases h:i<args.length
  ·obtain ⟨y,hy⟩:∃y,args[i]?=some y:=⟨_,asl h⟩
   obtain ⟨b,o,c',va,r,cA,bJ,rfl,kO⟩:=gG.row (hr.ext fU) (hl.ext fU) hy
   have f7v:=f7
   rw [cA]at f7
   obtain ⟨H3,FP,X3,HU,HV,q,mm⟩:=eN (H:=H2) jr (z:=4) (c:=[.int .i64 0,.int .i64 0,.int .i64 0,.slice none 0 0]) (vs:=[.int .i64 y.op,.int .i64 y.n,.int .i64 y.cp,va]) rfl
   have q0:H3.ld ⟨H2.nx,0,none⟩=some (.int .i64 y.op):=mm 0 _ rfl
   have q1:H3.ld ⟨H2.nx,1,none⟩=some (.int .i64 y.n):=mm 1 _ rfl
   have q2:H3.ld ⟨H2.nx,2,none⟩=some (.int .i64 y.cp):=mm 2 _ rfl
   have q3:H3.ld ⟨H2.nx,3,none⟩=some va:=mm 3 _ rfl
   clear mm
   replace q:H3.ldn ⟨H2.nx,0,none⟩ 4=some [.int .i64 y.op,.int .i64 y.n,.int .i64 y.cp,va]:=q
   have yD:=X3.wf jr
   have t1:=eK hy
   have t2:=bj args (i+1)
   have t3:=bj args i
   have t4:=ec y
   have hs:=gO (op:=op) (n:=n) (cp:=cp) hy
   simp (maxSteps:=4000000)-implicitDefEqProofs+contextual [-X.ev,f7,f8,f9,f3,h,bJ,FP,q]
   apply ah
   ·(simp-implicitDefEqProofs [-X.ev];rfl)
   refine (ih y _ H3 (by omega) yD (kO.ext X3) (by omega)).mono ?_
   rintro x H4 ⟨rfl,X4⟩
   simp (maxSteps:=4000000)-implicitDefEqProofs+contextual [-X.ev,f7,f8,f9,f3]
   rw [ai (n:=(i:Int)+1) ⟨by omega,by omega⟩,ai ⟨by omega,by omega⟩]
   exact ⟨k- 1,by omega,X2.trans (X3.trans X4),i+1,by omega,cA.symm,by simp,by omega⟩
  ·simp (maxSteps:=4000000)-implicitDefEqProofs+contextual [-X.ev,f7,f8,f9,f3,h]
   rw [ass (by omega)]
   exact ⟨by rw [aB],fU⟩
def mE (V:List Vr) (op n:Int):Int:=
 if op=0 then 0 else if op=1∧0≤n∧n<V.length then(if 1<al V n then 1 else 0)else
 if(2≤op∧op≤11)∨op=13∨op=14 then 2 else if op=12 then 1 else if op=15 then 3 else-1
theorem HW {w kk op n cp:Int} {vv va:Value} {V:List Vr} {H:AH} (hw:H.n0≤H.nx) (hv:dz H vv V):
 Ca E O 174 [.agg #[.int .i64 w,vv,.int .i64 kk],.agg #[.int .i64 op,.int .i64 n,.int .i64 cp,va]] H (fun x H'=>x= .int .i64 (mE V op n)∧Ext H H'):=by
 refine Ca.aS (F:=Ej) rfl rfl rfl ?_
 have X1:=Ext.alloc H (.cells 3 [.int .i64 w,vv,.int .i64 kk])
 have d0:(H.alloc (.cells 3 [.int .i64 w,vv,.int .i64 kk])).ld ⟨H.nx,0,none⟩=some (.int .i64 w):=ak hw rfl
 have d1:(H.alloc (.cells 3 [.int .i64 w,vv,.int .i64 kk])).ld ⟨H.nx,1,none⟩=some vv:=ak hw rfl
 have d2:(H.alloc (.cells 3 [.int .i64 w,vv,.int .i64 kk])).ld ⟨H.nx,2,none⟩=some (.int .i64 kk):=ak hw rfl
 have d:(H.alloc (.cells 3 [.int .i64 w,vv,.int .i64 kk])).ldn ⟨H.nx,0,none⟩ 3=some [.int .i64 w,vv,.int .i64 kk]:=bl hw 3 rfl
 generalize cJ:H.alloc (.cells 3 [.int .i64 w,vv,.int .i64 kk])=H1 at X1 d0 d1 d2 d
 have bP:=X1.wf hw
 have X2:=Ext.alloc H1 (.cells 4 [.int .i64 op,.int .i64 n,.int .i64 cp,va])
 have e0:(H1.alloc (.cells 4 [.int .i64 op,.int .i64 n,.int .i64 cp,va])).ld ⟨H1.nx,0,none⟩=some (.int .i64 op):=ak bP rfl
 have e1:(H1.alloc (.cells 4 [.int .i64 op,.int .i64 n,.int .i64 cp,va])).ld ⟨H1.nx,1,none⟩=some (.int .i64 n):=ak bP rfl
 have e2:(H1.alloc (.cells 4 [.int .i64 op,.int .i64 n,.int .i64 cp,va])).ld ⟨H1.nx,2,none⟩=some (.int .i64 cp):=ak bP rfl
 have e3:(H1.alloc (.cells 4 [.int .i64 op,.int .i64 n,.int .i64 cp,va])).ld ⟨H1.nx,3,none⟩=some va:=ak bP rfl
 have e:(H1.alloc (.cells 4 [.int .i64 op,.int .i64 n,.int .i64 cp,va])).ldn ⟨H1.nx,0,none⟩ 4=some [.int .i64 op,.int .i64 n,.int .i64 cp,va]:=bl bP 4 rfl
 generalize kl:H1.alloc (.cells 4 [.int .i64 op,.int .i64 n,.int .i64 cp,va])=H2 at X2 e0 e1 e2 e3 e
 have jU:=X2.wf bP
 have X:=X1.trans X2
 replace d1:=X2.ld d1
 by_cases h1:0≤n∧n<V.length
 ·obtain ⟨h1,h2⟩:=h1
  obtain ⟨y,hy⟩:∃y,V[n.toNat]?=some y:=⟨_,asl (by omega)⟩
  obtain ⟨b,o,c',cA,_,_,_,eh⟩:=(hv.ext X).at hy
  have hc:al V n=y.cells:=by simp [al,hy]
  rw [cA]at d1
  simp (maxSteps:=4000000)-implicitDefEqProofs+contextual [-X.ev,Ej,cJ,kl,d1,e0,e1,h1,h2,eh,X,hc,mE]
 ·have hc:mE V op n=if op=0 then 0 else if(2≤op∧op≤11)∨op=13∨op=14 then 2 else if op=12 then 1 else if op=15 then 3 else-1:=by
   unfold mE
   simp only [h1,and_false,if_false]
  obtain ⟨a1,c1,lC⟩:=hv.len
  rw [lC]at d1
  by_cases h2:0≤n
  ·have h3:¬ n<V.length:=fun q=>h1 ⟨h2,q⟩
   simp (maxSteps:=4000000)-implicitDefEqProofs+contextual [-X.ev,Ej,cJ,kl,d1,e0,e1,h2,h3,X,hc]
  ·simp (maxSteps:=4000000)-implicitDefEqProofs+contextual [-X.ev,Ej,cJ,kl,d1,e0,e1,h2,X,hc]
end Go.Proofs.YtppcmpmnglaleaaGreatDoor.A
