/- Texts that stand one behind the other: S2, S3, S4, S5, S6, S7, S8, S9, S10, S11, S12, S13, S14, AbsO, AbsP, S15, S16, S17. -/
import Derived.Test.YtppcmpmnglaleaaGreatDoorG14
set_option linter.unusedVariables false
set_option linter.unusedSimpArgs false
namespace Go.Proofs.YtppcmpmnglaleaaGreatDoor.A
section
open Go
def gG (c:Int):Bool:=decide (97≤c)&&decide (c≤122)
def isDigit (c:Int):Bool:=decide (48≤c)&&decide (c≤57)
theorem v7 (c:Int) (H:AH):Ca E O 133 [.int .u8 c] H (fun x H'=>x= .bool (gG c)∧H'=H):=by
 refine Ca.eE (F:=IW) rfl rfl rfl ?_;by_cases h:97≤c
 ·simp-implicitDefEqProofs [IW,aB,gG,h]
 ·simp-implicitDefEqProofs [IW,aB,gG,h]
theorem I1 (c:Int) (H:AH):Ca E O 135 [.int .u8 c] H (fun x H'=>x= .bool (isDigit c)∧H'=H):=by
 refine Ca.eE (F:=IX) rfl rfl rfl ?_;by_cases h:48≤c
 ·simp-implicitDefEqProofs [IX,aB,isDigit,h]
 ·simp-implicitDefEqProofs [IX,aB,isDigit,h]
def et (s:ByteArray):Bool:=bD s ⟨#[119,105,100,116,104]⟩||(bD s ⟨#[118,97,114]⟩||(bD s ⟨#[105,102]⟩||(bD s ⟨#[101,108,115,101]⟩||(bD s ⟨#[119,104,105,108,101]⟩||(bD s ⟨#[111,117,116]⟩||(bD s ⟨#[112,105,99,107]⟩||(bD s ⟨#[110,101,101,100]⟩||(bD s ⟨#[109,117,115,116]⟩||(bD s ⟨#[108,101,118,101,108]⟩||(bD s ⟨#[115,101,101,115]⟩))))))))))
theorem I3 (s:ByteArray) (H:AH):Ca E O 134 [.string s] H (fun x H'=>x= .bool (et s)∧H'=H):=by
 refine Ca.eE (F:=pD) rfl rfl rfl ?_
 cases a:bD s ⟨#[119,105,100,116,104]⟩with
 |true=>simp-implicitDefEqProofs [pD,aB,et,a]
 |false=>
  cases b:bD s ⟨#[118,97,114]⟩with
  |true=>simp-implicitDefEqProofs [pD,aB,et,a,b]
  |false=>
   cases h2:bD s ⟨#[105,102]⟩with
   |true=>simp-implicitDefEqProofs [pD,aB,et,a,b,h2]
   |false=>
    cases c:bD s ⟨#[101,108,115,101]⟩with
    |true=>simp-implicitDefEqProofs [pD,aB,et,a,b,h2,c]
    |false=>
     cases d:bD s ⟨#[119,104,105,108,101]⟩with
     |true=>simp-implicitDefEqProofs [pD,aB,et,a,b,h2,c,d]
     |false=>
      cases e:bD s ⟨#[111,117,116]⟩with
      |true=>simp-implicitDefEqProofs [pD,aB,et,a,b,h2,c,d,e]
      |false=>
       cases f:bD s ⟨#[112,105,99,107]⟩with
       |true=>simp-implicitDefEqProofs [pD,aB,et,a,b,h2,c,d,e,f]
       |false=>
        cases g:bD s ⟨#[110,101,101,100]⟩with
        |true=>simp-implicitDefEqProofs [pD,aB,et,a,b,h2,c,d,e,f,g]
        |false=>
         cases i:bD s ⟨#[109,117,115,116]⟩with
         |true=>simp-implicitDefEqProofs [pD,aB,et,a,b,h2,c,d,e,f,g,i]
         |false=>
          cases j:bD s ⟨#[108,101,118,101,108]⟩with
          |true=>simp-implicitDefEqProofs [pD,aB,et,a,b,h2,c,d,e,f,g,i,j]
          |false=>
           cases h:bD s ⟨#[115,101,101,115]⟩with
           |true=>simp-implicitDefEqProofs [pD,aB,et,a,b,h2,c,d,e,f,g,i,j,h]
           |false=>
            simp-implicitDefEqProofs [pD,aB,et,a,b,h2,c,d,e,f,g,i,j,h]
def fk (c:Int):Bool:=gG c||(isDigit c||decide (c=95))
def isName (s:ByteArray):Bool:=decide (1≤s.size)&&(decide (s.size≤12)&&(gG (dw s 0)&&(!et s&&(List.range s.size).all fun i=>fk (dw s i))))
theorem N1 (s:ByteArray) (C:s.size<2^60) (H:AH):Ca E O 99 [.string s] H (fun x H'=>x= .bool (isName s)∧H'=H):=by
 refine Ca.eE (F:=W4) rfl rfl rfl ?_;by_cases m:1≤s.size
 case neg=>
  have l:s.size=0:=by omega
  simp-implicitDefEqProofs [W4,aB,isName,l]
 have l:¬ s.size=0:=by omega
 have A:¬ (s.size:Int)<1:=by omega
 by_cases h2:s.size≤12
 case neg=>
  have v:12<s.size:=by omega
  have u:(12:Int)<s.size:=by omega
  simp-implicitDefEqProofs [W4,aB,isName,l,A,m,h2,v,u]
 have v:¬ 12<s.size:=by omega
 have u:¬ (12:Int)<s.size:=by omega
 have z:s[0]?=some s[0]:=getElem?_pos s 0 (by omega);have t:((s[0].toNat:Nat):Int)=dw s 0:=by unfold dw;rw [z];rfl
 simp-implicitDefEqProofs [W4,aB,l,A,m,h2,v,u,z];rw [t];refine bS ?_;simp-implicitDefEqProofs;refine (v7 _ H).mono ?_;rintro x H' ⟨rfl,rfl⟩
 cases g:gG (dw s 0)with
 |false=>simp-implicitDefEqProofs [aB,isName,l,m,h2,g]
 |true=>
  simp-implicitDefEqProofs [aB,g];refine bS ?_;simp-implicitDefEqProofs;refine (I3 s H').mono ?_;rintro x y ⟨rfl,rfl⟩
  cases q:et s with
  |true=>simp-implicitDefEqProofs [aB,isName,l,m,h2,g,q]
  |false=>
   simp-implicitDefEqProofs [aB,g,q];refine fJ (fun k w H'=>H'=y∧∃i:Nat,i+k=s.size∧w.get 0= .string s∧w.get 3= .int .i64 i∧∀j,j<i→fk (dw s j)=true) ?_ s.size ⟨rfl,0,by simp,by simp,by simp,fun j n=>by omega⟩;rintro k w H' ⟨rfl,i,hi,d,c,o⟩;by_cases h:i<s.size
   ·have a:s[i]?=some s[i]:=getElem?_pos s i h
    have r:((s[i].toNat:Nat):Int)=dw s i:=by unfold dw;rw [a];rfl
    simp-implicitDefEqProofs [aB,d,c,h,a];rw [r];refine bS ?_;simp-implicitDefEqProofs;refine (v7 _ H').mono ?_;rintro x B ⟨rfl,rfl⟩
    cases b:gG (dw s i)with
    |true=>
     simp-implicitDefEqProofs [aB,d,c,h,a,b];rw [ai ⟨by omega,by omega⟩];refine ⟨k- 1,by omega,i+1,by omega,by simp,fun j n=>?_⟩;by_cases e:j=i
     ·subst e;simp [fk,b]
     ·exact o j (by omega)
    |false=>
     simp-implicitDefEqProofs [aB,d,c,h,a,b];rw [r];refine bS ?_;simp-implicitDefEqProofs;refine (I1 _ B).mono ?_;rintro x D ⟨rfl,rfl⟩
     cases f:isDigit (dw s i)with
     |true=>
      simp-implicitDefEqProofs [aB,d,c,h,a,b,f];rw [ai ⟨by omega,by omega⟩];refine ⟨k- 1,by omega,i+1,by omega,by simp,fun j n=>?_⟩;by_cases e:j=i
      ·subst e;simp [fk,f]
      ·exact o j (by omega)
     |false=>
      simp-implicitDefEqProofs [aB,d,c,h,a,b,f];rw [r];by_cases p:dw s i=95
      ·simp-implicitDefEqProofs [aB,d,c,h,a,b,f,p]
       rw [ai ⟨by omega,by omega⟩];refine ⟨k- 1,by omega,i+1,by omega,by simp,fun j n=>?_⟩;by_cases e:j=i
       ·subst e;simp [fk,p]
       ·exact o j (by omega)
      ·simp-implicitDefEqProofs [aB,d,c,h,a,b,f,p]
       have:fk (dw s i)=false:=by simp [fk,b,f,p]
       simp [isName,m,h2,g,q];exact ⟨i,h,this⟩
   ·simp-implicitDefEqProofs [aB,d,c,h]
    simp [isName,m,h2,g,q];exact fun j n=>o j (by omega)
open Go
structure Vr where
 name:ByteArray
 level:Int
 cells:Int
def Vr.row (v:Vr):List Value:=[.string v.name,.int .i64 v.level,.int .i64 v.cells]
def dI (H:AH) (v:Value) (l:List Vr):Prop:=Rows H 3 v (l.map Vr.row)
theorem dI.ext {H H':AH} (E:Ext H H') {v:Value} {l:List Vr} (h:dI H v l):dI H' v l:=Rows.ext E h
theorem dI.len {H:AH} {v:Value} {l:List Vr} (h:dI H v l):∃a c,v= .slice a l.length c:=by
 obtain ⟨a,c,e⟩:=Rows.len h;exact ⟨a,c,by simpa using e⟩
theorem dI.at {H:AH} {v:Value} {l:List Vr} (h:dI H v l) {i:Nat} {x:Vr} (hi:l[i]?=some x):
 ∃b o c,v= .slice (some ⟨b,o,none⟩) l.length c∧H.ldn ⟨b,o+i*3,none⟩ 3=some x.row∧H.ld ⟨b,o+i*3,none⟩=some (.string x.name)∧H.ld ⟨b,o+i*3+1,none⟩=some (.int .i64 x.level)∧H.ld ⟨b,o+i*3+2,none⟩=some (.int .i64 x.cells):=by
 obtain ⟨b,o,c,e,h2⟩:=Rows.at h (i:=i) (r:=x.row) (by simp [hi]);exact ⟨b,o,c,by simpa using e,h2,by simpa using aQ h2 (j:=0) rfl,aQ h2 (j:=1) rfl,aQ h2 (j:=2) rfl⟩
def jF (l:List Vr) (s:ByteArray):Int:=match l.findIdx? (fun v=>bD v.name s)with|some i=>i|none=>-1
theorem ud {l:List Vr} {s:ByteArray} {i:Nat} {x:Vr} (hi:l[i]?=some x) (a:bD x.name s=true) (c:∀j y,j<i→l[j]?=some y→bD y.name s=false):jF l s=i:=by
 have:l.findIdx? (fun v=>bD v.name s)=some i:=by
  rw [List.findIdx?_eq_some_iff_getElem];obtain ⟨h,e⟩:=avm.1 hi;refine ⟨h,by rw [e];exact a,fun j b=>?_⟩;rw [c j _ b (avg (by omega))];simp
 unfold jF;rw [this]
theorem BL {l:List Vr} {s:ByteArray} (c:∀(j:Nat) (y:Vr),l[j]?=some y→bD y.name s=false):jF l s=-1:=by
 have:l.findIdx? (fun v=>bD v.name s)=none:=by
  rw [List.findIdx?_eq_none_iff];intro x a;obtain ⟨j,b,e⟩:=List.mem_iff_getElem.1 a;exact c j x (by rw [avg b,e])
 unfold jF;rw [this]
theorem N2 {v:Value} {l:List Vr} {H:AH} (w:dI H v l) (C:l.length<2^60) (s:ByteArray):Ca E O 100 [v,.string s] H (fun x H'=>x= .int .i64 (jF l s)∧H'=H):=by
 refine Ca.eE (F:=Np) rfl rfl rfl ?_;simp-implicitDefEqProofs [Np,aB];obtain ⟨a,c,A⟩:=w.len;refine fJ (fun k p H'=>H'=H∧∃i:Nat,i+k=l.length∧p.get 0=v∧p.get 1= .string s∧p.get 5= .int .i64 i∧∀j y,j<i→l[j]?=some y→bD y.name s=false) ?_ l.length ⟨rfl,0,by simp,by simp,by simp,by simp,fun j y g=>by omega⟩;rintro k p H' ⟨rfl,i,hi,d,n,m,t⟩;by_cases h:i<l.length
 ·obtain ⟨y,r⟩:∃y,l[i]?=some y:=⟨_,avg h⟩
  obtain ⟨b,o,D,u,_,B,_⟩:=w.at r;rw [u]at d;simp-implicitDefEqProofs [aB,d,n,m,h,B]
  cases f:bD y.name s with
  |true=>
   simp-implicitDefEqProofs [aB,d,n,m,f];exact (ud r f t).symm
  |false=>
   simp-implicitDefEqProofs [aB,d,n,m,f];rw [ai ⟨by omega,by omega⟩];refine ⟨k- 1,by omega,i+1,by omega,u.symm,by simp,fun j z g q=>?_⟩;by_cases e:j=i
   ·subst e;rw [r]at q;cases q;exact f
   ·exact t j z (by omega) q
 ·rw [A]at d
  simp-implicitDefEqProofs [aB,d,n,m,h];refine (BL fun j y g=>t j y ?_ g).symm;have:=(avm.1 g).1;omega
def dE (l:List Int):Int:=l.foldl (fun a c=>IntKind.i64.wrap (a+c)) 0
theorem zp {v:Value} {l:List Vr} {H:AH} (m:dI H v l) (r:l.length<2^60) (n:Nat) (s:n≤l.length):Ca E O 41 [v,.int .i64 n] H (fun x H'=>x= .int .i64 (dE ((l.take n).map (·.cells)))∧H'=H):=by
 refine Ca.eE (F:=a41) rfl rfl rfl ?_;simp-implicitDefEqProofs [a41,aB];refine fJ (fun k a H'=>H'=H∧∃i:Nat,i+k=n∧a.get 0=v∧a.get 1= .int .i64 n∧a.get 6= .int .i64 i∧a.get 5= .int .i64 (dE ((l.take i).map (·.cells)))) ?_ n ⟨rfl,0,by simp,by simp,by simp,by simp,by simp [dE]⟩;rintro k a H' ⟨rfl,i,hi,c,j,f,g⟩;by_cases h:i<n
 ·obtain ⟨y,d⟩:∃y,l[i]?=some y:=⟨_,avg (by omega)⟩
  obtain ⟨b,o,t,e,_,_,_,p⟩:=m.at d;rw [e]at c;have q:i<l.length:=by omega
  simp-implicitDefEqProofs [aB,c,j,g,f,h,p,q];rw [ai (n:=(i:Int)+1) ⟨by omega,by omega⟩];refine ⟨k- 1,by omega,i+1,by omega,e.symm,by simp,?_⟩;rw [avB];simp [dE,avK,d,List.foldl_append]
 ·simp-implicitDefEqProofs [aB,c,j,g,f,h]
  rw [show i=n by omega]
def fm (l:List Vr) (i:Nat) (v:Vr):Bool:=isName v.name&&(decide (0≤v.level)&&(decide (v.level≤47)&&(decide (1≤v.cells)&&(decide (v.cells≤8)&&decide (jF l v.name=i)))))
def aC (w:Int) (l:List Vr):Bool:=bE w&&(decide (1≤l.length)&&(decide (l.length≤18)&&((List.range l.length).all (fun i=>match l[i]? with|some v=>fm l i v|none=>true)&&decide (dE (l.map (·.cells))≤48))))
theorem sq {l:List Vr} {i:Nat} {v:Vr} (h:fm l i v=true):1≤v.cells∧v.cells≤8:=by
 simp [fm]at h;exact ⟨h.2.2.2.1,h.2.2.2.2.1⟩
def pE (l:List Vr):Prop:=l.length<2^60∧∀v∈l,v.name.size<2^60
theorem BM {v:Value} {l:List Vr} {H:AH} (hw:H.n0≤H.nx) (hv:dI H v l) (mu:pE l) (w:Int):Ca E O 71 [.int .i64 w,v] H (fun x H'=>x= .bool (aC w l)∧Ext H H'):=by
 refine Ca.eE (F:=a71) rfl rfl rfl ?_;obtain ⟨a,c,M⟩:=hv.len;have iD:=mu.1;simp-implicitDefEqProofs [a71,aB];refine bS ?_;simp-implicitDefEqProofs;refine (zo w H).mono ?_;rintro x H' ⟨rfl,rfl⟩
 cases P:bE w with
 |false=>simp-implicitDefEqProofs [aB,aC,P,Ext.refl]
 |true=>
  by_cases Z:1≤l.length
  case neg=>
   have N:l.length=0:=by omega
   simp-implicitDefEqProofs [aB,aC,P,M,N,Ext.refl]
  by_cases h2:l.length≤18
  case neg=>
   have N:¬ (l.length:Int)<1:=by omega
   have Y:(18:Int)<l.length:=by omega
   have X:18<l.length:=by omega
   simp-implicitDefEqProofs [aB,aC,P,M,Z,N,h2,Y,X,Ext.refl]
  have N:¬ (l.length:Int)<1:=by omega
  have Y:¬ (18:Int)<l.length:=by omega
  have X:¬ 18<l.length:=by omega
  simp-implicitDefEqProofs [aB,P,M,Z,N,h2,Y,X];refine fJ (fun k R L=>Ext H' L∧∃i:Nat,i+k=l.length∧R.get 1=v∧R.get 6= .int .i64 i∧R.get 5= .int .i64 (dE ((l.take i).map (·.cells)))∧∀j y,j<i→l[j]?=some y→fm l j y=true) ?_ l.length ⟨Ext.refl _,0,by simp,by simp [M],by simp,by simp [dE],fun j y W=>by omega⟩;rintro k R L ⟨t,i,hi,f,s,f5,aH⟩;have lW:=t.wf hw;have ue:=hv.ext t
  have K:∀y,l[i]?=some y→fm l i y=false→aC w l=false:=by
   intro y p hn
   have:((List.range l.length).all (fun i=>match l[i]? with|some v=>fm l i v|none=>true))=false:=by
    rw [List.all_eq_false];refine ⟨i,?_,?_⟩
    ·have:=(avm.1 p).1;simpa using this
    ·rw [p];simp [hn]
   simp [aC,this]
  by_cases h:i<l.length
  ·obtain ⟨y,p⟩:∃y,l[i]?=some y:=⟨_,avg h⟩
   obtain ⟨b,o,c',U,bM,_⟩:=ue.at p;have r9:=mu.2 y (avl p);have f1v:=f;rw [U]at f;obtain ⟨S,eY,G,yO,qW,yN,V⟩:=eZ (H:=L) lW (z:=3) (c:=[.string ⟨#[]⟩,.int .i64 0,.int .i64 0]) (vs:=y.row) rfl;have B:S.ld ⟨L.nx,0,none⟩=some (.string y.name):=V 0 _ rfl;have D:S.ld ⟨L.nx,1,none⟩=some (.int .i64 y.level):=V 1 _ rfl;have C:S.ld ⟨L.nx,2,none⟩=some (.int .i64 y.cells):=V 2 _ rfl;simp-implicitDefEqProofs [aB,f,s,h,bM,aZ,df,Vr.row]at eY⊢;simp-implicitDefEqProofs [aB,eY,B];refine bS ?_;simp-implicitDefEqProofs;refine (N1 y.name r9 S).mono ?_;rintro x H3 ⟨rfl,rfl⟩
   cases d:isName y.name with
   |false=>
    simp-implicitDefEqProofs [aB,f,s,B,D,C,d];exact ⟨K y p (by simp [fm,d]),t.trans G⟩
   |true=>
    by_cases m:0≤y.level
    case neg=>
     have g:y.level<0:=by omega
     simp-implicitDefEqProofs [aB,f,s,B,D,C,d,m,g];exact ⟨K y p (by simp [fm,d,m,g]),t.trans G⟩
    have g:¬ y.level<0:=by omega
    by_cases r:y.level≤47
    case neg=>
     have q:47<y.level:=by omega
     simp-implicitDefEqProofs [aB,f,s,B,D,C,d,m,g,r,q];exact ⟨K y p (by simp [fm,d,m,g,r,q]),t.trans G⟩
    have q:¬ 47<y.level:=by omega
    by_cases A:1≤y.cells
    case neg=>
     have u:y.cells<1:=by omega
     simp-implicitDefEqProofs [aB,f,s,B,D,C,d,m,g,r,q,A,u];exact ⟨K y p (by simp [fm,d,m,g,r,q,A,u]),t.trans G⟩
    have u:¬ y.cells<1:=by omega
    by_cases J:y.cells≤8
    case neg=>
     have I:8<y.cells:=by omega
     simp-implicitDefEqProofs [aB,f,s,B,D,C,d,m,g,r,q,A,u,J,I];exact ⟨K y p (by simp [fm,d,m,g,r,q,A,u,J,I]),t.trans G⟩
    have I:¬ 8<y.cells:=by omega
    simp-implicitDefEqProofs [aB,f,s,B,D,C,d,m,g,r,q,A,u,J,I];refine bS ?_;simp-implicitDefEqProofs [f];rw [←U];refine (N2 (ue.ext G) iD y.name).mono ?_;rintro x H4 ⟨rfl,rfl⟩;by_cases Q:jF l y.name=i
    case neg=>
     simp-implicitDefEqProofs [aB,f,s,B,D,C,d,m,g,r,q,A,u,J,I,Q];exact ⟨K y p (by simp [fm,d,m,g,r,q,A,u,J,I,Q]),t.trans G⟩
    simp-implicitDefEqProofs [aB,f,f5,s,B,D,C,d,m,g,r,q,A,u,J,I,Q];rw [ai (n:=(i:Int)+1) ⟨by omega,by omega⟩];refine ⟨k- 1,by omega,t.trans G,i+1,by omega,U.symm,by simp,?_,fun j z W T=>?_⟩
    ·rw [avB]
     simp [dE,avK,p,List.foldl_append]
    ·by_cases e:j=i
     ·subst e;rw [p]at T;cases T
      simp [fm,d,m,r,A,J,Q]
     ·exact aH j z (by omega) T
  ·have rp:i=l.length:=by omega
   rw [M]at f;simp-implicitDefEqProofs [aB,f,f5,s,h];refine ⟨?_,t⟩
   have I5:((List.range l.length).all (fun i=>match l[i]? with|some v=>fm l i v|none=>true))=true:=by
    rw [avw];intro j W;have Hg:j<l.length:=by simpa using W
    rw [avg Hg];exact aH j _ (by omega) (avg Hg)
   rw [aC,P,I5,rp];have:List.take l.length (l.map fun x=>x.cells)=l.map fun x=>x.cells:=avn (by simp)
   simp [Z,h2,this]
end
section
open Go
inductive ch where
 |mk (op n cp:Int) (args:List ch)
def ch.op:ch→Int| .mk a _ _ _=>a
def ch.n:ch→Int| .mk _ a _ _=>a
def ch.cp:ch→Int| .mk _ _ a _=>a
mutual
inductive oV (H:AH):List Value→ch→Prop where
 |mk {op n cp:Int} {v:Value} {rows:List (List Value)} {args:List ch}:lC op→lC n→lC cp→args.length<2^60→Rows H 4 v rows→gY H rows args→oV H [.int .i64 op,.int .i64 n,.int .i64 cp,v] (.mk op n cp args)
inductive gY (H:AH):List (List Value)→List ch→Prop where
 |nil:gY H [] []
 |cons {r:List Value} {e:ch} {rs:List (List Value)} {es:List ch}:oV H r e→gY H rs es→gY H (r::rs) (e::es)
end
mutual
theorem oV.ext {H H':AH} (E:Ext H H') {c:List Value} {e:ch}:oV H c e→oV H' c e
 | .mk a b c d r l=>.mk a b c d (r.ext E) (gY.ext E l)
theorem gY.ext {H H':AH} (E:Ext H H') {c:List (List Value)} {e:List ch}:gY H c e→gY H' c e
 | .nil=>.nil
 | .cons a b=>.cons (oV.ext E a) (gY.ext E b)
end
theorem gY.length {H:AH}:∀{c:List (List Value)} {e:List ch},gY H c e→c.length=e.length
 |_,_,.nil=>rfl
 |_,_,.cons _ b=>by simp [gY.length b]
theorem gY.at {H:AH}:∀{c:List (List Value)} {e:List ch} {i:Nat} {x:ch},gY H c e→e[i]?=some x→∃r,c[i]?=some r∧oV H r x
 |_,_,i,x,.nil,h=>by simp at h
 |_,_,0,x,.cons a b,h=>by simp at h;subst h;exact ⟨_,rfl,a⟩
 |_,_,i+1,x,.cons a b,h=>by obtain ⟨r,d,h2⟩:=gY.at b (by simpa using h);exact ⟨r,by simpa using d,h2⟩
theorem iq {op n cp:Int} {args:List ch} {i:Nat} {x:ch} (h:args[i]?=some x):SizeOf.sizeOf x<SizeOf.sizeOf (ch.mk op n cp args):=by
 have:=avL (avl h);simp;omega
mutual
def kM:ch→Int→Int
 | .mk _ _ _ args,most=>if most<1 then 0 else dX args (most- 1)
def dX:List ch→Int→Int
 |[],n=>n
 |e::es,n=>dX es (kM e n)
end
theorem su:∀(l:List ch) (n:Int),dX l n=l.foldl (fun n e=>kM e n) n
 |[],n=>rfl
 |e::es,n=>by simp [dX,su es]
@[simp]theorem gM (c:Array Value):aZ (.agg c)=c.toList:=rfl
@[simp]theorem W5 (c:Array Value):df (.agg c)=false:=rfl
theorem zq:∀(N:Nat) (e:ch) (m:Int),SizeOf.sizeOf e<N→kM e m≤max m 0∧0≤kM e m:=by
 intro N
 induction N with
 |zero=>intro e m h;omega
 |succ N ih=>
  intro e m h;obtain ⟨op,n,g,args⟩:=e;rw [kM];split
  ·omega
  ·have key:∀(l:List ch) (k:Int),(∀e∈l,SizeOf.sizeOf e<N)→0≤k→dX l k≤k∧0≤dX l k:=by
    intro l
    induction l with
    |nil=>intro k _ d;rw [dX];omega
    |cons x l c=>
     intro k b d;rw [dX];have f:=ih x k (b x (by simp));have h2:=c (kM x k) (fun e a=>b e (by simp [a])) f.2;omega
   have:=key args (m- 1) (fun e a=>by have:=avL a;simp at h;omega) (by omega);omega
theorem DC:∀(N:Nat) (e:ch) (c:List Value) (H:AH) (most:Int),SizeOf.sizeOf e<N→H.n0≤H.nx→oV H c e→lC most→
 Ca E O 64 [.agg c.toArray,.int .i64 most] H (fun x H'=>x= .int .i64 (kM e most)∧Ext H H'):=by
 intro N
 induction N with
 |zero=>intro e c H most h;omega
 |succ N ih=>
  intro e c H most W u M J
  cases M with| @mk op n cp v rows args U T S B A p=>
  refine Ca.eE (F:=YW) rfl rfl rfl ?_;have d:=Ext.alloc H (.cells 4 [.int .i64 op,.int .i64 n,.int .i64 cp,v]);have D:(H.alloc (.cells 4 [.int .i64 op,.int .i64 n,.int .i64 cp,v])).ld ⟨H.nx,3,none⟩=some v:=ak u rfl;generalize C:H.alloc (.cells 4 [.int .i64 op,.int .i64 n,.int .i64 cp,v])=R at d D;by_cases f:most<1
  ·simp-implicitDefEqProofs [YW,aB,f,C]
   refine ⟨?_,d⟩;rw [kM,if_pos f]
  ·unfold lC at J
   simp-implicitDefEqProofs [YW,aB,f,C];rw [ai (n:=most- 1) ⟨by omega,by omega⟩];obtain ⟨a0,X,z⟩:=A.len;rw [p.length]at z;refine fJ (fun k g H'=>Ext R H'∧∃i:Nat,i+k=args.length∧g.get 2= .pointer (some ⟨H.nx,0,none⟩)∧g.get 6= .int .i64 i∧g.get 5= .int .i64 (dX (args.take i) (most- 1))∧0≤dX (args.take i) (most- 1)∧dX (args.take i) (most- 1)≤most- 1) ?_ args.length ⟨Ext.refl _,0,by simp,by simp,by simp,by simp [dX],by simp [dX];omega,by simp [dX]⟩;rintro k g Q ⟨a,i,hi,s,q,j,b1,Z⟩;have l:=a.ld D;have G:=(d.trans a).wf u;by_cases h:i<args.length
   ·obtain ⟨y,m⟩:∃y,args[i]?=some y:=⟨_,avg h⟩
    obtain ⟨r,I,L⟩:=p.at m;obtain ⟨b,o,Y,w,K⟩:=(A.ext (d.trans a)).at I;rw [p.length]at w;rw [w]at l;simp-implicitDefEqProofs [aB,s,q,j,l,h,K];refine bS ?_;simp-implicitDefEqProofs [j];have V:=iq (op:=op) (n:=n) (cp:=cp) m;refine (ih y r Q _ (by omega) G (L.ext (d.trans a)) ⟨by omega,by omega⟩).mono ?_;rintro x H3 ⟨rfl,P⟩;simp-implicitDefEqProofs [aB,s,q,j];rw [ai (n:=(i:Int)+1) ⟨by omega,by omega⟩]
    have t:dX (args.take (i+1)) (most- 1)=kM y (dX (args.take i) (most- 1)):=by
     rw [avB,m];simp [su,List.foldl_append]
    have:=zq (SizeOf.sizeOf y+1) y (dX (args.take i) (most- 1)) (by omega);exact ⟨k- 1,by omega,a.trans P,i+1,by omega,by simp,t.symm,by rw [t];omega,by rw [t];omega⟩
   ·rw [z]at l
    simp-implicitDefEqProofs [aB,s,q,j,l,h];rw [avn (by omega)];refine ⟨?_,d.trans a⟩;rw [kM,if_neg f]
open Go
mutual
def aA:ch→Int
 | .mk _ _ _ args=>1+aw args
def aw:List ch→Int
 |[]=>0
 |e::es=>aA e+aw es
end
mutual
def dx:ch→Int
 | .mk _ _ _ args=>dJ args 0+1
def dJ:List ch→Int→Int
 |[],n=>n
 |e::es,n=>dJ es (max n (dx e))
end
theorem qm:∀(l:List ch) (n:Int),dJ l n=l.foldl (fun n e=>max n (dx e)) n
 |[],n=>rfl
 |e::es,n=>by simp [dJ,qm es]
theorem nQ {M:ch→Prop} (h:∀op n cp args,(∀e∈args,M e)→M (.mk op n cp args)):∀e,M e:=by
 have key:∀(N:Nat) (e:ch),SizeOf.sizeOf e<N→M e:=by
  intro N
  induction N with
  |zero=>intro e h;omega
  |succ N ih=>
   intro e b;obtain ⟨op,n,cp,args⟩:=e;refine h op n cp args fun e a=>ih e ?_
   have:=avL a;simp at b;omega
 exact fun e=>key _ e (avv _)
theorem oW {l:List ch} (h:∀e∈l,1≤aA e):0≤aw l:=by
 induction l with
 |nil=>simp [aw]
 |cons e es ih=>
  rw [aw];have b:=h e (by simp);have h2:=ih fun x a=>h x (by simp [a])
  omega
theorem eA:∀e,1≤aA e:=nQ fun op n a args ih=>by
 rw [aA];have:=oW ih;omega
theorem bf (l:List ch):0≤aw l:=oW fun e _=>eA e
theorem zr:∀e m,kM e m=max (m- aA e) 0:=nQ fun op n f args ih m=>by
 have key:∀(l:List ch) (k:Int),(∀e∈l,∀m,kM e m=max (m- aA e) 0)→0≤k→dX l k=max (k- aw l) 0:=by
  intro l
  induction l with
  |nil=>intro k _ c;rw [dX,aw];omega
  |cons x l b=>
   intro k a c;rw [dX,aw,a x (by simp),b _ (fun e d=>a e (by simp [d])) (by omega)];have:=bf l;omega
 rw [kM,aA];have:=bf args;split
 ·omega
 ·rw [key args (m- 1) ih (by omega)]
  omega
theorem qn:∀e,1≤dx e∧dx e≤aA e:=nQ fun op n h args ih=>by
 have key:∀(l:List ch) (k:Int),(∀e∈l,1≤dx e∧dx e≤aA e)→0≤k→k≤dJ l k∧dJ l k≤max k (aw l):=by
  intro l
  induction l with
  |nil=>intro k _ c;rw [dJ,aw];omega
  |cons x l b=>
   intro k a c;rw [dJ,aw];have g:=a x (by simp);have h2:=b (max k (dx x)) (fun e d=>a e (by simp [d])) (by omega);have f:=bf l;omega
 rw [dx,aA];have:=key args 0 ih (by omega);have:=bf args;omega
theorem bo {H:AH} (a:H.n0≤H.nx) {z:Nat} {c:List Value} (n:Nat) (b:c.length=n):(H.alloc (.cells z c)).ldn ⟨H.nx,0,none⟩ n=some c:=by
 rw [←b];exact tf a z c
theorem N4 {e:ch} {c:List Value} {H:AH} {most:Int} (b:H.n0≤H.nx) (f:oV H c e) (k:0≤most∧most≤1000000):
 Ca E O 137 [.agg c.toArray,.int .i64 most] H (fun x H'=>x= .bool (decide (aA e≤most))∧Ext H H'):=by
 refine Ca.eE (F:=NC) rfl rfl rfl ?_;have g:c.length=4:=by cases f;rfl
 have a:=Ext.alloc H (.cells c.length c);have d:=bo b (z:=c.length) (c:=c) 4 g;generalize h:H.alloc (.cells c.length c)=j at a d;simp-implicitDefEqProofs [NC,aB,h,d];refine bS ?_;rw [ai ⟨by omega,by omega⟩];simp-implicitDefEqProofs;refine (DC _ e c j (most+1) (avv _) (a.wf b) (f.ext a) ⟨by omega,by omega⟩).mono ?_;rintro x l ⟨rfl,i⟩;simp-implicitDefEqProofs [aB];refine ⟨?_,a.trans i⟩;rw [zr];omega
theorem I6:∀(N:Nat) (e:ch) (c:List Value) (H:AH),SizeOf.sizeOf e<N→H.n0≤H.nx→oV H c e→aA e<2^60→
 Ca E O 138 [.agg c.toArray] H (fun x H'=>x= .int .i64 (dx e)∧Ext H H'):=by
 intro N
 induction N with
 |zero=>intro e c H h;omega
 |succ N ih=>
  intro e c H hN u S B
  cases S with| @mk op n cp v rows args i1 i2 Z C A m=>
  refine Ca.eE (F:=a138) rfl rfl rfl ?_;have f:=Ext.alloc H (.cells 4 [.int .i64 op,.int .i64 n,.int .i64 cp,v]);have D:(H.alloc (.cells 4 [.int .i64 op,.int .i64 n,.int .i64 cp,v])).ld ⟨H.nx,3,none⟩=some v:=ak u rfl;generalize T:H.alloc (.cells 4 [.int .i64 op,.int .i64 n,.int .i64 cp,v])=Y at f D;have P:=B;rw [aA]at B;obtain ⟨a0,c0,z⟩:=A.len;rw [m.length]at z
  have G:∀(l:List ch) (y:ch),y∈l→aA y≤aw l:=by
   intro l
   induction l with
   |nil=>intro y a;cases a
   |cons x l I=>
    intro y a;rw [aw];have h3:=bf l;have h4:=eA x;rcases avy.1 a with rfl|a
    ·omega
    ·have:=I y a;omega
  simp-implicitDefEqProofs [a138,aB,T];refine fJ (fun k g H'=>Ext Y H'∧∃i:Nat,i+k=args.length∧g.get 1= .pointer (some ⟨H.nx,0,none⟩)∧g.get 4= .int .i64 i∧g.get 3= .int .i64 (dJ (args.take i) 0)∧0≤dJ (args.take i) 0∧dJ (args.take i) 0≤aw args) ?_ args.length ⟨Ext.refl _,0,by simp,by simp,by simp,by simp [dJ],by simp [dJ],by simp [dJ,bf]⟩;rintro k g X ⟨d,i,hi,s,p,q,V,U⟩;have j:=d.ld D;have L:=(f.trans d).wf u;by_cases h:i<args.length
  ·obtain ⟨y,a⟩:∃y,args[i]?=some y:=⟨_,avg h⟩
   obtain ⟨r,M,R⟩:=m.at a;obtain ⟨b,o,c',w,Q⟩:=(A.ext (f.trans d)).at M;rw [m.length]at w;rw [w]at j;have J:=G args y (avl a);have K:=qn y;simp-implicitDefEqProofs [aB,s,p,q,j,h,Q];refine bS ?_;simp-implicitDefEqProofs;have hs:=iq (op:=op) (n:=n) (cp:=cp) a;refine (ih y r X (by omega) L (R.ext (f.trans d)) (by omega)).mono ?_;rintro x H3 ⟨rfl,W⟩;simp-implicitDefEqProofs [aB,s,p,q,L0];rw [ai (n:=(i:Int)+1) ⟨by omega,by omega⟩]
   have t:dJ (args.take (i+1)) 0=max (dJ (args.take i) 0) (dx y):=by
    rw [avB,a];simp [qm,List.foldl_append]
   refine ⟨k- 1,by omega,d.trans W,i+1,by omega,by simp,?_,?_,?_⟩
   ·rw [t];split<;>omega
   ·rw [t];omega
   ·rw [t];omega
  ·rw [z]at j
   simp-implicitDefEqProofs [aB,s,p,q,j,h];rw [avn (by omega)]at V U⊢;rw [ai ⟨by omega,by omega⟩];refine ⟨?_,f.trans d⟩;rw [dx]
def sv (op:Int):Bool:=(decide (2≤op)&&decide (op≤11))||(decide (op=13)||decide (op=14))
theorem TQ (op:Int) (H:AH):Ca E O 175 [.int .i64 op] H (fun x H'=>x= .bool (sv op)∧H'=H):=by
 refine Ca.eE (F:=a175) rfl rfl rfl ?_;by_cases b:2≤op
 ·by_cases h2:op≤11
  ·simp-implicitDefEqProofs [a175,aB,sv,b,h2]
  ·by_cases a:op=13
   ·simp-implicitDefEqProofs [a175,aB,sv,a]
   ·simp-implicitDefEqProofs [a175,aB,sv,b,h2,a]
 ·have a:¬ op=13:=by omega
  simp-implicitDefEqProofs [a175,aB,sv,b,a]
def kf (op:Int):Int:=if op=0 then 0 else if op=12 then 1 else if op=15 then 3 else if sv op=true then 2 else-1
theorem N5 (op:Int) (H:AH):Ca E O 167 [.int .i64 op] H (fun x H'=>x= .int .i64 (kf op)∧H'=H):=by
 refine Ca.eE (F:=a167) rfl rfl rfl ?_;by_cases b:op=0
 ·simp-implicitDefEqProofs [a167,aB,kf,b]
 by_cases h2:op=12
 ·simp-implicitDefEqProofs [a167,aB,kf,h2]
 by_cases a:op=15
 ·simp-implicitDefEqProofs [a167,aB,kf,a]
 simp-implicitDefEqProofs [a167,aB,b,h2,a];refine bS ?_;simp-implicitDefEqProofs;refine (TQ op H).mono ?_;rintro x H' ⟨rfl,rfl⟩
 cases c:sv op with
 |true=>simp-implicitDefEqProofs [aB,kf,b,h2,a,c]
 |false=>simp-implicitDefEqProofs [aB,kf,b,h2,a,c]
end
section
open Go
def aq (l:List Vr) (n:Int):Int:=match l[n.toNat]? with|some v=>v.cells|none=>0
def gA (w:Int) (l:List Vr) (k:Int) (op n cp:Int) (na:Nat):Bool:=
 if op=1 then(!(decide (n<0)||(decide ((l.length:Int)≤n)||(decide (cp<0)||decide (k≤cp))))&&decide ((na:Int)=if 1<aq l n then 1 else 0))
 else(!(!decide (cp=0)|| !decide ((na:Int)=kf op))&&(if op=0 then isWord w n else decide (n=0)))
theorem N6 {w k op n cp:Int} {v va:Value} {l:List Vr} {rows:List (List Value)} {H:AH} (h:H.n0≤H.nx) (B:dI H v l) (N:l.length<2^60) (I:Rows H 4 va rows) (M:rows.length<2^60):
 Ca E O 156 [.int .i64 w,v,.int .i64 k,.agg #[.int .i64 op,.int .i64 n,.int .i64 cp,va]] H (fun x H'=>x= .bool (gA w l k op n cp rows.length)∧Ext H H'):=by
 refine Ca.eE (F:=a156) rfl rfl rfl ?_;obtain ⟨T,Q,A⟩:=I.len;obtain ⟨S,P,r⟩:=B.len;by_cases m:op=1
 ·subst m
  have d:=Ext.alloc H (.cells 4 [.int .i64 1,.int .i64 n,.int .i64 cp,va]);have a:(H.alloc (.cells 4 [.int .i64 1,.int .i64 n,.int .i64 cp,va])).ld ⟨H.nx,0,none⟩=some (.int .i64 1):=ak h rfl;have c:(H.alloc (.cells 4 [.int .i64 1,.int .i64 n,.int .i64 cp,va])).ld ⟨H.nx,1,none⟩=some (.int .i64 n):=ak h rfl;have e:(H.alloc (.cells 4 [.int .i64 1,.int .i64 n,.int .i64 cp,va])).ld ⟨H.nx,2,none⟩=some (.int .i64 cp):=ak h rfl;have f:(H.alloc (.cells 4 [.int .i64 1,.int .i64 n,.int .i64 cp,va])).ld ⟨H.nx,3,none⟩=some va:=ak h rfl;generalize j:H.alloc (.cells 4 [.int .i64 1,.int .i64 n,.int .i64 cp,va])=u at d a c e f;by_cases h2:n<0
  ·simp-implicitDefEqProofs [a156,aB,j,a,c,e,h2,gA]
   exact d
  by_cases g:(l.length:Int)≤n
  ·simp-implicitDefEqProofs [a156,aB,j,a,c,e,h2,g,r,gA]
   exact d
  by_cases i:cp<0
  ·simp-implicitDefEqProofs [a156,aB,j,a,c,e,h2,g,i,r,gA]
   exact d
  by_cases C:k≤cp
  ·simp-implicitDefEqProofs [a156,aB,j,a,c,e,h2,g,i,C,r,gA]
   exact d
  obtain ⟨y,z⟩:∃y,l[n.toNat]?=some y:=⟨_,avg (by omega)⟩
  obtain ⟨b,o,R,G,_,_,_,K⟩:=(B.ext d).at z;simp-implicitDefEqProofs [a156,aB,j,a,c,e,h2,g,i,C,r,gA];refine qj _ _ ?_;have t:0≤n:=by omega
  have s:n<l.length:=by omega
  rw [←r,G,A]at*;simp-implicitDefEqProofs [aB,c,f,t,s,K];refine nP ?_;simp-implicitDefEqProofs;have q:=bh.1 f;have J:=xq (decide (1<y.cells)) u;refine J.mono ?_;rintro x D ⟨rfl,rfl⟩;simp-implicitDefEqProofs [aB,vF,chain,lr,nth,AO.wanted,fB,sameAt,fI,dK,q];have L:aq l n=y.cells:=by simp [aq,z]
  exact ⟨by rw [L],d⟩
 ·have d:=Ext.alloc H (.cells 4 [.int .i64 op,.int .i64 n,.int .i64 cp,va])
  have a:(H.alloc (.cells 4 [.int .i64 op,.int .i64 n,.int .i64 cp,va])).ld ⟨H.nx,0,none⟩=some (.int .i64 op):=ak h rfl;have c:(H.alloc (.cells 4 [.int .i64 op,.int .i64 n,.int .i64 cp,va])).ld ⟨H.nx,1,none⟩=some (.int .i64 n):=ak h rfl;have e:(H.alloc (.cells 4 [.int .i64 op,.int .i64 n,.int .i64 cp,va])).ld ⟨H.nx,2,none⟩=some (.int .i64 cp):=ak h rfl;have f:(H.alloc (.cells 4 [.int .i64 op,.int .i64 n,.int .i64 cp,va])).ld ⟨H.nx,3,none⟩=some va:=ak h rfl;generalize j:H.alloc (.cells 4 [.int .i64 op,.int .i64 n,.int .i64 cp,va])=u at d a c e f;have q:=bh.1 f;have p:=bh.1 a;simp-implicitDefEqProofs [a156,aB,j,a,m];refine qj _ _ ?_;by_cases h2:cp=0
  case neg=>
   simp-implicitDefEqProofs [aB,vF,chain,lr,nth,AO.wanted,fB,sameAt,fI,dK,a,c,e,f,q,p,m,h2,gA];exact d
  rw [A]at f q;simp-implicitDefEqProofs [aB,a,c,e,f,m,h2];refine nP ?_;simp-implicitDefEqProofs;refine (N5 op u).mono ?_;rintro x D ⟨rfl,rfl⟩;by_cases g:(rows.length:Int)=kf op
  case neg=>
   simp-implicitDefEqProofs [aB,vF,chain,lr,nth,AO.wanted,fB,sameAt,fI,dK,a,c,e,f,q,p,m,h2,g,gA];exact d
  simp-implicitDefEqProofs [aB,vF,chain,lr,nth,AO.wanted,fB,sameAt,fI,dK,a,c,e,f,q,p,m,h2,g];by_cases i:op=0
  case neg=>
   simp-implicitDefEqProofs [aB,a,c,m,h2,g,i,gA];exact d
  simp-implicitDefEqProofs [aB,a,c,i];refine bS ?_;simp-implicitDefEqProofs;refine (N0 w n D).mono ?_;rintro x U ⟨rfl,rfl⟩;rw [i]at g;simp-implicitDefEqProofs [aB,gA,h2,g,i];exact d
mutual
def dq (w:Int) (l:List Vr) (k:Int):ch→Bool
 | .mk op n cp args=>gA w l k op n cp args.length&&v8 w l k args
def v8 (w:Int) (l:List Vr) (k:Int):List ch→Bool
 |[]=>true
 |e::es=>dq w l k e&&v8 w l k es
end
theorem jW {w:Int} {l:List Vr} {k:Int}:∀{es:List ch},v8 w l k es=true↔∀e∈es,dq w l k e=true
 |[]=>by simp [v8]
 |e::es=>by simp [v8,jW (es:=es)]
theorem N7 {w k:Int} {v:Value} {l:List Vr} (Y:l.length<2^60):∀(N:Nat) (e:ch) (c:List Value) (H:AH),SizeOf.sizeOf e<N→H.n0≤H.nx→dI H v l→oV H c e→
 Ca E O 139 [.int .i64 w,v,.int .i64 k,.agg c.toArray] H (fun x H'=>x= .bool (dq w l k e)∧Ext H H'):=by
 intro N
 induction N with
 |zero=>intro e c H h;omega
 |succ N ih=>
  intro e c H hN p P he
  cases he with| @mk op n cp va rows args i1 i2 i3 R D Q=>
  refine Ca.eE (F:=a139) rfl rfl rfl ?_;have g:=Ext.alloc H (.cells 4 [.int .i64 op,.int .i64 n,.int .i64 cp,va]);have S:(H.alloc (.cells 4 [.int .i64 op,.int .i64 n,.int .i64 cp,va])).ld ⟨H.nx,3,none⟩=some va:=ak p rfl;have d:=bo p (z:=4) (c:=[.int .i64 op,.int .i64 n,.int .i64 cp,va]) 4 rfl;generalize cM:H.alloc (.cells 4 [.int .i64 op,.int .i64 n,.int .i64 cp,va])=H1 at g S d;simp-implicitDefEqProofs [a139,aB,cM,d];refine bS ?_;simp-implicitDefEqProofs;have C:=Q.length;refine (N6 (w:=w) (k:=k) (op:=op) (n:=n) (cp:=cp) (g.wf p) (P.ext g) Y (D.ext g) (by omega)).mono ?_;rintro x H2 ⟨rfl,K⟩;rw [C]
  cases I:gA w l k op n cp args.length with
  |false=>
   simp-implicitDefEqProofs [aB,I,dq];exact g.trans K
  |true=>
   simp-implicitDefEqProofs [aB,I];obtain ⟨a0,c0,L⟩:=D.len;rw [C]at L;refine fJ (fun j f H'=>Ext H2 H'∧∃i:Nat,i+j=args.length∧f.get 0= .int .i64 w∧f.get 1=v∧f.get 2= .int .i64 k∧f.get 7= .pointer (some ⟨H.nx,0,none⟩)∧f.get 9= .int .i64 i∧∀e∈args.take i,dq w l k e=true) ?_ args.length ⟨Ext.refl _,0,by simp,by simp,by simp,by simp,by simp,by simp,by simp⟩;rintro j f H3 ⟨J,i,hi,A,u,t,s,q,G⟩;have X:=g.trans (K.trans J);have B:=(K.trans J).ld S;have U:=X.wf p;by_cases h:i<args.length
   ·obtain ⟨y,m⟩:∃y,args[i]?=some y:=⟨_,avg h⟩
    obtain ⟨r,V,Z⟩:=Q.at m;obtain ⟨b,o,c',M,W⟩:=(D.ext X).at V;rw [C]at M;rw [M]at B;simp-implicitDefEqProofs [aB,A,u,t,s,q,B,h,W];refine bS ?_;simp-implicitDefEqProofs [A,u,t];have hs:=iq (op:=op) (n:=n) (cp:=cp) m;refine (ih y r H3 (by omega) U (P.ext X) (Z.ext X)).mono ?_;rintro x H4 ⟨rfl,T⟩
    cases h2:dq w l k y with
    |true=>
     simp-implicitDefEqProofs [aB,A,u,t,s,q,h2];rw [ai (n:=(i:Int)+1) ⟨by omega,by omega⟩];refine ⟨j- 1,by omega,J.trans T,i+1,by omega,by simp,fun z a=>?_⟩;rw [avB,m]at a;rcases avA.1 a with a|a
     ·exact G z a
     ·simp at a;subst a;exact h2
    |false=>
     simp-implicitDefEqProofs [aB,A,u,t,s,q,h2];refine ⟨?_,X.trans T⟩
     have:v8 w l k args=false:=by
      rw [avT];intro e;have:=jW.1 e y (avl m);rw [h2]at this;cases this
     rw [dq,this,Bool.and_false]
   ·rw [L]at B
    simp-implicitDefEqProofs [aB,s,q,B,h];rw [avn (by omega)]at G;refine ⟨?_,X⟩;rw [dq,I,jW.2 G];rfl
def iH (w:Int) (l:List Vr) (k:Int) (e:ch):Bool:=decide (aA e≤400)&&(decide (dx e≤16)&&dq w l k e)
theorem Ze {w k:Int} {v:Value} {l:List Vr} (p:l.length<2^60) {e:ch} {c:List Value} {H:AH} (h:H.n0≤H.nx) (o:dI H v l) (i:oV H c e):
 Ca E O 102 [.int .i64 w,v,.int .i64 k,.agg c.toArray] H (fun x H'=>x= .bool (iH w l k e)∧Ext H H'):=by
 refine Ca.eE (F:=Nq) rfl rfl rfl ?_;have q:c.length=4:=by cases i;rfl
 have a:=Ext.alloc H (.cells c.length c);have d:=bo h (z:=c.length) (c:=c) 4 q;generalize r:H.alloc (.cells c.length c)=A at a d;simp-implicitDefEqProofs [Nq,aB,r,d];refine bS ?_;simp-implicitDefEqProofs;refine (N4 (a.wf h) (i.ext a) (by omega)).mono ?_;rintro x u ⟨rfl,f⟩;by_cases b:aA e≤400
 case neg=>
  simp-implicitDefEqProofs [aB,b,iH];exact a.trans f
 have m:=f.ldn d;simp-implicitDefEqProofs [aB,b,m];refine bS ?_;simp-implicitDefEqProofs;refine (I6 _ e c u (avv _) ((a.trans f).wf h) (i.ext (a.trans f)) (by omega)).mono ?_;rintro x t ⟨rfl,n⟩;have g:=a.trans (f.trans n);by_cases h2:dx e≤16
 case neg=>
  simp-implicitDefEqProofs [aB,b,h2,iH];exact g
 have j:=n.ldn m;simp-implicitDefEqProofs [aB,b,h2,j];refine bS ?_;simp-implicitDefEqProofs;refine (N7 p _ e c t (avv _) (g.wf h) (o.ext g) (i.ext g)).mono ?_;rintro x y ⟨rfl,s⟩;simp-implicitDefEqProofs [aB,b,h2,iH];exact g.trans s
open Go
inductive bF where
 |mk (op n:Int) (args:List ch) (thn els:List bF)
mutual
inductive pF (H:AH):List Value→bF→Prop where
 |mk {op n:Int} {va vt ve:Value} {ra rt re:List (List Value)} {args:List ch} {thn els:List bF}:lC op→lC n→args.length<2^60→thn.length<2^60→els.length<2^60→
  Rows H 4 va ra→gY H ra args→Rows H 5 vt rt→je H rt thn→Rows H 5 ve re→je H re els→pF H [.int .i64 op,.int .i64 n,va,vt,ve] (.mk op n args thn els)
inductive je (H:AH):List (List Value)→List bF→Prop where
 |nil:je H [] []
 |cons {r:List Value} {e:bF} {rs:List (List Value)} {es:List bF}:pF H r e→je H rs es→je H (r::rs) (e::es)
end
mutual
theorem pF.ext {H H':AH} (E:Ext H H') {c:List Value} {e:bF}:pF H c e→pF H' c e
 | .mk a b c d e g h rt lt f le=>.mk a b c d e (g.ext E) (gY.ext E h) (rt.ext E) (je.ext E lt) (f.ext E) (je.ext E le)
theorem je.ext {H H':AH} (E:Ext H H') {c:List (List Value)} {e:List bF}:je H c e→je H' c e
 | .nil=>.nil
 | .cons a b=>.cons (pF.ext E a) (je.ext E b)
end
theorem je.length {H:AH}:∀{c:List (List Value)} {e:List bF},je H c e→c.length=e.length
 |_,_,.nil=>rfl
 |_,_,.cons _ b=>by simp [je.length b]
theorem je.at {H:AH}:∀{c:List (List Value)} {e:List bF} {i:Nat} {x:bF},je H c e→e[i]?=some x→∃r,c[i]?=some r∧pF H r x
 |_,_,i,x,.nil,h=>by simp at h
 |_,_,0,x,.cons a b,h=>by simp at h;subst h;exact ⟨_,rfl,a⟩
 |_,_,i+1,x,.cons a b,h=>by obtain ⟨r,d,h2⟩:=je.at b (by simpa using h);exact ⟨r,by simpa using d,h2⟩
theorem mY {l:List bF} {i:Nat} {op n:Int} {args:List ch} {thn els:List bF} (h:l[i]?=some (.mk op n args thn els)):SizeOf.sizeOf thn<SizeOf.sizeOf l∧SizeOf.sizeOf els<SizeOf.sizeOf l:=by
 have:=avL (avl h);simp at this;omega
mutual
def xv:bF→Int→Int
 | .mk _ _ args thn els,m=>dF els (dF thn (dX args (m- 1)))
def dF:List bF→Int→Int
 |[],m=>m
 |s::ss,m=>if 0<m then dF ss (xv s m)else m
end
theorem je.row {H:AH} {v:Value} {rows:List (List Value)} {l:List bF} (u:Rows H 5 v rows) (g:je H rows l) {i:Nat} {op n:Int} {args:List ch} {thn els:List bF} (s:l[i]?=some (.mk op n args thn els)):
 ∃b o c va vt ve e rt d,v= .slice (some ⟨b,o,none⟩) l.length c∧H.ldn ⟨b,o+i*5,none⟩ 5=some [.int .i64 op,.int .i64 n,va,vt,ve]∧
  H.ld ⟨b,o+i*5,none⟩=some (.int .i64 op)∧H.ld ⟨b,o+i*5+1,none⟩=some (.int .i64 n)∧H.ld ⟨b,o+i*5+2,none⟩=some va∧H.ld ⟨b,o+i*5+3,none⟩=some vt∧H.ld ⟨b,o+i*5+4,none⟩=some ve∧
  lC op∧lC n∧args.length<2^60∧thn.length<2^60∧els.length<2^60∧Rows H 4 va e∧gY H e args∧Rows H 5 vt rt∧je H rt thn∧Rows H 5 ve d∧je H d els:=by
 obtain ⟨r,t,w⟩:=g.at s;obtain ⟨b,o,c,f,a⟩:=u.at t;rw [g.length]at f
 cases w with| @mk _ _ va vt ve e rt d _ _ _ q p m k h B h2 A z y x=>
 exact ⟨b,o,c,va,vt,ve,e,rt,d,f,a,by simpa using aQ a (j:=0) rfl,aQ a (j:=1) rfl,aQ a (j:=2) rfl,aQ a (j:=3) rfl,aQ a (j:=4) rfl,q,p,m,k,h,B,h2,A,z,y,x⟩
end
section
open Go
theorem xw {l:List bF} {i:Nat} {s:bF} (h:l[i]?=some s) (m:Int) (a:0<m):dF (l.drop i) m=dF (l.drop (i+1)) (xv s m):=by
 obtain ⟨b,e⟩:=avm.1 h;rw [List.drop_eq_getElem_cons b,dF,if_pos a,e]
theorem BN {l:List ch} {i:Nat} {s:ch} (h:l[i]?=some s) (m:Int):dX (l.drop i) m=dX (l.drop (i+1)) (kM s m):=by
 obtain ⟨a,e⟩:=avm.1 h;rw [List.drop_eq_getElem_cons a,dX,e]
theorem N8:∀(N:Nat) (l:List bF) (v:Value) (rows:List (List Value)) (H:AH) (m:Int),SizeOf.sizeOf l<N→H.n0≤H.nx→l.length<2^60→Rows H 5 v rows→je H rows l→0≤m→m≤1000001→
 Ca E O 35 [v,.int .i64 m] H (fun x H'=>(x= .int .i64 (dF l m)∧Ext H H')∧0≤dF l m∧dF l m≤m):=by
 intro N
 induction N with
 |zero=>intro l v rows H m h;omega
 |succ N ih=>
  intro l v rows H m hN hw hlen hr hl BO hm1;refine Ca.eE (F:=a35) rfl rfl rfl ?_;obtain ⟨a0,c0,D⟩:=hr.len;rw [hl.length]at D;simp-implicitDefEqProofs [a35,aB];refine fJ (fun k I H'=>Ext H H'∧∃(i:Nat) (cur:Int),i+k=l.length∧I.get 0=v∧I.get 5= .int .i64 i∧I.get 1= .int .i64 cur∧0≤cur∧cur≤m∧dF l m=dF (l.drop i) cur) ?_ l.length ⟨Ext.refl _,0,m,by simp,by simp,by simp,by simp,BO,Int.le_refl _,by simp⟩;rintro k I H1 ⟨u,i,cur,hi,e,J,U,b0,b1,d⟩;have fin:∀q:Prop,(dF l m=cur→q)→(dF (l.drop i) cur=cur)→q:=fun q h1 h2=>h1 (d.trans h2)
  by_cases h:i<l.length
  ·by_cases G:0<cur
   ·obtain ⟨⟨op,n,args,M,V⟩,Q⟩:∃y,l[i]?=some y:=⟨_,avg h⟩
    have hs:=mY Q;obtain ⟨b,o,c,va,vt,ve,ra,rt,re,Z,_,_,_,e2,e3,e4,i1,i2,i3,i4,i5,g1,T,g3,g4,g5,g6⟩:=je.row (hr.ext u) (hl.ext u) Q;obtain ⟨a3,c3,Y⟩:=g1.len;rw [T.length]at Y;have f0v:=e;rw [Z]at e;simp-implicitDefEqProofs [aB,e,J,U,h,G];rw [ai (n:=cur- 1) ⟨by omega,by omega⟩];refine fJ (fun P B L=>Ext H1 L∧∃(j:Nat) (f:Int),j+P=args.length∧B.get 0= .slice (some ⟨b,o,none⟩) l.length c∧B.get 5= .int .i64 i∧B.get 1= .int .i64 f∧B.get 6= .int .i64 j∧0≤f∧f≤cur- 1∧dX args (cur- 1)=dX (args.drop j) f) ?_ args.length ⟨Ext.refl _,0,cur- 1,by simp,by simp [e],by simp [J],by simp,by simp,by omega,by omega,by simp⟩;rintro P B L ⟨a,j,f,hj,A,z,g,w,q0,q1,p⟩;have K:=a.ld e2;have WQ:=a.ld e3;have C:=a.ld e4;have R:=(u.trans a).wf hw;by_cases h2:j<args.length
    ·obtain ⟨y,X⟩:∃y,args[j]?=some y:=⟨_,avg h2⟩
     obtain ⟨r,FP,ll⟩:=T.at X;obtain ⟨b2,o2,c2,S,bM⟩:=(g1.ext a).at FP;rw [T.length]at S;rw [S]at K;simp-implicitDefEqProofs [aB,A,z,g,w,h,h2,K,bM];refine bS ?_;simp-implicitDefEqProofs [g];refine (DC _ y r L f (avv _) R (ll.ext a) ⟨by omega,by omega⟩).mono ?_;rintro x H3 ⟨rfl,t⟩;have hle:=zq _ y f (avv _);simp-implicitDefEqProofs [aB,A,z,g,w];rw [ai (n:=(j:Int)+1) ⟨by omega,by omega⟩];refine ⟨P- 1,by omega,a.trans t,j+1,by omega,by simp,by omega,by omega,?_⟩;rw [p,BN X]
    ·rw [Y]at K
     have Hg:j=args.length:=by omega
     rw [Hg,List.drop_length,dX]at p;simp-implicitDefEqProofs [aB,A,z,g,w,h,h2,K,WQ,C];refine bS ?_;simp-implicitDefEqProofs [g];refine (ih M vt rt L f (by omega) R i4 (g3.ext a) (g4.ext a) q0 (by omega)).mono ?_;rintro x H3 ⟨⟨rfl,t⟩,r0,r1⟩;have W:=t.ld C;simp-implicitDefEqProofs [aB,A,z,g,w,h,W];refine bS ?_;simp-implicitDefEqProofs;refine (ih V ve re H3 _ (by omega) (t.wf R) i5 (g5.ext (a.trans t)) (g6.ext (a.trans t)) r0 (by omega)).mono ?_;rintro x H4 ⟨⟨rfl,X4⟩,s0,s1⟩;simp-implicitDefEqProofs [aB,A,z,g,w];rw [ai (n:=(i:Int)+1) ⟨by omega,by omega⟩];refine ⟨k- 1,by omega,u.trans (a.trans (t.trans X4)),i+1,by omega,Z.symm,by simp,s0,by omega,?_⟩;rw [d,xw Q cur G,xv,p]
   ·have S:=D
    rw [D]at e;simp-implicitDefEqProofs [aB,e,J,U,h,G]
    have s:dF (l.drop i) cur=cur:=by
     rw [List.drop_eq_getElem_cons h,dF,if_neg G]
    exact ⟨⟨(d.trans s).symm,u⟩,by rw [d,s];exact b0,by rw [d,s];exact b1⟩
  ·rw [D]at e
   simp-implicitDefEqProofs [aB,e,J,U,h]
   have s:dF (l.drop i) cur=cur:=by
    rw [List.drop_of_length_le (by omega),dF]
   exact ⟨⟨(d.trans s).symm,u⟩,by rw [d,s];exact b0,by rw [d,s];exact b1⟩
open Go
mutual
def bA:bF→Int
 | .mk _ _ args thn els=>1+aw args+av thn+av els
def av:List bF→Int
 |[]=>0
 |s::ss=>bA s+av ss
end
theorem xy {M:List bF→Prop} (h:∀l,(∀op n args thn els,.mk op n args thn els∈l→M thn∧M els)→M l):∀l,M l:=by
 have key:∀(N:Nat) (l:List bF),SizeOf.sizeOf l<N→M l:=by
  intro N
  induction N with
  |zero=>intro l h;omega
  |succ N ih=>
   intro l b;refine h l fun op n args thn els a=>?_
   have:=avL a;simp at this;exact ⟨ih thn (by omega),ih els (by omega)⟩
 exact fun l=>key _ l (avv _)
theorem I7 (l:List ch) (k:Int) (b:0≤k):dX l k=max (k- aw l) 0:=by
 induction l generalizing k with
 |nil=>rw [dX,aw];omega
 |cons x l a=>
  rw [dX,aw,zr,a _ (by omega)];have:=bf l;omega
theorem dS:∀l,0≤av l∧∀m,0≤m→dF l m=max (m- av l) 0:=xy fun l ih=>by
 induction l with
 |nil=>exact ⟨by rw [av];omega,fun m f=>by rw [dF,av];omega⟩
 |cons s k e=>
  obtain ⟨op,n,args,a,b⟩:=s;obtain ⟨⟨j,d⟩,⟨i,c⟩⟩:=ih op n args a b (by simp);obtain ⟨g,v1⟩:=e fun op n args a b h=>ih op n args a b (by simp [h])
  have o:=bf args;refine ⟨by rw [av,bA];omega,fun m f=>?_⟩;rw [dF,av,bA];split
  ·rw [xv,I7 _ _ (by omega),d _ (by omega),c _ (by omega),v1 _ (by omega)]
   omega
  ·omega
theorem zu {l:List bF} {v:Value} {rows:List (List Value)} {H:AH} {m:Int} (b:H.n0≤H.nx) (a:l.length<2^60) (c:Rows H 5 v rows) (d:je H rows l) (f:0≤m∧m≤1000000):
 Ca E O 10 [v,.int .i64 m] H (fun x H'=>x= .bool (decide (av l≤m))∧Ext H H'):=by
 refine Ca.eE (F:=a10) rfl rfl rfl ?_;simp-implicitDefEqProofs [a10,aB];refine bS ?_;rw [ai ⟨by omega,by omega⟩];simp-implicitDefEqProofs;refine (N8 _ l v rows H (m+1) (avv _) b a c d (by omega) (by omega)).mono ?_;rintro x g ⟨⟨rfl,e⟩,_⟩;simp-implicitDefEqProofs [aB];refine ⟨?_,e⟩;rw [(dS l).2 _ (by omega)];have:=(dS l).1;omega
def mZ (l:List Vr) (n:Int) (na:Nat) (more:Int):Bool:=decide (0≤n)&&(decide (n<l.length)&&decide ((na:Int)=more+if 1<aq l n then 1 else 0))
theorem zw {n more:Int} {v e va vt ve:Value} {l:List Vr} {rows:List (List Value)} {H:AH} (j:H.n0≤H.nx) (k:dI H v l) (B:l.length<2^60) (s:Rows H 4 va rows) (A:rows.length<2^60) (t:0≤more∧more≤1):
 Ca E O 136 [v,.agg #[e,.int .i64 n,va,vt,ve],.int .i64 more] H (fun x H'=>x= .bool (mZ l n rows.length more)∧Ext H H'):=by
 refine Ca.eE (F:=NB) rfl rfl rfl ?_;have g:=Ext.alloc H (.cells 5 [e,.int .i64 n,va,vt,ve]);have d:(H.alloc (.cells 5 [e,.int .i64 n,va,vt,ve])).ld ⟨H.nx,1,none⟩=some (.int .i64 n):=ak j rfl;have f:(H.alloc (.cells 5 [e,.int .i64 n,va,vt,ve])).ld ⟨H.nx,2,none⟩=some va:=ak j rfl;generalize w:H.alloc (.cells 5 [e,.int .i64 n,va,vt,ve])=z at g d f;obtain ⟨J,D,q⟩:=s.len;obtain ⟨I,C,p⟩:=k.len;have c:=bh.1 d;have a:=bh.1 f;simp-implicitDefEqProofs [NB,aB,w];refine qj _ _ ?_;by_cases h2:0≤n
 case neg=>
  simp-implicitDefEqProofs [aB,vF,chain,lr,nth,AO.wanted,fB,sameAt,fI,dK,d,c,a,h2,mZ];exact g
 by_cases h:n<l.length
 case neg=>
  simp-implicitDefEqProofs [aB,vF,chain,lr,nth,AO.wanted,fB,sameAt,fI,dK,d,c,a,h2,h,p,mZ];exact g
 obtain ⟨y,i⟩:∃y,l[n.toNat]?=some y:=⟨_,avg (by omega)⟩
 obtain ⟨b,o,G,r,_,_,_,m⟩:=(k.ext g).at i;have u:aq l n=y.cells:=by simp [aq,i]
 rw [q]at f a;rw [r];simp-implicitDefEqProofs [aB,d,f,m,h2,h];refine nP ?_;simp-implicitDefEqProofs;refine (xq (decide (1<y.cells)) z).mono ?_;rintro x K ⟨rfl,rfl⟩;simp-implicitDefEqProofs [aB,vF,chain,lr,nth,AO.wanted,fB,sameAt,fI,dK,d,f,c,a,m,h2,h,mZ,u];refine ⟨?_,g⟩;rw [ai (by unfold lC;split<;>omega)]
end
section
open Go
mutual
def kN:bF→Int→Int
 | .mk _ _ _ thn els,n=>max (max n (1+bG thn 0)) (1+bG els 0)
def bG:List bF→Int→Int
 |[],n=>n
 |s::ss,n=>bG ss (kN s n)
end
theorem qo:∀(l:List bF) (n:Int),bG l n=l.foldl (fun n e=>kN e n) n
 |[],n=>rfl
 |e::es,n=>by simp [bG,qo es]
theorem lX:∀l,∀k,0≤k→k≤bG l k∧bG l k≤max k (av l):=xy fun l ih=>by
 induction l with
 |nil=>intro k e;rw [bG,av];omega
 |cons s c d=>
  obtain ⟨op,n,args,a,b⟩:=s;intro k e;obtain ⟨t,u⟩:=ih op n args a b (by simp);have t:=t 0 (by omega);have u:=u 0 (by omega);have i:=(dS a).1;have g:=(dS b).1;have f:=(dS c).1;have j:=bf args;rw [bG,av,bA,kN];have w:=d (fun op n args a b h=>ih op n args a b (by simp [h])) (max (max k (1+bG a 0)) (1+bG b 0)) (by omega);omega
theorem pG {l:List bF} {op n:Int} {args:List ch} {thn els:List bF} (h:bF.mk op n args thn els∈l):1+av thn≤av l∧1+av els≤av l∧1+aw args≤av l:=by
 induction l with
 |nil=>cases h
 |cons s d ih=>
  rw [av];have j:=(dS d).1;rcases avy.1 h with h|h
  ·rw [←h,bA]
   have c:=(dS thn).1;have a:=(dS els).1;have i:=bf args;omega
  ·have:=ih h
   obtain ⟨e,k,g,b,f⟩:=s;rw [bA];have c:=(dS b).1;have a:=(dS f).1;have i:=bf g;omega
theorem FT:∀(N:Nat) (l:List bF) (v:Value) (rows:List (List Value)) (H:AH),SizeOf.sizeOf l<N→H.n0≤H.nx→l.length<2^60→Rows H 5 v rows→je H rows l→av l<2^60→
 Ca E O 72 [v] H (fun x H'=>x= .int .i64 (bG l 0)∧Ext H H'):=by
 intro N
 induction N with
 |zero=>intro l v rows H h;omega
 |succ N ih=>
  intro l v rows H hN P A z B hm;refine Ca.eE (F:=a72) rfl rfl rfl ?_;obtain ⟨a0,c0,w⟩:=z.len;rw [B.length]at w;simp-implicitDefEqProofs [a72,aB];refine fJ (fun k m H'=>Ext H H'∧∃i:Nat,i+k=l.length∧m.get 0=v∧m.get 4= .int .i64 i∧m.get 3= .int .i64 (bG (l.take i) 0)) ?_ l.length ⟨Ext.refl _,0,by simp,by simp,by simp,by simp [bG]⟩;rintro k m X ⟨g,i,hi,f,p,q⟩;by_cases h:i<l.length
  ·obtain ⟨⟨op,n,args,a,d⟩,j⟩:∃y,l[i]?=some y:=⟨_,avg h⟩
   have hs:=mY j;have hn:=pG (avl j);obtain ⟨b,o,c,Y,I,J,Z,rt,K,u,_,_,_,e2,V,G,i1,i2,i3,M,L,g1,g2,T,S,C,R⟩:=je.row (z.ext g) (B.ext g) j;obtain ⟨a4,c4,Q⟩:=C.len;have t:=g.wf P;rw [u]at f;simp-implicitDefEqProofs [aB,f,p,q,h];refine qj _ _ ?_;simp-implicitDefEqProofs [aB,f,p,q,h,V,G];refine nP ?_;simp-implicitDefEqProofs;refine (ih a I rt X (by omega) t M T S (by omega)).mono ?_;rintro x W ⟨rfl,e⟩;have bt:=lX a 0 (by omega);have be:=lX d 0 (by omega);simp-implicitDefEqProofs [aB];rw [ai (n:=1+bG a 0) ⟨by omega,by omega⟩];refine nP ?_;simp-implicitDefEqProofs;refine (ih d J K W (by omega) (e.wf t) L (C.ext e) (R.ext e) (by omega)).mono ?_;rintro x H3 ⟨rfl,s⟩;have r:=bh.1 G;have D:=e.ldn r;rw [Q]at r D;simp-implicitDefEqProofs [aB,L0,vF,chain,lr,nth,AO.wanted,fB,sameAt,fI,dK,r,D,e.n0,s.n0,e.nx,s.nx,f,p];rw [ai (n:=1+bG d 0) ⟨by omega,by omega⟩,ai (n:=(i:Int)+1) ⟨by omega,by omega⟩]
   have U:bG (l.take (i+1)) 0=max (max (bG (l.take i) 0) (1+bG a 0)) (1+bG d 0):=by
    rw [avB,j];simp [qo,List.foldl_append,kN]
   refine ⟨k- 1,by omega,g.trans (e.trans s),i+1,by omega,u.symm,by simp,?_⟩;rw [U];split<;>split<;>omega
  ·rw [w]at f
   simp-implicitDefEqProofs [aB,f,p,q,h];rw [avn (by omega)];exact ⟨rfl,g⟩
open Go
def cD (l:List Vr) (op n:Int) (na nt ne:Nat):Bool:=
 if op=0 then(decide (nt=0)&&decide (ne=0))&&mZ l n na 1
 else if op=1 then decide (n=0)&&decide (na=1)
 else if op=2 then decide (n=0)&&(decide (na=1)&&decide (ne=0))
 else if op=3 then(decide (nt=0)&&decide (ne=0))&&(decide (0≤n)&&(decide (n≤47)&&decide (na=1)))
 else if op=4 then(decide (nt=0)&&decide (ne=0))&&mZ l n na 0
 else if op=5∨op=6 then(decide (nt=0)&&decide (ne=0))&&(decide (n=0)&&decide (na=1))
 else false
def rq:AC:=match FH.body with| .seq _ (.seq _ r)=>r|c=>c
theorem BP:FH.body= .seq (.bC [o 3 (.box (.t 1)),o 4 (.mv (.k (.bool false)))]) (.seq (.bC [o 6 (.fa 3 (.t 3)),o 7 (.ld (.t 6)),o 8 (.fh (.t 7)),o 9 (.bin .eql (.t 8) (i 0)),o 10 (.mv (.t 9)),og 10 true 11 (.fa 4 (.t 3)),og 10 true 12 (.ld (.t 11)),og 10 true 13 (.fh (.t 12)),og 10 true 14 (.bin .eql (.t 13) (i 0)),o 15 (.pick (.t 10) (.t 14) (.k (.bool false))),o 5 (.mv (.t 15))]) rq):=rfl
theorem ec (n:Nat):((n:Int)=0)=(n=0):=by apply propext;omega
theorem dG (n:Nat):((n:Int)=1)=(n=1):=by apply propext;omega
theorem Oa {op n:Int} {v va vt ve:Value} {l:List Vr} {t rt y:List (List Value)} {H:AH} (q:H.n0≤H.nx) (hv:dI H v l) (hl:l.length<2^60) (B:Rows H 4 va t) (S:Rows H 5 vt rt) (V:Rows H 5 ve y) (U:t.length<2^60):
 Ca E O 101 [v,.agg #[.int .i64 op,.int .i64 n,va,vt,ve]] H (fun x H'=>x= .bool (cD l op n t.length rt.length y.length)∧Ext H H'):=by
 refine Ca.eE (F:=FH) rfl rfl rfl ?_;have f:=Ext.alloc H (.cells 5 [.int .i64 op,.int .i64 n,va,vt,ve]);have d0:(H.alloc (.cells 5 [.int .i64 op,.int .i64 n,va,vt,ve])).ld ⟨H.nx,0,none⟩=some (.int .i64 op):=ak q rfl;have k:(H.alloc (.cells 5 [.int .i64 op,.int .i64 n,va,vt,ve])).ld ⟨H.nx,1,none⟩=some (.int .i64 n):=ak q rfl;have Z:(H.alloc (.cells 5 [.int .i64 op,.int .i64 n,va,vt,ve])).ld ⟨H.nx,2,none⟩=some va:=ak q rfl;have Y:(H.alloc (.cells 5 [.int .i64 op,.int .i64 n,va,vt,ve])).ld ⟨H.nx,3,none⟩=some vt:=ak q rfl;have X:(H.alloc (.cells 5 [.int .i64 op,.int .i64 n,va,vt,ve])).ld ⟨H.nx,4,none⟩=some ve:=ak q rfl;have d:=bo q (z:=5) (c:=[.int .i64 op,.int .i64 n,va,vt,ve]) 5 rfl;generalize W:H.alloc (.cells 5 [.int .i64 op,.int .i64 n,va,vt,ve])=P at f d0 k Z Y X d;obtain ⟨a2,c2,gT⟩:=B.len;obtain ⟨a3,c3,yP⟩:=S.len;obtain ⟨a4,c4,uh⟩:=V.len;have m:=Z;have Q:=Y;have i:=X;rw [gT]at m;rw [yP]at Q;rw [uh]at i;have R:∀more:Int,0≤more∧more≤1→Ca E O 136 [v,.agg #[.int .i64 op,.int .i64 n,va,vt,ve],.int .i64 more] P (fun x H'=>x= .bool (mZ l n t.length more)∧Ext P H'):=fun more hm=>zw (f.wf q) (hv.ext f) hl (B.ext f) U hm
 clear B S V U;generalize t.length=r at*;generalize rt.length=A at*;generalize y.length=ne at*
 obtain ⟨s,o⟩:∃b,b=(decide (A=0)&&decide (ne=0)):=⟨_,rfl⟩
 suffices T:∀w:Fr,w.get 0=v→w.get 3= .pointer (some ⟨H.nx,0,none⟩)→w.get 5= .bool s→Wk E O rq [] w P (zi [.tmp 4] fun x H'=>x= .bool (cD l op n r A ne)∧Ext H H') by
  rw [BP];by_cases C:A=0
  ·subst C
   simp-implicitDefEqProofs [aB,W,Q,i,ec];refine T _ ?_ ?_ ?_<;>simp [o]
  ·simp-implicitDefEqProofs [aB,W,Q,i,C,ec]
   refine T _ ?_ ?_ ?_<;>simp [o,C]
 intro w g h a;simp-implicitDefEqProofs [rq,FH,aB,h,d0];by_cases M:op=0
 ·subst M
  cases e:s with
  |false=>
   rw [e]at a;simp-implicitDefEqProofs [aB,g,h,a,d,cD,←o,e];exact f
  |true=>
   rw [e]at a;simp-implicitDefEqProofs [aB,g,h,a,d];refine bS ?_;simp-implicitDefEqProofs [g];refine (R 1 (by omega)).mono ?_;rintro x H2 ⟨rfl,N⟩;simp-implicitDefEqProofs [aB,cD,←o,e];exact f.trans N
 simp-implicitDefEqProofs [aB,M];by_cases L:op=1
 ·subst L
  by_cases j:n=0
  case neg=>
   simp-implicitDefEqProofs [aB,g,h,a,k,m,i,ec,dG,cD,j];exact f
  by_cases p:r=1
  case neg=>
   simp-implicitDefEqProofs [aB,g,h,a,k,m,i,ec,dG,cD,j,p];exact f
  simp-implicitDefEqProofs [aB,g,h,a,k,m,i,ec,dG,cD,j,p];exact f
 simp-implicitDefEqProofs [aB,L];by_cases K:op=2
 ·subst K
  by_cases j:n=0
  case neg=>
   simp-implicitDefEqProofs [aB,g,h,a,k,m,i,ec,dG,cD,j];exact f
  by_cases p:r=1
  case neg=>
   simp-implicitDefEqProofs [aB,g,h,a,k,m,i,ec,dG,cD,j,p];exact f
  by_cases u:ne=0
  case neg=>
   simp-implicitDefEqProofs [aB,g,h,a,k,m,i,ec,dG,cD,j,p,u];exact f
  simp-implicitDefEqProofs [aB,g,h,a,k,m,i,ec,dG,cD,j,p,u];exact f
 simp-implicitDefEqProofs [aB,K];by_cases J:op=3
 ·subst J
  cases e:s with
  |false=>
   rw [e]at a;simp-implicitDefEqProofs [aB,g,h,a,k,m,i,ec,dG,cD,←o,e];exact f
  |true=>
  rw [e]at a;by_cases j:0≤n
  case neg=>
   simp-implicitDefEqProofs [aB,g,h,a,k,m,i,ec,dG,cD,←o,e,j];exact f
  by_cases p:n≤47
  case neg=>
   simp-implicitDefEqProofs [aB,g,h,a,k,m,i,ec,dG,cD,←o,e,j,p];exact f
  by_cases u:r=1
  case neg=>
   simp-implicitDefEqProofs [aB,g,h,a,k,m,i,ec,dG,cD,←o,e,j,p,u];exact f
  simp-implicitDefEqProofs [aB,g,h,a,k,m,i,ec,dG,cD,←o,e,j,p,u];exact f
 simp-implicitDefEqProofs [aB,J];by_cases I:op=4
 ·subst I
  cases e:s with
  |false=>
   rw [e]at a;simp-implicitDefEqProofs [aB,g,h,a,d,cD,←o,e];exact f
  |true=>
   rw [e]at a;simp-implicitDefEqProofs [aB,g,h,a,d];refine bS ?_;simp-implicitDefEqProofs [g];refine (R 0 (by omega)).mono ?_;rintro x H2 ⟨rfl,N⟩;simp-implicitDefEqProofs [aB,cD,←o,e];exact f.trans N
 simp-implicitDefEqProofs [aB,I];by_cases G:op=5
 ·subst G
  cases e:s with
  |false=>
   rw [e]at a;simp-implicitDefEqProofs [aB,g,h,a,k,m,i,ec,dG,cD,←o,e];exact f
  |true=>
  rw [e]at a;by_cases j:n=0
  case neg=>
   simp-implicitDefEqProofs [aB,g,h,a,k,m,i,ec,dG,cD,←o,e,j];exact f
  by_cases p:r=1
  case neg=>
   simp-implicitDefEqProofs [aB,g,h,a,k,m,i,ec,dG,cD,←o,e,j,p];exact f
  simp-implicitDefEqProofs [aB,g,h,a,k,m,i,ec,dG,cD,←o,e,j,p];exact f
 simp-implicitDefEqProofs [aB,G];by_cases D:op=6
 ·subst D
  cases e:s with
  |false=>
   rw [e]at a;simp-implicitDefEqProofs [aB,g,h,a,k,m,i,ec,dG,cD,←o,e];exact f
  |true=>
  rw [e]at a;by_cases j:n=0
  case neg=>
   simp-implicitDefEqProofs [aB,g,h,a,k,m,i,ec,dG,cD,←o,e,j];exact f
  by_cases p:r=1
  case neg=>
   simp-implicitDefEqProofs [aB,g,h,a,k,m,i,ec,dG,cD,←o,e,j,p];exact f
  simp-implicitDefEqProofs [aB,g,h,a,k,m,i,ec,dG,cD,←o,e,j,p];exact f
 simp-implicitDefEqProofs [aB,D];simp-implicitDefEqProofs [cD,M,L,K,J,I,G,D];exact f
end
section
open Go
mutual
def fu (w:Int) (V:List Vr):bF→Bool
 | .mk op n args thn els=>cD V op n args.length thn.length els.length&&(gU w V thn&&(gU w V els&&args.all (iH w V 1)))
def gU (w:Int) (V:List Vr):List bF→Bool
 |[]=>true
 |s::ss=>fu w V s&&gU w V ss
end
theorem lD {w:Int} {V:List Vr}:∀{es:List bF},gU w V es=true↔∀e∈es,fu w V e=true
 |[]=>by simp [gU]
 |e::es=>by simp [gU,lD (es:=es)]
theorem qp {w:Int} {V:List Vr} {es:List bF} {e:bF} (h:e∈es) (k:fu w V e=false):gU w V es=false:=by
 rw [avT];intro q;rw [lD.1 q e h]at k;cases k
theorem Ob {w:Int} {v:Value} {V:List Vr} (hV:V.length<2^60):∀(N:Nat) (l:List bF) (A:Value) (rows:List (List Value)) (H:AH),SizeOf.sizeOf l<N→H.n0≤H.nx→dI H v V→l.length<2^60→Rows H 5 A rows→je H rows l→
 Ca E O 73 [.int .i64 w,v,A] H (fun x H'=>x= .bool (gU w V l)∧Ext H H'):=by
 intro N
 induction N with
 |zero=>intro l A rows H h;omega
 |succ N ih=>
  intro l A rows H hN hw hv hlen hr hl;refine Ca.eE (F:=a73) rfl rfl rfl ?_;obtain ⟨a0,c0,lE⟩:=hr.len;rw [hl.length]at lE;simp-implicitDefEqProofs [a73,aB];refine fJ (fun k I H'=>Ext H H'∧∃i:Nat,i+k=l.length∧I.get 0= .int .i64 w∧I.get 1=v∧I.get 2=A∧I.get 7= .int .i64 i∧∀e∈l.take i,fu w V e=true) ?_ l.length ⟨Ext.refl _,0,by simp,by simp,by simp,by simp,by simp,by simp⟩;rintro k I H1 ⟨d,i,hi,X,K,g,J,aH⟩;by_cases h:i<l.length
  case neg=>
   rw [lE]at g;simp-implicitDefEqProofs [aB,g,J,h];rw [avn (by omega)]at aH;exact ⟨lD.2 aH,d⟩
  obtain ⟨⟨op,n,args,f,m⟩,S⟩:∃y,l[i]?=some y:=⟨_,avg h⟩
  have hs:=mY S;have W:=avl S;obtain ⟨b,o,c,va,vt,ve,ra,rt,re,cL,bM,_,_,e2,e3,e4,i1,i2,i3,i4,i5,g1,G,g3,g4,g5,g6⟩:=je.row (hr.ext d) (hl.ext d) S;have T:=d.wf hw;have U:=hv.ext d;rw [cL]at g;simp-implicitDefEqProofs [aB,X,K,g,J,h,bM];refine bS ?_;simp-implicitDefEqProofs [K];refine (Oa T U hV g1 g3 g5 (by rw [G.length];exact i3)).mono ?_;rintro x H2 ⟨rfl,p⟩;rw [G.length,g4.length,g6.length]
  cases t:cD V op n args.length f.length m.length with
  |false=>
   simp-implicitDefEqProofs [aB,t];exact ⟨qp W (by simp [fu,t]),d.trans p⟩
  |true=>
   simp-implicitDefEqProofs [aB,X,K,g,J,h,t,p.ld e3];refine bS ?_;simp-implicitDefEqProofs;refine (ih f vt rt H2 (by omega) (p.wf T) (U.ext p) i4 (g3.ext p) (g4.ext p)).mono ?_;rintro x H3 ⟨rfl,X3⟩;have s:=p.trans X3
   cases B:gU w V f with
   |false=>
    simp-implicitDefEqProofs [aB,B];exact ⟨qp W (by simp [fu,t,B]),d.trans s⟩
   |true=>
    simp-implicitDefEqProofs [aB,X,K,g,J,h,B,s.ld e4];refine bS ?_;simp-implicitDefEqProofs;refine (ih m ve re H3 (by omega) (s.wf T) (U.ext s) i5 (g5.ext s) (g6.ext s)).mono ?_;rintro x H4 ⟨rfl,X4⟩;have Oc:=s.trans X4
    cases M:gU w V m with
    |false=>
     simp-implicitDefEqProofs [aB,M];exact ⟨qp W (by simp [fu,t,B,M]),d.trans Oc⟩
    |true=>
     simp-implicitDefEqProofs [aB,M];obtain ⟨a3,c3,gT⟩:=g1.len;rw [G.length]at gT;refine fJ (fun Z u H5=>Ext H4 H5∧∃j:Nat,j+Z=args.length∧u.get 0= .int .i64 w∧u.get 1=v∧u.get 2= .slice (some ⟨b,o,none⟩) l.length c∧u.get 7= .int .i64 i∧u.get 8= .int .i64 j∧∀e∈args.take j,iH w V 1 e=true) ?_ args.length ⟨Ext.refl _,0,by simp,by simp [X],by simp [K],by simp [g],by simp [J],by simp,by simp⟩;rintro Z u H5 ⟨X5,j,hj,D,C,R,Q,P,ui⟩;have q:=Oc.trans X5;have Y:=q.ld e2;by_cases h2:j<args.length
     ·obtain ⟨y,By⟩:∃y,args[j]?=some y:=⟨_,avg h2⟩
      obtain ⟨r,FP,ll⟩:=G.at By;obtain ⟨b2,o2,c2,yK,zx⟩:=(g1.ext q).at FP;rw [G.length]at yK;rw [yK]at Y;simp-implicitDefEqProofs [aB,D,C,R,Q,P,h,h2,Y,zx];refine bS ?_;simp-implicitDefEqProofs [D,C];refine (Ze (k:=1) hV (q.wf T) (U.ext q) (ll.ext q)).mono ?_;rintro x H6 ⟨rfl,X6⟩
      cases L:iH w V 1 y with
      |true=>
       simp-implicitDefEqProofs [aB,D,C,R,Q,P,L];rw [ai (n:=(j:Int)+1) ⟨by omega,by omega⟩];refine ⟨Z- 1,by omega,X5.trans X6,j+1,by omega,by simp,fun z a=>?_⟩;rw [avB,By]at a;rcases avA.1 a with a|a
       ·exact ui z a
       ·simp at a;subst a;exact L
      |false=>
       simp-implicitDefEqProofs [aB,D,C,R,Q,P,L];refine ⟨qp W ?_,d.trans (q.trans X6)⟩
       have:args.all (iH w V 1)=false:=by
        rw [List.all_eq_false];exact ⟨y,avl By,by simp [L]⟩
       simp only [fu,this,Bool.and_false]
     ·rw [gT]at Y
      simp-implicitDefEqProofs [aB,D,C,R,Q,P,h,h2,Y];rw [ai (n:=(i:Int)+1) ⟨by omega,by omega⟩];rw [avn (by omega)]at ui;refine ⟨k- 1,by omega,d.trans q,i+1,by omega,cL.symm,by simp,fun z a=>?_⟩;rw [avB,S]at a;rcases avA.1 a with a|a
      ·exact aH z a
      ·simp at a
       subst a;have:args.all (iH w V 1)=true:=avw.2 ui;simp only [fu,t,B,M,this,Bool.and_self]
open Go
structure aU where
 w:Int
 vars:List Vr
 body:List bF
structure ru (H:AH) (c:List Value) (p:aU):Prop where
 is:∃vv vb rb,c=[.int .i64 p.w,vv,vb]∧lC p.w∧dI H vv p.vars∧pE p.vars∧Rows H 5 vb rb∧je H rb p.body∧p.body.length<2^60
theorem ru.ext {H H':AH} (E:Ext H H') {c:List Value} {p:aU} (h:ru H c p):ru H' c p:=by
 obtain ⟨i,j,k,e,a,b,l,d,f,g⟩:=h.is;exact ⟨i,j,k,e,a,b.ext E,l,d.ext E,je.ext E f,g⟩
theorem ru.len {H:AH} {c:List Value} {p:aU} (h:ru H c p):c.length=3:=by
 obtain ⟨a,b,d,e,_⟩:=h.is;rw [e];rfl
def bm (p:aU):Bool:=aC p.w p.vars&&(decide (av p.body≤400)&&(decide (bG p.body 0≤16)&&gU p.w p.vars p.body))
theorem TS {p:aU} {c:List Value} {H:AH} (a:H.n0≤H.nx) (A:ru H c p):Ca E O 40 [.agg c.toArray] H (fun x H'=>x= .bool (bm p)∧Ext H H'):=by
 obtain ⟨vv,vb,s,rfl,hi,u,t,l,m,n⟩:=A.is;refine Ca.eE (F:=a40) rfl rfl rfl ?_;have f:=Ext.alloc H (.cells 3 [.int .i64 p.w,vv,vb]);have q:(H.alloc (.cells 3 [.int .i64 p.w,vv,vb])).ld ⟨H.nx,0,none⟩=some (.int .i64 p.w):=ak a rfl;have o:(H.alloc (.cells 3 [.int .i64 p.w,vv,vb])).ld ⟨H.nx,1,none⟩=some vv:=ak a rfl;have h:(H.alloc (.cells 3 [.int .i64 p.w,vv,vb])).ld ⟨H.nx,2,none⟩=some vb:=ak a rfl;generalize B:H.alloc (.cells 3 [.int .i64 p.w,vv,vb])=K at f q o h;simp-implicitDefEqProofs [a40,aB,B,q,o];refine bS ?_;simp-implicitDefEqProofs;refine (BM (f.wf a) (u.ext f) t p.w).mono ?_;rintro x J ⟨rfl,i⟩
 cases d:aC p.w p.vars with
 |false=>
  simp-implicitDefEqProofs [aB,d,bm];exact f.trans i
 |true=>
  have j:=f.trans i;simp-implicitDefEqProofs [aB,d,i.ld h];refine bS ?_;simp-implicitDefEqProofs;refine (zu (j.wf a) n (l.ext j) (m.ext j) (by omega)).mono ?_;rintro x G ⟨rfl,y⟩;have e:=j.trans y;have z:=i.trans y;by_cases g:av p.body≤400
  case neg=>
   simp-implicitDefEqProofs [aB,d,g,bm];exact e
  simp-implicitDefEqProofs [aB,g,z.ld h];refine bS ?_;simp-implicitDefEqProofs;refine (FT _ p.body vb s G (avv _) (e.wf a) n (l.ext e) (m.ext e) (by omega)).mono ?_;rintro x D ⟨rfl,v⟩;have b:=e.trans v;have r:=z.trans v;by_cases k:bG p.body 0≤16
  case neg=>
   simp-implicitDefEqProofs [aB,d,g,k,bm];exact b
  simp-implicitDefEqProofs [aB,k,r.ld q,r.ld o,r.ld h];refine bS ?_;simp-implicitDefEqProofs;refine (Ob t.1 _ p.body vb s D (avv _) (b.wf a) (u.ext b) n (l.ext b) (m.ext b)).mono ?_;rintro x I ⟨rfl,C⟩;simp-implicitDefEqProofs [aB,d,g,k,bm];exact b.trans C
end
section
open Go
theorem fC.ext {H H':AH} (E:Ext H H') {v:Value} {l:List Int} (h:fC H v l):fC H' v l:=Rows.ext E h
def bq (w:Int) (V:List Vr) (l:List Int):Bool:=decide ((l.length:Int)=dE (V.map (·.cells)))&&l.all (isWord w)
structure dW where
 store:List Int
 bN:List Int
structure zy (H:AH) (c:List Value) (s:dW):Prop where
 is:∃vs vp,c=[vs,vp]∧fC H vs s.store∧fC H vp s.bN∧s.store.length<2^60∧s.bN.length<2^60∧(∀n∈s.store,lC n)∧∀n∈s.bN,lC n
theorem zy.ext {H H':AH} (E:Ext H H') {c:List Value} {s:dW} (h:zy H c s):zy H' c s:=by
 obtain ⟨d,i,e,a,b,f,g⟩:=h.is;exact ⟨d,i,e,a.ext E,b.ext E,f,g⟩
def jo (p:aU) (s:dW):Bool:=bq p.w p.vars s.store&&(decide (s.bN.length≤16)&&s.bN.all (isWord p.w))
def fQ (p:aU) (fuel:Int) (t:dW):Int:=if bm p=false then 30 else if fuel<0∨4096<fuel then 1 else if jo p t=false then 50 else 0
open Go
section
variable{E:Env} {O:kG} {ks:List Ko} {fr:Fr} {H:AH} {Q:Ex→Fr→AH→Prop}
def fv (b:Bool):Value→Bool
 | .bool c=>c==b
 |_=>false
@[simp]theorem adf (c:Bool):fv true (.bool c)=c:=by cases c<;>rfl
@[simp]theorem adg (c:Bool):fv false (.bool c)= !c:=by cases c<;>rfl
@[simp]theorem adh (b:Bool):fv b undef=false:=rfl
def br (c a b:Prop):Prop:=(c→a)∧(¬ c→b)
@[congr]theorem Zg {c d a a' b b':Prop} (f:c=d) (h2:d→a=a') (e:¬ d→b=b'):br c a b=br d a' b':=by
 subst f;unfold br;exact propext ⟨fun k=>⟨fun h=>h2 h▸k.1 h,fun h=>e h▸k.2 h⟩,fun k=>⟨fun h=>(h2 h).symm▸k.1 h,fun h=>(e h).symm▸k.2 h⟩⟩
@[simp]theorem TT (a b:Prop):br True a b=a:=propext ⟨fun h=>h.1 trivial,fun h=>⟨fun _=>h,fun k=>(k trivial).elim⟩⟩
@[simp]theorem TU (a b:Prop):br False a b=b:=propext ⟨fun h=>h.2 id,fun h=>⟨fun k=>k.elim,fun _=>h⟩⟩
@[simp]theorem amh (c:Prop):br c True True=True:=propext ⟨fun _=>trivial,fun _=>⟨fun _=>trivial,fun _=>trivial⟩⟩
theorem zz {c a b:Prop} (h:c→a) (k:¬ c→b):br c a b:=⟨h,k⟩
theorem nT (t:Nat) (b:Bool) (d:Option Nat) (p:cW):(AO.mk (some (t,b)) d p).wanted fr=fv b (fr.get t):=by
 unfold AO.wanted fv;simp only;split<;>rename_i h<;>simp_all
theorem ahP (t:Nat) (b:Bool) (d:Option Nat) (p:cW) (l:List AO):Wr E O (⟨some (t,b),d,p⟩::l) ks fr H Q↔
 br (fv b (fr.get t)=true) (Wr E O (⟨none,d,p⟩::l) ks fr H Q) (Wr E O l ks (fr.aT d undef) H Q):=by
 by_cases a:fv b (fr.get t)=true
 ·simp only [a,TT]
  exact YG _ _ _ (by unfold fv at a;split at a<;>simp_all)
 ·simp only [a]
  rw [show(false=true)=False by simp,TU];exact BH _ _ _ (by intro h;rw [h]at a;simp [fv]at a)
theorem ahQ {c:List AO} {ck:List (Nat×Nat×Nat)} {acc:List (Fr×AH)} (t:Nat) (b:Bool) (d:Option Nat) (p:cW) (l:List AO):Wd E O c ck acc (⟨some (t,b),d,p⟩::l) ks fr H Q↔
 br (fv b (fr.get t)=true) (Wd E O c ck acc (⟨none,d,p⟩::l) ks fr H Q) (Wd E O c ck ((fr.aT d undef,H)::acc) l ks (fr.aT d undef) H Q):=by
 by_cases a:fv b (fr.get t)=true
 ·simp only [a,TT]
  exact YH _ _ _ (by unfold fv at a;split at a<;>simp_all)
 ·simp only [a]
  rw [show(false=true)=False by simp,TU];exact BI _ _ _ (by intro h;rw [h]at a;simp [fv]at a)
@[simp]theorem W8 (f:Fr) (d:Nat) (v:Value):f.aT (some d) v=f.put d v:=rfl
@[simp]theorem W9 (f:Fr) (v:Value):f.aT none v=f:=rfl
def I8:Value→Bool
 | .bool _=>true
 |_=>false
@[simp]theorem ahR (c:Bool):I8 (.bool c)=true:=rfl
theorem ahS {x:X} {a b:AC}:Wk E O (.cond x a b) ks fr H Q↔I8 (x.ev fr)=true∧br (fv true (x.ev fr)=true) (Wk E O a ks fr H Q) (Wk E O b ks fr H Q):=by
 cases d:x.ev fr with
 |bool c=>
  cases c
  ·simp [IK d]
  ·simp [IJ d]
 |_=>
  refine ⟨?_,fun h=>by simp [I8]at h⟩;rintro ⟨n,ex,f,g,e,q⟩
  cases n with
  |zero=>simp [aG]at e
  |succ n=>
   rw [aG,d]at e;cases e
end
structure Mod (S:Nat→Prop) (H H':AH):Prop where
 n0:H'.n0=H.n0
 nx:H.nx≤H'.nx
 old:∀b,b<H.nx→¬ S b→H'.get b=H.get b
theorem Mod.refl (S:Nat→Prop) (H:AH):Mod S H H:=⟨rfl,avk _,fun _ _ _=>rfl⟩
theorem Mod.trans {S:Nat→Prop} {a b c:AH} (h:Mod S a b) (k:Mod S b c):Mod S a c:=⟨k.n0.trans h.n0,avC h.nx k.nx,fun x d e=>(k.old x (avD d h.nx) e).trans (h.old x d e)⟩
theorem Mod.cv {S:Nat→Prop} {a b:AH} (h:Ext a b):Mod S a b:=⟨h.n0,h.nx,fun x c _=>h.old x c⟩
theorem Mod.mono {S T:Nat→Prop} {a b:AH} (h:Mod S a b) (k:∀x,x<a.nx→S x→T x):Mod T a b:=⟨h.n0,h.nx,fun x c d=>h.old x c fun e=>d (k x c e)⟩
theorem Ext.mod {S:Nat→Prop} {a b c:AH} (h:Ext a b) (k:Mod S b c) (hs:∀x,S x→a.nx≤x):Ext a c:=⟨k.n0.trans h.n0,avC h.nx k.nx,fun x d=>(k.old x (avD d h.nx) (fun q=>absurd (hs x q) (Nat.not_le.2 d))).trans (h.old x d)⟩
theorem Mod.get {S:Nat→Prop} {a b:AH} (h:Mod S a b) {x:Nat} (hs:¬ S x) {y:q7} (k:a.get x=some y):b.get x=some y:=by rw [h.old x (AH.bc k) hs];exact k
theorem Mod.ldn {S:Nat→Prop} {H H':AH} (h:Mod S H H') {a:Addr} {n:Nat} {vs:List Value} (hs:¬ S a.block) (k:H.ldn a n=some vs):H'.ldn a n=some vs:=by
 obtain ⟨x,b⟩:=avS.1 (dM k).1;rw [←k];exact fP (h.old _ (AH.bc b) hs) h.n0
theorem Mod.ld {S:Nat→Prop} {H H':AH} (h:Mod S H H') {a:Addr} {v:Value} (hs:¬ S a.block) (k:H.ld a=some v):H'.ld a=some v:=bh.2 (h.ldn hs (bh.1 k))
theorem Mod.wf {S:Nat→Prop} {H H':AH} (h:Mod S H H') (w:H.n0≤H.nx):H'.n0≤H'.nx:=by rw [h.n0];exact avC w h.nx
theorem cm {H:AH} {b z k:Nat} {c vs:List Value} (d:H.get b=some (.cells z c)) (h:H.n0≤b) (g:k+vs.length≤c.length):
 ∃a,H.st ⟨b,k,none⟩ vs=some a∧Mod (fun x=>x=b) H a∧a.nx=H.nx∧a.n0=H.n0∧a.get b=some (.cells z (aP c k vs)):=by
 have e:=AH.bc d;refine ⟨H.put b (some (.cells z (aP c k vs))),?_,⟨rfl,avk _,fun x i f=>?_⟩,rfl,rfl,?_⟩
 ·unfold AH.st
  simp [d,h,g]
 ·rw [AH.bZ _ _ _ _ e,if_neg f]
 ·rw [AH.bZ _ _ _ _ e,if_pos rfl]
theorem jN {H:AH} (w:H.n0≤H.nx) {z:Nat} {c vs:List Value} (i:vs.length=c.length):
 ∃a,(H.alloc (.cells z c)).st ⟨H.nx,0,none⟩ vs=some a∧Ext H a∧a.nx=H.nx+1∧a.n0=H.n0∧a.get H.nx=some (.cells z vs):=by
 have d:(H.alloc (.cells z c)).get H.nx=some (.cells z c):=by rw [AH.eh,if_pos rfl]
 obtain ⟨a,h,h2,g,f,b⟩:=cm d w (k:=0) (vs:=vs) (by omega)
 have e:aP c 0 vs=vs:=by
  have:aP c 0 vs=vs++c.drop vs.length:=by cases c<;>rfl
  rw [this,List.drop_eq_nil_of_le (by omega)];simp
 rw [e]at b;exact ⟨a,h,(Ext.alloc H _).mod h2 (by rintro x rfl;exact avk _),g,f,b⟩
theorem b9 {H:AH} {b z k n:Nat} {c:List Value} (d:H.get b=some (.cells z c)) (e:H.n0≤b) (a:k+n≤c.length):H.ldn ⟨b,k,none⟩ n=some ((c.drop k).take n):=by
 unfold AH.ldn;have:¬ b<H.n0:=Nat.not_lt.2 e;simp [d,a,this]
theorem aL {H:AH} {b z k:Nat} {c:List Value} {v:Value} (d:H.get b=some (.cells z c)) (e:H.n0≤b) (a:c[k]?=some v):H.ld ⟨b,k,none⟩=some v:=by
 unfold AH.ld;have:¬ b<H.n0:=Nat.not_lt.2 e;simp [d,a,this]
theorem cQ (H:AH) (x:q7):(H.alloc x).get H.nx=some x:=by rw [AH.eh,if_pos rfl]
end
section
open Go
section
variable{E:Env} {O:kG} {ks:List Ko} {fr:Fr} {H:AH} {Q:Ex→Fr→AH→Prop}
inductive Md where
 |pl
 |dr (l0:List AO) (ck:List (Nat×Nat×Nat)) (acc:List (Fr×AH))
def Md.up:Md→Fr→AH→Md
 | .pl,_,_=>.pl
 | .dr l0 ck acc,fr,H=>.dr l0 ck ((fr,H)::acc)
@[simp]theorem ami:Md.up .pl fr H= .pl:=rfl
@[simp]theorem amj (a:List AO) (ck:List (Nat×Nat×Nat)) (acc:List (Fr×AH)):Md.up (.dr a ck acc) fr H= .dr a ck ((fr,H)::acc):=rfl
def Vx (E:Env) (O:kG) (m:Md) (l:List AO) (ks:List Ko) (fr:Fr) (H:AH) (Q:Ex→Fr→AH→Prop):Prop:=match m with
 | .pl=>Wr E O l ks fr H Q
 | .dr l0 ck acc=>Wd E O l0 ck acc l ks fr H Q
def Vk (E:Env) (O:kG) (c:AC) (ks:List Ko) (fr:Fr) (H:AH) (Q:Ex→Fr→AH→Prop):Prop:=Wk E O c ks fr H Q
def Vn (E:Env) (O:kG) (ex:Ex) (ks:List Ko) (fr:Fr) (H:AH) (Q:Ex→Fr→AH→Prop):Prop:=Un E O ex ks fr H Q
@[simp]theorem ahT (ex:Ex):Vn E O ex [] fr H Q=Q ex fr H:=IH _
@[simp]theorem amk (b:AC):Vn E O .normal (.seq b::ks) fr H Q=Vk E O b ks fr H Q:=rfl
@[simp]theorem aml (i:Nat):Vn E O .normal (.aX i::ks) fr H Q=Vn E O .normal ks fr H Q:=rfl
@[simp]theorem amm (j:Nat) (b:AC):Vn E O (.exit j) (.seq b::ks) fr H Q=Vn E O (.exit j) ks fr H Q:=rfl
@[simp]theorem ahU (i:Nat):Vn E O (.exit i) (.aX i::ks) fr H Q=Vn E O .normal ks fr H Q:=Tj _
@[simp]theorem aqx (k:Ko):Vn E O .ret (k::ks) fr H Q=Vn E O .ret ks fr H Q:=afZ _
@[simp]theorem adi:Vk E O .skip ks fr H Q↔Vn E O .normal ks fr H Q:=Nd
@[simp]theorem ahV:Vk E O .ret ks fr H Q↔Vn E O .ret ks fr H Q:=Tk
@[simp]theorem adj (i:Nat):Vk E O (.exit i) ks fr H Q↔Vn E O (.exit i) ks fr H Q:=Nf _
@[simp]theorem ahW (l:List AO):Vk E O (.bC l) ks fr H Q↔Vx E O .pl l ks fr H Q:=Tl _
@[simp]theorem ahX (a b:AC):Vk E O (.seq a b) ks fr H Q↔Vk E O a (.seq b::ks) fr H Q:=Tm _ _
@[simp]theorem Zh (i:Nat) (a:AC):Vk E O (.block i a) ks fr H Q↔Vk E O a (.aX i::ks) fr H Q:=II _ _
theorem ahY {x:X} {a b:AC}:Vk E O (.cond x a b) ks fr H Q↔I8 (x.ev fr)=true∧br (fv true (x.ev fr)=true) (Vk E O a ks fr H Q) (Vk E O b ks fr H Q):=ahS
@[simp]theorem adk (l:List AO) (ck:List (Nat×Nat×Nat)):Vk E O (.bz l ck) ks fr H Q↔Vx E O (.dr l ck [(fr,H)]) l ks fr H Q:=by
 refine ⟨?_,fun h=>qj _ _ h⟩;rintro ⟨n,ex,c,d,e,q⟩
 cases n with
 |zero=>simp [aG]at e
 |succ n=>
  simp only [aG,yV]at e
  cases b:kX (gK E O (n+1)) l fr H with
  |none=>simp [b]at e
  |some a=>
   simp only [b]at e
   cases h2:chain ((fr,H)::a)&&ck.all (lr l ((fr,H)::a))with
   |false=>simp [h2]at e
   |true=>
    simp only [h2,cond_true,avh,avo]at e;obtain ⟨rfl,rfl,rfl⟩:=e;refine ⟨n+1,a,b,?_,q⟩;unfold vF
    simpa using h2
@[simp]theorem ahZ:Vx E O .pl [] ks fr H Q↔Vn E O .normal ks fr H Q:=Tn
@[simp]theorem adl {a:List AO} {ck:List (Nat×Nat×Nat)} {acc:List (Fr×AH)}:Vx E O (.dr a ck acc) [] ks fr H Q↔vF a ck acc=true∧Vn E O .normal ks fr H Q:=To
theorem ah0 {m:Md} (t:Nat) (b:Bool) (d:Option Nat) (p:cW) (l:List AO):Vx E O m (⟨some (t,b),d,p⟩::l) ks fr H Q↔
 br (fv b (fr.get t)=true) (Vx E O m (⟨none,d,p⟩::l) ks fr H Q) (Vx E O (m.up (fr.aT d undef) H) l ks (fr.aT d undef) H Q):=by
 cases m
 ·exact ahP _ _ _ _ _
 ·exact ahQ _ _ _ _ _
def CV (E:Env) (O:kG) (v:Value) (a b:AC) (ks:List Ko) (fr:Fr) (H:AH) (Q:Ex→Fr→AH→Prop):Prop:=
 I8 v=true∧br (fv true v=true) (Vk E O a ks fr H Q) (Vk E O b ks fr H Q)
@[simp]theorem amn {x:X} {a b:AC}:Vk E O (.cond x a b) ks fr H Q↔CV E O (x.ev fr) a b ks fr H Q:=ahY
variable{a b:AC}
@[simp]theorem aqy:CV E O (.bool true) a b ks fr H Q↔Vk E O a ks fr H Q:=by simp [CV]
@[simp]theorem aqz:CV E O (.bool false) a b ks fr H Q↔Vk E O b ks fr H Q:=by simp [CV]
@[simp]theorem aqA (c:Prop) [Decidable c]:CV E O (.bool (decide c)) a b ks fr H Q↔br c (Vk E O a ks fr H Q) (Vk E O b ks fr H Q):=by simp [CV]
@[simp]theorem aqB (c:Bool):CV E O (.bool (!c)) a b ks fr H Q↔CV E O (.bool c) b a ks fr H Q:=by cases c<;>simp
def GV (E:Env) (O:kG) (v:Value) (b:Bool) (m:Md) (d:Option Nat) (p:cW) (l:List AO) (ks:List Ko) (fr:Fr) (H:AH) (Q:Ex→Fr→AH→Prop):Prop:=
 br (fv b v=true) (Vx E O m (⟨none,d,p⟩::l) ks fr H Q) (Vx E O (m.up (fr.aT d undef) H) l ks (fr.aT d undef) H Q)
@[simp]theorem amo {m:Md} (t:Nat) (b:Bool) (d:Option Nat) (p:cW) (l:List AO):Vx E O m (⟨some (t,b),d,p⟩::l) ks fr H Q↔GV E O (fr.get t) b m d p l ks fr H Q:=ah0 _ _ _ _ _
section
variable{m:Md} {d:Option Nat} {p:cW} {l:List AO}
@[simp]theorem amp:GV E O (.bool true) true m d p l ks fr H Q↔Vx E O m (⟨none,d,p⟩::l) ks fr H Q:=by simp [GV]
@[simp]theorem amq:GV E O (.bool false) false m d p l ks fr H Q↔Vx E O m (⟨none,d,p⟩::l) ks fr H Q:=by simp [GV]
@[simp]theorem amr:GV E O (.bool true) false m d p l ks fr H Q↔Vx E O (m.up (fr.aT d undef) H) l ks (fr.aT d undef) H Q:=by simp [GV]
@[simp]theorem ams:GV E O (.bool false) true m d p l ks fr H Q↔Vx E O (m.up (fr.aT d undef) H) l ks (fr.aT d undef) H Q:=by simp [GV]
@[simp]theorem aqC (b:Bool):GV E O undef b m d p l ks fr H Q↔Vx E O (m.up (fr.aT d undef) H) l ks (fr.aT d undef) H Q:=by simp [GV]
@[simp]theorem amt (c:Prop) [Decidable c]:GV E O (.bool (decide c)) true m d p l ks fr H Q↔br c (Vx E O m (⟨none,d,p⟩::l) ks fr H Q) (Vx E O (m.up (fr.aT d undef) H) l ks (fr.aT d undef) H Q):=by simp [GV]
@[simp]theorem amu (c:Prop) [Decidable c]:GV E O (.bool (decide c)) false m d p l ks fr H Q↔br c (Vx E O (m.up (fr.aT d undef) H) l ks (fr.aT d undef) H Q) (Vx E O m (⟨none,d,p⟩::l) ks fr H Q):=by
 by_cases h:c<;>simp [h]
@[simp]theorem amv (c:Bool):GV E O (.bool (!c)) true m d p l ks fr H Q↔GV E O (.bool c) false m d p l ks fr H Q:=by cases c<;>simp
@[simp]theorem amw (c:Bool):GV E O (.bool (!c)) false m d p l ks fr H Q↔GV E O (.bool c) true m d p l ks fr H Q:=by cases c<;>simp
end
theorem ah1 (c:Bool):CV E O (.bool c) a b ks fr H Q↔br (c=true) (Vk E O a ks fr H Q) (Vk E O b ks fr H Q):=by simp [CV]
@[simp]theorem Zi (x y:ByteArray):CV E O (.bool (bD x y)) a b ks fr H Q↔br (bD x y=true) (Vk E O a ks fr H Q) (Vk E O b ks fr H Q):=ah1 _
theorem I9 {m:Md} (d:Nat) (p:cW) (l:List AO) (h:p.bj=false):Vx E O m (⟨none,some d,p⟩::l) ks fr H Q↔
 DB (aB p (X.ev fr) H)=true∧Vx E O (m.up (fr.put d (valOf (aB p (X.ev fr) H))) (il H (aB p (X.ev fr) H))) l ks (fr.put d (valOf (aB p (X.ev fr) H))) (il H (aB p (X.ev fr) H)) Q:=by
 cases m
 ·exact af0 _ _ _ h
 ·exact af2 _ _ _ h
theorem Zj {m:Md} (p:cW) (l:List AO) (h:p.bj=false):Vx E O m (⟨none,none,p⟩::l) ks fr H Q↔
 DB (aB p (X.ev fr) H)=true∧Vx E O (m.up fr (il H (aB p (X.ev fr) H))) l ks fr (il H (aB p (X.ev fr) H)) Q:=by
 cases m
 ·exact af1 _ _ h
 ·exact af3 _ _ h
theorem eT {m:Md} {d:Nat} {p:cW} {l:List AO} (h:p.bj=false) {r:Option Value} (e:aB p (X.ev fr) H=r.map fun v=>(.v v,H)):Vx E O m (⟨none,some d,p⟩::l) ks fr H Q↔
 r.isSome=true∧Vx E O (m.up (fr.put d (r.getD undef)) H) l ks (fr.put d (r.getD undef)) H Q:=by
 rw [I9 _ _ _ h,e];cases r<;>simp [DB]
def zA:Value→Value→Value→Option Value
 | .bool t,a,b=>some (bif t then a else b)
 |_,_,_=>none
@[simp]theorem ado (t:Bool) (a b:Value):zA (.bool t) a b=some (bif t then a else b):=rfl
def Xd (H:AH):Value→Option Value
 | .pointer (some a)=>H.ld a
 |_=>none
@[simp]theorem amx (a:Addr):Xd H (.pointer (some a))=H.ld a:=rfl
def vK (n:Nat) (H:AH):Value→Option Value
 | .pointer (some a)=>(H.ldn a n).map fun l=>.agg l.toArray
 |_=>none
@[simp]theorem TV (n:Nat) (a:Addr):vK n H (.pointer (some a))=(H.ldn a n).map fun l=>.agg l.toArray:=rfl
def Ja (n:Nat) (H:AH):Value→Value→Option AH
 | .pointer (some a),v=>bif Nat.beq (aZ v).length n&& !df v then H.st a (aZ v)else none
 |_,_=>none
@[simp]theorem Zk (n:Nat) (a:Addr) (v:Value):Ja n H (.pointer (some a)) v=if(aZ v).length=n∧df v=false then H.st a (aZ v)else none:=by
 unfold Ja;simp only [nb,Bool.cond_eq_ite,avj,avs,Bool.not_eq_true']
@[simp]theorem pH (k:IntKind) (n:Int):aZ (.int k n)=[.int k n]:=rfl
@[simp]theorem Rc (b:Bool):aZ (.bool b)=[.bool b]:=rfl
@[simp]theorem Mb (b:ByteArray):aZ (.string b)=[.string b]:=rfl
@[simp]theorem Od (a:Option Addr) (n c:Nat):aZ (.slice a n c)=[.slice a n c]:=rfl
@[simp]theorem Jb (a:Option Addr):aZ (.pointer a)=[.pointer a]:=rfl
@[simp]theorem TW (a:Option Nat):aZ (.map a)=[.map a]:=rfl
@[simp]theorem Re (f:Fn) (a b:Array Value):aZ (.func f a b)=[.func f a b]:=rfl
@[simp]theorem Jc:aZ .nilFunc=[.nilFunc]:=rfl
@[simp]theorem Xe (k:IntKind) (n:Int):df (.int k n)=false:=rfl
@[simp]theorem TX (b:Bool):df (.bool b)=false:=rfl
@[simp]theorem Oe (b:ByteArray):df (.string b)=false:=rfl
@[simp]theorem Rf (a:Option Addr) (n c:Nat):df (.slice a n c)=false:=rfl
@[simp]theorem Mc (a:Option Addr):df (.pointer a)=false:=rfl
@[simp]theorem Xf (a:Option Nat):df (.map a)=false:=rfl
@[simp]theorem TY (f:Fn) (a b:Array Value):df (.func f a b)=false:=rfl
@[simp]theorem Mg:df .nilFunc=false:=rfl
def we:Value→Option Value
 | .pointer (some a)=>some (.pointer (some a))
 |_=>none
@[simp]theorem adp (a:Addr):we (.pointer (some a))=some (.pointer (some a)):=rfl
def Jd (k:IntKind):Value→Option Value
 | .int _ n=>some (.int k (k.wrap n))
 |_=>none
@[simp]theorem ah2 (k c:IntKind) (n:Int):Jd k (.int c n)=some (.int k (k.wrap n)):=rfl
def Zl:Value→Option Value
 | .int _ n=>some (.string (Utf8.encode n))
 |_=>none
@[simp]theorem ah3 (c:IntKind) (n:Int):Zl (.int c n)=some (.string (Utf8.encode n)):=rfl
def Rg (off:Nat):Value→Option Value
 | .pointer (some a)=>bif a.spot.isNone then some (.pointer (some ⟨a.block,a.off+off,none⟩))else none
 |_=>none
@[simp]theorem amy (off b o:Nat):Rg off (.pointer (some ⟨b,o,none⟩))=some (.pointer (some ⟨b,o+off,none⟩)):=rfl
def Rh (sz:Nat):Value→Value→Option Value
 | .slice (some a) len _,.int _ n=>if 0≤n∧n<len then(bif a.spot.isNone then some (.pointer (some ⟨a.block,a.off+n.toNat*sz,none⟩))else none)else none
 |_,_=>none
@[simp]theorem Ri (sz b o len c:Nat) (k:IntKind) (n:Int):Rh sz (.slice (some ⟨b,o,none⟩) len c) (.int k n)=if 0≤n∧n<len then some (.pointer (some ⟨b,o+n.toNat*sz,none⟩))else none:=rfl
def zB (len sz:Nat):Value→Value→Option Value
 | .pointer (some a),.int _ n=>if 0≤n∧n<len then(bif a.spot.isNone then some (.pointer (some ⟨a.block,a.off+n.toNat*sz,none⟩))else none)else none
 |_,_=>none
@[simp]theorem Je (sz b o len:Nat) (k:IntKind) (n:Int):zB len sz (.pointer (some ⟨b,o,none⟩)) (.int k n)=if 0≤n∧n<len then some (.pointer (some ⟨b,o+n.toNat*sz,none⟩))else none:=rfl
def Hk:Value→Value→Option Value
 | .string s,.int _ n=>if 0≤n then(match s[n.toNat]? with|some b=>some (.int .u8 b.toNat)|none=>none)else none
 |_,_=>none
theorem Rj {s:ByteArray} {k:IntKind} {n:Nat} (h:n<s.size):Hk (.string s) (.int k n)=some (.int .u8 (dw s n)):=by
 have:s[n]?=some s[n]:=getElem?_pos s n h;simp only [Hk,Int.toNat_natCast];rw [if_pos (by omega),this];unfold dw;rw [this];rfl
def zC:Value→Nat→Option Value
 | .tuple vs,i=>vs.toList[i]?
 |_,_=>none
@[simp]theorem ah4 (vs:Array Value) (i:Nat):zC (.tuple vs) i=vs.toList[i]?:=rfl
def uj:Value→Option Value
 | .string s=>some (.int .i64 s.size)
 |_=>none
@[simp]theorem adq (s:ByteArray):uj (.string s)=some (.int .i64 s.size):=rfl
def uk:Value→Option Value
 | .slice _ n _=>some (.int .i64 n)
 |_=>none
@[simp]theorem adr (a:Option Addr) (n c:Nat):uk (.slice a n c)=some (.int .i64 n):=rfl
def Jf (k:Nat) (neg:Bool) (x y:Value):Option Value:=(ja k x y).map fun b=>.bool (bif neg then !b else b)
@[simp]theorem amz (neg a b:Bool):Jf 0 neg (.bool a) (.bool b)=some (.bool (bif neg then !(a==b)else(a==b))):=rfl
@[simp]theorem ah5 (neg:Bool) (b:Option Addr):Jf 1 neg (.pointer none) (.pointer b)=some (.bool (bif neg then !b.isNone else b.isNone)):=rfl
@[simp]theorem ah6 (neg:Bool) (b:Addr):Jf 1 neg (.pointer (some b)) (.pointer none)=some (.bool neg):=by cases neg<;>rfl
@[simp]theorem ah7 (neg:Bool) (n c d e:Nat) (b:Option Addr):Jf 2 neg (.slice none n c) (.slice b d e)=some (.bool (bif neg then !b.isNone else b.isNone)):=rfl
@[simp]theorem ah8 (neg:Bool) (n c d e:Nat) (b:Addr):Jf 2 neg (.slice (some b) n c) (.slice none d e)=some (.bool neg):=by cases neg<;>rfl
@[simp]theorem ah9 (neg:Bool) (f:Fn) (a b:Array Value):Jf 3 neg (.func f a b) .nilFunc=some (.bool neg):=by cases neg<;>rfl
@[simp]theorem aia (neg:Bool) (b:Option Nat):Jf 4 neg (.map none) (.map b)=some (.bool (bif neg then !b.isNone else b.isNone)):=rfl
def Of (neg:Bool) (offs:List (Nat×Nat)):Value→Value→Option Value
 | .agg cs,.agg ds=>(eM cs.toList ds.toList offs).map fun b=>.bool (bif neg then !b else b)
 |_,_=>none
@[simp]theorem aib (neg:Bool) (offs:List (Nat×Nat)) (cs ds:Array Value):Of neg offs (.agg cs) (.agg ds)=(eM cs.toList ds.toList offs).map fun b=>.bool (bif neg then !b else b):=rfl
def jH (kk:Nat) (z:Value) (H:AH) (x k:Value) (ok:Bool):Option Value:=
 match x with
 | .map none=>bif cU kk k then some (bif ok then .tuple #[z, .bool false]else z)else none
 | .map (some r)=>match H.get r with
   |some (.map es)=>bif cU kk k&&decide (H.n0≤r)then(match ic k es with
    |some (some v)=>some (bif ok then .tuple #[v, .bool true]else v)
    |some none=>some (bif ok then .tuple #[z, .bool false]else z)
    |none=>none)else none
   |_=>none
 |_=>none
section
variable{m:Md} {l:List AO} (d:Nat)
@[simp]theorem amA (x:X):Vx E O m (⟨none,some d,.mv x⟩::l) ks fr H Q↔Vx E O (m.up (fr.put d (x.ev fr)) H) l ks (fr.put d (x.ev fr)) H Q:=by
 rw [eT (r:=some (x.ev fr)) rfl rfl];simp
@[simp]theorem ads (c a b:X):Vx E O m (⟨none,some d,.pick c a b⟩::l) ks fr H Q↔(zA (c.ev fr) (a.ev fr) (b.ev fr)).isSome=true∧Vx E O (m.up (fr.put d ((zA (c.ev fr) (a.ev fr) (b.ev fr)).getD undef)) H) l ks (fr.put d ((zA (c.ev fr) (a.ev fr) (b.ev fr)).getD undef)) H Q:=
 eT rfl (by simp only [aB];cases c.ev fr<;>rfl)
@[simp]theorem amB (x:X):Vx E O m (⟨none,some d,.ld x⟩::l) ks fr H Q↔(Xd H (x.ev fr)).isSome=true∧Vx E O (m.up (fr.put d ((Xd H (x.ev fr)).getD undef)) H) l ks (fr.put d ((Xd H (x.ev fr)).getD undef)) H Q:=
 eT rfl (by
  simp only [aB]
  cases x.ev fr with
  |pointer a=>cases a<;>rfl
  |_=>rfl)
@[simp]theorem aic (n:Nat) (x:X):Vx E O m (⟨none,some d,.ldn n x⟩::l) ks fr H Q↔(vK n H (x.ev fr)).isSome=true∧Vx E O (m.up (fr.put d ((vK n H (x.ev fr)).getD undef)) H) l ks (fr.put d ((vK n H (x.ev fr)).getD undef)) H Q:=
 eT rfl (by
  simp only [aB]
  cases x.ev fr with
  |pointer a=>
   cases a with
   |none=>rfl
   |some a=>simp only [vK];cases H.ldn a n<;>rfl
  |_=>rfl)
@[simp]theorem adt (x:X):Vx E O m (⟨none,some d,.bB x⟩::l) ks fr H Q↔(we (x.ev fr)).isSome=true∧Vx E O (m.up (fr.put d ((we (x.ev fr)).getD undef)) H) l ks (fr.put d ((we (x.ev fr)).getD undef)) H Q:=
 eT rfl (by
  simp only [aB]
  cases x.ev fr with
  |pointer a=>cases a<;>rfl
  |_=>rfl)
@[simp]theorem aid (op:BinOp) (x y:X):Vx E O m (⟨none,some d,.bin op x y⟩::l) ks fr H Q↔(cl op (x.ev fr) (y.ev fr)).isSome=true∧Vx E O (m.up (fr.put d ((cl op (x.ev fr) (y.ev fr)).getD undef)) H) l ks (fr.put d ((cl op (x.ev fr) (y.ev fr)).getD undef)) H Q:=
 eT rfl rfl
@[simp]theorem aie (k:Nat) (neg:Bool) (x y:X):Vx E O m (⟨none,some d,.eqk k neg x y⟩::l) ks fr H Q↔(Jf k neg (x.ev fr) (y.ev fr)).isSome=true∧Vx E O (m.up (fr.put d ((Jf k neg (x.ev fr) (y.ev fr)).getD undef)) H) l ks (fr.put d ((Jf k neg (x.ev fr) (y.ev fr)).getD undef)) H Q:=
 eT rfl (by simp only [aB,Jf];cases ja k (x.ev fr) (y.ev fr)<;>rfl)
@[simp]theorem amC (op:UnOp) (x:X):Vx E O m (⟨none,some d,.un op x⟩::l) ks fr H Q↔(HD op (x.ev fr)).isSome=true∧Vx E O (m.up (fr.put d ((HD op (x.ev fr)).getD undef)) H) l ks (fr.put d ((HD op (x.ev fr)).getD undef)) H Q:=
 eT rfl rfl
@[simp]theorem aif (k:IntKind) (x:X):Vx E O m (⟨none,some d,.mJ k x⟩::l) ks fr H Q↔(Jd k (x.ev fr)).isSome=true∧Vx E O (m.up (fr.put d ((Jd k (x.ev fr)).getD undef)) H) l ks (fr.put d ((Jd k (x.ev fr)).getD undef)) H Q:=
 eT rfl (by simp only [aB];cases x.ev fr<;>rfl)
@[simp]theorem amD (off:Nat) (x:X):Vx E O m (⟨none,some d,.fa off x⟩::l) ks fr H Q↔(Rg off (x.ev fr)).isSome=true∧Vx E O (m.up (fr.put d ((Rg off (x.ev fr)).getD undef)) H) l ks (fr.put d ((Rg off (x.ev fr)).getD undef)) H Q:=
 eT rfl (by
  simp only [aB]
  cases x.ev fr with
  |pointer a=>
   cases a with
   |none=>rfl
   |some a=>simp only [Rg];cases a.spot.isNone<;>rfl
  |_=>rfl)
@[simp]theorem amE (sz:Nat) (x i:X):Vx E O m (⟨none,some d,.ia sz x i⟩::l) ks fr H Q↔(Rh sz (x.ev fr) (i.ev fr)).isSome=true∧Vx E O (m.up (fr.put d ((Rh sz (x.ev fr) (i.ev fr)).getD undef)) H) l ks (fr.put d ((Rh sz (x.ev fr) (i.ev fr)).getD undef)) H Q:=
 eT rfl (by
  simp only [aB]
  cases x.ev fr with
  |slice a len c=>
   cases a with
   |none=>rfl
   |some a=>
    cases i.ev fr<;>first
     |rfl
     |(simp only [Rh];split<;>first|rfl|(cases a.spot.isNone<;>rfl))
  |_=>rfl)
@[simp]theorem aih (len sz:Nat) (x i:X):Vx E O m (⟨none,some d,.rW len sz x i⟩::l) ks fr H Q↔(zB len sz (x.ev fr) (i.ev fr)).isSome=true∧Vx E O (m.up (fr.put d ((zB len sz (x.ev fr) (i.ev fr)).getD undef)) H) l ks (fr.put d ((zB len sz (x.ev fr) (i.ev fr)).getD undef)) H Q:=
 eT rfl (by
  simp only [aB]
  cases x.ev fr with
  |pointer a=>
   cases a with
   |none=>rfl
   |some a=>
    cases i.ev fr<;>first
     |rfl
     |(simp only [zB];split<;>first|rfl|(cases a.spot.isNone<;>rfl))
  |_=>rfl)
@[simp]theorem amF (x i:X):Vx E O m (⟨none,some d,.ix x i⟩::l) ks fr H Q↔(Hk (x.ev fr) (i.ev fr)).isSome=true∧Vx E O (m.up (fr.put d ((Hk (x.ev fr) (i.ev fr)).getD undef)) H) l ks (fr.put d ((Hk (x.ev fr) (i.ev fr)).getD undef)) H Q:=
 eT rfl (by
  simp only [aB]
  cases x.ev fr with
  |string s=>
   cases i.ev fr<;>first
    |rfl
    |(simp only [Hk];rename_i n;cases s[n.toNat]?<;>(split<;>rfl))
  |_=>rfl)
@[simp]theorem aii (x:X) (i:Nat):Vx E O m (⟨none,some d,.ext x i⟩::l) ks fr H Q↔(zC (x.ev fr) i).isSome=true∧Vx E O (m.up (fr.put d ((zC (x.ev fr) i).getD undef)) H) l ks (fr.put d ((zC (x.ev fr) i).getD undef)) H Q:=
 eT rfl (by
  simp only [aB]
  cases x.ev fr with
  |tuple c=>simp only [zC];cases c.toList[i]?<;>rfl
  |_=>rfl)
@[simp]theorem adu (x:X):Vx E O m (⟨none,some d,.lens x⟩::l) ks fr H Q↔(uj (x.ev fr)).isSome=true∧Vx E O (m.up (fr.put d ((uj (x.ev fr)).getD undef)) H) l ks (fr.put d ((uj (x.ev fr)).getD undef)) H Q:=
 eT rfl (by simp only [aB];cases x.ev fr<;>rfl)
@[simp]theorem adv (x:X):Vx E O m (⟨none,some d,.fh x⟩::l) ks fr H Q↔(uk (x.ev fr)).isSome=true∧Vx E O (m.up (fr.put d ((uk (x.ev fr)).getD undef)) H) l ks (fr.put d ((uk (x.ev fr)).getD undef)) H Q:=
 eT rfl (by simp only [aB];cases x.ev fr<;>rfl)
@[simp]theorem adw (kk:Nat) (z:Value) (x k:X) (ok:Bool):Vx E O m (⟨none,some d,.look kk z x k ok⟩::l) ks fr H Q↔(jH kk z H (x.ev fr) (k.ev fr) ok).isSome=true∧Vx E O (m.up (fr.put d ((jH kk z H (x.ev fr) (k.ev fr) ok).getD undef)) H) l ks (fr.put d ((jH kk z H (x.ev fr) (k.ev fr) ok).getD undef)) H Q:=
 eT rfl (by
  simp only [aB,jH]
  cases x.ev fr with
  |map r=>
   cases r with
   |none=>dsimp only;cases cU kk (k.ev fr)<;>rfl
   |some r=>
    dsimp only
    cases H.get r with
    |none=>rfl
    |some b=>
     cases b with
     |cells=>rfl
     |map es=>
      dsimp only;cases cU kk (k.ev fr)&&decide (H.n0≤r)
      ·rfl
      ·cases ic (k.ev fr) es with
       |none=>rfl
       |some q=>cases q<;>rfl
  |_=>rfl)
@[simp]theorem aij (f:Nat) (a b:List X):Vx E O m (⟨none,some d,.mkf f a b⟩::l) ks fr H Q↔Vx E O (m.up (fr.put d (.func (.func f) (a.map (X.ev fr)).toArray (b.map (X.ev fr)).toArray)) H) l ks (fr.put d (.func (.func f) (a.map (X.ev fr)).toArray (b.map (X.ev fr)).toArray)) H Q:=by
 rw [eT (r:=some (.func (.func f) (a.map (X.ev fr)).toArray (b.map (X.ev fr)).toArray)) rfl rfl];simp
@[simp]theorem amG (sz:Nat) (x:X) (lo hi mx:Option X):Vx E O m (⟨none,some d,.sl sz x lo hi mx⟩::l) ks fr H Q↔(cw sz H (x.ev fr) (lo.map (X.ev fr)) (hi.map (X.ev fr)) (mx.map (X.ev fr))).isSome=true∧Vx E O (m.up (fr.put d ((cw sz H (x.ev fr) (lo.map (X.ev fr)) (hi.map (X.ev fr)) (mx.map (X.ev fr))).getD undef)) H) l ks (fr.put d ((cw sz H (x.ev fr) (lo.map (X.ev fr)) (hi.map (X.ev fr)) (mx.map (X.ev fr))).getD undef)) H Q:=
 eT rfl rfl
def fD (z:List Value) (ps:List (Nat×Nat×Value)):Option Value:=(j6 z ps).map fun c=>.agg c.toArray
@[simp]theorem Zm (z:List Value) (ps:List (Nat×Nat×X)):Vx E O m (⟨none,some d,.build z ps⟩::l) ks fr H Q↔(fD z (ps.map fun p=>(p.1,p.2.1,p.2.2.ev fr))).isSome=true∧Vx E O (m.up (fr.put d ((fD z (ps.map fun p=>(p.1,p.2.1,p.2.2.ev fr))).getD undef)) H) l ks (fr.put d ((fD z (ps.map fun p=>(p.1,p.2.1,p.2.2.ev fr))).getD undef)) H Q:=
 eT rfl (by simp only [aB,fD];cases j6 z (ps.map fun p=>(p.1,p.2.1,p.2.2.ev fr))<;>rfl)
@[simp]theorem Zn (z:List Value):Vx E O m (⟨none,some d,.alloc z⟩::l) ks fr H Q↔Vx E O (m.up (fr.put d (.pointer (some ⟨H.nx,0,none⟩))) (H.alloc (.cells z.length z))) l ks (fr.put d (.pointer (some ⟨H.nx,0,none⟩))) (H.alloc (.cells z.length z)) Q:=by
 rw [I9 _ _ _ rfl];simp [aB]
@[simp]theorem aik (x:X):Vx E O m (⟨none,some d,.box x⟩::l) ks fr H Q↔df (x.ev fr)=false∧Vx E O (m.up (fr.put d (.pointer (some ⟨H.nx,0,none⟩))) (H.alloc (.cells (aZ (x.ev fr)).length (aZ (x.ev fr))))) l ks (fr.put d (.pointer (some ⟨H.nx,0,none⟩))) (H.alloc (.cells (aZ (x.ev fr)).length (aZ (x.ev fr)))) Q:=by
 rw [I9 _ _ _ rfl];simp only [aB];cases df (x.ev fr)<;>simp [DB]
@[simp]theorem Zo:Vx E O m (⟨none,some d,.mkmap⟩::l) ks fr H Q↔Vx E O (m.up (fr.put d (.map (some H.nx))) (H.alloc (.map []))) l ks (fr.put d (.map (some H.nx))) (H.alloc (.map [])) Q:=by
 rw [I9 _ _ _ rfl];simp [aB]
@[simp]theorem amH (n:Nat) (x v:X):Vx E O m (⟨none,none,.st n x v⟩::l) ks fr H Q↔(Ja n H (x.ev fr) (v.ev fr)).isSome=true∧Vx E O (m.up fr ((Ja n H (x.ev fr) (v.ev fr)).getD H)) l ks fr ((Ja n H (x.ev fr) (v.ev fr)).getD H) Q:=by
 rw [Zj _ _ rfl]
 have e:aB (.st n x v) (X.ev fr) H=(Ja n H (x.ev fr) (v.ev fr)).map fun c=>(.v undef,c):=by
  simp only [aB]
  cases x.ev fr with
  |pointer a=>
   cases a with
   |none=>rfl
   |some a=>
    simp only [Ja];cases (Nat.beq (aZ (v.ev fr)).length n&& !df (v.ev fr))<;>simp
  |_=>rfl
 rw [e];cases Ja n H (x.ev fr) (v.ev fr)<;>simp [DB,il]
def FU:Option (Value×AH)→Bool
 |some _=>true
 |none=>false
def v1:Option (Value×AH)→Value
 |some (v,_)=>v
 |none=>undef
def h2 (H:AH):Option (Value×AH)→AH
 |some (_,H')=>H'
 |none=>H
@[simp]theorem ail (r:Value×AH):FU (some r)=true:=rfl
@[simp]theorem aqD (v:Value) (H':AH):v1 (some (v,H'))=v:=rfl
@[simp]theorem aqE (v:Value) (H':AH):h2 H (some (v,H'))=H':=rfl
theorem Jg {p:cW} (h:p.bj=false) {r:Option (Value×AH)} (e:aB p (X.ev fr) H=r.map fun q=>(.v q.1,q.2)):Vx E O m (⟨none,some d,p⟩::l) ks fr H Q↔
 FU r=true∧Vx E O (m.up (fr.put d (v1 r)) (h2 H r)) l ks (fr.put d (v1 r)) (h2 H r) Q:=by
 rw [I9 _ _ _ h,e]
 cases r with
 |none=>simp [FU,DB]
 |some q=>obtain ⟨v,c⟩:=q;simp
@[simp]theorem aim (sz bytes:Nat) (s x:X):Vx E O m (⟨none,some d,.app sz bytes s x⟩::l) ks fr H Q↔FU (bL sz bytes H (s.ev fr) (x.ev fr))=true∧Vx E O (m.up (fr.put d (v1 (bL sz bytes H (s.ev fr) (x.ev fr)))) (h2 H (bL sz bytes H (s.ev fr) (x.ev fr)))) l ks (fr.put d (v1 (bL sz bytes H (s.ev fr) (x.ev fr)))) (h2 H (bL sz bytes H (s.ev fr) (x.ev fr))) Q:=
 Jg _ rfl rfl
def oG (len sz:Nat) (z:List Value) (H:AH) (ps:List (Nat×Nat×Value)):Option (Value×AH):=(j6 z ps).map fun c=>(.slice (some ⟨H.nx,0,none⟩) len len,H.alloc (.cells sz c))
@[simp]theorem ain (len sz:Nat) (z:List Value) (ps:List (Nat×Nat×X)):Vx E O m (⟨none,some d,.bsl len sz z ps⟩::l) ks fr H Q↔FU (oG len sz z H (ps.map fun p=>(p.1,p.2.1,p.2.2.ev fr)))=true∧Vx E O (m.up (fr.put d (v1 (oG len sz z H (ps.map fun p=>(p.1,p.2.1,p.2.2.ev fr))))) (h2 H (oG len sz z H (ps.map fun p=>(p.1,p.2.1,p.2.2.ev fr))))) l ks (fr.put d (v1 (oG len sz z H (ps.map fun p=>(p.1,p.2.1,p.2.2.ev fr))))) (h2 H (oG len sz z H (ps.map fun p=>(p.1,p.2.1,p.2.2.ev fr)))) Q:=
 Jg _ rfl (by simp only [aB,oG];cases j6 z (ps.map fun p=>(p.1,p.2.1,p.2.2.ev fr))<;>rfl)
def sN (kk:Nat) (H:AH) (x k v:Value):Option AH:=
 match x with
 | .map (some r)=>match H.get r with
   |some (.map es)=>bif cU kk k&&decide (H.n0≤r)&& !df v then(mQ k v es).map fun es'=>H.put r (some (.map es'))else none
   |_=>none
 |_=>none
@[simp]theorem aio (kk:Nat) (x k v:X):Vx E O m (⟨none,none,.pq kk x k v⟩::l) ks fr H Q↔(sN kk H (x.ev fr) (k.ev fr) (v.ev fr)).isSome=true∧Vx E O (m.up fr ((sN kk H (x.ev fr) (k.ev fr) (v.ev fr)).getD H)) l ks fr ((sN kk H (x.ev fr) (k.ev fr) (v.ev fr)).getD H) Q:=by
 rw [Zj _ _ rfl]
 have e:aB (.pq kk x k v) (X.ev fr) H=(sN kk H (x.ev fr) (k.ev fr) (v.ev fr)).map fun c=>(.v undef,c):=by
  simp only [aB,sN]
  cases x.ev fr with
  |map r=>
   cases r with
   |none=>rfl
   |some r=>
    dsimp only
    cases H.get r with
    |none=>rfl
    |some b=>
     cases b with
     |cells=>rfl
     |map es=>
      dsimp only;cases (cU kk (k.ev fr)&&decide (H.n0≤r)&& !df (v.ev fr))
      ·rfl
      ·simp only [cond_true]
       cases mQ (k.ev fr) (v.ev fr) es<;>rfl
  |_=>rfl
 rw [e];cases sN kk H (x.ev fr) (k.ev fr) (v.ev fr)<;>simp [DB,il]
theorem Og {d f:Nat} {«as»:List X} {vs:List Value} {R:Value→AH→Prop} (c:«as».map (X.ev fr)=vs) (h:Ca E O f vs H R) (k:∀x H',R x H'→Vx E O (m.up (fr.put d x) H') l ks (fr.put d x) H' Q):Vx E O m (⟨none,some d,.call f «as»⟩::l) ks fr H Q:=by
 subst c;cases m
 ·exact bS (h.mono k)
 ·exact nP (h.mono k)
theorem ah {d f:Nat} {«as»:List X} {vs:List Value} (c:«as».map (X.ev fr)=vs) (h:Ca E O f vs H fun x H'=>Vx E O (m.up (fr.put d x) H') l ks (fr.put d x) H' Q):Vx E O m (⟨none,some d,.call f «as»⟩::l) ks fr H Q:=Og c h fun _ _ k=>k
theorem Jh {d f:Nat} {x:X} {«as»:List X} {first cap:Array Value} {vs:List Value} {R:Value→AH→Prop} (c:x.ev fr= .func (.func f) first cap) (g:first.toList++«as».map (X.ev fr)++cap.toList=vs) (h:Ca E O f vs H R) (k:∀x H',R x H'→Vx E O (m.up (fr.put d x) H') l ks (fr.put d x) H' Q):Vx E O m (⟨none,some d,.callv x «as»⟩::l) ks fr H Q:=by
 subst g;have e:aB (.callv x «as») (X.ev fr) H=some (.enter f (first.toList++«as».map (X.ev fr)++cap.toList),H):=by simp only [aB,c]
 cases m
 ·show Wo E O _ _ _ _
  rw [jn,ik _ _ _ _ rfl,e];exact h.mono k
 ·show Wd E O _ _ _ _ _ _ _ _
  rw [ke,ik _ _ _ _ rfl,e];exact h.mono k
theorem lF {d f:Nat} {x:X} {«as»:List X} {first cap:Array Value} {vs:List Value} (c:x.ev fr= .func (.func f) first cap) (e:first.toList++«as».map (X.ev fr)++cap.toList=vs) (h:Ca E O f vs H fun x H'=>Vx E O (m.up (fr.put d x) H') l ks (fr.put d x) H' Q):Vx E O m (⟨none,some d,.callv x «as»⟩::l) ks fr H Q:=Jh c e h fun _ _ k=>k
end
def Ji:AO→Fr→Bool
 |⟨none,_,_⟩,_=>true
 |⟨some (t,b),_,_⟩,fr=>fv b (fr.get t)
@[simp]theorem amI (d:Option Nat) (p:cW) (fr:Fr):Ji ⟨none,d,p⟩ fr=true:=rfl
@[simp]theorem amJ (t:Nat) (b:Bool) (d:Option Nat) (p:cW) (fr:Fr):Ji ⟨some (t,b),d,p⟩ fr=fv b (fr.get t):=rfl
theorem TZ (o:AO) (fr:Fr):o.wanted fr=Ji o fr:=by
 obtain ⟨g,d,p⟩:=o
 cases g with
 |none=>rfl
 |some q=>obtain ⟨t,b⟩:=q;exact nT _ _ _ _
def Xg (H:AH) (n:Nat):Value→Option (Addr×List Value)
 | .pointer (some a)=>(H.ldn a n).map fun l=>(a,l)
 |_=>none
@[simp]theorem amK (n:Nat) (a:Addr):Xg H n (.pointer (some a))=(H.ldn a n).map fun l=>(a,l):=rfl
def Zp:cW→Fr→AH→Option (Addr×List Value)
 | .ld x,fr,H=>Xg H 1 (x.ev fr)
 | .ldn n x,fr,H=>Xg H n (x.ev fr)
 |_,_,_=>none
@[simp]theorem aip (x:X):Zp (.ld x) fr H=Xg H 1 (x.ev fr):=rfl
@[simp]theorem adx (n:Nat) (x:X):Zp (.ldn n x) fr H=Xg H n (x.ev fr):=rfl
def T0 (H':AH):Option (Addr×List Value)→Bool
 |some x=>sameAt H' x
 |none=>false
@[simp]theorem aiq (x:Addr×List Value):T0 H (some x)=sameAt H x:=rfl
def T3:Option (List Value)→List Value→Bool
 |some m,l=>fI m l
 |none,_=>false
@[simp]theorem air (m l:List Value):T3 (some m) l=fI m l:=rfl
@[simp]theorem zD (a:Addr) (l:List Value):sameAt H (a,l)=T3 (H.ldn a l.length) l:=by
 unfold sameAt T3;dsimp only;cases H.ldn a l.length<;>rfl
@[simp]theorem ady:fI [] []=true:=rfl
@[simp]theorem adz (x y:Value) (l m:List Value):fI (x::l) (y::m)=(dK x y&&fI l m):=rfl
@[simp]theorem adA (k:IntKind) (n:Int):dK (.int k n) (.int k n)=true:=by simp [dK]
@[simp]theorem adB (b:Bool):dK (.bool b) (.bool b)=true:=by simp [dK]
@[simp]theorem adC (a:Option Addr):dK (.pointer a) (.pointer a)=true:=by simp [dK]
@[simp]theorem adD (a:Option Addr) (n c:Nat):dK (.slice a n c) (.slice a n c)=true:=by simp [dK]
def T4 (l:List AO):Nat→Option AO→Option (Fr×AH)→Option (Fr×AH)→Option AO→Option (Fr×AH)→Option (Fr×AH)→Bool
 |k,some op,some (fp,Hp),some (_,L5),some oq,some (fq,_),some (_,Fk)=>
  !Ji op fp|| !Ji oq fq||(match k with
   |0=>T0 Fk (Zp op.o fp Hp)
   |1=>oP (L5.get Hp.nx) (Fk.get Hp.nx)
   |_=>match dz op fp,dz oq fq with|some b,some b'=>!Nat.beq b b'|_,_=>true)
 |_,_,_,_,_,_,_=>false
@[simp]theorem amL (l:List AO) (op d:AO) (c e i h:Fr) (g j H1 f:AH):T4 l 0 (some op) (some (c,g)) (some (i,j)) (some d) (some (e,H1)) (some (h,f))=(!Ji op c|| !Ji d e||T0 f (Zp op.o c g)):=rfl
@[simp]theorem amM (l:List AO) (op d:AO) (f e j i:Fr) (c h H1 g:AH):T4 l 1 (some op) (some (f,c)) (some (j,h)) (some d) (some (e,H1)) (some (i,g))=(!Ji op f|| !Ji d e||oP (h.get c.nx) (g.get c.nx)):=rfl
theorem DE (l:List AO) (op c:AO) (e d g f:Fr) (j i H1 h:AH):T4 l 2 (some op) (some (e,j)) (some (g,i)) (some c) (some (d,H1)) (some (f,h))=(!Ji op e|| !Ji c d||(match dz op e,dz c d with|some b,some b'=>!Nat.beq b b'|_,_=>true)):=rfl
theorem Oh (l:List AO) (e:List (Fr×AH)) (k p q:Nat):lr l e (k,p,q)=T4 l k (nth l p) (nth e p) (nth e (p+1)) (nth l q) (nth e q) (nth e (q+1)):=by
 unfold lr;dsimp only
 cases nth l p with
 |none=>rfl
 |some op=>
  cases nth e p with
  |none=>rfl
  |some a=>
   cases nth e (p+1)with
   |none=>rfl
   |some b=>
    cases nth l q with
    |none=>rfl
    |some i=>
     cases nth e q with
     |none=>rfl
     |some c=>
      cases nth e (q+1)with
      |none=>rfl
      |some d=>
       obtain ⟨h,f⟩:=a;obtain ⟨t,s⟩:=b;obtain ⟨r,o⟩:=c;obtain ⟨n,m⟩:=d;simp only [T4,TZ];congr 1
       match k with
       |0=>
        obtain ⟨g,j,p⟩:=op
        cases p<;>first
         |rfl
         |(simp only [fB,Zp]
           rename_i x
           cases x.ev h with
           |pointer z=>
            cases z with
            |none=>rfl
            |some z=>simp only [Xg];cases AH.ldn f z _<;>rfl
           |_=>rfl)
       |1=>rfl
       |k+2=>rfl
theorem T5 (l:List AO) (ck:List (Nat×Nat×Nat)) (acc:List (Fr×AH)):vF l ck acc=(chain acc.reverse&&ck.all fun c=>T4 l c.1 (nth l c.2.1) (nth acc.reverse c.2.1) (nth acc.reverse (c.2.1+1)) (nth l c.2.2) (nth acc.reverse c.2.2) (nth acc.reverse (c.2.2+1))):=by
 unfold vF;congr 1;congr 1;funext c;obtain ⟨k,p,q⟩:=c;exact Oh _ _ _ _ _
theorem bu (l:List AO) (ck:List (Nat×Nat×Nat)) (acc:List (Fr×AH)):vF l ck acc=true↔chain acc.reverse=true∧ck.all (fun c=>T4 l c.1 (nth l c.2.1) (nth acc.reverse c.2.1) (nth acc.reverse (c.2.1+1)) (nth l c.2.2) (nth acc.reverse c.2.2) (nth acc.reverse (c.2.2+1)))=true:=by
 rw [T5,avj]
theorem aM (a b:Fr×AH) (l:List (Fr×AH)):chain (a::b::l)=true↔(a.2.n0=b.2.n0∧a.2.nx≤b.2.nx)∧chain (b::l)=true:=by
 simp only [chain,avj,Nat.beq_eq,Nat.ble_eq]
theorem aN (a:Fr×AH):chain [a]=true:=rfl
@[simp]theorem Zq {α:Type} (x:α) (l:List α):nth (x::l) 0=some x:=rfl
@[simp]theorem amN {α:Type} (x:α) (l:List α) (n:Nat):nth (x::l) (n+1)=nth l n:=rfl
theorem wg {α:Type}:∀(l:List α) (n:Nat),nth l n=l[n]?
 |[],n=>by cases n<;>rfl
 |x::l,0=>rfl
 |x::l,n+1=>by simp [wg l n]
def spine:Nat→AC→AC→AC
 |0,_,r=>r
 |k+1,.seq a b,r=>.seq a (spine k b r)
 |_,c,_=>c
def um:Nat→AC→AC
 |0,c=>c
 |k+1,.seq _ b=>um k b
 |_,c=>c
theorem Oi (a b r:AC):spine 1 (.seq a b) r= .seq a r:=by cases b<;>rfl
theorem Oj (a b r:AC):spine 2 (.seq a b) r= .seq a (spine 1 b r):=rfl
theorem Ok (a b r:AC):spine 3 (.seq a b) r= .seq a (spine 2 b r):=rfl
theorem Ol (a b r:AC):spine 4 (.seq a b) r= .seq a (spine 3 b r):=rfl
theorem Om (a b r:AC):spine 5 (.seq a b) r= .seq a (spine 4 b r):=rfl
theorem On (a b r:AC):spine 6 (.seq a b) r= .seq a (spine 5 b r):=rfl
theorem Oo (a b r:AC):spine 7 (.seq a b) r= .seq a (spine 6 b r):=rfl
theorem Oq (a b r:AC):spine 8 (.seq a b) r= .seq a (spine 7 b r):=rfl
attribute [simp] Oi Oj Ok Ol Om On Oo Oq
inductive dR where
 |l
 |r
def gI:List dR→AC→AC
 |[],c=>c
 | .l::p,.seq a _=>gI p a
 | .r::p,.seq _ b=>gI p b
 | .l::p,.block _ a=>gI p a
 | .l::p,.cond _ a _=>gI p a
 | .r::p,.cond _ _ b=>gI p b
 |_,c=>c
def lb:List dR→AC→AC→AC
 |[],_,r=>r
 | .l::p,.seq a b,r=>.seq (lb p a r) b
 | .r::p,.seq a b,r=>.seq a (lb p b r)
 | .l::p,.block i a,r=>.block i (lb p a r)
 | .l::p,.cond x a b,r=>.cond x (lb p a r) b
 | .r::p,.cond x a b,r=>.cond x a (lb p b r)
 |_,c,_=>c
def lY:List dR→AC→List Ko→List Ko
 |[],_,ks=>ks
 | .l::p,.seq a b,ks=>lY p a (.seq b::ks)
 | .r::p,.seq _ b,ks=>lY p b ks
 | .l::p,.block i a,ks=>lY p a (.aX i::ks)
 | .l::p,.cond _ a _,ks=>lY p a ks
 | .r::p,.cond _ _ b,ks=>lY p b ks
 |_,_,ks=>ks
@[simp]theorem Ot (c:AC):gI [] c=c:=by cases c<;>rfl
@[simp]theorem adE (p:List dR) (a b:AC):gI (.l::p) (.seq a b)=gI p a:=rfl
@[simp]theorem Ou (p:List dR) (a b:AC):gI (.r::p) (.seq a b)=gI p b:=rfl
@[simp]theorem adF (p:List dR) (i:Nat) (a:AC):gI (.l::p) (.block i a)=gI p a:=rfl
@[simp]theorem Zr (p:List dR) (x:X) (a b:AC):gI (.l::p) (.cond x a b)=gI p a:=rfl
@[simp]theorem Zs (p:List dR) (x:X) (a b:AC):gI (.r::p) (.cond x a b)=gI p b:=rfl
@[simp]theorem adG (p:List dR) (x:X) (a b r:AC):lb (.l::p) (.cond x a b) r= .cond x (lb p a r) b:=rfl
@[simp]theorem adH (p:List dR) (x:X) (a b r:AC):lb (.r::p) (.cond x a b) r= .cond x a (lb p b r):=rfl
@[simp]theorem adI (p:List dR) (x:X) (a b:AC) (ks:List Ko):lY (.l::p) (.cond x a b) ks=lY p a ks:=rfl
@[simp]theorem adJ (p:List dR) (x:X) (a b:AC) (ks:List Ko):lY (.r::p) (.cond x a b) ks=lY p b ks:=rfl
@[simp]theorem ais (c r:AC):lb [] c r=r:=by cases c<;>rfl
@[simp]theorem ait (p:List dR) (a b r:AC):lb (.l::p) (.seq a b) r= .seq (lb p a r) b:=rfl
@[simp]theorem aiu (p:List dR) (a b r:AC):lb (.r::p) (.seq a b) r= .seq a (lb p b r):=rfl
@[simp]theorem aiv (p:List dR) (i:Nat) (a r:AC):lb (.l::p) (.block i a) r= .block i (lb p a r):=rfl
@[simp]theorem BR (c:AC) (ks:List Ko):lY [] c ks=ks:=by cases c<;>rfl
@[simp]theorem aiw (p:List dR) (a b:AC) (ks:List Ko):lY (.l::p) (.seq a b) ks=lY p a (.seq b::ks):=rfl
@[simp]theorem BS (p:List dR) (a b:AC) (ks:List Ko):lY (.r::p) (.seq a b) ks=lY p b ks:=rfl
@[simp]theorem aix (p:List dR) (i:Nat) (a:AC) (ks:List Ko):lY (.l::p) (.block i a) ks=lY p a (.aX i::ks):=rfl
def DF:Nat→List dR→List Ko→AC
 |0,p,.seq c::_=>gI p c
 |j+1,p,_::ks=>DF j p ks
 |_,_,_=>.skip
def xz:Nat→List dR→List Ko→AC→List Ko
 |0,p,.seq c::ks,r=>.seq (lb p c r)::ks
 |j+1,p,k::ks,r=>k::xz j p ks r
 |_,_,ks,_=>ks
def zE:Nat→List dR→List Ko→List Ko
 |0,p,.seq c::ks=>lY p c ks
 |j+1,p,_::ks=>zE j p ks
 |_,_,ks=>ks
theorem uq {c:AC} (p:List dR) (P:Fr→AH→Prop) (d:lb p c (gI p c)=c) (h2:∀fr H,P fr H→Vk E O (gI p c) (lY p c ks) fr H Q) (e:∀rest,(∀fr H,P fr H→Vk E O rest (lY p c ks) fr H Q)→Vk E O (lb p c rest) ks fr H Q):Vk E O c ks fr H Q:=by
 have:=e _ h2;rwa [d]at this
theorem Zt {m:Md} {l:List AO} (j:Nat) (p:List dR) (P:Fr→AH→Prop) (c:xz j p ks (DF j p ks)=ks) (h2:∀fr H,P fr H→Vk E O (DF j p ks) (zE j p ks) fr H Q) (d:∀rest,(∀fr H,P fr H→Vk E O rest (zE j p ks) fr H Q)→Vx E O m l (xz j p ks rest) fr H Q):Vx E O m l ks fr H Q:=by
 have:=d _ h2;rwa [c]at this
theorem Ca.Zu {f:Nat} {F:AF} {«as»:List Value} {H:AH} {Q:Value→AH→Prop} (k:Nat) (c:O f=none) (g:E f=some F) (d:«as».length=F.np) (e:spine k F.body (um k F.body)=F.body) (h:Vk E O (spine k F.body (um k F.body)) [] (Fr.of «as») H (zi F.res Q)):Ca E O f «as» H Q:=Ca.eE c g d (e▸h)
theorem Ca.aR {f:Nat} {F:AF} {«as»:List Value} {H:AH} {Q:Value→AH→Prop} (c:O f=none) (e:E f=some F) (d:«as».length=F.np) (h:Vk E O F.body [] (Fr.of «as») H (zi F.res Q)):Ca E O f «as» H Q:=Ca.eE c e d h
def zF (E:Env) (O:kG) (I:Nat→Fr→AH→Prop) (k:Nat) (ks:List Ko) (Q:Ex→Fr→AH→Prop):Ex→Fr→AH→Prop
 | .normal,fr,H=>∃j,j<k∧I j fr H
 | .exit i,fr,H=>Vn E O (.exit i) ks fr H Q
 | .ret,fr,H=>Vn E O .ret ks fr H Q
@[simp]theorem adK (I:Nat→Fr→AH→Prop) (k:Nat):zF E O I k ks Q .normal fr H=∃j,j<k∧I j fr H:=rfl
@[simp]theorem adL (I:Nat→Fr→AH→Prop) (k i:Nat):zF E O I k ks Q (.exit i) fr H=Vn E O (.exit i) ks fr H Q:=rfl
@[simp]theorem adM (I:Nat→Fr→AH→Prop) (k:Nat):zF E O I k ks Q .ret fr H=Vn E O .ret ks fr H Q:=rfl
theorem cn {a:AC} (I:Nat→Fr→AH→Prop) (step:∀k fr H,I k fr H→Vk E O a [] fr H (zF E O I k ks Q)) (k:Nat) (h:I k fr H):Vk E O (.loop a) ks fr H Q:=by
 refine fJ I (fun k fr H c=>?_) k h;have:=step k fr H c;unfold Vk at this
 have e:zF E O I k ks Q=zk E O I k ks Q:=by
  funext ex fr H;cases ex<;>rfl
 rw [e]at this;exact this
@[simp]theorem X_t (n:Nat):X.ev fr (.t n)=fr.get n:=rfl
@[simp]theorem X_k (v:Value):X.ev fr (.k v)=v:=rfl
@[simp]theorem X_f (n:Nat):X.ev fr (.f n)= .func (.func n) #[] #[]:=rfl
end
end
set_option maxRecDepth 10000
section
open Go
theorem FV (c:Int) (H:AH):Ca E O 154 [.int .u8 c] H (fun x H'=>x= .bool (fk c)∧H'=H):=by
 refine Ca.aR (F:=a154) rfl rfl rfl ?_;simp (maxSteps:=9^7)-implicitDefEqProofs+contextual [-X.ev,a154];simp [br,fk,gG,isDigit];by_cases d:97≤c<;>by_cases h2:c≤122<;>by_cases b:48≤c<;>by_cases a:c≤57<;>simp [*]<;>omega
theorem wj {s:ByteArray}:bD s ⟨#[]⟩=decide (s.size=0):=by
 rw [avM,gQ];constructor
 ·rintro rfl;rfl
 ·intro h;simp at h;exact h
theorem FW (s:ByteArray) (G:s.size<2^60) (H:AH):Ca E O 129 [.string s] H (fun x H'=>x= .bool (isName s)∧H'=H):=by
 refine Ca.aR (F:=IV) rfl rfl rfl ?_;by_cases u:s.size=0
 ·simp (maxSteps:=9^7)-implicitDefEqProofs+contextual [-X.ev,IV,wj,u,isName]
 have D:0<s.size:=by omega
 have o:Hk (.string s) (.int .i64 0)=some (.int .u8 (dw s 0)):=Rj (n:=0) D;have a:gG (dw s 0)=(decide (97≤dw s 0)&&decide (dw s 0≤122)):=rfl
 obtain ⟨b0,c⟩:∃b,dw s 0=b:=⟨_,rfl⟩
 rw [c]at o a;simp (maxSteps:=9^7)-implicitDefEqProofs+contextual [-X.ev,IV,wj,u,o];refine zz (fun q=>?_) (fun q=>zz (fun A=>?_) (fun A=>zz (fun z=>?_) (fun z=>?_)))
 ·have:¬ s.size≤12:=by omega
  simp [isName,this]
 ·have f:¬ 97≤b0:=by omega
  simp [isName,c,a,f]
 ·have d:¬ b0≤122:=by omega
  simp [isName,c,a,d]
 refine cn (fun k g H'=>H'=H∧∃i:Nat,i+k=s.size∧g.get 0= .string s∧g.get 3= .int .i64 i∧∀j,j<i→fk (dw s j)=true) ?_ s.size ⟨rfl,0,by simp,by simp,by simp,fun j p=>by omega⟩;rintro k g H' ⟨rfl,i,hi,m,l,r⟩;by_cases h:i<s.size
 ·have B:Hk (.string s) (.int .i64 i)=some (.int .u8 (dw s i)):=Rj h
  simp (maxSteps:=9^7)-implicitDefEqProofs+contextual [-X.ev,m,l,h,B];apply ah
  ·(simp-implicitDefEqProofs [-X.ev];rfl)
  refine (FV (dw s i) H').mono ?_;rintro x I ⟨rfl,rfl⟩
  cases t:fk (dw s i)with
  |true=>
   simp (maxSteps:=9^7)-implicitDefEqProofs+contextual [-X.ev,m,l];rw [ai ⟨by omega,by omega⟩];refine ⟨k- 1,by omega,i+1,by omega,by simp,fun j p=>?_⟩;by_cases e:j=i
   ·subst e;exact t
   ·exact r j (by omega)
  |false=>
   simp (maxSteps:=9^7)-implicitDefEqProofs+contextual [-X.ev];simp [isName];intro _ _ _ _;exact ⟨i,h,t⟩
 ·have C:((List.range s.size).all fun i=>fk (dw s i))=true:=by simpa using fun j p=>r j (by omega)
  have y:1≤s.size:=by omega
  have w:s.size≤12:=by omega
  have v:gG (dw s 0)=true:=by rw [c,a];simp;omega
  have e:isName s= !et s:=by simp [isName,C,y,w,v]
  simp (maxSteps:=9^7)-implicitDefEqProofs+contextual [-X.ev,m,l,h,e,et]
open Go
def smap (l:List (ByteArray×Value)):List (Value×Value):=l.map fun p=>(.string p.1,p.2)
theorem DG (s:ByteArray):∀l:List (ByteArray×Value),ic (.string s) (smap l)=some ((l.find? fun p=>bD s p.1).map (·.2))
 |[]=>rfl
 |p::l=>by
  have ih:=DG s l;unfold smap at ih⊢;simp only [List.map_cons,ic,jB,List.find?_cons];change (match some (bD s p.1)with|some true=>_|some false=>_|none=>_)=_;cases bD s p.1
  ·exact ih
  ·rfl
theorem Jj (s:ByteArray) (v:Value):∀l:List (ByteArray×Value),(∀p∈l,bD s p.1=false)→mQ (.string s) v (smap l)=some (smap (l++[(s,v)]))
 |[],_=>rfl
 |p::l,h=>by
  have ih:=Jj s v l fun q a=>h q (by simp [a])
  unfold smap at ih⊢;simp only [List.map_cons,mQ,jB,List.cons_append];change (match some (bD s p.1)with|some true=>_|some false=>_|none=>_)=_;rw [h p (by simp)];simp [ih]
theorem gg {kk m:Nat} {z k v:Value} {H:AH} {es:List (Value×Value)} (b:H.get m=some (.map es)) (d:H.n0≤m) (a:cU kk k=true) (c:ic k es=some (some v)):jH kk z H (.map (some m)) k false=some v:=by
 simp [jH,b,d,a,c]
theorem DH {kk m:Nat} {z k:Value} {H:AH} {es:List (Value×Value)} (b:H.get m=some (.map es)) (d:H.n0≤m) (a:cU kk k=true) (c:ic k es=some none):jH kk z H (.map (some m)) k false=some z:=by
 simp [jH,b,d,a,c]
theorem iN {kk m:Nat} {k v:Value} {H:AH} {es es':List (Value×Value)} (b:H.get m=some (.map es)) (h:H.n0≤m) (g:cU kk k=true) (e:df v=false) (d:mQ k v es=some es'):
 ∃a,sN kk H (.map (some m)) k v=some a∧Mod (fun x=>x=m) H a∧a.nx=H.nx∧a.n0=H.n0∧a.get m=some (.map es'):=by
 have c:=AH.bc b;refine ⟨H.put m (some (.map es')),by simp [sN,b,h,g,e,d],⟨rfl,avk _,fun x i f=>?_⟩,rfl,rfl,?_⟩
 ·rw [AH.bZ _ _ _ _ c,if_neg f]
 ·rw [AH.bZ _ _ _ _ c,if_pos rfl]
def lZ (l:List Vr):List (ByteArray×Value):=l.map fun v=>(v.name,.bool true)
theorem zG (l:List Vr) (s:ByteArray):((lZ l).find? fun p=>bD s p.1).map (·.2)=if l.any (fun v=>bD v.name s)=true then some (.bool true)else none:=by
 induction l with
 |nil=>rfl
 |cons v l ih=>
  simp only [lZ,List.map_cons,List.find?_cons,List.any_cons]
  have e:bD s v.name=bD v.name s:=by
   rw [avM,gQ,gQ];exact eq_comm
  rcases Bool.eq_false_or_eq_true (bD v.name s)with q|q
  ·rw [q]at e
   simp [e,q]
  ·rw [q]at e
   simp only [e,q,Bool.false_or]
   simpa [lZ]using ih
theorem zH {l:List Vr} {i:Nat} {y:Vr} (d:l[i]?=some y):((l.take i).any fun v=>bD v.name y.name)= !decide (jF l y.name=i):=by
 have hi:=(avm.1 d).1
 cases q:(l.take i).any fun v=>bD v.name y.name with
 |false=>
  have:jF l y.name=i:=ud d (by rw [gQ]) fun j z c b=>by
   rw [List.any_eq_false]at q;have:=q z (avl (i:=j) (by rw [avP,if_pos c];exact b))
   simpa using this
  simp [this]
 |true=>
  rw [List.any_eq_true]at q;obtain ⟨z,b,g⟩:=q;obtain ⟨j,c,e⟩:=List.mem_iff_getElem.1 b
  have:¬ jF l y.name=i:=by
   intro f;unfold jF at f;split at f
   ·rename_i k a
    rw [List.findIdx?_eq_some_iff_getElem]at a;obtain ⟨_,_,a⟩:=a;have h:j<i:=by simp at c;omega
    have:=a j (by omega);rw [List.getElem_take]at e;rw [e,g]at this;simp at this
   ·omega
  simp [this]
def FX (l:List Vr) (i:Nat):Bool:=match l[i]? with|some v=>fm l i v|none=>true
theorem iu (w:Int) (l:List Vr):aC w l=(bE w&&(decide (1≤l.length)&&(decide (l.length≤18)&&((List.range l.length).all (FX l)&&decide (dE (l.map (·.cells))≤48))))):=rfl
theorem rv {l:List Vr} {i:Nat} {y:Vr} (h:l[i]?=some y):FX l i=fm l i y:=by unfold FX;rw [h]
set_option maxHeartbeats 1000000 in
theorem DI {v:Value} {l:List Vr} {H:AH} (hw:H.n0≤H.nx) (hv:dI H v l) (mu:pE l) (w:Int):Ca E O 96 [.int .i64 w,v] H (fun x H'=>x= .int .i64 (if aC w l=true then 0 else 1)∧Ext H H'):=by
 refine Ca.aR (F:=a96) rfl rfl rfl ?_;obtain ⟨a,c,gT⟩:=hv.len;have iD:=mu.1;have X0:=Ext.alloc H (.map []);have g0:=cQ H (.map []);generalize Dx:H.alloc (.map [])=H0 at X0 g0;simp (maxSteps:=9^7)-implicitDefEqProofs+contextual [-X.ev,a96,gT,Dx]
 have z1:aC w l=true→1≤w∧w≤8∧1≤l.length∧l.length≤18:=by
  intro h;simp [aC,bE]at h;omega
 have N:¬ (1≤w∧w≤8∧1≤l.length∧l.length≤18)→aC w l=false:=fun q=>by
  rw [avT];exact fun h=>q (z1 h)
 refine zz (fun q=>?_) (fun q1=>zz (fun q=>?_) (fun q2=>zz (fun q=>?_) (fun q3=>zz (fun q=>?_) (fun q4=>?_))))
 ·exact ⟨N (by omega),Ext.refl _⟩
 ·exact ⟨N (by omega),Ext.refl _⟩
 ·exact ⟨N (by omega),Ext.refl _⟩
 ·exact ⟨N (by omega),Ext.refl _⟩
 refine cn (fun k D g=>Ext H g∧g.get H.nx=some (.map (smap (lZ (l.take (l.length- k)))))∧k≤l.length∧∃i:Nat,i+k=l.length∧D.get 26=v∧D.get 27= .int .i64 l.length∧D.get 28= .int .i64 i∧D.get 5= .map (some H.nx)∧D.get 6= .int .i64 (dE ((l.take i).map (·.cells)))∧∀j y,j<i→l[j]?=some y→fm l j y=true) ?_ l.length ⟨X0,by simpa [lZ,smap]using g0,avk _,0,by simp,by simp [gT],by simp,by simp,by simp,by simp [dE],fun j y hj=>by omega⟩;rintro k D g ⟨L,gm,hk,i,hi,f26,f27,f28,r,m,aH⟩;rw [show l.length- k=i by omega]at gm;have lW:=L.wf hw;have oF:g.n0≤H.nx:=by rw [L.n0];exact hw
 have T:∀y,l[i]?=some y→fm l i y=false→aC w l=false:=by
  intro y f hn
  have:((List.range l.length).all (FX l))=false:=by
   rw [List.all_eq_false];refine ⟨i,?_,?_⟩
   ·have:=(avm.1 f).1;simpa using this
   ·rw [rv f];simp [hn]
  simp only [iu,this,Bool.false_and,Bool.and_false]
 by_cases h:i<l.length
 ·obtain ⟨y,f⟩:∃y,l[i]?=some y:=⟨_,avg h⟩
  obtain ⟨b,o,c',cL,bM,_⟩:=(hv.ext L).at f;have r9:=mu.2 y (avl f);have aqH:=f26;rw [cL]at f26;obtain ⟨A,R,X2,aiy,Zv,d,P⟩:=eZ (H:=g) lW (z:=3) (c:=[.string ⟨#[]⟩,.int .i64 0,.int .i64 0]) (vs:=[.string y.name,.int .i64 y.level,.int .i64 y.cells]) rfl;have t:A.ld ⟨g.nx,0,none⟩=some (.string y.name):=P 0 _ rfl;have G:A.ld ⟨g.nx,1,none⟩=some (.int .i64 y.level):=P 1 _ rfl;have s:A.ld ⟨g.nx,2,none⟩=some (.int .i64 y.cells):=P 2 _ rfl;clear P;replace d:A.ldn ⟨g.nx,0,none⟩ 3=some [.string y.name,.int .i64 y.level,.int .i64 y.cells]:=d;have kg:=X2.wf lW;have Zw:=X2.get gm;have h0:A.n0≤H.nx:=by rw [Zv];exact oF
  have key:aC w l=true→fm l i y=true:=fun hh=>by
   cases e:fm l i y with
   |true=>rfl
   |false=>rw [T y f e]at hh;cases hh
  have C:jH 1 (.bool false) A (.map (some H.nx)) (.string y.name) false=some (.bool (!decide (jF l y.name=i))):=by
   have hf:=DG y.name (lZ (l.take i));rw [zG,zH f]at hf;by_cases e:jF l y.name=i
   ·rw [DH Zw h0 rfl (by simpa [e]using hf)];simp [e]
   ·rw [gg Zw h0 rfl (by simpa [e]using hf)];simp [e]
  simp (maxSteps:=9^7)-implicitDefEqProofs+contextual [-X.ev,f26,f27,f28,r,m,h,bM,Vr.row,R,t];apply ah
  ·(simp-implicitDefEqProofs [-X.ev];rfl)
  refine (FW y.name r9 A).mono ?_;rintro x H3 ⟨rfl,rfl⟩;have u:=L.trans X2
  cases n1:isName y.name with
  |false=>
   simp (maxSteps:=9^7)-implicitDefEqProofs+contextual [-X.ev,f26,f27,f28,r,m];rw [T y f (by simp [fm,n1])];exact ⟨rfl,u⟩
  |true=>
   by_cases Q:fm l i y=true
   ·obtain ⟨_,m1,m2,m3,m4,m5⟩:isName y.name=true∧0≤y.level∧y.level≤47∧1≤y.cells∧y.cells≤8∧jF l y.name=i:=by simpa [fm]using Q
    have Y:¬ y.level<0:=by omega
    have W:¬ 47<y.level:=by omega
    have V:¬ y.cells<1:=by omega
    have U:¬ 8<y.cells:=by omega
    obtain ⟨H4,sm,X4,Bb,pI,gm4⟩:=iN (v:=.bool true) Zw h0 (kk:=1) (k:=.string y.name) rfl rfl (Jj y.name (.bool true) (lZ (l.take i)) (by
     have:=zH f;simp only [m5,decide_true,Bool.not_true]at this;rw [List.any_eq_false]at this;intro p hp;unfold lZ at hp;obtain ⟨z,J,rfl⟩:=avN.1 hp;have:=this z J
     have e:bD y.name z.name=bD z.name y.name:=by
      rw [avM,gQ,gQ];exact eq_comm
     simpa [e]using this))
    have gw:¬ g.nx=H.nx:=by have:=AH.bc gm;omega
    have FY:=X4.ld (a:=⟨g.nx,2,none⟩) gw s;simp (maxSteps:=9^7)-implicitDefEqProofs+contextual [-X.ev,f26,f27,f28,r,m,t,G,s,C,m5,Y,W,V,U,sm,FY];have Hl:-9223372036854775808≤(i:Int)+1∧(i:Int)+1≤9223372036854775807:=by omega
    rw [ai (n:=(i:Int)+1) Hl];refine ⟨k- 1,by omega,u.mod X4 (by rintro x rfl;exact avk _),?_,by omega,i+1,by omega,cL.symm,by simp,?_,?_⟩
    ·rw [gm4,show l.length- (k- 1)=i+1 by omega,avB,f]
     simp [lZ]
    ·rw [avB]
     simp [dE,avK,f,List.foldl_append]
    ·intro j z hj J
     by_cases e:j=i
     ·subst e;rw [f]at J;cases J;exact Q
     ·exact aH j z (by omega) J
   ·have FZ:fm l i y=false:=by simpa using Q
    have K:=T y f FZ
    have Z:¬ (jF l y.name=i∧¬ y.level<0∧¬ 47<y.level∧¬ y.cells<1∧¬ 8<y.cells):=by
     rintro ⟨a1,a2,a3,a4,a5⟩;apply Q;simp [fm,n1,a1];omega
    by_cases B:jF l y.name=i
    case neg=>
     simp (maxSteps:=9^7)-implicitDefEqProofs+contextual [-X.ev,f26,f27,f28,r,m,t,G,s,C,B,K,u]
    by_cases I:y.level<0
    case pos=>
     simp (maxSteps:=9^7)-implicitDefEqProofs+contextual [-X.ev,f26,f27,f28,r,m,t,G,s,C,B,I,K,u]
    by_cases M:47<y.level
    case pos=>
     simp (maxSteps:=9^7)-implicitDefEqProofs+contextual [-X.ev,f26,f27,f28,r,m,t,G,s,C,B,I,M,K,u]
    by_cases S:y.cells<1
    case pos=>
     simp (maxSteps:=9^7)-implicitDefEqProofs+contextual [-X.ev,f26,f27,f28,r,m,t,G,s,C,B,I,M,S,K,u]
    have p5:8<y.cells:=by
     rcases Int.lt_or_le 8 y.cells with e|e
     ·exact e
     ·exact absurd ⟨B,I,M,S,by omega⟩ Z
    simp (maxSteps:=9^7)-implicitDefEqProofs+contextual [-X.ev,f26,f27,f28,r,m,t,G,s,C,B,I,M,S,p5,K,u]
 ·have hl:i=l.length:=by omega
  have hc:aC w l=decide (dE (l.map (·.cells))≤48):=by
   have a1:bE w=true:=by simp [bE];omega
   have a2:((List.range l.length).all (FX l))=true:=by
    rw [avw];intro j hj
    cases e:l[j]? with
    |none=>unfold FX;rw [e]
    |some y=>rw [rv e];exact aH j y (by simp at hj;omega) e
   have a3:1≤l.length:=by omega
   have a4:l.length≤18:=by omega
   simp only [iu,a1,a2,a3,a4,decide_true,Bool.true_and]
  rw [hl,List.take_length]at m;simp (maxSteps:=9^7)-implicitDefEqProofs+contextual [-X.ev,f26,f27,f28,r,m,h,L,hc]
end
section
open Go
theorem eX {l:List ch} {i:Nat} {y:ch} (h:l[i]?=some y):aw (l.take (i+1))=aw (l.take i)+aA y:=by
 induction l generalizing i with
 |nil=>simp at h
 |cons x l ih=>
  cases i with
  |zero=>simp at h;subst h;simp [aw]
  |succ i=>simp only [List.take_succ_cons,aw];rw [ih (by simpa using h)];omega
theorem bk (l:List ch) (i:Nat):0≤aw (l.take i)∧aw (l.take i)≤aw l:=by
 induction l generalizing i with
 |nil=>simp [aw]
 |cons x l ih=>
  have a:=eA x;have h2:=bf l
  cases i with
  |zero=>simp only [List.take_zero,aw];omega
  |succ i=>simp only [List.take_succ_cons,aw];have:=ih i;omega
theorem gY.row {H:AH} {v:Value} {rows:List (List Value)} {l:List ch} (d:Rows H 4 v rows) (f:gY H rows l) {i:Nat} {y:ch} (k:l[i]?=some y):
 ∃b o c va r,v= .slice (some ⟨b,o,none⟩) l.length c∧H.ldn ⟨b,o+i*4,none⟩ 4=some [.int .i64 y.op,.int .i64 y.n,.int .i64 y.cp,va]∧r=[.int .i64 y.op,.int .i64 y.n,.int .i64 y.cp,va]∧oV H r y:=by
 obtain ⟨r,m,s⟩:=f.at k;obtain ⟨b,o,t,e,q⟩:=d.at m;rw [f.length]at e
 cases s with| @mk op n u va rows args j h g a d p=>
 exact ⟨b,o,t,va,_,e,q,rfl,.mk j h g a d p⟩
theorem wk:∀(N:Nat) (e:ch) (c:List Value) (H:AH),SizeOf.sizeOf e<N→H.n0≤H.nx→oV H c e→aA e<2^60→
 Ca E O 132 [.agg c.toArray] H (fun x H'=>x= .int .i64 (aA e)∧Ext H H'):=by
 intro N
 induction N with
 |zero=>intro e c H h;omega
 |succ N ih=>
  intro e c H hN a V S
  cases V with| @mk op n cp v rows args i1 i2 i3 J I K=>
  refine Ca.aR (F:=NA) rfl rfl rfl ?_;have C:=Ext.alloc H (.cells 4 [.int .i64 op,.int .i64 n,.int .i64 cp,v]);have d0:(H.alloc (.cells 4 [.int .i64 op,.int .i64 n,.int .i64 cp,v])).ld ⟨H.nx,0,none⟩=some (.int .i64 op):=ak a rfl;have d1:(H.alloc (.cells 4 [.int .i64 op,.int .i64 n,.int .i64 cp,v])).ld ⟨H.nx,1,none⟩=some (.int .i64 n):=ak a rfl;have Z:(H.alloc (.cells 4 [.int .i64 op,.int .i64 n,.int .i64 cp,v])).ld ⟨H.nx,2,none⟩=some (.int .i64 cp):=ak a rfl;have L:(H.alloc (.cells 4 [.int .i64 op,.int .i64 n,.int .i64 cp,v])).ld ⟨H.nx,3,none⟩=some v:=ak a rfl;have d:(H.alloc (.cells 4 [.int .i64 op,.int .i64 n,.int .i64 cp,v])).ldn ⟨H.nx,0,none⟩ 4=some [.int .i64 op,.int .i64 n,.int .i64 cp,v]:=bo a 4 rfl;generalize W:H.alloc (.cells 4 [.int .i64 op,.int .i64 n,.int .i64 cp,v])=H1 at C d0 d1 Z L d;have bT:=C.wf a;rw [aA]at S;obtain ⟨a0,c0,t⟩:=I.len;rw [K.length]at t;have P:=L;rw [t]at P;simp (maxSteps:=9^7)-implicitDefEqProofs+contextual [-X.ev,NA,W,P];refine cn (fun k l H'=>Ext H1 H'∧∃i:Nat,i+k=args.length∧l.get 7=v∧l.get 8= .int .i64 args.length∧l.get 9= .int .i64 i∧l.get 3= .int .i64 (1+aw (args.take i))) ?_ args.length ⟨Ext.refl _,0,by simp,by simp [t],by simp,by simp,by simp [aw]⟩;rintro k l g ⟨M,i,hi,m,w,u,A⟩;have p:=C.trans M;have D:=p.wf a;by_cases h:i<args.length
  ·obtain ⟨y,s⟩:∃y,args[i]?=some y:=⟨_,avg h⟩
   obtain ⟨b,o,c',va,r,G,T,rfl,U⟩:=gY.row (I.ext p) (K.ext p) s;have Y:=m;rw [G]at m;obtain ⟨f,Q,B,Jk,Jl,q,j⟩:=eZ (H:=g) D (z:=4) (c:=[.int .i64 0,.int .i64 0,.int .i64 0,.slice none 0 0]) (vs:=[.int .i64 y.op,.int .i64 y.n,.int .i64 y.cp,va]) rfl;have q0:f.ld ⟨g.nx,0,none⟩=some (.int .i64 y.op):=j 0 _ rfl;have q1:f.ld ⟨g.nx,1,none⟩=some (.int .i64 y.n):=j 1 _ rfl;have q2:f.ld ⟨g.nx,2,none⟩=some (.int .i64 y.cp):=j 2 _ rfl;have q3:f.ld ⟨g.nx,3,none⟩=some va:=j 3 _ rfl;clear j;replace q:f.ldn ⟨g.nx,0,none⟩ 4=some [.int .i64 y.op,.int .i64 y.n,.int .i64 y.cp,va]:=q;have R:=B.wf D;have t1:=eX s;have t2:=bk args (i+1);have t3:=bk args i;have t4:=eA y;have hs:=iq (op:=op) (n:=n) (cp:=cp) s;simp (maxSteps:=9^7)-implicitDefEqProofs+contextual [-X.ev,m,w,u,A,h,T,Q,q];apply ah
   ·(simp-implicitDefEqProofs [-X.ev];rfl)
   refine (ih y _ f (by omega) R (U.ext B) (by omega)).mono ?_;rintro x H4 ⟨rfl,X4⟩;simp (maxSteps:=9^7)-implicitDefEqProofs+contextual [-X.ev,m,w,u,A];rw [ai (n:=(i:Int)+1) ⟨by omega,by omega⟩,ai ⟨by omega,by omega⟩];exact ⟨k- 1,by omega,M.trans (B.trans X4),i+1,by omega,G.symm,by simp,by omega⟩
  ·simp (maxSteps:=9^7)-implicitDefEqProofs+contextual [-X.ev,m,w,u,A,h]
   rw [avn (by omega)];exact ⟨by rw [aA],p⟩
def nc (V:List Vr) (op n:Int):Int:=
 if op=0 then 0 else if op=1∧0≤n∧n<V.length then(if 1<aq V n then 1 else 0)else
 if(2≤op∧op≤11)∨op=13∨op=14 then 2 else if op=12 then 1 else if op=15 then 3 else-1
theorem Jm {w kk op n cp:Int} {vv va:Value} {V:List Vr} {H:AH} (g:H.n0≤H.nx) (t:dI H vv V):
 Ca E O 174 [.agg #[.int .i64 w,vv,.int .i64 kk],.agg #[.int .i64 op,.int .i64 n,.int .i64 cp,va]] H (fun x H'=>x= .int .i64 (nc V op n)∧Ext H H'):=by
 refine Ca.aR (F:=FM) rfl rfl rfl ?_;have r:=Ext.alloc H (.cells 3 [.int .i64 w,vv,.int .i64 kk]);have G:(H.alloc (.cells 3 [.int .i64 w,vv,.int .i64 kk])).ld ⟨H.nx,0,none⟩=some (.int .i64 w):=ak g rfl;have c:(H.alloc (.cells 3 [.int .i64 w,vv,.int .i64 kk])).ld ⟨H.nx,1,none⟩=some vv:=ak g rfl;have D:(H.alloc (.cells 3 [.int .i64 w,vv,.int .i64 kk])).ld ⟨H.nx,2,none⟩=some (.int .i64 kk):=ak g rfl;have d:(H.alloc (.cells 3 [.int .i64 w,vv,.int .i64 kk])).ldn ⟨H.nx,0,none⟩ 3=some [.int .i64 w,vv,.int .i64 kk]:=bo g 3 rfl;generalize p:H.alloc (.cells 3 [.int .i64 w,vv,.int .i64 kk])=a at r G c D d;have f:=r.wf g;have l:=Ext.alloc a (.cells 4 [.int .i64 op,.int .i64 n,.int .i64 cp,va]);have k:(a.alloc (.cells 4 [.int .i64 op,.int .i64 n,.int .i64 cp,va])).ld ⟨a.nx,0,none⟩=some (.int .i64 op):=ak f rfl;have j:(a.alloc (.cells 4 [.int .i64 op,.int .i64 n,.int .i64 cp,va])).ld ⟨a.nx,1,none⟩=some (.int .i64 n):=ak f rfl;have C:(a.alloc (.cells 4 [.int .i64 op,.int .i64 n,.int .i64 cp,va])).ld ⟨a.nx,2,none⟩=some (.int .i64 cp):=ak f rfl;have B:(a.alloc (.cells 4 [.int .i64 op,.int .i64 n,.int .i64 cp,va])).ld ⟨a.nx,3,none⟩=some va:=ak f rfl;have e:(a.alloc (.cells 4 [.int .i64 op,.int .i64 n,.int .i64 cp,va])).ldn ⟨a.nx,0,none⟩ 4=some [.int .i64 op,.int .i64 n,.int .i64 cp,va]:=bo f 4 rfl;generalize m:a.alloc (.cells 4 [.int .i64 op,.int .i64 n,.int .i64 cp,va])=M at l k j C B e;have I:=l.wf f;have X:=r.trans l;replace c:=l.ld c;by_cases h:0≤n∧n<V.length
 ·obtain ⟨h,h2⟩:=h
  obtain ⟨y,s⟩:∃y,V[n.toNat]?=some y:=⟨_,avg (by omega)⟩
  obtain ⟨b,o,K,v,_,_,_,z⟩:=(t.ext X).at s;have i:aq V n=y.cells:=by simp [aq,s]
  rw [v]at c;simp (maxSteps:=9^7)-implicitDefEqProofs+contextual [-X.ev,FM,p,m,c,k,j,h,h2,z,X,i,nc]
 ·have i:nc V op n=if op=0 then 0 else if(2≤op∧op≤11)∨op=13∨op=14 then 2 else if op=12 then 1 else if op=15 then 3 else-1:=by
   unfold nc;simp only [h,and_false,if_false]
  obtain ⟨L,J,u⟩:=t.len;rw [u]at c;by_cases h2:0≤n
  ·have A:¬ n<V.length:=fun q=>h ⟨h2,q⟩
   simp (maxSteps:=9^7)-implicitDefEqProofs+contextual [-X.ev,FM,p,m,c,k,j,h2,A,X,i]
  ·simp (maxSteps:=9^7)-implicitDefEqProofs+contextual [-X.ev,FM,p,m,c,k,j,h2,X,i]
end
end Go.Proofs.YtppcmpmnglaleaaGreatDoor.A
