/- Texts that stand one behind the other: S48, S49, S50, S51, S52, Pm0, Pm1, Pm2, Pm3, Pm4, Pm5. -/
import Derived.Test.YtppcmpmnglaleaaGreatDoorG18
set_option linter.unusedVariables false
set_option linter.unusedSimpArgs false
set_option maxRecDepth 10000
namespace Go.Proofs.YtppcmpmnglaleaaGreatDoor.A
section
open Go
structure uM (G H:AH) (m:Nat) (p:aU) (ps:List Int) (v:MV) (c:dY):Prop where
 is:∃rows,MH G H m v rows c.store c.outs c.trace∧(c.over=false→∃fs,gC (RJ G) rows fs∧c.todo=nq fs)∧(rows.length:Int)+2*c.fuel≤2^20
 w:v.w=p.w
 vars:dI G v.vv p.vars
 cap:JM v.vv
 bN:fC G v.vp ps
 mt:Mt v c
 inv:Inv p ps c
 ov:c.over=true→c.todo=[]
def cT (c:dY):Bool:=c.over||c.todo.isEmpty
theorem uM.mod {G H H':AH} {m:Nat} {p:aU} {ps:List Int} {v:MV} {c:dY} {T:Nat→Prop} (h:uM G H m p ps v c) (M:Mod T H H') (a:∀b,T b→¬ Mf m v b) (d:∀b,T b→G.get b=none):uM G H' m p ps v c:=by
 obtain ⟨rows,f,h2,e⟩:=h.is;exact {h with is:=⟨rows,f.mod M a d,h2,e⟩}
theorem uM.ext {G H H':AH} {m:Nat} {p:aU} {ps:List Int} {v:MV} {c:dY} (h:uM G H m p ps v c) (X:Ext H H'):uM G H' m p ps v c:=h.mod (Mod.cv (S:=fun _=>False) X) (by simp) (by simp)
theorem Ab {α β:Type} {C:α→β→Prop} {l:List α} (h:gC C l []):l=[]:=by cases h;rfl
theorem rE {α β:Type} {C:α→β→Prop}:∀{l:List α} {k:List β} {b:β},gC C l (k++[b])→∃c a,l=c++[a]∧gC C c k∧C a b
 |_,[],b,.cons h .nil=>⟨[],_,rfl,.nil,h⟩
 |_,x::k,b,.cons h t=>by
  obtain ⟨c,a,rfl,d,h2⟩:=rE t;exact ⟨_::c,a,rfl,.cons h d,h2⟩
theorem Ac (p:aU) (c:dY) (s:bF) (next:List kJ):bY p {c with fuel:=c.fuel- 1,cost:=c.cost+1} s next=iz p c s next:=rfl
theorem ajO {G H:AH} {m:Nat} {p:aU} {ps:List Int} {v:MV} {c:dY} {a rs:List (List Value)} {b:List (List bF×Int)} {d:Value} {cs:List Value} {k:Int} {l:List bF} {op n:Int} {args:List ch} {thn els:List bF} (q:Value) (h:Mr G H m p ps v c a b d cs rs k (.mk op n args thn els) l):
 0≤op∧op<7∧∃f,([.func (.func 108) #[q] #[],.func (.func 109) #[q] #[],.func (.func 110) #[q] #[],.func (.func 111) #[q] #[],.func (.func 112) #[q] #[],.func (.func 113) #[q] #[],.func (.func 114) #[q] #[]]:List Value)[op.toNat]?=some (.func (.func f) #[q] #[])∧
  me G H f m p ps v c a.length b cs k (.mk op n args thn els) l:=by
 obtain ⟨_,_,_,e⟩:=gj h.row;rcases e with⟨rfl,_⟩|⟨rfl,_⟩|⟨rfl,_⟩|⟨rfl,_⟩|⟨rfl,_⟩|⟨rfl|rfl,_⟩
 ·exact ⟨by omega,by omega,_,rfl,O0 h⟩
 ·exact ⟨by omega,by omega,_,rfl,Gl h⟩
 ·exact ⟨by omega,by omega,_,rfl,OY h⟩
 ·exact ⟨by omega,by omega,_,rfl,OZ h⟩
 ·exact ⟨by omega,by omega,_,rfl,J1 h⟩
 ·exact ⟨by omega,by omega,_,rfl,JW h⟩
 ·exact ⟨by omega,by omega,_,rfl,JX h⟩
theorem Gm {p:aU} {ps:List Int} {c:dY} {k:Int} {s:bF} {vals:List Int} {next:List kJ} (h:c.over=false):(cN p ps c k s vals next).over=true→(cN p ps c k s vals next).todo=[]:=by
 obtain ⟨op,n,args,i,j⟩:=s;unfold cN;intro q;by_cases g:op=0
 ·simp only [if_pos g,gh]at q⊢;rw [h]at q;cases q
 simp only [if_neg g]at q⊢;by_cases f:op=1
 ·simp only [if_pos f]at q⊢;rw [h]at q;cases q
 simp only [if_neg f]at q⊢;by_cases e:op=2
 ·simp only [if_pos e]at q⊢;rw [h]at q;cases q
 simp only [if_neg e]at q⊢;by_cases d:op=3
 ·simp only [if_pos d]at q⊢;rw [h]at q;cases q
 simp only [if_neg d]at q⊢;by_cases b:op=4
 ·simp only [if_pos b]at q⊢
  by_cases u:ps.length≤c.used
  ·simp only [if_pos u];rfl
  ·simp only [if_neg u,gh]at q;rw [h]at q;cases q
 simp only [if_neg b]at q⊢;by_cases a:op=5
 ·simp only [if_pos a]at q⊢
  by_cases u:eu vals 0=0
  ·simp only [if_pos u];rfl
  ·simp only [if_neg u]at q;rw [h]at q;cases q
 simp only [if_neg a]at q⊢;by_cases u:eu vals 0=0
 ·simp only [if_pos u];rfl
 ·simp only [if_neg u]at q;rw [h]at q;cases q
theorem uN {p:aU} {ps:List Int} {c:dY} {k:Int} {s:bF} {vals:List Int} {next:List kJ}:(cN p ps c k s vals next).fuel=c.fuel:=by
 obtain ⟨op,n,args,h,i⟩:=s;unfold cN;by_cases g:op=0
 ·simp only [if_pos g];rfl
 simp only [if_neg g];by_cases f:op=1
 ·simp only [if_pos f]
 simp only [if_neg f];by_cases e:op=2
 ·simp only [if_pos e]
 simp only [if_neg e];by_cases d:op=3
 ·simp only [if_pos d]
 simp only [if_neg d];by_cases b:op=4
 ·simp only [if_pos b];split<;>rfl
 simp only [if_neg b];by_cases a:op=5
 ·simp only [if_pos a];split<;>rfl
 simp only [if_neg a];split<;>rfl
structure ajP (G H:AH) (m:Nat) (p:aU) (ps:List Int) (v:MV) (H':AH) (c':dY):Prop where
 is:∃v',uM G H' m p ps v' c'∧Mod (Mf m v) H H'∧(∀b,Mf m v' b→Mf m v b∨H.nx≤b)∧Sm v v'
theorem O2 {G H:AH} {m:Nat} {p:aU} {ps:List Int} {v:MV} {c:dY} (h:uM G H m p ps v c):
 Ca E O 78 [.pointer (some ⟨m,0,none⟩)] H (fun x H'=>x= .bool (!cT c&& !(bI p ps c).over)∧ajP G H m p ps v H' (bI p ps c)):=by
 refine Ca.aR (F:=W3) rfl rfl rfl ?_;obtain ⟨rows,g,V,xu⟩:=h.is;obtain ⟨m1,m2,m3,m4,m5,m6⟩:=h.mt;have C:=aL g.get g.n0 (k:=13) (v:=.bool v.ended) rfl
 cases i:c.over with
 |true=>
  have hs:bI p ps c=c:=by unfold bI;rw [if_pos i]
  rw [m6,i]at C;have L:cT c=true:=by simp [cT,i]
  rw [hs,L];simp (maxSteps:=9^7)-implicitDefEqProofs+contextual [-X.ev,W3,C];exact ⟨v,h,Mod.refl _ _,fun b hb=>.inl hb,rfl,rfl,rfl,rfl⟩
 |false=>
  rw [m6,i]at C;obtain ⟨fs,aH,u⟩:=V i;rcases List.eq_nil_or_concat fs with rfl|⟨j,f,V⟩
  ·have Hu:=Ab aH
   subst Hu;have ht:c.todo=[]:=u;have hs:bI p ps c=c:=by unfold bI;rw [if_neg (by rw [i];decide),ht]
   have L:cT c=true:=by simp [cT,ht]
   rw [hs,L];simp (maxSteps:=9^7)-implicitDefEqProofs+contextual [-X.ev,W3,C];apply ah
   ·(simp-implicitDefEqProofs [-X.ev];rfl)
   refine (JL g.wf g.get g.n0 g.fr).mono ?_;rintro x Q ⟨rfl,y⟩;obtain ⟨H2,R,P,yO,qW,g2⟩:=jN (y.wf g.wf) (z:=5) (c:=zS) (vs:=zS) rfl;simp (maxSteps:=9^7)-implicitDefEqProofs+contextual [-X.ev,R];exact ⟨v,h.ext (y.trans P),Mod.cv (y.trans P),fun b hb=>.inl hb,rfl,rfl,rfl,rfl⟩
  ·rw [List.concat_eq_append]at V
   subst V;obtain ⟨dB,r,rfl,h0,vl,rs,rfl,hr,UU,MC,gw,gF⟩:=rE aH;obtain ⟨lst,k⟩:=f
   cases UU with
   |nil=>exact absurd rfl gw
   | @cons cs s rs l hs hl=>
   rw [ko,mc]at u;simp only [List.cons_append]at u;have M:=hs.len;have a:=h.inv;obtain ⟨Cm,Bg,kI,mP⟩:=a.todo (k,s) (by rw [u];simp);simp only at Cm Bg mP gF hr;have pc:=kQ s;have ajQ:=a.UT;have hfu:=a.fuel;have Bi:=a.tr;have hou:=a.ou;have MP:=a.co;have hus:=a.used;have L:cT c=false:=by simp [cT,i,u]
   have r4:=aL g.get g.n0 (k:=4) (v:=.int .i64 v.fuel) rfl;rw [m5]at r4;simp only [avp,List.length_singleton]at xu;rw [L];simp (maxSteps:=9^7)-implicitDefEqProofs+contextual [-X.ev,W3,C];apply ah
   ·(simp-implicitDefEqProofs [-X.ev];rfl)
   refine (OV g.wf g.get g.n0 g.fr (by omega) g.sub hr).mono ?_;rintro x Q ⟨rfl,y⟩;have S:=y.wf g.wf;obtain ⟨H2,R,P,yO,qW,g2⟩:=jN S (z:=5) (c:=zS) (vs:=cs) M;have Y:=y.trans P;have jG:=P.wf S;have M2:=g.ext Y;have o:=Y.ld r4;by_cases hf:c.fuel=0
   ·have T:bI p ps c=dZ c 3 k:=by unfold bI;rw [if_neg (by rw [i];decide),u];show(if c.fuel=0 then _ else _)=_;rw [if_pos hf]
    rw [hf]at o;simp (maxSteps:=9^7)-implicitDefEqProofs+contextual [-X.ev,M,R,o];apply ah
    ·(simp-implicitDefEqProofs [-X.ev];rfl)
    refine (th (how:=3) (n:=k) M2).mono ?_;rintro x H3 ⟨rfl,B⟩;rw [T];have I:(dZ c 3 k).over=true:=rfl;simp (maxSteps:=9^7)-implicitDefEqProofs+contextual [-X.ev,I];have A:=(jr.nm g Y).trans B;exact ⟨_,{is:=⟨_,A.mh,fun q=>by rw [I]at q;exact absurd q (by decide),by rw [avp,List.length_singleton];show _+2*c.fuel≤2^20;omega⟩,w:=h.w,vars:=h.vars,cap:=h.cap,bN:=h.bN,mt:=⟨rfl,m2,m3,rfl,m5,rfl⟩,inv:=nu a 3 k,ov:=fun _=>rfl},A.mod,A.new,rfl,rfl,rfl,rfl⟩
   ·have T:bI p ps c=cN p ps (iz p c s (cK l k s j)) k s (bV p.w p.vars [c.store] s.args) (cK l k s j):=by unfold bI;rw [if_neg (by rw [i];decide),u];show(if c.fuel=0 then _ else _)=_;rw [if_neg hf]
    have w1:IntKind.i64.wrap (c.fuel- 1)=c.fuel- 1:=ai ⟨by omega,by omega⟩;have w2:IntKind.i64.wrap (c.cost+1)=c.cost+1:=ai ⟨by omega,by omega⟩;obtain ⟨H3,s3,B,tg,nU⟩:=M2.cell (v':={v with fuel:=c.fuel- 1}) 4 (.int .i64 (c.fuel- 1)) (by omega) rfl rfl rfl rfl rfl;have D:=aL B.mh.get B.mh.n0 (k:=10) (v:=.int .i64 v.cost) rfl;rw [m2]at D;obtain ⟨H4,s4,A4,Bb,pI⟩:=B.mh.cell (v':={v with fuel:=c.fuel- 1,cost:=c.cost+1}) 10 (.int .i64 (c.cost+1)) (by omega) rfl rfl rfl rfl rfl;have B4:=B.trans A4;have M4:=A4.mh
    obtain ⟨q,hq⟩:∃q:Value,.pointer (some ⟨m,0,none⟩)=q:=⟨_,rfl⟩
    obtain ⟨H5,s5,X5,Ro,zK,g5⟩:=jN M4.wf (z:=7) (c:=[.nilFunc,.nilFunc,.nilFunc,.nilFunc,.nilFunc,.nilFunc,.nilFunc]) (vs:=[.func (.func 108) #[q] #[],.func (.func 109) #[q] #[],.func (.func 110) #[q] #[],.func (.func 111) #[q] #[],.func (.func 112) #[q] #[],.func (.func 113) #[q] #[],.func (.func 114) #[q] #[]]) rfl;subst hq;have M5:=M4.ext X5;have sw:=M5.wf;have nb:¬ Mf m v Q.nx:=fun q=>by have:=g.lt q;have:=y.nx;omega
    have N:=X5.get (B4.mod.get nb g2);have n5:H5.n0≤Q.nx:=by rw [zK,pI,nU,qW];exact S
    have lcs:H5.ldn ⟨Q.nx,0,none⟩ 5=some cs:=by rw [b9 N n5 (by omega)];simp [avn (Nat.le_of_eq M)]
    obtain ⟨op,n,args,d,e⟩:=s;have ajS:∃t,cs= .int .i64 op::t:=by cases hs;exact ⟨_,rfl⟩
    obtain ⟨t,rfl⟩:=ajS;have l0:=aL N n5 (k:=0) (v:=.int .i64 op) rfl
    have hAt:Mr G H5 m p ps {v with fuel:=c.fuel- 1,cost:=c.cost+1} {c with fuel:=c.fuel- 1,cost:=c.cost+1} dB j vl (.int .i64 op::t) rs k (.mk op n args d e) l:=
     {mh:=M5,hr:=hr,hf:=MC,hs:=hs,hl:=hl,h0:=h0,w:=h.w,vars:=h.vars,cap:=h.cap,bN:=h.bN,head:=a.head,store:=a.store,mt:=⟨m1,rfl,m3,m4,rfl,m6⟩,ov:=i,row:=kI,b1:=by omega,b2:=by omega,b3:=by omega,b4:=by simpa using gF,b5:=by show c.trace.length≤2^31;omega,b6:=by show c.outs.length≤2^31;omega,b7:=by show 0≤c.cost+1∧c.cost+1≤2^50;omega,b8:=by show c.used≤ps.length∧_;omega}
    obtain ⟨ho1,ho2,f,jK,gk⟩:=ajO (.pointer (some ⟨m,0,none⟩)) hAt;have lf:=aL g5 (by rw [zK];exact M4.wf) jK;have vO:fD [.nilFunc,.nilFunc,.nilFunc,.nilFunc,.nilFunc,.nilFunc,.nilFunc] [(0,1,.func (.func 108) #[.pointer (some ⟨m,0,none⟩)] #[]),(1,1,.func (.func 109) #[.pointer (some ⟨m,0,none⟩)] #[]),(2,1,.func (.func 110) #[.pointer (some ⟨m,0,none⟩)] #[]),(3,1,.func (.func 111) #[.pointer (some ⟨m,0,none⟩)] #[]),(4,1,.func (.func 112) #[.pointer (some ⟨m,0,none⟩)] #[]),(5,1,.func (.func 113) #[.pointer (some ⟨m,0,none⟩)] #[]),(6,1,.func (.func 114) #[.pointer (some ⟨m,0,none⟩)] #[])]=some (.agg #[.func (.func 108) #[.pointer (some ⟨m,0,none⟩)] #[],.func (.func 109) #[.pointer (some ⟨m,0,none⟩)] #[],.func (.func 110) #[.pointer (some ⟨m,0,none⟩)] #[],.func (.func 111) #[.pointer (some ⟨m,0,none⟩)] #[],.func (.func 112) #[.pointer (some ⟨m,0,none⟩)] #[],.func (.func 113) #[.pointer (some ⟨m,0,none⟩)] #[],.func (.func 114) #[.pointer (some ⟨m,0,none⟩)] #[]]):=rfl;have W:=gk _ rfl;rw [Ac]at W;rw [T]
    obtain ⟨c',mG⟩:∃c',cN p ps (iz p c (.mk op n args d e) (cK l k (.mk op n args d e) j)) k (.mk op n args d e) (bV p.w p.vars [c.store] args) (cK l k (.mk op n args d e) j)=c':=⟨_,rfl⟩
    have U:=qF a;have J:=Gm (p:=p) (ps:=ps) (c:=iz p c (.mk op n args d e) (cK l k (.mk op n args d e) j)) (k:=k) (s:=.mk op n args d e) (vals:=bV p.w p.vars [c.store] args) (next:=cK l k (.mk op n args d e) j) i;have K:=uN (p:=p) (ps:=ps) (c:=iz p c (.mk op n args d e) (cK l k (.mk op n args d e) j)) (k:=k) (s:=.mk op n args d e) (vals:=bV p.w p.vars [c.store] args) (next:=cK l k (.mk op n args d e) j);rw [T]at U;simp only [bF.args]at W U⊢;rw [mG]at W U J K⊢;have ajT:c'.fuel=c.fuel- 1:=K;have gl:H2.ldn ⟨Q.nx,0,none⟩ 5=some (.int .i64 op::t):=by rw [b9 g2 (by rw [qW];exact S) (by omega)];simp [avn (Nat.le_of_eq M)]
    have B5:=(jr.nm g Y).trans (B4.ext X5);simp (maxSteps:=9^7)-implicitDefEqProofs+contextual [-X.ev,M,R,o,hf,w1,s3,D,w2,s4,vO,s5,l0,ho1,ho2,lf,lcs,bu,aM,aN];apply lF
    ·(simp-implicitDefEqProofs [-X.ev,-Value.func.injEq];rfl)
    ·(simp-implicitDefEqProofs [-X.ev];rfl)
    refine W.mono ?_;rintro x H6 ⟨rfl,v',dP,A6,ajU,hr6,ajV,aaG⟩;have A:=B5.trans A6;have x6n:=A6.mod.n0;have Z:=A6.mod.nx;simp (maxSteps:=9^7)-implicitDefEqProofs+contextual [-X.ev,bu,aM,aN,x6n,Z];obtain ⟨q1,q2,q3,q4⟩:=aaG;exact ⟨v',{is:=⟨dP,A.mh,ajU,by rw [ajT];omega⟩,w:=q1.trans h.w,vars:=by rw [q2];exact h.vars,cap:=by rw [q2];exact h.cap,bN:=by rw [q3];exact h.bN,mt:=ajV,inv:=U,ov:=J},A.mod,A.new,q1,q2,q3,q4⟩
open Go
theorem dU.UW {H:AH} {sz:Nat} {v:Value} {rows:List (List Value)} {r r':List Value} (h:dU H sz v (rows++[r])) (l:r'.length=sz):∃b,v= .slice (some ⟨b,0,none⟩) (rows.length+1) (rows.length+1)∧∃H',H.st ⟨b,rows.length*sz,none⟩ r'=some H'∧dU H' sz v (rows++[r'])∧Mod (fun q=>q=b) H H'∧H'.nx=H.nx∧H'.n0=H.n0:=by
 rcases h.is with⟨_,e⟩|⟨b,e,f,g⟩
 ·simp at e
 have d:∀q∈rows,q.length=sz:=fun q a=>h.len q (by simp [a])
 have o:=h.len r (by simp);have m:=cJ d;obtain ⟨H',st,M,j,c,n⟩:=cm g f (k:=rows.length*sz) (vs:=r') (by rw [cJ h.len];simp only [avp,List.length_singleton,Nat.succ_mul];omega);have i:v= .slice (some ⟨b,0,none⟩) (rows.length+1) (rows.length+1):=by rw [e];simp
 refine ⟨b,i,H',st,⟨.inr ⟨b,by rw [i];simp,by rw [c];exact f,?_⟩,?_⟩,M,j,c⟩
 ·rw [n]
  have:=rC rows.flatten r r' [] (by omega);rw [m]at this;simp only [List.append_nil]at this;simp only [List.flatten_append,List.flatten_cons,List.flatten_nil,List.append_nil];rw [this]
 ·intro q a
  rcases avA.1 a with a|a
  ·exact d q a
  ·simp at a;subst a;exact l
def ee (p:aU) (fuel:Int) (t:dW):dY:=⟨0,t.store,[],[],0,0,0,fuel,bO p.body 0,false⟩
theorem ot {p:aU} {fuel:Int} {t:dW} (h:fQ p fuel t=0):Inv p t.bN (ee p fuel t)∧bm p=true∧0≤fuel∧fuel≤4096∧jo p t=true:=by
 unfold fQ at h
 cases d:bm p with
 |false=>rw [if_pos d]at h;omega
 |true=>
  rw [if_neg (by rw [d];decide)]at h;by_cases h2:fuel<0∨4096<fuel
  ·rw [if_pos h2]at h;omega
  rw [if_neg h2]at h
  cases e:jo p t with
  |false=>rw [if_pos e]at h;omega
  |true=>
   have b:=d;have c:=e;simp only [bm,avj,avs]at b;simp only [jo,avj,avs,avw]at c
   have f:1≤p.w∧p.w≤8:=⟨(aD b.1).1,(aD b.1).2.1⟩
   have i:=aK p.body;refine ⟨⟨b.1,c.1,fun a g=>?_,⟨by show 0≤_;omega,c.2.1⟩,by omega,?_,by show 0≤fuel∧fuel≤4096;omega,by show(0:Int)+500*fuel≤2^30;omega,by show(0:Int)+fuel≤2^30;omega,by show 0≤(0:Int)∧0+500*fuel≤2^40;omega⟩,rfl,by omega,by omega,rfl⟩
   ·have:=c.2.2 a g
    rw [lI f]at this;simp at this;exact this
   ·exact qE p.body 0 (by omega) (by omega) b.2.2.2 (by omega)
structure Made (H:AH) (p:aU) (ps:List Int) (H':AH) (m:Nat) (c:dY):Prop where
 is:∃G v,uM G H' m p ps v c∧Ext H H'∧(∀b,Mf m v b→H.nx≤b)∧∀b x,G.get b=some x→H.nx≤b
abbrev qG (w fuel:Int) (vp vv vb vs vf:Value):MV:=⟨vf,w,vv,vb,fuel,vp,0,vs,.slice none 0 0,.slice none 0 0,0,0,0,false⟩
theorem xR:fI zS zS=true:=by simp [zS]
theorem UX {p:aU} {t:dW} {c d:List Value} {fuel:Int} {H:AH} (hw:H.n0≤H.nx) (hp:ru H c p) (ht:zy H d t):
 Ca E O 77 [.agg c.toArray,.int .i64 fuel,.agg d.toArray] H (fun x H'=>if fQ p fuel t=0 then∃m,x= .tuple #[.pointer (some ⟨m,0,none⟩),.int .i64 0]∧Made H p t.bN H' m (ee p fuel t)else x= .tuple #[.pointer none,.int .i64 (fQ p fuel t)]∧Ext H H'):=by
 refine Ca.aR (F:=a77) rfl rfl rfl ?_;have hc:=hp.len;have hd:d.length=2:=by obtain ⟨vs,vp,e,_⟩:=ht.is;rw [e];rfl
 have X1:=Ext.alloc H (.cells c.length c);have q:(H.alloc (.cells c.length c)).ldn ⟨H.nx,0,none⟩ 3=some c:=bo hw 3 (by assumption);generalize cM:H.alloc (.cells c.length c)=H1 at X1 q;have bT:=X1.wf hw;have X2:=Ext.alloc H1 (.cells d.length d);have r:(H1.alloc (.cells d.length d)).ldn ⟨H1.nx,0,none⟩ 2=some d:=bo bT 2 (by assumption);generalize kH:H1.alloc (.cells d.length d)=H2 at X2 r;have kg:=X2.wf bT;replace q:=X2.ldn q;have X:=X1.trans X2;simp (maxSteps:=9^7)-implicitDefEqProofs+contextual [-X.ev,a77,cM,kH,q];apply ah
 ·(simp-implicitDefEqProofs [-X.ev];rfl)
 refine (rz kg (hp.ext X)).mono ?_;rintro x H3 ⟨rfl,X3⟩;replace q:=X3.ldn q;replace r:=X3.ldn r;have jd:=X.trans X3
 cases B:bm p with
 |false=>
  have M:fQ p fuel t=30:=by unfold fQ;rw [if_pos B]
  simp (maxSteps:=9^7)-implicitDefEqProofs+contextual [-X.ev,B,M,jd]
 |true=>
  by_cases h2:fuel<0
  ·have M:fQ p fuel t=1:=by unfold fQ;rw [if_neg (by rw [B];decide),if_pos (.inl h2)]
   simp (maxSteps:=9^7)-implicitDefEqProofs+contextual [-X.ev,B,h2,M,jd]
  by_cases h3:4096<fuel
  ·have M:fQ p fuel t=1:=by unfold fQ;rw [if_neg (by rw [B];decide),if_pos (.inr h3)]
   simp (maxSteps:=9^7)-implicitDefEqProofs+contextual [-X.ev,B,h2,h3,M,jd]
  simp (maxSteps:=9^7)-implicitDefEqProofs+contextual [-X.ev,B,h2,h3,q,r];apply ah
  ·(simp-implicitDefEqProofs [-X.ev];rfl)
  refine (uy (X3.wf kg) (hp.ext jd) (ht.ext jd) B).mono ?_;rintro x H4 ⟨rfl,X4⟩;replace q:=X4.ldn q;replace r:=X4.ldn r;have N:=jd.trans X4;have qY:=N.wf hw
  cases h4:jo p t with
  |false=>
   have M:fQ p fuel t=50:=by unfold fQ;rw [if_neg (by rw [B];decide),if_neg (by omega),if_pos h4]
   simp (maxSteps:=9^7)-implicitDefEqProofs+contextual [-X.ev,h4,M,N]
  |true=>
   have M:fQ p fuel t=0:=by unfold fQ;rw [if_neg (by rw [B];decide),if_neg (by omega),if_neg (by rw [h4];decide)]
   obtain ⟨g,_,hf1,hf2,_⟩:=ot M;have hp4:=hp.ext N;have ht4:=ht.ext N;obtain ⟨S,C,rb,rfl,hi,hv,A7,hr,hl,nS⟩:=hp4.is;obtain ⟨vs,vp,rfl,ss,sp,l1,l2,_,_⟩:=ht4.is;have q1:=aQ q (j:=1) rfl;have q2:=aQ q (j:=2) rfl;have r0:=aQ r (j:=0) rfl;have r1:=aQ r (j:=1) rfl;simp only [Nat.zero_add]at q1 q2 r0 r1;have hpk:=g.used.2
   have pZ:t.store.length≤48:=by
    have:=g.store;simp only [bq,avj,avs]at this;have h48:=(iR g.head).2.2;have e:=this.1;simp only [ee]at e;omega
   have hVl:=(iR g.head).2.1;simp (maxSteps:=9^7)-implicitDefEqProofs+contextual [-X.ev,h4,q,r1];apply ah
   ·(simp-implicitDefEqProofs [-X.ev];rfl)
   refine (lH qY sp (by omega)).mono ?_;rintro l H5 ⟨o5,X5,k5⟩;obtain ⟨pa,pc,Rq⟩:=o5.shape;have sw:=X5.wf qY
   have vO:fD [.slice none 0 0,.int .i64 0,.slice none 0 0,.slice none 0 0,.int .i64 0,.slice none 0 0,.int .i64 0,.slice none 0 0,.slice none 0 0,.slice none 0 0,.int .i64 0,.int .i64 0,.int .i64 0,.bool false] [(1,3,.agg #[.int .i64 p.w,S,C]),(4,1,.int .i64 fuel),(5,1,l)]=some (.agg (qG p.w fuel l S C (.slice none 0 0) (.slice none 0 0)).cells.toArray):=by
    rw [Rq];rfl
   have gm:=cQ H5 (.cells 14 (qG p.w fuel l S C (.slice none 0 0) (.slice none 0 0)).cells);have X6:=Ext.alloc H5 (.cells 14 (qG p.w fuel l S C (.slice none 0 0) (.slice none 0 0)).cells)
   obtain ⟨H6,hH6⟩:∃H6,H5.alloc (.cells 14 (qG p.w fuel l S C (.slice none 0 0) (.slice none 0 0)).cells)=H6:=⟨_,rfl⟩
   rw [hH6]at gm X6
   obtain ⟨m,hm⟩:∃m,H5.nx=m:=⟨_,rfl⟩
   rw [hm]at gm;have RB:=X5.nx;have Mq:=X5.n0;have x6x:=X6.nx;have mlt:=AH.bc gm;have X46:=X5.trans X6;have ajX:=X46.ld q1;have F6:=X6.wf sw;have q5:=X5.ldn q;have cc1:H4.nx≤m:=by omega
   have cc2:H6.n0=H4.n0:=X6.n0.trans Mq;have cc3:m≤H6.nx:=by omega
   obtain ⟨va0,vc0,ajZ⟩:=hv.len;obtain ⟨ba0,bc0,aaH⟩:=hr.len;have svv:dK S S=true:=by rw [ajZ];simp
   have svb:dK C C=true:=by rw [aaH];simp
   simp (maxSteps:=9^7)-implicitDefEqProofs+contextual [-X.ev,vO,hH6,q,q5,svv,svb,Mq,cc1,cc2,cc3,bu,aM,aN,ajX,hm];apply ah
   ·(simp-implicitDefEqProofs [-X.ev];rfl)
   refine (nW (f:=103) (sz:=3) (bytes:=32) rfl rfl F6 (hv.ext X46) (by simp;omega) (by simp;omega)).mono ?_;rintro x H7 ⟨o7,X7,k7⟩;have x7x:=X7.nx;have U:H.n0≤m:=by have:=N.nx;omega
   obtain ⟨wa,wc,O1⟩:=o7.shape;rw [List.length_map]at O1;obtain ⟨H8,s8,M8,Xq,DT,g8⟩:=cm (X7.get gm) (by rw [X7.n0,cc2,N.n0];exact U) (k:=2) (vs:=[x]) (by simp);have Uw:aP (qG p.w fuel l S C (.slice none 0 0) (.slice none 0 0)).cells 2 [x]=(qG p.w fuel l x C (.slice none 0 0) (.slice none 0 0)).cells:=rfl;rw [Uw]at g8;obtain ⟨H9,s9,M9,ZY,Rw,g9⟩:=cm g8 (by rw [DT,X7.n0,cc2,N.n0];exact U) (k:=3) (vs:=[.slice none 0 0]) (by simp);have Ux:aP (qG p.w fuel l x C (.slice none 0 0) (.slice none 0 0)).cells 3 [.slice none 0 0]=(qG p.w fuel l x (.slice none 0 0) (.slice none 0 0) (.slice none 0 0)).cells:=rfl;rw [Ux]at g9;have K:Ext H4 H9:=((X46.trans X7).mod M8 (fun b a=>by omega)).mod M9 (fun b a=>by omega);have n9:H9.n0=H.n0:=K.n0.trans N.n0;have aaJ:=K.ld q2;have asw:=K.ld r0;have hw9:=K.wf qY;have O3:=aaH;rw [hl.length]at O3;rw [O3]at aaJ;rw [O1]at s8;simp (maxSteps:=9^7)-implicitDefEqProofs+contextual [-X.ev,O1,s8,s9,aaJ];rw [←O1]at s8;refine cn (fun k fr H'=>Mod (fun b=>b=m) H9 H'∧∃(i:Nat) (z:Value) (rs:List (List Value)),H'.get m=some (.cells 14 (qG p.w fuel l x z (.slice none 0 0) (.slice none 0 0)).cells)∧i+k=p.body.length∧fr.get 8= .pointer (some ⟨m,0,none⟩)∧fr.get 5= .pointer (some ⟨H1.nx,0,none⟩)∧fr.get 43=C∧fr.get 44= .int .i64 p.body.length∧fr.get 45= .int .i64 i∧dU H' 5 z rs∧rs.length=i∧fE (part H' H9.nx (aX z)) rs (p.body.take i)∧(∀b,aX z b→H9.nx≤b)) ?_ p.body.length ⟨Mod.refl _ _,0,.slice none 0 0,[],by simpa [O1]using g9,by simp,by simp [hm],by simp,by simp [O3],by simp,by simp,dU.nil _ _,rfl,by simpa using fE.nil,fun b a=>absurd a (dO _ _ _)⟩;rintro k fr Bc ⟨Mk,i,z,rs,g10,hi,f8,f5,f43,f44,f45,ow,BE,aH,gu⟩;have UY:=Mk.wf hw9;have asx:=Mk.nx;have J3:Ext H4 Bc:=K.mod Mk (fun b a=>by omega)
   have asy:av p.body≤400:=by
    simp only [bm,avj,avs]at B;exact B.2.1
   have anM:=fU p.body;by_cases cO:i<p.body.length
   ·obtain ⟨y,hy⟩:∃y,p.body[i]?=some y:=⟨_,avg cO⟩
    have t1:=fR hy;have t2:=aV p.body (i+1);have t3:=aV p.body i;obtain ⟨mB,yn,kP,qx,qy⟩:=y;obtain ⟨b,o,c',qz,qA,qB,Z4,Z5,Z6,cL,bM,_,_,_,_,_,j1,j2,j3,j4,j5,e1,e2,e3,e4,e5,e6⟩:=je.row (hr.ext J3) (je.ext J3 hl) hy;have Hq:pF Bc [.int .i64 mB,.int .i64 yn,qz,qA,qB] (.mk mB yn kP qx qy):=.mk j1 j2 j3 j4 j5 e1 e2 e3 e4 e5 e6;have J4:=f43;rw [cL]at J4;obtain ⟨A,sHa,Q,asA,asB,u,Xx⟩:=eZ (H:=Bc) UY (z:=5) (c:=[.int .i64 0,.int .i64 0,.slice none 0 0,.slice none 0 0,.slice none 0 0]) (vs:=[.int .i64 mB,.int .i64 yn,qz,qA,qB]) rfl;have u0:A.ld ⟨Bc.nx,0,none⟩=some (.int .i64 mB):=Xx 0 _ rfl;have u1:A.ld ⟨Bc.nx,1,none⟩=some (.int .i64 yn):=Xx 1 _ rfl;have u2:A.ld ⟨Bc.nx,2,none⟩=some qz:=Xx 2 _ rfl;have u3:A.ld ⟨Bc.nx,3,none⟩=some qA:=Xx 3 _ rfl;have u4:A.ld ⟨Bc.nx,4,none⟩=some qB:=Xx 4 _ rfl;clear Xx;replace u:A.ldn ⟨Bc.nx,0,none⟩ 5=some [.int .i64 mB,.int .i64 yn,qz,qA,qB]:=u;have aaK:=Q.wf UY;have ga:=Q.get g10;have Xy:A.n0=H.n0:=Q.n0.trans (Mk.n0.trans n9);have V:=aL ga (by rw [Xy];exact U) (k:=3) (v:=z) rfl;obtain ⟨za,zc,P⟩:=ow.shape;rw [BE]at P;have hbz:=sP (sz:=5) (z:=zS) (H:=A) (v:=.agg #[.int .i64 0,.int .i64 0,.slice none 0 0,.slice none 0 0,.slice none 0 0]) rfl rfl rfl;simp only [gM]at hbz;have s:=Ext.alloc A (.cells 5 zS);have gz:=cQ A (.cells 5 zS)
    obtain ⟨Hb,hHb⟩:∃Hb,A.alloc (.cells 5 zS)=Hb:=⟨_,rfl⟩
    rw [hHb]at hbz s gz;have hwb:=s.wf aaK
    have oz:dU Hb 5 (.slice (some ⟨A.nx,0,none⟩) 1 1) [zS]:=⟨.inr ⟨A.nx,rfl,by rw [s.n0];exact aaK,by simpa using gz⟩,by simp⟩
    have xax:=Q.nx;have xbx:=s.nx;rw [P]at V;simp (maxSteps:=9^7)-implicitDefEqProofs+contextual [-X.ev,J4,f44,f45,f8,cO,bM,sHa,u,V,hbz];apply ah
    ·(simp-implicitDefEqProofs [-X.ev];rfl)
    refine (Gi _ _ _ Hb (avv _) hwb (pF.ext (Q.trans s) Hq) (by omega)).mono ?_;rintro xx Hc ⟨cs,rfl,hk5,J⟩;have hwc:=J.wf hwb;have xcx:=J.nx;obtain ⟨s',Hd,vD,od,Md,kd,D⟩:=uv (bytes:=88) hwc ((ow.ext (Q.trans s)).ext J) (oz.ext J).rows (by simp;omega) (by simp;omega);have aaM:=hk5.len;obtain ⟨bd,Z,He,sd,oe,Me,nxe,T⟩:=od.UW aaM;have Uu:∀b,aX z b→b<Bc.nx:=fun b a=>ow.lt a
    have asH:m<H9.nx:=AH.bc g9;have gd:=Md.get (fun q=>by have:=gu m q;omega) (J.get (s.get ga));have Hl:aX s' bd:=by rw [Z];exact (bJ _ _ _ _ _).2 rfl
    have asI:=D (by simp) bd Hl;have ge:=Me.get (fun q=>by omega) gd;obtain ⟨Hf,sf,R,nxf,n0f,gf⟩:=cm ge (by rw [T,Md.n0,J.n0,s.n0,Xy];exact U) (k:=3) (vs:=[s']) (by simp);have aj4:aP (qG p.w fuel l x z (.slice none 0 0) (.slice none 0 0)).cells 3 [s']=(qG p.w fuel l x s' (.slice none 0 0) (.slice none 0 0)).cells:=rfl;rw [aj4]at gf;have UZ:=bh.1 V;have aaN:=J.ldn (s.ldn UZ);have aaO:=s.ldn UZ;have gzc:=J.get gz;have mdx:=Md.nx;rw [BE]at sd Z;have Xv:Nat.beq bd m=false:=avT.2 fun h=>by have:=Nat.eq_of_beq_eq_true h;omega
    have n0d:=Md.n0;have n0c:=J.n0;have n0b:=s.n0;rw [P]at vD;rw [Z]at vD sf;have aj5:(i:Int)<(i:Int)+1:=by omega
    simp (maxSteps:=9^7)-implicitDefEqProofs+contextual [-X.ev,f45,vD,sd,sf,aaM,aj5,bu,aM,aN,DE,dz,UZ,aaN,aaO,gz,gzc,oP,xR,Xv,n0d,n0c,n0b,T,n0f,xbx,xcx,mdx,nxe,nxf];rw [ai (n:=(i:Int)+1) ⟨by omega,by omega⟩];have MM:=(((Mk.trans (Mod.cv ((Q.trans s).trans J))).then Md (fun b a q=>by have:=gu b q;omega)).then Me (fun b a q=>by omega)).then R (fun b _ q=>q);have nn:Hf.n0=Hc.n0:=n0f.trans (T.trans n0d);refine ⟨k- 1,by omega,MM,i+1,s',gf,by omega,f8,f5,f43,f44,by simp,_,oe.mod R (fun b a q=>by have:=D (by simp) b a;omega),by simp [BE],?_,fun b a=>by have:=D (by simp) b a;omega⟩;rw [oi hy];refine fE.snoc (aH.sub (fw (nn.trans (n0c.trans (n0b.trans Q.n0))) (by omega) fun b y a hn P=>?_)) (hk5.sub (fw nn (by omega) fun b y a hn P=>?_))
    ·have mM:=AH.bc a
     exact ⟨R.get (fun q=>by omega) (Me.get (fun q=>by omega) (Md.get P (J.get (s.get (Q.get a))))),hn,fun q=>by have:=D (by simp) b q;omega⟩
    ·have mM:=AH.bc a
     exact ⟨R.get (fun q=>by omega) (Me.get (fun q=>by omega) (Md.get (fun q=>by have:=Uu b q;omega) a)),by omega,fun q=>by have:=D (by simp) b q;omega⟩
   rw [avn (by omega)]at aH;have aaP:=J3.ld r0;have J4:=f43;rw [O3]at J4;simp (maxSteps:=9^7)-implicitDefEqProofs+contextual [-X.ev,J4,f44,f45,f8,f5,cO,aaP];apply ah
   ·(simp-implicitDefEqProofs [-X.ev];rfl)
   refine (lH UY (ss.ext J3) (by omega)).mono ?_;rintro Xz H11 ⟨DP,XA,W⟩;have Xy:Bc.n0=H.n0:=Mk.n0.trans n9;have asM:=XA.nx;obtain ⟨Gd,s12,Xr,OQ,Z1,g12⟩:=cm (XA.get g10) (by rw [XA.n0,Xy];exact U) (k:=7) (vs:=[Xz]) (by simp);have aaQ:aP (qG p.w fuel l x z (.slice none 0 0) (.slice none 0 0)).cells 7 [Xz]=(qG p.w fuel l x z Xz (.slice none 0 0)).cells:=rfl;rw [aaQ]at g12;have asN:m<H9.nx:=AH.bc g9;have U1:Mod (fun b=>b=m) Bc Gd:=(Mod.cv XA).trans Xr;have MM7:Mod (fun b=>b=m) H7 Gd:=((M8.trans M9).trans Mk).trans U1;have MM5:Mod (fun b=>b=m) H5 Gd:=(Mod.cv (X6.trans X7)).trans MM7;have JH:Gd.n0=H.n0:=Z1.trans (XA.n0.trans Xy);have aj6:Gd.n0≤Gd.nx:=by rw [JH,OQ];omega
   obtain ⟨v12,Y⟩:∃v12,qG p.w fuel l x z Xz (.slice none 0 0)=v12:=⟨_,rfl⟩
   have I:∀b,Mf m v12 b↔b=m∨aX Xz b:=by
    intro b;rw [←Y];unfold Mf;simp only [dO,false_or,or_false]
   obtain ⟨G,hG⟩:∃G,part Gd H.nx (Mf m v12)=G:=⟨_,rfl⟩
   have x04:=N.nx
   have o12:=(DP.mod Xr (fun b a q=>by have:=W b a;omega))
   have vm:¬ aX Xz m:=fun q=>by have:=W m q;omega
   have h12:MH G Gd m v12 [] t.store [] []:=by
    subst hG Y;exact {get:=g12,n0:=by rw [JH];exact U,sub:=DU _ _ _,wf:=aj6,fr:=(dU.nil _ 2).Uy,st:=o12,ou:=dU.nil _ 2,tr:=dU.nil _ 3,d1:=⟨dO _ _ _,vm,dO _ _ _,dO _ _ _⟩,d2:=fun b a=>absurd a (dO _ _ _),d3:=fun b a=>⟨dO _ _ _,dO _ _ _⟩,d4:=fun b a=>absurd a (dO _ _ _),out:=fun b a=>wv a}
   have aaS:dU G 5 z rs:=by
    rw [←hG]
    exact (ow.mod U1 (fun b a q=>by have:=gu b a;omega)).part fun b a=>⟨by have:=gu b a;omega,fun q=>by
     rw [I]at q;rcases q with q|q
     ·have:=gu b a;omega
     ·have:=W b q;have:=ow.lt a;omega⟩
   have aj7:fE G rs p.body:=by
    rw [←hG];refine aH.sub (fw (JH.trans Xy.symm) (by omega) fun b y a hn P=>?_);have mM:=AH.bc a;refine ⟨U1.get (fun q=>by omega) a,by omega,fun q=>?_⟩;rw [I]at q;rcases q with q|q
    ·omega
    ·have:=W b q;omega
   have aaT:dU G 3 x (p.vars.map Vr.row):=by
    rw [←hG]
    refine (o7.mod MM7 (fun b a q=>by have:=k7 b a;omega)).part fun b a=>⟨by have:=k7 b a;omega,fun q=>?_⟩
    rw [I]at q;rcases q with q|q
    ·have:=k7 b a;omega
    ·have:=W b q;have:=o7.lt a;have:=Xq;have:=ZY;omega
   have aj8:dU G 1 l (a7 t.bN):=by
    rw [←hG]
    refine (o5.mod MM5 (fun b a q=>by have:=o5.lt a;omega)).part fun b a=>⟨by have:=k5 b a;omega,fun q=>?_⟩
    rw [I]at q;rcases q with q|q
    ·have:=o5.lt a;omega
    ·have:=W b q;have:=o5.lt a;omega
   have l3:=aL g12 (by rw [JH];exact U) (k:=3) (v:=z) rfl;obtain ⟨za,zc,P⟩:=ow.shape;obtain ⟨sa,sc,Yc⟩:=DP.shape;have aj9:p.body.length≤2^30:=by omega
   have key:=qD (k:=0) h12 aaS.rows aj7 aaS.fit (fs:=[]) .nil (by simp) aj9;rw [P]at l3 key;rw [Yc]at s12;simp (maxSteps:=9^7)-implicitDefEqProofs+contextual [-X.ev,f8,Yc,s12,l3,bu,aM,aN];apply ah
   ·(simp-implicitDefEqProofs [-X.ev];rfl)
   refine (key).mono ?_;rintro xx H13 ⟨pd,dP,sx,L,aka,aaV,aaW⟩;have akb:=L.mod.n0;have akc:=L.mod.nx;simp (maxSteps:=9^7)-implicitDefEqProofs+contextual [-X.ev,f8,bu,aM,aN,akb,akc,M];have XX:Ext H Gd:=(((N.trans J3)).trans XA).mod Xr (fun b a=>by omega)
   have D6:∀b,Mf m v12 b→H.nx≤b:=fun b a=>by
    rw [I]at a;rcases a with q|q
    ·omega
    ·have:=W b q;omega
   have iE:∀b x,G.get b=some x→H.nx≤b:=fun b x a=>by rw [←hG]at a;exact (kl.1 a).2.1
   refine ⟨G,_,{is:=⟨dP,L.mh,fun _=>⟨sx,aka,by rw [aaV];simp [nq,ee]⟩,by simp at aaW;show _+2*fuel≤2^20;omega⟩,w:=by rw [←Y],vars:=by rw [←Y];exact aaT.rows,cap:=by rw [←Y];exact aaT.cap,bN:=by rw [←Y];exact aj8.ints,mt:=by rw [←Y];exact ⟨rfl,rfl,rfl,rfl,rfl,rfl⟩,inv:=g,ov:=fun q=>by cases q},XX.mod L.mod D6,fun b a=>?_,iE⟩;rcases L.new b a with q|q
   ·exact D6 b q
   ·have:=XX.nx;omega
end
section
open Go
structure iS where
 en:Int
 store:List Int
 outs:List (Int×Int)
 trace:List Ev
 cost:Int
 used:Int
 wh:Int
def dY.run (c:dY):iS:=⟨c.en,c.store,c.outs,c.trace,c.cost,c.used,c.wh⟩
def D7:iS:=⟨0,[],[],[],0,0,0⟩
def Small (r:iS):Prop:=r.store.length≤2^40∧r.outs.length≤2^40∧r.trace.length≤2^40
structure mH (H:AH) (n:Nat) (cs:List Value) (r:iS):Prop where
 is:∃vs vo vt,cs=[.int .i64 r.en,vs,vo,vt,.int .i64 r.cost,.int .i64 r.used,.int .i64 r.wh]∧dU H 1 vs (a7 r.store)∧dU H 2 vo (dH r.outs)∧dU H 3 vt (dj r.trace)∧(∀b,aX vs b∨aX vo b∨aX vt b→n≤b)
theorem mH.ext {H H':AH} {n:Nat} {cs:List Value} {r:iS} (X:Ext H H') (h:mH H n cs r):mH H' n cs r:=by
 obtain ⟨g,i,f,e,a,b,c,d⟩:=h.is;exact ⟨g,i,f,e,a.ext X,b.ext X,c.ext X,d⟩
theorem mH.zero (H:AH) (n:Nat):mH H n [.int .i64 0,.slice none 0 0,.slice none 0 0,.slice none 0 0,.int .i64 0,.int .i64 0,.int .i64 0] D7:=
 ⟨_,_,_,rfl,dU.nil _ _,dU.nil _ _,dU.nil _ _,fun b a=>by rcases a with q|q|q<;>exact absurd q (dO _ _ _)⟩
theorem Gp {H:AH} {r:iS} {vs vo vt:Value} (c:H.n0≤H.nx) (hs:Rows H 1 vs (a7 r.store)) (ho:Rows H 2 vo (dH r.outs)) (ht:Rows H 3 vt (dj r.trace)) (e:Small r):
 Ca E O 115 [.agg #[.int .i64 r.en,vs,vo,vt,.int .i64 r.cost,.int .i64 r.used,.int .i64 r.wh]] H (fun x H'=>∃cs,x= .agg cs.toArray∧mH H' H.nx cs r∧Ext H H'):=by
 refine Ca.aR (F:=Nu) rfl rfl rfl ?_;obtain ⟨b1,b2,b3⟩:=e;have gB:=cQ H (.cells 7 [.int .i64 r.en,vs,vo,vt,.int .i64 r.cost,.int .i64 r.used,.int .i64 r.wh]);have K:=Ext.alloc H (.cells 7 [.int .i64 r.en,vs,vo,vt,.int .i64 r.cost,.int .i64 r.used,.int .i64 r.wh]);have d0:(H.alloc (.cells 7 [.int .i64 r.en,vs,vo,vt,.int .i64 r.cost,.int .i64 r.used,.int .i64 r.wh])).ld ⟨H.nx,0,none⟩=some (.int .i64 r.en):=ak c rfl;have C:(H.alloc (.cells 7 [.int .i64 r.en,vs,vo,vt,.int .i64 r.cost,.int .i64 r.used,.int .i64 r.wh])).ld ⟨H.nx,1,none⟩=some vs:=ak c rfl;have B:(H.alloc (.cells 7 [.int .i64 r.en,vs,vo,vt,.int .i64 r.cost,.int .i64 r.used,.int .i64 r.wh])).ld ⟨H.nx,2,none⟩=some vo:=ak c rfl;have A:(H.alloc (.cells 7 [.int .i64 r.en,vs,vo,vt,.int .i64 r.cost,.int .i64 r.used,.int .i64 r.wh])).ld ⟨H.nx,3,none⟩=some vt:=ak c rfl;have d4:(H.alloc (.cells 7 [.int .i64 r.en,vs,vo,vt,.int .i64 r.cost,.int .i64 r.used,.int .i64 r.wh])).ld ⟨H.nx,4,none⟩=some (.int .i64 r.cost):=ak c rfl;have d5:(H.alloc (.cells 7 [.int .i64 r.en,vs,vo,vt,.int .i64 r.cost,.int .i64 r.used,.int .i64 r.wh])).ld ⟨H.nx,5,none⟩=some (.int .i64 r.used):=ak c rfl;have d6:(H.alloc (.cells 7 [.int .i64 r.en,vs,vo,vt,.int .i64 r.cost,.int .i64 r.used,.int .i64 r.wh])).ld ⟨H.nx,6,none⟩=some (.int .i64 r.wh):=ak c rfl;have d:(H.alloc (.cells 7 [.int .i64 r.en,vs,vo,vt,.int .i64 r.cost,.int .i64 r.used,.int .i64 r.wh])).ldn ⟨H.nx,0,none⟩ 7=some [.int .i64 r.en,vs,vo,vt,.int .i64 r.cost,.int .i64 r.used,.int .i64 r.wh]:=bo c 7 rfl;generalize cM:H.alloc (.cells 7 [.int .i64 r.en,vs,vo,vt,.int .i64 r.cost,.int .i64 r.used,.int .i64 r.wh])=G at K d0 C B A d4 d5 d6 d;have bT:=K.wf c;rw [cM]at gB;have j:=Ext.alloc G (.cells 7 [.int .i64 0,.slice none 0 0,.slice none 0 0,.slice none 0 0,.int .i64 0,.int .i64 0,.int .i64 0]);have S:=cQ G (.cells 7 [.int .i64 0,.slice none 0 0,.slice none 0 0,.slice none 0 0,.int .i64 0,.int .i64 0,.int .i64 0])
 obtain ⟨H2,kH⟩:∃H2,G.alloc (.cells 7 [.int .i64 0,.slice none 0 0,.slice none 0 0,.slice none 0 0,.int .i64 0,.int .i64 0,.int .i64 0])=H2:=⟨_,rfl⟩
 rw [kH]at j S;have jG:=j.wf bT;have D:=K.trans j;have ltB:=AH.bc gB;have ltR:=AH.bc S;have x1:=K.nx;have x2:=j.nx;replace C:=j.ld C;replace B:=j.ld B;replace A:=j.ld A;have y:=bh.1 C;have w:=bh.1 B;have u:=bh.1 A;obtain ⟨a1,c1,e1⟩:=hs.len;obtain ⟨a2,c2,e2⟩:=ho.len;obtain ⟨a3,c3,e3⟩:=ht.len;have s1:dK vs vs=true:=by rw [e1];simp
 have s2:dK vo vo=true:=by rw [e2];simp
 have s3:dK vt vt=true:=by rw [e3];simp
 simp (maxSteps:=9^7)-implicitDefEqProofs+contextual [-X.ev,Nu,cM,kH,C,B,A];apply ah
 ·(simp-implicitDefEqProofs [-X.ev];rfl)
 refine (lH (l:=r.store) jG (hs.ext D) b1).mono ?_;rintro xs H3 ⟨V,g,Z⟩;have nV:=g.wf jG;simp (maxSteps:=9^7)-implicitDefEqProofs+contextual [-X.ev];apply ah
 ·(simp-implicitDefEqProofs [-X.ev];rfl)
 refine (nW (f:=147) (sz:=2) (bytes:=16) rfl rfl nV (ho.ext (D.trans g)) (by simp [dH];omega) (by simp [dH];omega)).mono ?_;rintro a H4 ⟨U,i,Y⟩;have qY:=i.wf nV;simp (maxSteps:=9^7)-implicitDefEqProofs+contextual [-X.ev];apply ah
 ·(simp-implicitDefEqProofs [-X.ev];rfl)
 refine (nW (f:=148) (sz:=3) (bytes:=24) rfl rfl qY (ht.ext ((D.trans g).trans i)) (by simp [dj];omega) (by simp [dj];omega)).mono ?_;rintro xt H5 ⟨T,o,W⟩;have x3:=g.nx;have x4:=i.nx;have x5:=o.nx;obtain ⟨f1,g1,h1⟩:=V.shape;obtain ⟨f2,g2,h2⟩:=U.shape;obtain ⟨f3,g3,h3⟩:=T.shape;have h:=g.trans (i.trans o);have n:H5.n0=H.n0:=h.n0.trans D.n0;obtain ⟨H6,t6,M6,M,m,z⟩:=cm (h.get (j.get gB)) (by rw [n];exact c) (k:=1) (vs:=[xs]) (by simp);rw [show aP [Value.int .i64 r.en,vs,vo,vt,.int .i64 r.cost,.int .i64 r.used,.int .i64 r.wh] 1 [xs]=[.int .i64 r.en,xs,vo,vt,.int .i64 r.cost,.int .i64 r.used,.int .i64 r.wh] from rfl]at z;obtain ⟨H7,t7,M7,L,p,Z7⟩:=cm z (by rw [m,n];exact c) (k:=2) (vs:=[a]) (by simp);rw [show aP [Value.int .i64 r.en,xs,vo,vt,.int .i64 r.cost,.int .i64 r.used,.int .i64 r.wh] 2 [a]=[.int .i64 r.en,xs,a,vt,.int .i64 r.cost,.int .i64 r.used,.int .i64 r.wh] from rfl]at Z7;obtain ⟨H8,t8,M8,Xq,I,Z8⟩:=cm Z7 (by rw [p,m,n];exact c) (k:=3) (vs:=[xt]) (by simp);rw [show aP [Value.int .i64 r.en,xs,a,vt,.int .i64 r.cost,.int .i64 r.used,.int .i64 r.wh] 3 [xt]=[.int .i64 r.en,xs,a,xt,.int .i64 r.cost,.int .i64 r.used,.int .i64 r.wh] from rfl]at Z8;have l8:H8.ldn ⟨H.nx,0,none⟩ 7=some [.int .i64 r.en,xs,a,xt,.int .i64 r.cost,.int .i64 r.used,.int .i64 r.wh]:=by rw [b9 Z8 (by rw [I,p,m,n];exact c) (by simp)];rfl
 have R:=M8.get (fun q=>by omega) (M7.get (fun q=>by omega) (M6.get (fun q=>by omega) (h.get S)));obtain ⟨H9,t9,M9,ZY,Rw,Z9⟩:=cm R (by rw [I,p,m,n];omega) (k:=0) (vs:=[.int .i64 r.en,xs,a,xt,.int .i64 r.cost,.int .i64 r.used,.int .i64 r.wh]) (by simp);rw [show aP [Value.int .i64 0,.slice none 0 0,.slice none 0 0,.slice none 0 0,.int .i64 0,.int .i64 0,.int .i64 0] 0 [.int .i64 r.en,xs,a,xt,.int .i64 r.cost,.int .i64 r.used,.int .i64 r.wh]=[.int .i64 r.en,xs,a,xt,.int .i64 r.cost,.int .i64 r.used,.int .i64 r.wh] from rfl]at Z9;have l9:H9.ldn ⟨G.nx,0,none⟩ 7=some [.int .i64 r.en,xs,a,xt,.int .i64 r.cost,.int .i64 r.used,.int .i64 r.wh]:=by rw [b9 Z9 (by rw [Rw,I,p,m,n];omega) (by simp)];rfl
 have Q:=g.ldn y;have v:=g.ldn w;have t:=g.ldn u;have P:=i.ldn v;have s:=i.ldn t;have N:=o.ldn s;have i1:df xs=false:=by rw [h1];rfl
 have i2:df a=false:=by rw [h2];rfl
 have i3:df xt=false:=by rw [h3];rfl
 have v1:aZ xs=[xs]:=by rw [h1];rfl
 have v2:aZ a=[a]:=by rw [h2];rfl
 have v3:aZ xt=[xt]:=by rw [h3];rfl
 simp (maxSteps:=9^7)-implicitDefEqProofs+contextual [-X.ev,i1,i2,i3,v1,v2,v3,t6,t7,t8,l8,t9,l9,s1,s2,s3,y,w,u,Q,v,t,P,s,N,g.n0,i.n0,o.n0,x3,x4,x5,m,p,I,M,L,Xq,bu,aM,aN];have J:Mod (fun b=>b=H.nx∨b=G.nx) H5 H9:=(((M6.mono fun b _ q=>.inl q).trans (M7.mono fun b _ q=>.inl q)).trans (M8.mono fun b _ q=>.inl q)).trans (M9.mono fun b _ q=>.inr q);refine ⟨⟨xs,a,xt,rfl,(V.ext (i.trans o)).mod J (fun b e q=>by have:=Z b e;omega),(U.ext o).mod J (fun b e q=>by have:=Y b e;omega),T.mod J (fun b e q=>by have:=W b e;omega),fun b e=>?_⟩,(D.trans h).mod J (fun b e=>by omega)⟩;rcases e with q|q|q
 ·have:=Z b q;omega
 ·have:=Y b q;omega
 ·have:=W b q;omega
open Go
def iterM (p:aU) (ps:List Int):Nat→dY→dY
 |0,c=>c
 |n+1,c=>iterM p ps n (bI p ps c)
def lK (p:aU) (ps:List Int) (c:dY):dY:=iterM p ps (c.fuel.toNat+1) c
theorem pM {p:aU} {ps:List Int} {c:dY} (h:cT c=true):bI p ps c=c:=by
 unfold cT at h;unfold bI;by_cases a:c.over=true
 ·rw [if_pos a]
 ·rw [if_neg a]
  simp only [Bool.or_eq_true,List.isEmpty_iff]at h;rw [h.resolve_left a]
theorem kr {p:aU} {ps:List Int} {c:dY} (h:cT c=true):∀n,iterM p ps n c=c
 |0=>rfl
 |n+1=>by rw [iterM,pM h];exact kr h n
theorem Gq {p:aU} {ps:List Int} {c:dY} (h:cT c=false) (h2:(bI p ps c).over=false):c.fuel≠0∧(bI p ps c).fuel=c.fuel- 1:=by
 unfold cT at h;simp only [Bool.or_eq_false_iff]at h;unfold bI at h2⊢;rw [if_neg (by rw [h.1];decide)]at h2⊢
 cases b:c.todo with
 |nil=>rw [b]at h;simp at h
 |cons it next=>
  obtain ⟨k,s⟩:=it;rw [b]at h2;by_cases a:c.fuel=0
  ·simp only [if_pos a]at h2
   cases h2
  ·refine ⟨a,?_⟩
   simp only [if_neg a];rw [uN];rfl
theorem Ad {p:aU} {ps:List Int} {c:dY} (h:(!cT c&& !(bI p ps c).over)=false):lK p ps c=bI p ps c:=by
 unfold lK
 cases a:cT c with
 |true=>rw [kr a,pM a]
 |false=>
  rw [a]at h;simp at h;rw [iterM];exact kr (by simp [cT,h]) _
theorem J5 {p:aU} {ps:List Int} {c:dY} (b:0≤c.fuel) (h:(!cT c&& !(bI p ps c).over)=true):lK p ps (bI p ps c)=lK p ps c∧(bI p ps c).fuel=c.fuel- 1∧0<c.fuel:=by
 simp only [avj,Bool.not_eq_true']at h;obtain ⟨d,h2⟩:=Gq h.1 h.2;refine ⟨?_,h2,by omega⟩;unfold lK;rw [h2]
 obtain ⟨n,a⟩:∃n:Nat,c.fuel=n+1:=⟨c.fuel.toNat- 1,by omega⟩
 rw [a];simp only [Int.add_sub_cancel,Int.toNat_natCast];rw [show((n:Int)+1).toNat=n+1 by omega]
 conv=>rhs;rw [iterM]
theorem wy {p:aU} {ps:List Int} {c:dY} (h:Inv p ps c):Small c.run:=by
 have e:=h.tr;have h2:=h.ou;have d:=h.fuel;have a:=h.store;simp only [bq,avj,avs]at a;have b:=(iR h.head).2.2;refine ⟨?_,?_,?_⟩
 ·show c.store.length≤_;omega
 ·show c.outs.length≤_;omega
 ·show c.trace.length≤_;omega
theorem O4 {G H:AH} {m:Nat} {p:aU} {ps:List Int} {v:MV} {c:dY} (h:uM G H m p ps v c):
 Ca E O 79 [.pointer (some ⟨m,0,none⟩)] H (fun x H'=>∃cs,x= .tuple #[.agg cs.toArray,.bool (cT c)]∧mH H' H.nx cs c.run∧Ext H H'):=by
 refine Ca.aR (F:=YX) rfl rfl rfl ?_;obtain ⟨rows,A,F9,xu⟩:=h.is;obtain ⟨m1,m2,m3,m4,m5,m6⟩:=h.mt;have M:=A.wf;have t:=Ext.alloc H (.cells 7 [.int .i64 0,.slice none 0 0,.slice none 0 0,.slice none 0 0,.int .i64 0,.int .i64 0,.int .i64 0]);have n:=cQ H (.cells 7 [.int .i64 0,.slice none 0 0,.slice none 0 0,.slice none 0 0,.int .i64 0,.int .i64 0,.int .i64 0])
 obtain ⟨H1,cM⟩:∃H1,H.alloc (.cells 7 [.int .i64 0,.slice none 0 0,.slice none 0 0,.slice none 0 0,.int .i64 0,.int .i64 0,.int .i64 0])=H1:=⟨_,rfl⟩
 rw [cM]at t n;have i:=A.ext t;have x1:=t.nx;have y:=aL i.get i.n0 (k:=13) (v:=.bool v.ended) rfl;have U:=aL i.get i.n0 (k:=0) (v:=v.vf) rfl
 have B:H1.ldn ⟨m,6,none⟩ 7=some [.int .i64 c.run.en,v.vs,v.vo,v.vt,.int .i64 c.run.cost,.int .i64 c.run.used,.int .i64 c.run.wh]:=by
  rw [b9 i.get i.n0 (by simp)];show some [Value.int .i64 v.en,v.vs,v.vo,v.vt,.int .i64 v.cost,.int .i64 v.used,.int .i64 v.wh]=_;rw [m1,m2,m3,m4];rfl
 have ltm:=A.lt (.inl rfl);obtain ⟨fa,fc,Y⟩:=A.fr.shape;have key:=Gp (r:=c.run) i.wf i.st.rows i.ou.rows i.tr.rows (wy h.inv);obtain ⟨a1,c1,e1⟩:=A.st.shape;obtain ⟨a2,c2,e2⟩:=A.ou.shape;obtain ⟨a3,c3,e3⟩:=A.tr.shape;have s1:dK v.vs v.vs=true:=by rw [e1];simp
 have s2:dK v.vo v.vo=true:=by rw [e2];simp
 have s3:dK v.vt v.vt=true:=by rw [e3];simp
 have Xv:Nat.beq m H.nx=false:=avT.2 fun h=>by have:=Nat.eq_of_beq_eq_true h;omega
 have C:cT c=(c.over||decide (rows.length=0)):=by
  unfold cT
  cases N:c.over with
  |true=>rfl
  |false=>
   obtain ⟨fs,aH,J2⟩:=F9 N;rw [Bool.false_or,Bool.false_or,avM,List.isEmpty_iff,avs,J2];constructor
   ·intro q
    rcases List.eq_nil_or_concat fs with rfl|⟨e7,f,J⟩
    ·rw [Ab aH];rfl
    ·rw [List.concat_eq_append]at J
     subst J;obtain ⟨_,_,rfl,_,_,_,_,_,_,_,gw,_⟩:=rE aH;rw [ko]at q;simp at q;obtain ⟨l,k⟩:=f
     cases l with
     |nil=>exact absurd rfl gw
     |cons s l=>rw [mc]at q;simp at q
   ·intro q
    have:rows=[]:=avO q;subst this;cases aH;rfl
 rw [m6]at y;rw [Y]at U;have rF:((rows.length:Int)=0)↔rows=[]:=by rw [←avJ];omega
 cases N:c.over with
 |true=>
  rw [N]at y C;simp (maxSteps:=9^7)-implicitDefEqProofs+contextual [-X.ev,YX,cM,B,y];apply ah
  ·(simp-implicitDefEqProofs [-X.ev];rfl)
  refine (key).mono ?_;rintro xx H2 ⟨cs,rfl,K,d⟩;have P:=d.nx;have j:cs.length=7:=by obtain ⟨_,_,_,e,_⟩:=K.is;rw [e];rfl
  obtain ⟨H3,R,u,V,I,L⟩:=cm (d.get n) (by rw [d.n0,t.n0];exact M) (k:=0) (vs:=cs) (by simp [j]);have Z:=iP [Value.int .i64 0,.slice none 0 0,.slice none 0 0,.slice none 0 0,.int .i64 0,.int .i64 0,.int .i64 0] cs (by rw [j];rfl);rw [Z]at L;have W:H3.ldn ⟨H.nx,0,none⟩ 7=some cs:=by rw [b9 L (by rw [I,d.n0,t.n0];exact M) (by omega)];simp [avn (Nat.le_of_eq j)]
  have z:=d.ldn B;have D:=bh.1 y;have S:=d.ldn D;have w:=d.n0;simp (maxSteps:=9^7)-implicitDefEqProofs+contextual [-X.ev,j,R,W,C,B,z,D,S,s1,s2,s3,P,w,V,I,bu,aM,aN,DE,dz,Xv];refine ⟨?_,t.trans d|>.mod u (fun b hb=>by omega)⟩;obtain ⟨us,Q,ut,e,a,b,cc,o⟩:=K.is;exact ⟨us,Q,ut,e,a.mod u (fun q g e=>by have:=o q (.inl g);have:=AH.bc n;omega),b.mod u (fun q g e=>by have:=o q (.inr (.inl g));have:=AH.bc n;omega),cc.mod u (fun q g e=>by have:=o q (.inr (.inr g));have:=AH.bc n;omega),fun q g=>by have:=o q g;omega⟩
 |false=>
  rw [N]at y C
  obtain ⟨F,hF⟩:∃F,cT c=F:=⟨_,rfl⟩
  rw [hF]at C⊢;have hd:decide (rows=[])=F:=by rw [C,Bool.false_or,avM,avs,avs,avJ]
  have Dp:decide (rows.length=0)=F:=by rw [C,Bool.false_or]
  have hd3:decide ((rows.length:Int)=0)=F:=by rw [←Dp,avM,avs,avs];omega
  have r0n:=U;simp (maxSteps:=9^7)-implicitDefEqProofs+contextual [-X.ev,YX,cM,B,y];apply ah
  ·(simp-implicitDefEqProofs [-X.ev];rfl)
  refine (key).mono ?_;rintro xx H2 ⟨cs,rfl,K,d⟩;have P:=d.nx;have j:cs.length=7:=by obtain ⟨_,_,_,e,_⟩:=K.is;rw [e];rfl
  obtain ⟨H3,R,u,V,I,L⟩:=cm (d.get n) (by rw [d.n0,t.n0];exact M) (k:=0) (vs:=cs) (by simp [j]);have Z:=iP [Value.int .i64 0,.slice none 0 0,.slice none 0 0,.slice none 0 0,.int .i64 0,.int .i64 0,.int .i64 0] cs (by rw [j];rfl);rw [Z]at L;have W:H3.ldn ⟨H.nx,0,none⟩ 7=some cs:=by rw [b9 L (by rw [I,d.n0,t.n0];exact M) (by omega)];simp [avn (Nat.le_of_eq j)]
  have z:=d.ldn B;have D:=bh.1 y;have S:=d.ldn D;have T:=d.ld U;have w:=d.n0;simp (maxSteps:=9^7)-implicitDefEqProofs+contextual [-X.ev,j,R,W,hd,T,B,z,D,S,s1,s2,s3,P,w,V,I,bu,aM,aN,DE,dz,Xv];refine ⟨?_,t.trans d|>.mod u (fun b hb=>by omega)⟩;obtain ⟨us,Q,ut,e,a,b,cc,o⟩:=K.is;exact ⟨us,Q,ut,e,a.mod u (fun q g e=>by have:=o q (.inl g);have:=AH.bc n;omega),b.mod u (fun q g e=>by have:=o q (.inr (.inl g));have:=AH.bc n;omega),cc.mod u (fun q g e=>by have:=o q (.inr (.inr g));have:=AH.bc n;omega),fun q g=>by have:=o q g;omega⟩
end
section
open Go
abbrev zR:List Value:=[.int .i64 0,.slice none 0 0,.slice none 0 0,.slice none 0 0,.int .i64 0,.int .i64 0,.int .i64 0]
def gJ (p:aU) (fuel:Int) (t:dW):iS:=if fQ p fuel t=0 then(lK p t.bN (ee p fuel t)).run else D7
theorem mH.len {H:AH} {n:Nat} {cs:List Value} {r:iS} (h:mH H n cs r):cs.length=7:=by obtain ⟨_,_,_,e,_⟩:=h.is;rw [e];rfl
theorem mH.mod {H H':AH} {n:Nat} {S:Nat→Prop} {cs:List Value} {r:iS} (h:mH H n cs r) (M:Mod S H H') (g:∀b,S b→b<n):mH H' n cs r:=by
 obtain ⟨us,i,ut,e,a,b,c,d⟩:=h.is;exact ⟨us,i,ut,e,a.mod M (fun q f e=>by have:=d q (.inl f);have:=g q e;omega),b.mod M (fun q f e=>by have:=d q (.inr (.inl f));have:=g q e;omega),c.mod M (fun q f e=>by have:=d q (.inr (.inr f));have:=g q e;omega),d⟩
theorem mH.le {H:AH} {n k:Nat} {cs:List Value} {r:iS} (h:mH H n cs r) (i:k≤n):mH H k cs r:=by
 obtain ⟨us,f,ut,e,a,b,c,d⟩:=h.is;exact ⟨us,f,ut,e,a,b,c,fun q g=>avC i (d q g)⟩
theorem O5 {p:aU} {t:dW} {c d:List Value} {fuel:Int} {H:AH} (U:H.n0≤H.nx) (Y:ru H c p) (V:zy H d t):
 Ca E O 47 [.agg c.toArray,.int .i64 fuel,.agg d.toArray] H (fun x H'=>∃cs,x= .tuple #[.agg cs.toArray,.int .i64 (fQ p fuel t)]∧mH H' H.nx cs (gJ p fuel t)∧Ext H H'):=by
 refine Ca.aR (F:=a47) rfl rfl rfl ?_;have hc:=Y.len;have hd:d.length=2:=by obtain ⟨vs,vp,e,_⟩:=V.is;rw [e];rfl
 have D:=Ext.alloc H (.cells c.length c);have q:(H.alloc (.cells c.length c)).ldn ⟨H.nx,0,none⟩ 3=some c:=bo U 3 (by assumption);generalize cM:H.alloc (.cells c.length c)=I at D q;have R:=D.wf U;have w:=Ext.alloc I (.cells d.length d);have r:(I.alloc (.cells d.length d)).ldn ⟨I.nx,0,none⟩ 2=some d:=bo R 2 (by assumption);generalize kH:I.alloc (.cells d.length d)=j at w r;have kg:=w.wf R;replace q:=w.ldn q;have u:=Ext.alloc j (.cells 7 zR);have B:=cQ j (.cells 7 zR)
 obtain ⟨H3,Mn⟩:∃H3,j.alloc (.cells 7 zR)=H3:=⟨_,rfl⟩
 rw [Mn]at u B;have T:=u.wf kg;have X:=(D.trans w).trans u;replace q:=u.ldn q;replace r:=u.ldn r;have x1:=D.nx;have x2:=w.nx;have ltR:=AH.bc B;have nU:H3.n0=H.n0:=X.n0;have a:H3.n0≤j.nx:=by rw [nU];omega
 have k1:=UX (fuel:=fuel) T (Y.ext X) (V.ext X);simp (maxSteps:=9^7)-implicitDefEqProofs+contextual [-X.ev,a47,cM,kH,Mn,q,r];apply ah
 ·(simp-implicitDefEqProofs [-X.ev];rfl)
 refine (k1).mono ?_;rintro x H4 y;by_cases l:fQ p fuel t=0
 case neg=>
  rw [if_neg l]at y;obtain ⟨rfl,o⟩:=y;obtain ⟨H5,t5,M5,Ro,zK,g5⟩:=cm (o.get B) (by rw [o.n0];exact a) (k:=0) (vs:=zR) (by simp);rw [iP _ _ rfl]at g5;have l5:H5.ldn ⟨j.nx,0,none⟩ 7=some zR:=by rw [b9 g5 (by rw [zK,o.n0];exact a) (by simp)];rfl
  have vO:fD zR []=some (.agg zR.toArray):=rfl;simp (maxSteps:=9^7)-implicitDefEqProofs+contextual [-X.ev,l,vO,t5,l5];have XX:=(X.trans o).mod M5 (fun b A=>by omega);exact ⟨by rw [gJ,if_neg l];exact mH.zero _ _,XX⟩
 rw [if_pos l]at y;obtain ⟨m,rfl,G,v,hM,o,D6,hG⟩:=y
 obtain ⟨fin,J8⟩:∃f,lK p t.bN (ee p fuel t)=f:=⟨_,rfl⟩
 simp (maxSteps:=9^7)-implicitDefEqProofs+contextual [-X.ev];refine cn (fun k K H'=>K.get 8= .pointer (some ⟨m,0,none⟩)∧K.get 6= .pointer (some ⟨j.nx,0,none⟩)∧Ext H3 H'∧∃v P,uM G H' m p t.bN v P∧lK p t.bN P=fin∧(∀b,Mf m v b→H3.nx≤b)∧k=P.fuel.toNat) ?_ _ ⟨by simp,by simp,o,v,_,hM,J8,D6,rfl⟩;rintro k K H5 ⟨L,M,X5,v5,N,s,RM,Z,rfl⟩;simp (maxSteps:=9^7)-implicitDefEqProofs+contextual [-X.ev,L];apply ah
 ·(simp-implicitDefEqProofs [-X.ev];rfl)
 refine (O2 s).mono ?_;rintro x H6 ⟨rfl,Q,i,M6,J,aaG⟩;have C:Ext H3 H6:=X5.mod M6 Z
 have U2:∀b,Mf m Q b→H3.nx≤b:=fun b A=>by
  rcases J b A with q|q
  ·exact Z b q
  ·have:=X5.nx;omega
 cases g:(!cT N&& !(bI p t.bN N).over)with
 |true=>
  obtain ⟨g1,g2,g3⟩:=J5 s.inv.fuel.1 g;simp (maxSteps:=9^7)-implicitDefEqProofs+contextual [-X.ev,g,L,M];exact ⟨_,by omega,C,Q,_,i,g1.trans RM,U2,rfl⟩
 |false=>
  have hs:bI p t.bN N=fin:=(Ad g).symm.trans RM;rw [hs]at i;simp (maxSteps:=9^7)-implicitDefEqProofs+contextual [-X.ev,g,L,M];apply ah
  ·(simp-implicitDefEqProofs [-X.ev];rfl)
  refine (O4 i).mono ?_;rintro x H7 ⟨cs,rfl,W,X7⟩;have n:=W.len;have S:=(C.trans X7).wf T;obtain ⟨H8,s8,X8,Xq,DT,g8⟩:=jN S (z:=7) (c:=zR) (vs:=cs) (by rw [n];rfl);have h:=(C.trans X7).trans X8;have l8:H8.ldn ⟨H7.nx,0,none⟩ 7=some cs:=by rw [b9 g8 (by rw [DT];exact S) (by omega)];simp [avn (Nat.le_of_eq n)]
  obtain ⟨H9,t9,M9,ZY,Rw,g9⟩:=cm (h.get B) (by rw [h.n0];exact a) (k:=0) (vs:=cs) (by simp [n]);rw [iP _ _ (by rw [n];rfl)]at g9;have l9:H9.ldn ⟨j.nx,0,none⟩ 7=some cs:=by rw [b9 g9 (by rw [Rw,h.n0];exact a) (by omega)];simp [avn (Nat.le_of_eq n)]
  have x38:=C.nx;simp (maxSteps:=9^7)-implicitDefEqProofs+contextual [-X.ev,n,s8,l8,M,t9,l9];refine ⟨cs,⟨rfl,l.symm⟩,?_,(X.trans h).mod M9 (fun b A=>by omega)⟩;rw [gJ,if_pos l,J8];exact ((W.ext X8).mod M9 (fun b A=>by omega)).le (by omega)
end
namespace P
open Go Go.RowKit
def O6:Value→Bool
 | .bool _| .int _ _| .string _| .pointer _| .slice _ _ _| .map _| .nilFunc| .nilIface=>true
 |_=>false
inductive PV where
 |v (x:Value)
 |ref (b o t:Nat)
 |sl (sz b o n c:Nat)
 |mp (b:Nat)
 |fs (sz:Nat) (rows:List (List PV))
 |fp (cells:List PV)
 |agg (cs:List PV)
 |hZ (cs:List PV)
 |fn (f:Nat) (first cap:List PV)
 |rG (t:Nat) (p:PV)
 |any
inductive PB where
 |cells (z:Nat) (cs:List PV)
 |map (es:List (Value×PV))
 |dead
abbrev PH:=List PB
structure Cx where
 F:Nat→Prop
 H:AH
 φ:Nat→Nat
 h:PH
mutual
inductive RF (F:Nat→Prop) (H:AH):PV→Value→Prop
 |v (x:Value):RF F H (.v x) x
 |fs {sz:Nat} {rows:List (List PV)} {a:Option Addr} {c:Nat} {rs:List (List Value)}:Rows H sz (.slice a rows.length c) rs→rows.length≤c→(∀d,a=some d→(d.spot=none∨c=0)∧(rows.length=0∨(F d.block∧H.lS d.block sz=true)))→lR F H rows rs→RF F H (.fs sz rows) (.slice a rows.length c)
inductive ju (F:Nat→Prop) (H:AH):List PV→List Value→Prop
 |nil:ju F H [] []
 |cons {p:PV} {x:Value} {ps:List PV} {xs:List Value}:RF F H p x→ju F H ps xs→ju F H (p::ps) (x::xs)
inductive lR (F:Nat→Prop) (H:AH):List (List PV)→List (List Value)→Prop
 |nil:lR F H [] []
 |cons {p:List PV} {x:List Value} {ps:List (List PV)} {xs:List (List Value)}:ju F H p x→lR F H ps xs→lR F H (p::ps) (x::xs)
end
def At (h:PH) (b t:Nat):Prop:=∃z cs,h[b]?=some (.cells z cs)∧cs.length=t
def Le (h:PH) (b t:Nat):Prop:=∀z cs,h[b]?=some (.cells z cs)→t≤cs.length
def dh (h:PH) (b:Nat):Prop:=∃es,h[b]?=some (.map es)
def aY (h:PH) (b:Nat):Prop:=dh h b∨∃t,At h b (t+1)
def slV (a sz o n c:Nat) (x:Value):Prop:=(c=0∧n=0∧∃d:Option Addr,x= .slice d 0 0∧∀e,d=some e→e.spot=none)∨(0<c∧x= .slice (some ⟨a,o*sz,none⟩) n c)
def slN (n:Nat) (x:Value):Prop:=∃a c,x= .slice a n c
theorem slN.sm {n:Nat} {x:Value} (h:slN n x):O6 x=true:=by
 obtain ⟨_,_,rfl⟩:=h;rfl
mutual
inductive RV (C:Cx):PV→Value→Prop
 |v (x:Value):RV C (.v x) x
 |ref {b o t:Nat} {x:Value}:O6 x=true→b<C.h.length→Le C.h b t→(At C.h b t→x= .pointer (some ⟨C.φ b,o,none⟩))→RV C (.ref b o t) x
 |sl {sz b o n c:Nat} {x:Value}:slN n x→b<C.h.length→Le C.h b ((o+c)*sz)→(At C.h b ((o+c)*sz)→slV (C.φ b) sz o n c x)→RV C (.sl sz b o n c) x
 |mp {b:Nat} {x:Value}:O6 x=true→b<C.h.length→(dh C.h b→x= .map (some (C.φ b)))→RV C (.mp b) x
 |fs {sz:Nat} {rows:List (List PV)} {x:Value}:RF C.F C.H (.fs sz rows) x→RV C (.fs sz rows) x
 |fp {cells:List PV} {b o:Nat} {vs:List Value}:C.F b→C.H.ldn ⟨b,o,none⟩ cells.length=some vs→ju C.F C.H cells vs→RV C (.fp cells) (.pointer (some ⟨b,o,none⟩))
 |agg {cs:List PV} {xs:List Value}:dA C cs xs→RV C (.agg cs) (.agg xs.toArray)
 |hZ {cs:List PV} {xs:List Value}:dA C cs xs→RV C (.hZ cs) (.tuple xs.toArray)
 |fn {f:Nat} {a b:List PV} {xs ys:List Value}:dA C a xs→dA C b ys→RV C (.fn f a b) (.func (.func f) xs.toArray ys.toArray)
 |rG {t:Nat} {p:PV} {x:Value}:RV C p x→RV C (.rG t p) (.iface t x)
 |any (x:Value):RV C .any x
inductive dA (C:Cx):List PV→List Value→Prop
 |nil:dA C [] []
 |cons {p:PV} {x:Value} {ps:List PV} {xs:List Value}:RV C p x→dA C ps xs→dA C (p::ps) (x::xs)
end
theorem dA.length {C:Cx}:∀{ps:List PV} {xs:List Value},dA C ps xs→ps.length=xs.length
 |_,_,.nil=>rfl
 |_,_,.cons _ h=>by simp [dA.length h]
theorem ju.length {F:Nat→Prop} {H:AH}:∀{ps:List PV} {xs:List Value},ju F H ps xs→ps.length=xs.length
 |_,_,.nil=>rfl
 |_,_,.cons _ h=>by simp [ju.length h]
theorem lR.length {F:Nat→Prop} {H:AH}:∀{ps:List (List PV)} {xs:List (List Value)},lR F H ps xs→ps.length=xs.length
 |_,_,.nil=>rfl
 |_,_,.cons _ h=>by simp [lR.length h]
structure eK (C:Cx):Prop where
 wf:C.H.n0≤C.H.nx
 fz:∀x,C.F x→x<C.H.nx
 inj:∀b b',aY C.h b→aY C.h b'→C.φ b=C.φ b'→b=b'
 aX:∀b z cs,C.h[b]?=some (.cells z cs)→cs≠[]→∃vs,C.H.get (C.φ b)=some (.cells z vs)∧dA C cs vs∧C.H.n0≤C.φ b∧¬ C.F (C.φ b)
 Ae:∀b es,C.h[b]?=some (.map es)→∃ys,C.H.get (C.φ b)=some (.map ys)∧es.map (·.1)=ys.map (·.1)∧dA C (es.map (·.2)) (ys.map (·.2))∧C.H.n0≤C.φ b∧¬ C.F (C.φ b)
def im (C:Cx) (W:Nat→Prop) (x:Nat):Prop:=∃b,W b∧aY C.h b∧C.φ b=x
structure dR (n:Nat) (W:Nat→Prop) (C D:Cx):Prop where
 n0:D.H.n0=C.H.n0
 nx:C.H.nx≤D.H.nx
 fz:∀x,C.F x→D.F x∧D.H.get x=C.H.get x
 fo:∀x,x<C.H.nx→¬ im C (fun _=>True) x→D.F x→C.F x
 out:∀x,x<C.H.nx→¬ im C W x→D.H.get x=C.H.get x
 loc:∀b,aY D.h b→C.H.nx≤D.φ b∨(aY C.h b∧D.φ b=C.φ b)
 len:n≤C.h.length→n≤D.h.length
 le:∀b,b<n→b<C.h.length→∀t,Le C.h b t→Le D.h b t
 vP:∀b,b<n→b<C.h.length→∀t,Le C.h b t→At D.h b t→At C.h b t∧D.φ b=C.φ b
 wz:∀b,b<n→b<C.h.length→dh D.h b→dh C.h b∧D.φ b=C.φ b
theorem dR.mono {n m:Nat} {W V:Nat→Prop} {C D:Cx} (h:dR n W C D) (c:m≤n) (f:∀b,W b→V b) (e:m≤C.h.length→m≤D.h.length):dR m V C D where
 n0:=h.n0
 nx:=h.nx
 fz:=h.fz
 fo:=h.fo
 out:=fun x d k=>h.out x d fun⟨b,a,q⟩=>k ⟨b,f b a,q⟩
 loc:=h.loc
 len:=e
 le:=fun b a=>h.le b (avD a c)
 vP:=fun b a=>h.vP b (avD a c)
 wz:=fun b a=>h.wz b (avD a c)
theorem im.lt {C:Cx} (S:eK C) {W:Nat→Prop} {x:Nat} (h:im C W x):x<C.H.nx:=by
 obtain ⟨b,_,f,rfl⟩:=h;rcases f with⟨es,c⟩|⟨t,z,cs,c,d⟩
 ·obtain ⟨_,a,_⟩:=S.Ae b es c
  exact AH.bc a
 ·obtain ⟨_,a,_⟩:=S.aX b z cs c (by intro e;subst e;simp at d)
  exact AH.bc a
theorem dR.refl (n:Nat) (W:Nat→Prop) (C:Cx):dR n W C C where
 n0:=rfl
 nx:=avk _
 fz:=fun x a=>⟨a,rfl⟩
 fo:=fun _ _ _ h=>h
 out:=fun _ _ _=>rfl
 loc:=fun b c=>.inr ⟨c,rfl⟩
 len:=id
 le:=fun _ _ _ _ h=>h
 vP:=fun _ _ _ _ _ h=>⟨h,rfl⟩
 wz:=fun _ _ _ h=>⟨h,rfl⟩
theorem dR.trans {n:Nat} {V W U:Nat→Prop} {C D X:Cx} (h:dR n V C D) (k:dR n W D X) (m:n≤C.h.length) (z:∀b,V b→U b) (y:∀b,W b→U b):dR n U C X where
 n0:=k.n0.trans h.n0
 nx:=avC h.nx k.nx
 fz:=fun x i=>by
  obtain ⟨a,b⟩:=h.fz x i;obtain ⟨c,d⟩:=k.fz x a;exact ⟨c,d.trans b⟩
 fo:=fun x i hi w=>by
  refine h.fo x i hi (k.fo x (avD i h.nx) ?_ w);rintro ⟨b,_,j,rfl⟩;rcases h.loc b j with q|⟨q,e⟩
  ·omega
  ·exact hi ⟨b,trivial,q,e.symm⟩
 out:=fun x i hi=>by
  have e:=h.out x i fun⟨b,f,q⟩=>hi ⟨b,z b f,q⟩
  rw [←e];refine k.out x (avD i h.nx) ?_;rintro ⟨b,f,j,rfl⟩;rcases h.loc b j with q|⟨q,e⟩
  ·omega
  ·exact hi ⟨b,y b f,q,e.symm⟩
 loc:=fun b f=>by
  rcases k.loc b f with q|⟨j,e⟩
  ·exact .inl (avC h.nx q)
  ·rcases h.loc b j with q|⟨v,A⟩
   ·exact .inl (by omega)
   ·exact .inr ⟨v,e.trans A⟩
 len:=fun g=>k.len (h.len g)
 le:=fun b f g t l=>k.le b f (avD f (h.len m)) t (h.le b f g t l)
 vP:=fun b f g t l o=>by
  obtain ⟨u,s⟩:=k.vP b f (avD f (h.len m)) t (h.le b f g t l) o;obtain ⟨r,p⟩:=h.vP b f g t l u;exact ⟨r,s.trans p⟩
 wz:=fun b f g o=>by
  obtain ⟨u,s⟩:=k.wz b f (avD f (h.len m)) o;obtain ⟨r,p⟩:=h.wz b f g u;exact ⟨r,s.trans p⟩
theorem Ka {H H':AH} {b sz:Nat} (h:H'.get b=H.get b):H'.lS b sz=H.lS b sz:=by unfold AH.lS;rw [h]
section
variable{F F':Nat→Prop} {H H':AH} (n0:H'.n0=H.n0) (hF:∀x,F x→F' x∧H'.get x=H.get x)
theorem Rows.fz {sz:Nat} {a:Option Addr} {n c:Nat} {rs:List (List Value)} (n0:H'.n0=H.n0) (hF:∀x,F x→F' x∧H'.get x=H.get x) (h:Rows H sz (.slice a n c) rs) (k:∀d,a=some d→(d.spot=none∨c=0)∧(n=0∨(F d.block∧H.lS d.block sz=true))):Rows H' sz (.slice a n c) rs∧(∀d,a=some d→(d.spot=none∨c=0)∧(n=0∨(F' d.block∧H'.lS d.block sz=true))):=by
 obtain ⟨s,p,e,q⟩:=h.is;cases e;refine ⟨⟨_,_,rfl,fun i r hi=>?_⟩,fun d g=>?_⟩
 ·obtain ⟨b,o,rfl,m⟩:=q i r hi
  refine ⟨b,o,rfl,?_⟩;rcases (k _ rfl).2 with j|⟨f,_⟩
  ·have:=(avm.1 hi).1;omega
  ·rw [←m]
   exact fP (hF b f).2 n0
 ·refine ⟨(k d g).1,?_⟩
  rcases (k d g).2 with j|⟨f,l⟩
  ·exact .inl j
  ·exact .inr ⟨(hF _ f).1,by rw [Ka (hF _ f).2];exact l⟩
mutual
theorem RF.mono (n0:H'.n0=H.n0) (hF:∀x,F x→F' x∧H'.get x=H.get x):∀{p:PV} {x:Value},RF F H p x→RF F' H' p x
 |_,_,.v x=>.v x
 |_,_,.fs b c d a=>let q:=Rows.fz n0 hF b d; .fs q.1 c q.2 (lR.mono n0 hF a)
theorem ju.mono (n0:H'.n0=H.n0) (hF:∀x,F x→F' x∧H'.get x=H.get x):∀{p:List PV} {x:List Value},ju F H p x→ju F' H' p x
 |_,_,.nil=>.nil
 |_,_,.cons a b=>.cons (RF.mono n0 hF a) (ju.mono n0 hF b)
theorem lR.mono (n0:H'.n0=H.n0) (hF:∀x,F x→F' x∧H'.get x=H.get x):∀{p:List (List PV)} {x:List (List Value)},lR F H p x→lR F' H' p x
 |_,_,.nil=>.nil
 |_,_,.cons a b=>.cons (ju.mono n0 hF a) (lR.mono n0 hF b)
end
end
mutual
theorem RV.step {W:Nat→Prop} {C D:Cx} (h:dR C.h.length W C D):∀{p:PV} {x:Value},RV C p x→RV D p x
 |_,_, .v x=> .v x
 |_,_, .ref f c d k=> .ref f (avD c (h.len (avk _))) (h.le _ c c _ d) fun e=>by
  obtain ⟨i,g⟩:=h.vP _ c c _ d e;rw [g];exact k i
 |_,_, .sl f c d k=> .sl f (avD c (h.len (avk _))) (h.le _ c c _ d) fun e=>by
  obtain ⟨i,g⟩:=h.vP _ c c _ d e;rw [g];exact k i
 |_,_, .mp f c k=> .mp f (avD c (h.len (avk _))) fun e=>by
  obtain ⟨i,g⟩:=h.wz _ c c e;rw [g];exact k i
 |_,_, .fs k=> .fs (k.mono h.n0 h.fz)
 |_,_, .fp j d k=> .fp (h.fz _ j).1 (by rw [←d];exact fP (h.fz _ j).2 h.n0) (k.mono h.n0 h.fz)
 |_,_, .agg k=> .agg (dA.step h k)
 |_,_, .hZ k=> .hZ (dA.step h k)
 |_,_, .fn a b=> .fn (dA.step h a) (dA.step h b)
 |_,_, .rG a=> .rG (RV.step h a)
 |_,_, .any x=> .any x
theorem dA.step {W:Nat→Prop} {C D:Cx} (h:dR C.h.length W C D):∀{p:List PV} {x:List Value},dA C p x→dA D p x
 |_,_, .nil=> .nil
 |_,_, .cons a b=> .cons (RV.step h a) (dA.step h b)
end
theorem dA.get {C:Cx}:∀{ps:List PV} {xs:List Value},dA C ps xs→∀{i:Nat} {p:PV},ps[i]?=some p→∃x,xs[i]?=some x∧RV C p x
 |_,_,.nil,i,p,h=>by simp at h
 |_,_,.cons a b,0,p,h=>by simp at h;subst h;exact ⟨_,rfl,a⟩
 |_,_,.cons a b,i+1,p,h=>by simpa using dA.get b (by simpa using h)
theorem dA.drop {C:Cx}:∀{ps:List PV} {xs:List Value},dA C ps xs→∀n,dA C (ps.drop n) (xs.drop n)
 |_,_,.nil,n=>by simp;exact .nil
 |_,_,.cons a b,0=>.cons a b
 |_,_,.cons a b,n+1=>by simpa using dA.drop b n
theorem dA.take {C:Cx}:∀{ps:List PV} {xs:List Value},dA C ps xs→∀n,dA C (ps.take n) (xs.take n)
 |_,_,.nil,n=>by simp;exact .nil
 |_,_,.cons a b,0=>.nil
 |_,_,.cons a b,n+1=>by simpa using dA.cons a (dA.take b n)
theorem dA.append {C:Cx}:∀{ps:List PV} {xs:List Value} {c:List PV} {ys:List Value},dA C ps xs→dA C c ys→dA C (ps++c) (xs++ys)
 |_,_,_,_,.nil,k=>k
 |_,_,_,_,.cons a b,k=>.cons a (dA.append b k)
theorem dA.lits {C:Cx}:∀(l:List Value),dA C (l.map .v) l
 |[]=>.nil
 |x::l=>.cons (.v x) (dA.lits l)
theorem dA.aa1 {C:Cx} {ps:List PV} {xs:List Value} (h:dA C ps xs):∀n,dA C (List.replicate n ps).flatten (List.replicate n xs).flatten
 |0=>.nil
 |n+1=>by simpa [List.replicate_succ]using h.append (h.aa1 n)
theorem ju.sy {C:Cx}:∀{ps:List PV} {xs:List Value},ju C.F C.H ps xs→dA C ps xs
 |_,_,.nil=>.nil
 |_,_,.cons (.v x) b=>.cons (.v x) (ju.sy b)
 |_,_,.cons (.fs a b c d) e=>.cons (.fs (.fs a b c d)) (ju.sy e)
theorem RF.sy {C:Cx}:∀{p:PV} {x:Value},RF C.F C.H p x→RV C p x
 |_,_,.v x=>.v x
 |_,_,.fs a b c d=>.fs (.fs a b c d)
theorem ju.drop {F:Nat→Prop} {H:AH}:∀{ps:List PV} {xs:List Value},ju F H ps xs→∀n,ju F H (ps.drop n) (xs.drop n)
 |_,_,.nil,n=>by simp;exact .nil
 |_,_,.cons a b,0=>.cons a b
 |_,_,.cons a b,n+1=>by simpa using ju.drop b n
theorem ju.take {F:Nat→Prop} {H:AH}:∀{ps:List PV} {xs:List Value},ju F H ps xs→∀n,ju F H (ps.take n) (xs.take n)
 |_,_,.nil,n=>by simp;exact .nil
 |_,_,.cons a b,0=>.nil
 |_,_,.cons a b,n+1=>by simpa using ju.cons a (ju.take b n)
theorem lR.get {F:Nat→Prop} {H:AH}:∀{ps:List (List PV)} {xs:List (List Value)},lR F H ps xs→∀{i:Nat} {p:List PV},ps[i]?=some p→∃x,xs[i]?=some x∧ju F H p x
 |_,_,.nil,i,p,h=>by simp at h
 |_,_,.cons a b,0,p,h=>by simp at h;subst h;exact ⟨_,rfl,a⟩
 |_,_,.cons a b,i+1,p,h=>by simpa using lR.get b (by simpa using h)
theorem lR.drop {F:Nat→Prop} {H:AH}:∀{ps:List (List PV)} {xs:List (List Value)},lR F H ps xs→∀n,lR F H (ps.drop n) (xs.drop n)
 |_,_,.nil,n=>by simp;exact .nil
 |_,_,.cons a b,0=>.cons a b
 |_,_,.cons a b,n+1=>by simpa using lR.drop b n
theorem lR.take {F:Nat→Prop} {H:AH}:∀{ps:List (List PV)} {xs:List (List Value)},lR F H ps xs→∀n,lR F H (ps.take n) (xs.take n)
 |_,_,.nil,n=>by simp;exact .nil
 |_,_,.cons a b,0=>.nil
 |_,_,.cons a b,n+1=>by simpa using lR.cons a (lR.take b n)
theorem lR.flat {F:Nat→Prop} {H:AH}:∀{ps:List (List PV)} {xs:List (List Value)},lR F H ps xs→ju F H ps.flatten xs.flatten
 |_,_,.nil=>.nil
 |_,_,.cons a b=>by
  have ap:∀{ps:List PV} {xs:List Value} {d:List PV} {c:List Value},ju F H ps xs→ju F H d c→ju F H (ps++d) (xs++c):=by
   intro ps xs d c h k
   induction ps generalizing xs with
   |nil=>cases h;exact k
   |cons p ps ih=>cases h with|cons a b=>exact .cons a (ih b)
  simpa using ap a (lR.flat b)
end P
namespace P
open Go Go.RowKit
theorem dC {h a:PH} {b:Nat} (e:a[b]?=h[b]?):aY a b↔aY h b:=by unfold aY dh At;rw [e]
theorem sA {h a:PH} {b t:Nat} (e:a[b]?=h[b]?):At a b t↔At h b t:=by unfold At;rw [e]
theorem sB {h a:PH} {b t:Nat} (e:a[b]?=h[b]?):Le a b t↔Le h b t:=by unfold Le;rw [e]
theorem fV {h a:PH} {b:Nat} (e:a[b]?=h[b]?):dh a b↔dh h b:=by unfold dh;rw [e]
theorem cz {h:PH} {b z:Nat} {cs:List PV} (e:h[b]?=some (.cells z cs)) (a:cs≠[]):aY h b:=by
 refine .inr ⟨cs.length- 1,z,cs,e,?_⟩;have:=List.length_pos_iff.2 a;omega
theorem fx {h:PH} {b:Nat} {es:List (Value×PV)} (e:h[b]?=some (.map es)):aY h b:=.inl ⟨es,e⟩
theorem lL {h:PH} {b:Nat} (s:aY h b):(∃es,h[b]?=some (.map es))∨∃z cs,h[b]?=some (.cells z cs)∧cs≠[]:=by
 rcases s with⟨es,e⟩|⟨t,z,cs,e,a⟩
 ·exact .inl ⟨es,e⟩
 ·exact .inr ⟨z,cs,e,by rintro rfl;simp at a⟩
theorem aW {h:PH} {b:Nat} (s:aY h b):b<h.length:=by
 rcases lL s with⟨es,e⟩|⟨z,cs,e,_⟩<;>exact (avm.1 e).1
theorem eK.lt {C:Cx} (S:eK C) {b:Nat} (s:aY C.h b):C.φ b<C.H.nx:=im.lt S (W:=fun _=>True) ⟨b,trivial,s,rfl⟩
theorem eK.old {C:Cx} (S:eK C) {b:Nat} (s:aY C.h b):C.H.n0≤C.φ b∧¬ C.F (C.φ b):=by
 rcases lL s with⟨es,e⟩|⟨z,cs,e,c⟩
 ·obtain ⟨_,_,_,_,a,b⟩:=S.Ae _ _ e;exact ⟨a,b⟩
 ·obtain ⟨_,_,_,a,b⟩:=S.aX _ _ _ e c;exact ⟨a,b⟩
theorem eK.of {C D:Cx} {W:Nat→Prop} (S:eK C) (T:dR C.h.length W C D) (o:D.F=C.F) (f:Nat) (g:∀b,b≠f→D.h[b]?=C.h[b]?∧D.φ b=C.φ b)
 (q:∀b,b≠f→aY C.h b→D.H.get (C.φ b)=C.H.get (C.φ b)) (p:∀b,b≠f→aY C.h b→aY D.h f→D.φ f≠C.φ b)
 (u:∀z cs,D.h[f]?=some (.cells z cs)→cs≠[]→∃vs,D.H.get (D.φ f)=some (.cells z vs)∧dA C cs vs∧D.H.n0≤D.φ f∧¬ D.F (D.φ f))
 (t:∀es,D.h[f]?=some (.map es)→∃ys,D.H.get (D.φ f)=some (.map ys)∧es.map (·.1)=ys.map (·.1)∧dA C (es.map (·.2)) (ys.map (·.2))∧D.H.n0≤D.φ f∧¬ D.F (D.φ f)):eK D where
 wf:=by rw [T.n0];exact avC S.wf T.nx
 fz:=fun x r=>avD (S.fz x (o▸r)) T.nx
 inj:=fun b k s m e=>by
  by_cases h:b=f
  ·by_cases i:k=f
   ·omega
   ·subst h
    have l:=(dC (g _ i).1).1 m;rw [(g _ i).2]at e;exact absurd e (p _ i l s)
  ·by_cases i:k=f
   ·subst i
    have l:=(dC (g _ h).1).1 s;rw [(g _ h).2]at e;exact absurd e.symm (p _ h l m)
   ·rw [(g _ h).2,(g _ i).2]at e
    exact S.inj _ _ ((dC (g _ h).1).1 s) ((dC (g _ i).1).1 m) e
 aX:=fun b z cs e n=>by
  by_cases h:b=f
  ·subst h
   obtain ⟨vs,a,b,c⟩:=u z cs e n;exact ⟨vs,a,b.step T,c⟩
  ·have j:=e
   rw [(g _ h).1]at j;obtain ⟨vs,a,k,c,d⟩:=S.aX _ _ _ j n;rw [(g _ h).2,o,T.n0];exact ⟨vs,(q _ h (cz j n)).trans a,k.step T,c,d⟩
 Ae:=fun b es e=>by
  by_cases h:b=f
  ·subst h
   obtain ⟨ys,a,b,c,d⟩:=t es e;exact ⟨ys,a,b,c.step T,d⟩
  ·have j:=e
   rw [(g _ h).1]at j;obtain ⟨ys,a,k,c,d⟩:=S.Ae _ _ j;rw [(g _ h).2,o,T.n0];exact ⟨ys,(q _ h (fx j)).trans a,k,c.step T,d⟩
def D9 (φ:Nat→Nat) (b x:Nat):Nat→Nat:=fun c=>if c=b then x else φ c
theorem iT (φ:Nat→Nat) (b x:Nat):D9 φ b x b=x:=by simp [D9]
theorem nv {φ:Nat→Nat} {b x c:Nat} (h:c≠b):D9 φ b x c=φ c:=by simp [D9,h]
theorem lh {h:PH} {P:PB} {b:Nat} (a:b≠h.length):(h++[P])[b]?=h[b]?:=by
 rcases Nat.lt_or_ge b h.length with k|k
 ·rw [avt k]
 ·rw [avx k,avV (by simp;omega),avV k]
theorem mf (h:PH) (P:PB):(h++[P])[h.length]?=some P:=by simp
theorem eK.new {C:Cx} (S:eK C) {P:PB} {B:q7} (W:Nat→Prop)
 (i:(∃z cs vs,P= .cells z cs∧B= .cells z vs∧dA C cs vs)∨(∃es ys,P= .map es∧B= .map ys∧es.map (·.1)=ys.map (·.1)∧dA C (es.map (·.2)) (ys.map (·.2)))):
 eK ⟨C.F,C.H.alloc B,D9 C.φ C.h.length C.H.nx,C.h++[P]⟩∧dR C.h.length W C ⟨C.F,C.H.alloc B,D9 C.φ C.h.length C.H.nx,C.h++[P]⟩:=by
 have T:dR C.h.length W C ⟨C.F,C.H.alloc B,D9 C.φ C.h.length C.H.nx,C.h++[P]⟩:={
  n0:=rfl
  nx:=avH _
  fz:=fun x d=>⟨d,by have:=S.fz x d;rw [AH.eh,if_neg (by omega)]⟩
  fo:=fun _ _ _ h=>h
  out:=fun x d _=>by rw [AH.eh,if_neg (by omega)]
  loc:=fun b a=>by
   by_cases h:b=C.h.length
   ·subst h;left;show _≤D9 _ _ _ _;rw [iT];exact avk _
   ·right;exact ⟨(dC (lh h)).1 a,nv h⟩
  len:=fun _=>by simp
  le:=fun b a _ t k=>(sB (lh (by omega))).2 k
  vP:=fun b a _ t _ g=>⟨(sA (lh (by omega))).1 g,nv (by omega)⟩
  wz:=fun b a _ g=>⟨(fV (lh (by omega))).1 g,nv (by omega)⟩}
 refine ⟨S.of T rfl C.h.length (fun b a=>⟨lh a,nv a⟩) (fun b a s=>?_) (fun b a s _=>?_) (fun z cs e o=>?_) (fun es e=>?_),T⟩
 ·have:=S.lt s;show(C.H.alloc B).get _=_;rw [AH.eh,if_neg (by omega)]
 ·have:=S.lt s;show D9 _ _ _ _≠_;rw [iT];omega
 ·have e:some P=some (.cells z cs):=(mf _ _).symm.trans e
  cases e;rcases i with⟨j,n,vs,c,rfl,f⟩|⟨es,ys,c,_⟩
  ·cases c
   refine ⟨vs,?_,f,?_,?_⟩<;>dsimp only<;>rw [iT]
   ·exact cQ _ _
   ·exact S.wf
   ·intro q;exact absurd (S.fz _ q) (Nat.lt_irrefl _)
  ·cases c
 ·have e:some P=some (.map es):=(mf _ _).symm.trans e
  cases e;rcases i with⟨j,n,vs,c,_⟩|⟨m,ys,c,rfl,l,f⟩
  ·cases c
  ·cases c
   refine ⟨ys,?_,l,f,?_,?_⟩<;>dsimp only<;>rw [iT]
   ·exact cQ _ _
   ·exact S.wf
   ·intro q;exact absurd (S.fz _ q) (Nat.lt_irrefl _)
theorem fW {h:PH} {P:PB} {b c:Nat} (a:c≠b):(h.set b P)[c]?=h[c]?:=avE (Ne.symm a)
theorem fF {h:PH} {P:PB} {b:Nat} (a:b<h.length):(h.set b P)[b]?=some P:=by simp [List.getElem?_set,a]
theorem eK.put {C:Cx} (S:eK C) {b z:Nat} {cs ds:List PV} {vs:List Value} {W:Nat→Prop} (v:W b) (l:C.h[b]?=some (.cells z cs)) (d:cs≠[]) (j:ds.length=cs.length) (r:dA C ds vs):
 eK ⟨C.F,C.H.put (C.φ b) (some (.cells z vs)),C.φ,C.h.set b (.cells z ds)⟩∧dR C.h.length W C ⟨C.F,C.H.put (C.φ b) (some (.cells z vs)),C.φ,C.h.set b (.cells z ds)⟩:=by
 have a:=cz l d;have i:=S.lt a;have f:=aW a;have w:ds≠[]:=by intro e;subst e;simp at j;exact d (avJ.1 j.symm)
 have u:∀t,At (C.h.set b (.cells z ds)) b t→At C.h b t:=by
  rintro t ⟨m,q,e,rfl⟩;rw [fF f]at e;cases e;exact ⟨z,cs,l,j.symm⟩
 have T:dR C.h.length W C ⟨C.F,C.H.put (C.φ b) (some (.cells z vs)),C.φ,C.h.set b (.cells z ds)⟩:={
  n0:=rfl
  nx:=avk _
  fz:=fun x k=>⟨k,by rw [AH.bZ _ _ _ _ i,if_neg];rintro rfl;exact (S.old a).2 k⟩
  fo:=fun _ _ _ h=>h
  out:=fun x k hi=>by rw [AH.bZ _ _ _ _ i,if_neg];rintro rfl;exact hi ⟨b,v,a,rfl⟩
  loc:=fun c o=>by
   right;by_cases h:c=b
   ·subst h;exact ⟨a,rfl⟩
   ·exact ⟨(dC (fW h)).1 o,rfl⟩
  len:=fun _=>by simp
  le:=fun c p _ t n=>by
   by_cases h:c=b
   ·subst h
    intro m q e;rw [fF f]at e;cases e;rw [j];exact n _ _ l
   ·exact (sB (fW h)).2 n
  vP:=fun c p _ t _ g=>by
   by_cases h:c=b
   ·subst h;exact ⟨u t g,rfl⟩
   ·exact ⟨(sA (fW h)).1 g,rfl⟩
  wz:=fun c p _ g=>by
   by_cases h:c=b
   ·subst h;obtain ⟨es,e⟩:=g;rw [fF f]at e;cases e
   ·exact ⟨(fV (fW h)).1 g,rfl⟩}
 refine ⟨S.of T rfl b (fun c d=>⟨fW d,rfl⟩) (fun c d s=>?_) (fun c d s _ e=>d (S.inj _ _ s a e.symm)) (fun m q e o=>?_) (fun es e=>?_),T⟩
 ·show(C.H.put _ _).get _=_
  rw [AH.bZ _ _ _ _ i,if_neg];exact fun e=>d (S.inj _ _ s a e)
 ·have e:=(fF f).symm.trans e
  cases e;refine ⟨vs,?_,r,(S.old a)⟩;show(C.H.put _ _).get _=_;rw [AH.bZ _ _ _ _ i,if_pos rfl]
 ·have e:=(fF f).symm.trans e
  cases e
theorem eK.akj {C:Cx} (S:eK C) {b:Nat} {es fs:List (Value×PV)} {ys:List (Value×Value)} {W:Nat→Prop} (u:W b) (n:C.h[b]?=some (.map es)) (r:fs.map (·.1)=ys.map (·.1)) (p:dA C (fs.map (·.2)) (ys.map (·.2))):
 eK ⟨C.F,C.H.put (C.φ b) (some (.map ys)),C.φ,C.h.set b (.map fs)⟩∧dR C.h.length W C ⟨C.F,C.H.put (C.φ b) (some (.map ys)),C.φ,C.h.set b (.map fs)⟩:=by
 have a:=fx n;have f:=S.lt a;have g:=aW a
 have T:dR C.h.length W C ⟨C.F,C.H.put (C.φ b) (some (.map ys)),C.φ,C.h.set b (.map fs)⟩:={
  n0:=rfl
  nx:=avk _
  fz:=fun x j=>⟨j,by rw [AH.bZ _ _ _ _ f,if_neg];rintro rfl;exact (S.old a).2 j⟩
  fo:=fun _ _ _ h=>h
  out:=fun x j hi=>by rw [AH.bZ _ _ _ _ f,if_neg];rintro rfl;exact hi ⟨b,u,a,rfl⟩
  loc:=fun c l=>by
   right;by_cases h:c=b
   ·subst h;exact ⟨a,rfl⟩
   ·exact ⟨(dC (fW h)).1 l,rfl⟩
  len:=fun _=>by simp
  le:=fun c m _ t q=>by
   by_cases h:c=b
   ·subst h
    intro k o e;rw [fF g]at e;cases e
   ·exact (sB (fW h)).2 q
  vP:=fun c m _ t _ i=>by
   by_cases h:c=b
   ·subst h;obtain ⟨k,o,e,_⟩:=i;rw [fF g]at e;cases e
   ·exact ⟨(sA (fW h)).1 i,rfl⟩
  wz:=fun c m _ i=>by
   by_cases h:c=b
   ·subst h;exact ⟨⟨es,n⟩,rfl⟩
   ·exact ⟨(fV (fW h)).1 i,rfl⟩}
 refine ⟨S.of T rfl b (fun c d=>⟨fW d,rfl⟩) (fun c d s=>?_) (fun c d s _ e=>d (S.inj _ _ s a e.symm)) (fun k o e l=>?_) (fun es e=>?_),T⟩
 ·show(C.H.put _ _).get _=_
  rw [AH.bZ _ _ _ _ f,if_neg];exact fun e=>d (S.inj _ _ s a e)
 ·have e:=(fF g).symm.trans e
  cases e
 ·have e:=(fF g).symm.trans e
  cases e;refine ⟨ys,?_,r,p,(S.old a)⟩;show(C.H.put _ _).get _=_;rw [AH.bZ _ _ _ _ f,if_pos rfl]
theorem eK.grow {C:Cx} (S:eK C) {b z:Nat} {cs ds:List PV} {vs:List Value} {H1:AH} {W:Nat→Prop} (A:W b) (j:C.h[b]?=some (.cells z cs)) (B:cs.length<ds.length) (w:dA C ds vs)
 (k:(cs=[]∧H1=C.H)∨(cs≠[]∧H1=C.H.put (C.φ b) none)):
 eK ⟨C.F,H1.alloc (.cells z vs),D9 C.φ b C.H.nx,C.h.set b (.cells z ds)⟩∧dR C.h.length W C ⟨C.F,H1.alloc (.cells z vs),D9 C.φ b C.H.nx,C.h.set b (.cells z ds)⟩:=by
 have f:=(avm.1 j).1;have v:H1.nx=C.H.nx:=by rcases k with⟨_,rfl⟩|⟨_,rfl⟩<;>rfl
 have n:H1.n0=C.H.n0:=by rcases k with⟨_,rfl⟩|⟨_,rfl⟩<;>rfl
 have l:∀x,x<C.H.nx→(∀(_:aY C.h b),x≠C.φ b)→(H1.alloc (.cells z vs)).get x=C.H.get x:=by
  intro x d y;rw [AH.eh,if_neg (by omega)];rcases k with⟨_,rfl⟩|⟨a,rfl⟩
  ·rfl
  ·rw [AH.tB,if_neg (y (cz j a))]
 have T:dR C.h.length W C ⟨C.F,H1.alloc (.cells z vs),D9 C.φ b C.H.nx,C.h.set b (.cells z ds)⟩:={
  n0:=n
  nx:=by show _≤H1.nx+1;omega
  fz:=fun x d=>⟨d,l x (S.fz x d) fun s e=>(S.old s).2 (e▸d)⟩
  fo:=fun _ _ _ h=>h
  out:=fun x d hi=>l x d fun s e=>hi ⟨b,A,s,e.symm⟩
  loc:=fun c o=>by
   by_cases h:c=b
   ·subst h;left;show _≤D9 _ _ _ _;rw [iT];exact avk _
   ·right;exact ⟨(dC (fW h)).1 o,nv h⟩
  len:=fun _=>by simp
  le:=fun c p _ t i=>by
   by_cases h:c=b
   ·subst h
    intro m r e;rw [fF f]at e;cases e;have:=i _ _ j;omega
   ·exact (sB (fW h)).2 i
  vP:=fun c p _ t i g=>by
   by_cases h:c=b
   ·subst h
    obtain ⟨m,r,e,rfl⟩:=g;rw [fF f]at e;cases e;have:=i _ _ j;omega
   ·exact ⟨(sA (fW h)).1 g,nv h⟩
  wz:=fun c p _ g=>by
   by_cases h:c=b
   ·subst h;obtain ⟨es,e⟩:=g;rw [fF f]at e;cases e
   ·exact ⟨(fV (fW h)).1 g,nv h⟩}
 refine ⟨S.of T rfl b (fun c a=>⟨fW a,nv a⟩) (fun c a s=>?_) (fun c a s _=>?_) (fun m r e o=>?_) (fun es e=>?_),T⟩
 ·exact l _ (S.lt s) fun u e=>a (S.inj _ _ s u e)
 ·have:=S.lt s;show D9 _ _ _ _≠_;rw [iT];omega
 ·have e:=(fF f).symm.trans e
  cases e;refine ⟨vs,?_,w,?_,?_⟩<;>dsimp only<;>rw [iT]
  ·rw [←v];exact cQ _ _
  ·show H1.n0≤_;rw [n];exact S.wf
  ·intro q;exact absurd (S.fz _ q) (Nat.lt_irrefl _)
 ·have e:=(fF f).symm.trans e
  cases e
theorem eK.void {C:Cx} (S:eK C) (z:Nat) (W:Nat→Prop):eK ⟨C.F,C.H,C.φ,C.h++[.cells z []]⟩∧dR C.h.length W C ⟨C.F,C.H,C.φ,C.h++[.cells z []]⟩:=by
 have f:¬ aY (C.h++[.cells z []]) C.h.length:=fun s=>by
  rcases lL s with⟨es,e⟩|⟨k,cs,e,c⟩
  ·rw [mf]at e;cases e
  ·rw [mf]at e;cases e;exact c rfl
 have T:dR C.h.length W C ⟨C.F,C.H,C.φ,C.h++[.cells z []]⟩:={
  n0:=rfl
  nx:=avk _
  fz:=fun x g=>⟨g,rfl⟩
  fo:=fun _ _ _ h=>h
  out:=fun x g _=>rfl
  loc:=fun b a=>by
   by_cases h:b=C.h.length
   ·subst h;exact absurd a f
   ·right;exact ⟨(dC (lh h)).1 a,rfl⟩
  len:=fun _=>by simp
  le:=fun b a _ t j=>(sB (lh (by omega))).2 j
  vP:=fun b a _ t _ d=>⟨(sA (lh (by omega))).1 d,rfl⟩
  wz:=fun b a _ d=>⟨(fV (lh (by omega))).1 d,rfl⟩}
 refine ⟨S.of T rfl C.h.length (fun b a=>⟨lh a,rfl⟩) (fun b a s=>rfl) (fun b a s i=>absurd i f) (fun z cs e c=>?_) (fun es e=>?_),T⟩
 ·have e:=(mf _ _).symm.trans e;cases e;exact absurd rfl c
 ·have e:=(mf _ _).symm.trans e;cases e
open Go Go.RowKit
def vQ {α:Type}:List α→Nat→List α→List α
 |c,0,vs=>vs++c.drop vs.length
 |x::c,k+1,vs=>x::vQ c k vs
 |[],_+1,_=>[]
def yS:Value→PV
 | .agg cs=>.agg (cs.toList.map .v)
 |x=>.v x
def eg:PV→Option (List PV)
 | .agg cs=>some cs
 | .hZ _=>none
 | .any=>none
 | .v (.agg cs)=>some (cs.toList.map .v)
 | .v (.tuple _)=>none
 |p=>some [p]
def qH:List PV→List (Nat×Nat×PV)→Option (List PV)
 |c,[]=>some c
 |c,(off,n,p)::l=>match eg p with
  |some ds=>if ds.length=n∧off+n≤c.length then qH (vQ c off ds) l else none
  |none=>none
def Kb:PV→PV→PV→Option PV
 | .v (.bool t),a,b=>some (bif t then a else b)
 |_,_,_=>none
def RN (h:PH):PV→Option PV
 | .ref b o t=>match h[b]? with
   |some (.cells _ cs)=>if cs.length=t then cs[o]? else none
   |_=>none
 | .fp cells=>cells.head?
 |_=>none
def xS (n:Nat) (h:PH):PV→Option PV
 | .ref b o t=>match h[b]? with
   |some (.cells _ cs)=>if cs.length=t∧o+n≤t∧0<t then some (.agg ((cs.drop o).take n))else none
   |_=>none
 | .fp cells=>if n≤cells.length then some (.agg (cells.take n))else none
 |_=>none
def U4 (n:Nat) (h:PH):PV→PV→Option PH
 | .ref b o t,p=>match h[b]?,eg p with
   |some (.cells z cs),some ds=>if cs.length=t∧o+n≤t∧0<t∧ds.length=n then some (h.set b (.cells z (vQ cs o ds)))else none
   |_,_=>none
 |_,_=>none
def dk (h:PH) (b:Nat):Option Nat:=match h[b]? with
 |some (.cells _ cs)=>some cs.length
 |_=>none
def Ea (h:PH):PV→Option PV
 | .ref b o t=>if dk h b=some t then some (.ref b o t)else none
 | .fp c=>some (.fp c)
 |_=>none
def Kc (op:BinOp):PV→PV→Option PV
 | .v x,.v y=>(cl op x y).map .v
 |_,_=>none
def xT:Nat→Value→Bool
 |1,.pointer none=>true
 |2,.slice none _ _=>true
 |3,.nilFunc=>true
 |4,.map none=>true
 |_,_=>false
def O7 (h:PH) (k:Nat) (p:PV) (y:Value):Option Bool:=
 match p with
 | .v x=>ja k x y
 | .ref b _ t=>match h[b]? with
   |some (.cells _ cs)=>if cs.length=t∧k=1∧xT 1 y=true then some false else none
   |_=>none
 | .fp _=>if k=1∧xT 1 y=true then some false else none
 | .sl sz b o n c=>match h[b]? with
   |some (.cells _ cs)=>if(o+c)*sz=cs.length∧0<c∧k=2∧xT 2 y=true then some false else none
   |_=>none
 | .fs _ rows=>if rows≠[]∧k=2∧xT 2 y=true then some false else none
 | .fn _ _ _=>if k=3∧xT 3 y=true then some false else none
 | .mp b=>match h[b]? with
   |some (.map _)=>if k=4∧xT 4 y=true then some false else none
   |_=>none
 |_=>none
def O8 (h:PH) (k:Nat):PV→PV→Option Bool
 |p,.v y=>O7 h k p y
 |_,_=>none
def pun (op:UnOp):PV→Option PV
 | .v x=>(HD op x).map .v
 |_=>none
def O9 (k:IntKind):PV→Option PV
 | .v (.int _ n)=>some (.v (.int k (k.wrap n)))
 |_=>none
def Pa:PV→Option PV
 | .v (.int _ n)=>some (.v (.string (Utf8.encode n)))
 |_=>none
def XD (h:PH) (off:Nat):PV→Option PV
 | .ref b o t=>if dk h b=some t then some (.ref b (o+off) t)else none
 | .fp cells=>if off≤cells.length then some (.fp (cells.drop off))else none
 |_=>none
def pia (h:PH) (sz:Nat):PV→PV→Option PV
 | .sl iI b o n c, .v (.int _ k)=>match h[b]? with
   |some (.cells _ cs)=>if iI=sz∧(o+c)*sz=cs.length∧0<c∧0≤k∧k<n then some (.ref b ((o+k.toNat)*sz) cs.length)else none
   |_=>none
 | .fs iI rows, .v (.int _ k)=>if iI=sz∧0≤k∧k<rows.length then(match rows[k.toNat]? with|some r=>some (.fp r)|none=>none)else none
 |_,_=>none
def Kd (h:PH) (len sz:Nat):PV→PV→Option PV
 | .ref b o t,.v (.int _ k)=>if dk h b=some t∧0≤k∧k<len then some (.ref b (o+k.toNat*sz) t)else none
 | .fp cells,.v (.int _ k)=>if 0≤k∧k<len∧k.toNat*sz≤cells.length then some (.fp (cells.drop (k.toNat*sz)))else none
 |_,_=>none
def pix:PV→PV→Option PV
 | .v x,.v y=>(Hk x y).map .v
 |_,_=>none
def Pb:PV→Nat→Option PV
 | .hZ ps,i=>ps[i]?
 |_,_=>none
def Ke:PV→Option PV
 | .v x=>(uj x).map .v
 |_=>none
def fG (h:PH):PV→Bool
 | .sl sz b o _ c=>match h[b]? with
   |some (.cells _ cs)=>decide ((o+c)*sz=cs.length)
   |_=>false
 |_=>true
def oI:PV→Option Nat
 | .v (.slice none 0 0)=>some 0
 | .v (.string s)=>some s.size
 | .sl _ _ _ n _=>some n
 | .fs _ rows=>some rows.length
 |_=>none
def Eb (h:PH):PV→Option PV
 | .v x=>(uk x).map .v
 | .sl sz b o n c=>some (.v (.int .i64 n))
 | .fs _ rows=>some (.v (.int .i64 rows.length))
 |_=>none
def sD (k:Value):List (Value×PV)→Option (Option PV)
 |[]=>some none
 |(k',p)::es=>match jB k k' with
  |some true=>some (some p)
  |some false=>sD k es
  |none=>none
def vR (k:Value) (p:PV):List (Value×PV)→Option (List (Value×PV))
 |[]=>some [(k,p)]
 |(k',p')::es=>match jB k k' with
  |some true=>some ((k,p)::es)
  |some false=>(vR k p es).map fun l=>(k',p')::l
  |none=>none
def Af (kk:Nat) (z:Value) (h:PH) (x k:PV) (ok:Bool):Option PV:=
 match x,k with
 | .v (.map none), .v kx=>if cU kk kx=true then some (bif ok then .hZ [yS z, .v (.bool false)]else yS z)else none
 | .mp b, .v kx=>match h[b]? with
   |some (.map es)=>if cU kk kx=true then(match sD kx es with
    |some (some p)=>some (bif ok then .hZ [p, .v (.bool true)]else p)
    |some none=>some (bif ok then .hZ [yS z, .v (.bool false)]else yS z)
    |none=>none)else none
   |_=>none
 |_,_=>none
def Gs (kk:Nat) (h:PH) (x k p:PV):Option PH:=
 match x,k with
 | .mp b, .v kx=>match h[b]? with
   |some (.map es)=>if cU kk kx=true∧(eg p).isSome=true then(vR kx p es).map fun es'=>h.set b (.map es')else none
   |_=>none
 |_,_=>none
def Pc:Option PV→Option (Option Value)
 |none=>some none
 |some (.v x)=>some (some x)
 |_=>none
def RO (sz:Nat) (h:PH) (x:PV) (lo hi mx:Option PV):Option (PV×PH):=
 match Pc lo,Pc hi,Pc mx with
 |some lo,some hi,some mx=>match x with
  | .sl iI b o n c=>match h[b]?,bK n c lo hi mx with
    |some (.cells z cs),some (l,e,m)=>if iI=sz∧0<sz∧z=sz∧(o+c)*sz=cs.length∧e≤m then
      (if c=0 then some (x,h)
      else if m=l then(if mx=none then some (.fs sz [],h)else some (.sl sz h.length 0 0 0,h++[.cells sz []]))
      else if m=c then some (.sl sz b (o+l) (e- l) (c- l),h)else none)else none
    |_,_=>none
  | .fs iI rows=>if iI=sz∧0<sz then
      (match mx with
      |none=>match bK rows.length rows.length lo hi none with
       |some (l,e,_)=>if e≤rows.length then some (.fs sz ((rows.take e).drop l),h)else none
       |none=>none
      |some m=>if bK rows.length rows.length lo hi (some m)=some (0,0,0)then(match rows with
       |[]=>some (.fs sz [],h)
       |_::_=>some (.sl sz h.length 0 0 0,h++[.cells sz []]))else none)else none
  | .v (.slice none 0 0)=>if 0<sz∧(bK 0 0 lo hi mx).isSome=true then some (x,h)else none
  | .v (.string s)=>match mx with
    |some _=>none
    |none=>match bK s.size s.size lo hi none with
     |some (l,e,_)=>if sz=0 then some (.v (.string (s.extract l e)),h)else none
     |none=>none
  |_=>none
 |_,_,_=>none
def eB (h:PH) (sz k:Nat):PV→Option (List PV)
 | .sl iI b o n c=>match h[b]? with
   |some (.cells _ cs)=>if iI=sz∧(o+c)*sz=cs.length∧k≤n∧n≤c then some ((cs.drop (o*sz)).take (k*sz))else none
   |_=>none
 | .fs iI rows=>if iI=sz∧k≤rows.length then some (rows.take k).flatten else none
 | .v (.string s)=>if sz=1 then some ((s.extract 0 k).data.toList.map fun b=> .v (.int .u8 b.toNat))else none
 | .v (.slice none 0 0)=>if k=0 then some []else none
 |_=>none
def sR (sz bytes:Nat) (h:PH) (s x:PV):Option (PV×PH):=
 match oI x with
 |none=>none
 |some k=>
  if k=0 then(if fG h x=true then match s with
   | .v (.slice none 0 0)=>some (s,h)
   | .sl iI b o n c=>match h[b]? with
     |some (.cells _ cs)=>if(o+c)*iI=cs.length∧n≤c then some (s,h)else none
     |_=>none
   | .fs _ _=>some (s,h)
   |_=>none
   else none)
  else match eB h sz k x with
  |none=>none
  |some new=>match s with
   | .v (.slice none 0 0)=>if 0<sz∧k*bytes≤2^47∧k<2^62 then some (.sl sz h.length 0 k k,h++[.cells sz new])else none
   | .sl iI b o n c=>match h[b]? with
     |some (.cells z cs)=>if iI=sz∧z=sz∧0<sz∧(o+c)*sz=cs.length∧n≤c∧(n+k)*bytes≤2^47∧n+k<2^62 then
       (if c=0 then(if o=0 then some (.sl sz b 0 k k,h.set b (.cells sz new))else none)
       else if n+k≤c then some (.sl sz b o (n+k) c,h.set b (.cells sz (vQ cs ((o+n)*sz) new)))
       else if o=0 then some (.sl sz b 0 (n+k) (n+k),h.set b (.cells sz (cs.take (n*sz)++new)))else none)
       else none
     |_=>none
   |_=>none
def Ec (sz:Nat) (h:PH) (d s:PV):Option (PV×PH):=
 match(bif fG h s then oI s else none)with
 |none=>none
 |some m=>match d with
  | .v (.slice none 0 0)=>some (.v (.int .i64 0),h)
  | .sl iI b o n c=>match h[b]? with
    |some (.cells z cs)=>if iI=sz∧0<sz∧(o+c)*sz=cs.length∧n≤c then
      (if Nat.min m n=0 then some (.v (.int .i64 0),h)
      else match eB h sz (Nat.min m n) s with
       |some new=>some (.v (.int .i64 (Nat.min m n)),h.set b (.cells z (vQ cs (o*sz) new)))
       |none=>none)else none
    |_=>none
  |_=>none
def Kf (sz bytes:Nat) (z:List Value) (h:PH):PV→Option (PV×PH)
 | .v (.int _ n)=>if 0≤n∧IntKind.i64.wrap n=n∧bytes*n≤2^47∧z.length=sz∧0<sz then some (.sl sz h.length 0 n.toNat n.toNat,h++[.cells sz (List.replicate n.toNat (z.map .v)).flatten])else none
 |_=>none
def Pd (len sz:Nat) (z:List Value) (h:PH) (ps:List (Nat×Nat×PV)):Option (PV×PH):=
 match qH (z.map .v) ps with
 |some c=>if c.length=len*sz∧0<sz then some (.sl sz h.length 0 len len,h++[.cells sz c])else none
 |none=>none
def U5:List PV→Option (List Value)
 |[]=>some []
 | .v x::l=>(U5 l).map fun m=>x::m
 |_=>none
def pmx (f:Value→List Value→Option Value) (x:PV) (l:List PV):Option PV:=
 match x,U5 l with
 | .v x,some l=>(f x l).map .v
 |_,_=>none
def Gt (cs ds:List PV):List (Nat×Nat)→Option Bool
 |[]=>some true
 |(o,kk)::l=>match cs[o]?,ds[o]? with
  |some (.v a),some (.v b)=>if cU kk a=true then(match jB a b with
   |some true=>Gt cs ds l
   |some false=>some false
   |none=>none)else none
  |_,_=>none
def Pe (neg:Bool) (offs:List (Nat×Nat)):PV→PV→Option PV
 | .agg cs,.agg ds=>(Gt cs ds offs).map fun b=>.v (.bool (bif neg then !b else b))
 |_,_=>none
def Pf (h:PH) (p:PV):Option (PV×PH):=
 match eg p with
 |some cs=>some (.ref h.length 0 cs.length,h++[.cells cs.length cs])
 |none=>none
def Ag (l:List PV) (n:Nat) (ag:Bool):Option PV:=if l.length=n then(bif ag then some (.agg l)else match l with|[v]=>some v|_=>none)else none
def U6:XK→List PV→Option PV
 | .HE o n ag,[.agg cs]=>Ag ((cs.drop o).take n) n ag
 | .L4 len n ag,[.agg cs,.v (.int _ i)]=>if 0≤i∧i<len then Ag ((cs.drop (i.toNat*n)).take n) n ag else none
 |_,_=>none
def XE:XK→List Value→Option Value
 | .HE o n ag,[.agg cs]=>rV ((cs.toList.drop o).take n) n ag
 | .L4 len n ag,[.agg cs,.int _ i]=>if 0≤i∧i<len then rV ((cs.toList.drop (i.toNat*n)).take n) n ag else none
 |_,_=>none
def pop (p:cW) (ρ:X→PV) (h:PH):Option (PV×PH):=
 match p with
 | .mv x=>some (ρ x,h)
 | .pick c a b=>(Kb (ρ c) (ρ a) (ρ b)).map fun v=>(v,h)
 | .alloc z=>some (.ref h.length 0 z.length,h++[.cells z.length (z.map .v)])
 | .box x=>Pf h (ρ x)
 | .build z ps=>(qH (z.map .v) (ps.map fun p=>(p.1,p.2.1,ρ p.2.2))).map fun c=>(.agg c,h)
 | .bsl len sz z ps=>Pd len sz z h (ps.map fun p=>(p.1,p.2.1,ρ p.2.2))
 | .ld x=>(RN h (ρ x)).map fun v=>(v,h)
 | .ldn n x=>(xS n h (ρ x)).map fun v=>(v,h)
 | .st n x v=>(U4 n h (ρ x) (ρ v)).map fun h'=>(.v undef,h')
 | .bB x=>(Ea h (ρ x)).map fun v=>(v,h)
 | .bin op x y=>(Kc op (ρ x) (ρ y)).map fun v=>(v,h)
 | .eqk k neg x y=>(O8 h k (ρ x) (ρ y)).map fun b=>(.v (.bool (bif neg then !b else b)),h)
 | .un op x=>(pun op (ρ x)).map fun v=>(v,h)
 | .mJ k x=>(O9 k (ρ x)).map fun v=>(v,h)
 | .HG x=>(Pa (ρ x)).map fun v=>(v,h)
 | .mkf f first cap=>some (.fn f (first.map ρ) (cap.map ρ),h)
 | .mkmap=>some (.mp h.length,h++[.map []])
 | .mksl sz bytes z x=>Kf sz bytes z h (ρ x)
 | .sl sz x lo hi mx=>RO sz h (ρ x) (lo.map ρ) (hi.map ρ) (mx.map ρ)
 | .fa off x=>(XD h off (ρ x)).map fun v=>(v,h)
 | .ia sz x i=>(pia h sz (ρ x) (ρ i)).map fun v=>(v,h)
 | .rW len sz x i=>(Kd h len sz (ρ x) (ρ i)).map fun v=>(v,h)
 | .ix x i=>(pix (ρ x) (ρ i)).map fun v=>(v,h)
 | .look kk z x k ok=>(Af kk z h (ρ x) (ρ k) ok).map fun v=>(v,h)
 | .pq kk x k v=>(Gs kk h (ρ x) (ρ k) (ρ v)).map fun h'=>(.v undef,h')
 | .ext x i=>(Pb (ρ x) i).map fun v=>(v,h)
 | .call _ _=>none
 | .callv _ _=>none
 | .app sz bytes s x=>sR sz bytes h (ρ s) (ρ x)
 | .copy sz d s=>Ec sz h (ρ d) (ρ s)
 | .lens x=>(Ke (ρ x)).map fun v=>(v,h)
 | .fh x=>(Eb h (ρ x)).map fun v=>(v,h)
 | .SE t x=>some (.rG t (ρ x),h)
 | .mxl x l=>(pmx L0 (ρ x) (l.map ρ)).map fun v=>(v,h)
 | .mnl x l=>(pmx QG (ρ x) (l.map ρ)).map fun v=>(v,h)
 | .eqs neg offs x y=>(Pe neg offs (ρ x) (ρ y)).map fun v=>(v,h)
 | .xt k l=>(U6 k (l.map ρ)).map fun v=>(v,h)
def xU (p:cW) (ρ:X→PV):List Nat:=
 match p with
 | .st _ x _=>match ρ x with| .ref b _ _=>[b]|_=>[]
 | .app _ _ s _=>match ρ s with| .sl _ b _ _ _=>[b]|_=>[]
 | .copy _ d _=>match ρ d with| .sl _ b _ _ _=>[b]|_=>[]
 | .pq _ x _ _=>match ρ x with| .mp b=>[b]|_=>[]
 |_=>[]
end P
namespace P
open Go Go.RowKit
def qI (C:Cx) (W:Nat→Prop) (r:Option (Value×AH)) (p:PV) (h':PH):Prop:=∃x H' ei,r=some (x,H')∧RV ⟨C.F,H',ei,h'⟩ p x∧eK ⟨C.F,H',ei,h'⟩∧dR C.h.length W C ⟨C.F,H',ei,h'⟩
theorem qI.val {C:Cx} {W:Nat→Prop} (S:eK C) {r:Option (Value×AH)} {p:PV} {x:Value} (k:RV C p x) (e:r=some (x,C.H)):qI C W r p C.h:=⟨x,C.H,C.φ,e,k,S,dR.refl _ _ _⟩
variable{C:Cx} {W:Nat→Prop}
theorem RV.sy {x y:Value} (h:RV C (.v x) y):y=x:=by cases h;rfl
theorem Cp (x:Value):RV C (yS x) x:=by
 cases x with
 |agg cs=>exact .agg (xs:=cs.toList) (dA.lits _)
 |_=>exact .v _
theorem U7 {x:Value} (h:one x=true):aZ x=[x]∧df x=false:=by
 cases x<;>first
  |exact ⟨rfl,rfl⟩
  |(simp [one]at h)
theorem jY {p:PV} {x:Value} {cs:List PV} (h:RV C p x) (k:eg p=some cs):dA C cs (aZ x)∧df x=false:=by
 have go:∀{p:PV} {x:Value},RV C p x→(O6 x=true∨one x=true)→dA C [p] (aZ x)∧df x=false:=by
  intro p x h c
  obtain ⟨a,b⟩:aZ x=[x]∧df x=false:=by
   rcases c with c|c
   ·cases x<;>first|exact ⟨rfl,rfl⟩|(simp [O6]at c)
   ·exact U7 c
  rw [a];exact ⟨.cons h .nil,b⟩
 cases p with
 |v x=>
  cases h
  cases x with
  |agg d=>simp only [eg,avh]at k;subst k;exact ⟨dA.lits _,rfl⟩
  |tuple=>simp [eg]at k
  |_=>simp only [eg,avh]at k;subst k;exact ⟨.cons (.v _) .nil,rfl⟩
 |agg=>cases h with|agg q=>simp only [eg,avh]at k;subst k;exact ⟨by simpa [aZ]using q,rfl⟩
 |hZ=>simp [eg]at k
 |any=>simp [eg]at k
 |ref=>simp only [eg,avh]at k;subst k;exact go h (by cases h;left;assumption)
 |sl=>simp only [eg,avh]at k;subst k;exact go h (by cases h with|sl a _ _ _=>exact .inl a.sm)
 |mp=>simp only [eg,avh]at k;subst k;exact go h (by cases h;left;assumption)
 |fs=>simp only [eg,avh]at k;subst k;exact go h (by cases h with|fs q=>cases q;exact .inr rfl)
 |fp=>simp only [eg,avh]at k;subst k;exact go h (by cases h;exact .inr rfl)
 |fn=>simp only [eg,avh]at k;subst k;exact go h (by cases h;exact .inr rfl)
 |rG=>simp only [eg,avh]at k;subst k;exact go h (by cases h;exact .inr rfl)
theorem dA.vQ {cs:List PV} {xs:List Value} (h:dA C cs xs):∀{k:Nat} {ds:List PV} {ys:List Value},dA C ds ys→dA C (vQ cs k ds) (aP xs k ys):=by
 have z:∀(xs ys:List Value),aP xs 0 ys=ys++xs.drop ys.length:=fun xs ys=>by cases xs<;>rfl
 have c:∀(xs ys:List PV),P.vQ xs 0 ys=ys++xs.drop ys.length:=fun xs ys=>by cases xs<;>rfl
 intro k
 induction k generalizing cs xs with
 |zero=>
  intro ds ys q;rw [z,c,q.length];exact q.append (h.drop _)
 |succ k ih=>
  intro ds ys q
  cases h with
  |nil=>exact .nil
  |cons a b=>exact .cons a (ih b q)
theorem ku {α:Type}:∀{c:List α} {k:Nat} {vs:List α},k+vs.length≤c.length→(vQ c k vs).length=c.length
 |c,0,vs,h=>by
  have:vQ c 0 vs=vs++c.drop vs.length:=by cases c<;>rfl
  rw [this];simp;omega
 |[],k+1,vs,h=>by simp at h
 |x::c,k+1,vs,h=>by
  have:=ku (c:=c) (k:=k) (vs:=vs) (by simp at h;omega);simp [vQ,this]
inductive Pg (C:Cx):List (Nat×Nat×PV)→List (Nat×Nat×Value)→Prop
 |nil:Pg C [] []
 |cons {o n:Nat} {p:PV} {x:Value} {l:List (Nat×Nat×PV)} {m:List (Nat×Nat×Value)}:RV C p x→Pg C l m→Pg C ((o,n,p)::l) ((o,n,x)::m)
theorem Pg.of {a:X→PV} {b:X→Value} (h:∀x,RV C (a x) (b x)):∀(ps:List (Nat×Nat×X)),Pg C (ps.map fun p=>(p.1,p.2.1,a p.2.2)) (ps.map fun p=>(p.1,p.2.1,b p.2.2))
 |[]=>.nil
 |p::ps=>.cons (h _) (Pg.of h ps)
theorem dA.of {a:X→PV} {b:X→Value} (h:∀x,RV C (a x) (b x)):∀(l:List X),dA C (l.map a) (l.map b)
 |[]=>.nil
 |p::ps=>.cons (h _) (dA.of h ps)
theorem Ed {ps:List (Nat×Nat×PV)} {g:List (Nat×Nat×Value)} (r:Pg C ps g):∀{c d:List PV} {xs:List Value},dA C c xs→qH c ps=some d→∃ys,j6 xs g=some ys∧dA C d ys:=by
 induction r with
 |nil=>intro c d xs h k;simp only [qH,avh]at k;subst k;exact ⟨xs,rfl,h⟩
 | @cons o n p x l m j _ ih=>
  intro c d xs h k;simp only [qH]at k
  cases f:eg p with
  |none=>simp [f]at k
  |some s=>
   simp only [f]at k;split at k
   case isFalse=>cases k
   rename_i i;obtain ⟨a,b⟩:=jY j f;obtain ⟨ys,e,q⟩:=ih (h.vQ a) k;refine ⟨ys,?_,q⟩;simp only [j6,nb];rw [←a.length,←h.length,b];simp [i.1,i.2,e]
theorem eK.cells (S:eK C) {b z t:Nat} {cs:List PV} (e:C.h[b]?=some (.cells z cs)) (d:0<cs.length):∃vs,C.H.get (C.φ b)=some (.cells z vs)∧dA C cs vs∧C.H.n0≤C.φ b:=by
 obtain ⟨vs,a,b,c,_⟩:=S.aX _ _ _ e (List.length_pos_iff.1 d);exact ⟨vs,a,b,c⟩
theorem RP (S:eK C) {p q:PV} {x:Value} (h:RV C p x) (k:RN C.h p=some q):∃y,Xd C.H x=some y∧RV C q y:=by
 cases h with
 | @ref b o t x _ D d s=>
  simp only [RN]at k
  cases e:C.h[b]? with
  |none=>simp [e]at k
  |some B=>
   cases B with
   |cells z cs=>
    simp only [e]at k;split at k
    case isFalse=>cases k
    rename_i l;obtain ⟨f,n,i,u⟩:=S.cells (t:=t) e (by have:=(avm.1 k).1;omega);obtain ⟨y,g,m⟩:=i.get k;rw [s ⟨z,cs,e,l⟩];exact ⟨y,aL n u g,m⟩
   |map=>simp [e]at k
   |dead=>simp [e]at k
 | @fp cells b o f A d r=>
  simp only [RN]at k
  cases r with
  |nil=>simp at k
  | @cons w c ps xs a E=>
   simp only [List.head?_cons,avh]at k;subst k;refine ⟨c,?_,a.sy⟩;have:=aQ d (j:=0) (v:=c) rfl
   simpa using this
 |_=>simp [RN]at k
theorem sE {n0:Nat}:∀{l vs:List Value},aS n0 l=some vs→∀n,aS n0 (l.take n)=some (vs.take n)
 |[],vs,h,n=>by simp [aS]at h;subst h;simp [aS]
 |y::l,vs,h,n=>by
  simp only [aS]at h;split at h
  case h_2=>cases h
  rename_i c d a b;cases h
  cases n with
  |zero=>simp [aS]
  |succ n=>simp [aS,a,sE b n]
theorem sG {n0:Nat}:∀{l vs:List Value},aS n0 l=some vs→∀n,aS n0 (l.drop n)=some (vs.drop n)
 |[],vs,h,n=>by simp [aS]at h;subst h;simp [aS]
 |y::l,vs,h,n=>by
  have b:=h;simp only [aS]at h;split at h
  case h_2=>cases h
  rename_i c d e a;cases h
  cases n with
  |zero=>simpa using b
  |succ n=>simpa using sG a n
theorem Cq (S:eK C) {n:Nat} {p q:PV} {x:Value} (h:RV C p x) (k:xS n C.h p=some q):∃y,vK n C.H x=some y∧RV C q y:=by
 cases h with
 | @ref b o t x _ w a r=>
  simp only [xS]at k
  cases e:C.h[b]? with
  |none=>simp [e]at k
  |some B=>
   cases B with
   |cells z cs=>
    simp only [e]at k;split at k
    case isFalse=>cases k
    rename_i j;cases k;obtain ⟨f,d,g,u⟩:=S.cells (t:=t) e (by omega);rw [r ⟨z,cs,e,j.1⟩];refine ⟨.agg ((f.drop o).take n).toArray,?_,.agg ((g.drop o).take n)⟩;simp only [vK];rw [b9 d u (by have:=g.length;omega)];rfl
   |map=>simp [e]at k
   |dead=>simp [e]at k
 | @fp cells b o f v a m=>
  simp only [xS]at k;split at k
  case isFalse=>cases k
  rename_i l;cases k;refine ⟨.agg (f.take n).toArray,?_,.agg ((m.take n).sy)⟩;simp only [vK]
  have:C.H.ldn ⟨b,o,none⟩ n=some (f.take n):=by
   unfold AH.ldn at a⊢;dsimp only at a⊢
   cases d:C.H.get b with
   |none=>simp [d]at a
   |some B=>
    cases B with
    |map=>simp [d]at a
    |cells z c=>
     simp only [d]at a⊢;obtain ⟨s,a⟩:=aE a;simp only [avs]at s;rw [show decide (o+n≤c.length)=true by simp;omega,cond_true];have e:(c.drop o).take n=((c.drop o).take cells.length).take n:=by rw [List.take_take,Nat.min_eq_left l]
     cases i:decide (b<C.H.n0)with
     |false=>
      rw [i]at a;simp only [cond_false,avh]at a⊢;rw [e,a]
     |true=>
      rw [i]at a;simp only [cond_true]at a⊢;rw [e];exact sE a n
  rw [this];rfl
 |_=>simp [xS]at k
theorem Kg {H:AH} {b o n k:Nat} {vs:List Value} (h:H.ldn ⟨b,o,none⟩ n=some vs) (g:k≤n):H.ldn ⟨b,o+k,none⟩ (n- k)=some (vs.drop k):=by
 unfold AH.ldn at h⊢;dsimp only at h⊢
 cases a:H.get b with
 |none=>simp [a]at h
 |some B=>
  cases B with
  |map=>simp [a]at h
  |cells z c=>
   simp only [a]at h⊢;obtain ⟨f,h⟩:=aE h;simp only [avs]at f;rw [show decide (o+k+(n- k)≤c.length)=true by simp;omega,cond_true];have e:(c.drop (o+k)).take (n- k)=((c.drop o).take n).drop k:=by rw [List.drop_take,List.drop_drop]
   rw [e]
   cases d:decide (b<H.n0)with
   |false=>rw [d]at h;simp only [cond_false,avh]at h⊢;rw [h]
   |true=>rw [d]at h;simp only [cond_true]at h⊢;exact sG h k
theorem cellsOf {p:PV} {cs:List PV} {x:Value} (h:RV C p x) (a:eg p=some cs):∃ys,aZ x=ys∧df x=false∧dA C cs ys:=⟨_,rfl,(jY h a).2,(jY h a).1⟩
theorem aa4 (S:eK C) {n:Nat} {p q:PV} {x y:Value} {c:PH} (h:RV C p x) (g:RV C q y) (k:U4 n C.h p q=some c) (s:∀b o t,p= .ref b o t→W b):∃H',Ja n C.H x y=some H'∧eK ⟨C.F,H',C.φ,c⟩∧dR C.h.length W C ⟨C.F,H',C.φ,c⟩:=by
 cases h with
 | @ref b o t x _ E D r=>
  simp only [U4]at k
  cases e:C.h[b]? with
  |none=>simp [e]at k
  |some B=>
   cases B with
   |cells z cs=>
    cases a:eg q with
    |none=>simp [e,a]at k
    |some G=>
     simp only [e,a]at k;split at k
     case isFalse=>cases k
     rename_i f;cases k;obtain ⟨l,m,d,u⟩:=S.cells (t:=t) e (by omega);obtain ⟨j,v⟩:=jY g a;have i:=j.length;have w:=d.length;obtain ⟨A,B⟩:=S.put (W:=W) (s _ _ _ rfl) e (by intro q;subst q;simp at f;omega) (ku (by omega)) (d.vQ (k:=o) j);rw [r ⟨z,cs,e,f.1⟩];refine ⟨_,?_,A,B⟩;rw [Zk,if_pos ⟨by omega,v⟩];unfold AH.st;simp only [m];rw [show decide (C.H.n0≤C.φ b)=true by simp [u],show decide (o+(aZ y).length≤l.length)=true by simp;omega];rfl
   |map=>simp [e]at k
   |dead=>simp [e]at k
 |_=>simp [U4]at k
theorem ox {k:Nat} {y:Value} (h:xT k y=true):(k=1∧y= .pointer none)∨(k=2∧∃n c,y= .slice none n c)∨(k=3∧y= .nilFunc)∨(k=4∧y= .map none):=by
 unfold xT at h;split at h<;>simp_all
theorem Ph {k:Nat} {p q:PV} {x y:Value} {r:Bool} (h:RV C p x) (g:RV C q y) (e:O8 C.h k p q=some r):ja k x y=some r:=by
 cases q with
 |v z=>
  cases g;replace e:O7 C.h k p y=some r:=e;unfold O7 at e
  cases p with
  |v w=>cases h;exact e
  |ref b o t=>
   cases h with|ref _ s m j=>
   dsimp only at e;split at e
   case h_2=>cases e
   rename_i l cs i;split at e
   case isFalse=>cases e
   rename_i d;cases e;rw [j ⟨l,cs,i,d.1⟩,d.2.1];rcases ox d.2.2 with⟨a,rfl⟩|⟨a,_⟩|⟨a,_⟩|⟨a,_⟩<;>first|rfl|cases a
  |fp cells=>
   cases h;dsimp only at e;split at e
   case isFalse=>cases e
   rename_i d;cases e;rw [d.1];rcases ox d.2 with⟨a,rfl⟩|⟨a,_⟩|⟨a,_⟩|⟨a,_⟩<;>first|rfl|cases a
  |sl sz b o n c=>
   cases h with|sl _ s m j=>
   dsimp only at e;split at e
   case h_2=>cases e
   rename_i l cs i;split at e
   case isFalse=>cases e
   rename_i d;cases e;rw [d.2.2.1];rcases j ⟨l,cs,i,d.1.symm⟩with⟨a,_⟩|⟨_,rfl⟩
   ·omega
   ·rcases ox d.2.2.2 with⟨a,_⟩|⟨a,B,A,rfl⟩|⟨a,_⟩|⟨a,_⟩<;>first|rfl|cases a
  |fs sz rows=>
   cases h with|fs q=>
   dsimp only at e;split at e
   case isFalse=>cases e
   rename_i d;cases e;rw [d.2.1]
   cases q with| @fs _ _ a c rs E m G D=>
   obtain ⟨H,A,u,F⟩:=E.is;simp only [Value.slice.injEq]at u;obtain ⟨rfl,_,rfl⟩:=u;have:0<rs.length:=by rw [←D.length];exact List.length_pos_iff.2 d.1
   obtain ⟨b,o,rfl,_⟩:=F 0 _ (avg this);rcases ox d.2.2 with⟨a,_⟩|⟨a,B,A,rfl⟩|⟨a,_⟩|⟨a,_⟩<;>first|rfl|cases a
  |fn f a b=>
   cases h;dsimp only at e;split at e
   case isFalse=>cases e
   rename_i d;cases e;rw [d.1];rcases ox d.2 with⟨a,_⟩|⟨a,_⟩|⟨a,rfl⟩|⟨a,_⟩<;>first|rfl|cases a
  |mp b=>
   cases h with|mp _ s j=>
   dsimp only at e;split at e
   case h_2=>cases e
   rename_i es i;split at e
   case isFalse=>cases e
   rename_i d;cases e;rw [d.1,j ⟨es,i⟩];rcases ox d.2 with⟨a,_⟩|⟨a,_⟩|⟨a,_⟩|⟨a,rfl⟩<;>first|rfl|cases a
  |_=>cases e
 |_=>cases e
theorem uO {b o t:Nat} {x:Value} (h:RV C (.ref b o t) x) (k:dk C.h b=some t):x= .pointer (some ⟨C.φ b,o,none⟩):=by
 cases h with|ref _ e d c=>
 unfold dk at k;split at k
 case h_2=>cases k
 rename_i z cs a;cases k;exact c ⟨z,cs,a,rfl⟩
theorem RV.aa5 {b o a t:Nat} {x:Value} (h:RV C (.ref b o t) x):RV C (.ref b a t) (.pointer (some ⟨C.φ b,a,none⟩)):=by
 cases h with|ref _ d c e=>exact .ref rfl d c fun _=>rfl
theorem Ee {cells:List PV} {b o k:Nat} (c:k≤cells.length) (h:RV C (.fp cells) (.pointer (some ⟨b,o,none⟩))):RV C (.fp (cells.drop k)) (.pointer (some ⟨b,o+k,none⟩)):=by
 cases h with|fp d a e=>
 refine .fp d ?_ (e.drop k);rw [List.length_drop];exact Kg a c
theorem aa6 {off:Nat} {p q:PV} {x:Value} (h:RV C p x) (k:XD C.h off p=some q):∃y,Rg off x=some y∧RV C q y:=by
 cases p with
 |ref b o t=>
  simp only [XD]at k;split at k
  case isFalse=>cases k
  rename_i a;cases k;rw [uO h a];exact ⟨_,rfl,h.aa5⟩
 |fp cells=>
  simp only [XD]at k;split at k
  case isFalse=>cases k
  rename_i a;cases k;have c:=h
  cases h with|fp e d f=>
  exact ⟨_,rfl,Ee a c⟩
 |_=>cases k
theorem Pj {p q:PV} {x:Value} (h:RV C p x) (k:Ea C.h p=some q):we x=some x∧RV C q x:=by
 cases p with
 |ref b o t=>
  simp only [Ea]at k;split at k
  case isFalse=>cases k
  rename_i a;cases k;refine ⟨?_,h⟩;rw [uO h a];rfl
 |fp cells=>
  cases k;exact ⟨by cases h;rfl,h⟩
 |_=>cases k
theorem U8 {len sz:Nat} {p q r:PV} {x y:Value} (h:RV C p x) (g:RV C q y) (k:Kd C.h len sz p q=some r):∃z,zB len sz x y=some z∧RV C r z:=by
 unfold Kd at k;split at k
 ·rename_i b o t kk n
  cases g;split at k
  case isFalse=>cases k
  rename_i a;cases k;rw [uO h a.1];refine ⟨_,?_,h.aa5⟩;rw [Je,if_pos ⟨a.2.1,a.2.2⟩]
 ·rename_i cells kk n
  cases g;split at k
  case isFalse=>cases k
  rename_i a;cases k;have c:=h
  cases h with|fp e d f=>
  refine ⟨_,?_,Ee a.2.2 c⟩;rw [Je,if_pos ⟨a.1,a.2.1⟩]
 ·cases k
theorem aa7 {sz:Nat} {p q r:PV} {x y:Value} (h:RV C p x) (g:RV C q y) (k:pia C.h sz p q=some r):∃z,Rh sz x y=some z∧RV C r z:=by
 unfold pia at k;split at k
 ·rename_i v b o n c kk m
  cases g;split at k
  case h_2=>cases k
  rename_i u cs F;split at k
  case isFalse=>cases k
  rename_i i;cases k;obtain ⟨rfl,f,h2,J,I⟩:=i
  cases h with|sl N G s H=>
  rcases H ⟨u,cs,F,f.symm⟩with⟨a,_⟩|⟨_,rfl⟩
  ·omega
  ·refine ⟨_,by rw [Ri,if_pos ⟨J,I⟩],?_⟩
   rw [←Nat.add_mul];exact .ref rfl G (by rw [←f];exact s) fun _=>rfl
 ·rename_i v rows kk m
  cases g;split at k
  case isFalse=>cases k
  rename_i i;obtain ⟨rfl,f,h2⟩:=i;split at k
  case h_2=>cases k
  rename_i L j;cases k
  cases h with|fs q=>
  cases q with| @fs _ _ a c rs D s E A=>
  obtain ⟨K,w,d⟩:=A.get j;obtain ⟨P,O,e,B⟩:=D.is;simp only [Value.slice.injEq]at e;obtain ⟨rfl,_,rfl⟩:=e;obtain ⟨b,o,rfl,l⟩:=B _ _ w;have M:=(avm.1 j).1;refine ⟨_,by rw [Ri,if_pos ⟨f,h2⟩],?_⟩;refine .fp ?_ ?_ d
  ·rcases (E _ rfl).2 with t|t
   ·omega
   ·exact t.1
  ·rw [d.length,(dM l).2]
   exact l
 ·cases k
theorem Ah {h:PH} {sz b o n c:Nat} (k:fG h (.sl sz b o n c)=true):At h b ((o+c)*sz):=by
 unfold fG at k;dsimp only at k;split at k
 ·rename_i z cs e;exact ⟨z,cs,e,by simpa using(of_decide_eq_true k).symm⟩
 ·cases k
theorem Kh {p:PV} {x:Value} {n:Nat} (h:RV C p x) (k:oI p=some n) (a:fG C.h p=true):oD x=some n:=by
 unfold oI at k;split at k
 ·cases h;cases k;rfl
 ·cases h;cases k;rfl
 ·cases k
  cases h with|sl _ e c b=>
  rcases b (Ah a)with⟨_,rfl,d,rfl,_⟩|⟨_,rfl⟩<;>rfl
 ·cases k
  cases h with|fs q=>cases q;rfl
 ·cases k
end P
namespace P
open Go Go.RowKit
variable{C:Cx} {W:Nat→Prop}
theorem uP {sz b o n c:Nat} {x:Value} (h:RV C (.sl sz b o n c) x) {z:Nat} {cs:List PV} (e:C.h[b]?=some (.cells z cs)) (a:(o+c)*sz=cs.length):slV (C.φ b) sz o n c x:=by
 cases h with|sl _ g f d=>exact d ⟨z,cs,e,a.symm⟩
theorem RV.slT {sz b o n c a d f:Nat} {x y:Value} (h:RV C (.sl sz b o n c) x) (e:a+f=o+c) (g:slN d y) (k:slV (C.φ b) sz a d f y):RV C (.sl sz b a d f) y:=by
 cases h with|sl _ j i l=>exact .sl g j (by rw [e];exact i) fun _=>k
theorem Ef:∀(l:List UInt8),dA C (l.map fun b=>.v (.int .u8 b.toNat)) (l.map fun b=>.int .u8 b.toNat)
 |[]=>.nil
 |b::l=>.cons (.v _) (Ef l)
theorem uQ (S:eK C) {sz m:Nat} {p:PV} {x:Value} {new:List PV} (h:RV C p x) (k:eB C.h sz m p=some new) (D:0<m) (v:0<sz):
 ∃ys,kV C.H sz m x=some ys∧dA C new ys∧(oI p=some m→q8 C.H sz x=some ys∧oD x=some m∧ys.length=m*sz)∧(∀q,oD x=some q→m≤q→ys.length=m*sz):=by
 have f:¬ m*sz=0:=by have:=Nat.mul_pos D v;omega
 unfold eB at k;split at k
 ·rename_i iI b o n c
  split at k
  case h_2=>cases k
  rename_i z cs E;split at k
  case isFalse=>cases k
  rename_i i;cases k;obtain ⟨rfl,G,h2,P⟩:=i;have g:(o+m)*iI≤(o+c)*iI:=Nat.mul_le_mul_right _ (by omega);rw [Nat.add_mul]at g;obtain ⟨l,K,y,L⟩:=S.cells (t:=0) E (by have:=Nat.mul_pos (show 0<o+c by omega) v;omega);have N:=y.length;rcases uP h E G with⟨a,_⟩|⟨_,rfl⟩
  ·omega
  have u:C.H.ldn ⟨C.φ b,o*iI,none⟩ (m*iI)=some ((l.drop (o*iI)).take (m*iI)):=b9 K L (by omega);have d:((l.drop (o*iI)).take (m*iI)).length=m*iI:=by simp;omega
  refine ⟨(l.drop (o*iI)).take (m*iI),?_,(y.drop _).take _,fun e=>?_,fun q e B=>d⟩
  ·simp only [kV,nb,f,decide_false,cond_false,u]
  ·simp only [oI,avh]at e
   subst e;refine ⟨?_,rfl,d⟩;simp only [q8,nb,show¬ n=0 by omega,decide_false,cond_false,u]
 ·rename_i iI rows
  split at k
  case isFalse=>cases k
  rename_i i;cases k;obtain ⟨rfl,G⟩:=i
  cases h with|fs q=>
  cases q with| @fs _ _ a c rs j u O A=>
  have d:=A.length;obtain ⟨R,Q,I,M⟩:=j.is;simp only [Value.slice.injEq]at I;obtain ⟨rfl,_,rfl⟩:=I;obtain ⟨b,o,rfl,_⟩:=M 0 _ (avg (by omega));rw [d]at j;have w:=j.whole m (by omega) D
  have F:(rs.take m).flatten.length=m*iI:=by
   rw [cJ (sz:=iI) fun r J=>j.Jw r (List.mem_of_mem_take J),List.length_take,Nat.min_eq_left (by omega)]
  refine ⟨(rs.take m).flatten,?_,(A.take m).flat.sy,fun e=>?_,fun _ _ _=>F⟩
  ·simp only [kV,nb,f,decide_false,cond_false,w]
  ·simp only [oI,avh]at e
   refine ⟨?_,by simp [oD,e],F⟩;simp only [q8,nb,show¬ rows.length=0 by omega,decide_false,cond_false];rw [e,w]
 ·rename_i s
  split at k
  case isFalse=>cases k
  rename_i i;cases k;subst i;cases h;refine ⟨(s.extract 0 m).data.toList.map fun b=>.int .u8 b.toNat,rfl,Ef _,fun e=>?_,fun q e B=>?_⟩
  ·simp only [oI,avh]at e
   subst e;refine ⟨?_,rfl,by simp⟩;simp [q8]
  ·simp only [oD,avh]at e
   subst e;simp [B]
 ·split at k
  case isFalse=>cases k
  omega
 ·cases k
theorem U9 (S:eK C) {sz bytes:Nat} {p q r:PV} {x y:Value} {h':PH} (s:RV C p x) (V:RV C q y) (k:sR sz bytes C.h p q=some (r,h')) (hW:∀sz b o n c,p= .sl sz b o n c→W b):
 qI C W (bL sz bytes C.H x y) r h':=by
 unfold sR at k;split at k
 ·cases k
 rename_i m hm;split at k
 ·rename_i Q
  subst Q;split at k
  case isFalse=>cases k
  rename_i hv;have f:=Kh V hm hv;split at k
  ·cases k
   cases s;exact qI.val S (.v _) (by simp [bL,f])
  ·rename_i iI b o n c
   split at k
   case h_2=>cases k
   rename_i z cs j;split at k
   case isFalse=>cases k
   rename_i D;cases k;have J:=uP s j D.1;refine qI.val S s ?_;rcases J with⟨_,rfl,d,rfl,_⟩|⟨_,rfl⟩
   ·simp [bL,f]
   ·simp [bL,f,D.2]
  ·cases k
   refine qI.val S s ?_
   cases s with|fs g=>
   cases g with|fs hr hl hk rF=>simp [bL,f,hl]
  ·cases k
 rename_i Q;have F:0<m:=by omega
 split at k
 ·cases k
 rename_i new Jx;split at k
 ·split at k
  case isFalse=>cases k
  rename_i D;cases k;obtain ⟨w,M,N⟩:=D;obtain ⟨R,_,l,i,_⟩:=uQ S V Jx F w;obtain ⟨i,f,XF⟩:=i hm;cases s;obtain ⟨A,B⟩:=S.new (P:=.cells sz new) (B:=.cells sz R) W (.inl ⟨_,_,_,rfl,rfl,l⟩);refine ⟨.slice (some ⟨C.H.nx,0,none⟩) m m,_,_,?_,.sl ⟨_,_,rfl⟩ (by simp) ?_ (fun _=>.inr ⟨F,?_⟩),A,B⟩
  ·have:¬ m=0:=Q
   simp [bL,f,this,i,nb,M,N]
  ·intro z cs e
   rw [show(C.h++[PB.cells sz new])[C.h.length]?=_ from mf _ _]at e;cases e;have:=l.length;simp;omega
  ·simp [iT]
 ·rename_i iI b o n c
  split at k
  case h_2=>cases k
  rename_i z cs j;split at k
  case isFalse=>cases k
  rename_i D;obtain ⟨rfl,rfl,w,O,h2,M,N⟩:=D;obtain ⟨R,_,l,i,_⟩:=uQ S V Jx F w;obtain ⟨i,f,XF⟩:=i hm;have J:=uP s j O;have E:=(avm.1 j).1;have MB:=l.length;have u:=hW _ _ _ _ _ rfl;have Z:¬ m=0:=Q;split at k
  ·rename_i sV
   split at k
   case isFalse=>cases k
   rename_i X;cases k;subst sV;subst X;obtain rfl:n=0:=by omega
   have G:cs=[]:=avJ.1 (by simpa using O.symm);rcases J with⟨_,_,d,rfl,hd⟩|⟨a,_⟩
   case inr=>omega
   obtain ⟨A,B⟩:=S.grow (H1:=C.H) u j (by rw [G,MB,XF];simpa using Nat.mul_pos F w) l (.inl ⟨G,rfl⟩);refine ⟨.slice (some ⟨C.H.nx,0,none⟩) m m,_,_,?_,.sl ⟨_,_,rfl⟩ (by simpa using E) ?_ (fun _=>.inr ⟨F,?_⟩),A,B⟩
   ·simp only [bL,f,if_neg Z,i]
    rw [show decide ((0+m)*bytes≤2^47)=true by simpa using M,show decide (0+m<2^62)=true by simpa using N];simp only [Bool.and_self,cond_true];rw [if_neg (by omega)]
    cases d with
    |none=>simp
    |some d=>simp [hd d rfl]
   ·intro z dL e
    rw [fF E]at e;cases e;simp;omega
   ·simp [iT]
  rename_i sV;rcases J with⟨a,_⟩|⟨_,rfl⟩
  ·omega
  have mN:0<cs.length:=by rw [←O];exact Nat.mul_pos (by omega) w
  have G:cs≠[]:=List.length_pos_iff.1 mN;obtain ⟨vs,L,U,Y⟩:=S.cells (t:=0) j mN;have lE:=U.length;have zL:C.H.lS (C.φ b) z=true:=by unfold AH.lS;rw [L];simp
  have d1:decide ((n+m)*bytes≤2^47)=true:=by simpa using M
  have d2:decide (n+m<2^62)=true:=by simpa using N
  have aa8:n*z≤c*z:=Nat.mul_le_mul_right _ h2;have adm:(o+c)*z=o*z+c*z:=Nat.add_mul ..;have I:(o+n)*z=o*z+n*z:=Nat.add_mul ..;have anm:(n+m)*z=n*z+m*z:=Nat.add_mul ..;split at k
  ·rename_i K
   cases k;have T:(n+m)*z≤c*z:=Nat.mul_le_mul_right _ K;obtain ⟨A,B⟩:=S.put u j G (ku (by omega)) (U.vQ (k:=(o+n)*z) l);refine ⟨.slice (some ⟨C.φ b,o*z,none⟩) (n+m) c,_,_,?_,.sl ⟨_,_,rfl⟩ (by simpa using E) ?_ (fun _=>.inr ⟨by omega,rfl⟩),A,B⟩
   ·simp only [bL,f,if_neg Z,i,d1,d2,Bool.and_self,cond_true,if_pos K,zL,Option.isNone_none]
    unfold AH.st;simp only [L];rw [show decide (C.H.n0≤C.φ b)=true by simp [Y],show decide (o*z+n*z+R.length≤vs.length)=true by simp;omega,I];rfl
   ·intro z9 dL e
    rw [fF E]at e;cases e;rw [ku (by omega)];omega
  ·rename_i K
   split at k
   case isFalse=>cases k
   rename_i X;cases k;subst X;simp only [Nat.zero_mul,Nat.zero_add]at adm I L O;have T:c*z<(n+m)*z:=Nat.mul_lt_mul_of_pos_right (by omega) w;have hdl:(cs.take (n*z)++new).length=(n+m)*z:=by rw [avp,List.length_take,Nat.min_eq_left (by omega)];omega
   obtain ⟨A,B⟩:=S.grow (H1:=C.H.put (C.φ b) none) u j (ds:=cs.take (n*z)++new) (by omega) ((U.take _).append l) (.inr ⟨G,rfl⟩);refine ⟨.slice (some ⟨C.H.nx,0,none⟩) (n+m) (n+m),_,_,?_,.sl ⟨_,_,rfl⟩ (by simpa using E) ?_ (fun _=>.inr ⟨by omega,?_⟩),A,B⟩
   ·have eR:C.H.ldn ⟨C.φ b,0,none⟩ (n*z)=some (vs.take (n*z)):=by
     rw [b9 L Y (by omega)];simp
    simp only [bL,f,if_neg Z,i,d1,d2,Bool.and_self,cond_true,if_neg K,if_neg sV,zL,Option.isNone_none,Nat.zero_mul,eR];rw [show decide (C.H.n0≤C.φ b)=true by simp [Y]];rfl
   ·intro z9 dL e
    rw [fF E]at e;cases e;rw [hdl];simp
   ·simp [iT]
 ·cases k
end P
namespace P
open Go Go.RowKit
variable{C:Cx} {W:Nat→Prop}
theorem Pk (S:eK C) {sz:Nat} {p q r:PV} {x y:Value} {h':PH} (L:RV C p x) (K:RV C q y) (k:Ec sz C.h p q=some (r,h')) (hW:∀sz b o n c,p= .sl sz b o n c→W b):
 qI C W (lq sz C.H x y) r h':=by
 unfold Ec at k;split at k
 ·cases k
 rename_i m D;obtain ⟨R,D⟩:=aE D;have e:=Kh K D R
 have G:∃l,kV C.H sz 0 y=some l∧l.length=0:=by
  cases y with
  |slice a n c=>cases a<;>simp [kV,nb]
  |string s=>exact ⟨[],by simp [kV]⟩
  |_=>simp [oD]at e
 split at k
 ·cases k
  cases L;obtain ⟨l,g,N⟩:=G;refine qI.val S (.v _) ?_;simp only [lq,e,Nat.min_zero];rw [g];rfl
 ·rename_i iI b o n c
  split at k
  case h_2=>cases k
  rename_i z cs E;split at k
  case isFalse=>cases k
  rename_i hc;obtain ⟨rfl,u,P,h2⟩:=hc;have J:=uP L E P;split at k
  ·rename_i f
   cases k;obtain ⟨l,g,N⟩:=G;refine qI.val S (.v _) ?_;have:l=[]:=avJ.1 N;subst this;rcases J with⟨_,rfl,d,rfl,_⟩|⟨_,rfl⟩
   ·simp only [lq,e,f,g]
    cases d<;>rfl
   ·simp only [lq,e,f,g]
    rfl
  ·rename_i f
   split at k
   case h_2=>cases k
   rename_i new T;cases k;have M:0<Nat.min m n:=by omega
   have X:Nat.min m n≤n:=Nat.min_le_right _ _;obtain ⟨i,Z,F,_,w⟩:=uQ S K T M u;have w:=w m e (Nat.min_le_left _ _);rcases J with⟨_,rfl,_⟩|⟨_,rfl⟩
   ·simp at f
   have O:0<cs.length:=by rw [←P];exact Nat.mul_pos (by omega) u
   obtain ⟨Q,Y,I,V⟩:=S.cells (t:=0) E O;have lE:=I.length;have MB:=F.length;have j:(o+Nat.min m n)*iI≤(o+c)*iI:=Nat.mul_le_mul_right _ (by omega);rw [Nat.add_mul]at j;obtain ⟨A,B⟩:=S.put (hW _ _ _ _ _ rfl) E (List.length_pos_iff.1 O) (ku (by omega)) (I.vQ (k:=o*iI) F);refine ⟨.int .i64 (Nat.min m n),_,_,?_,.v _,A,B⟩;simp only [lq,e,Z]
   have U:i.isEmpty=false:=by
    cases i with
    |nil=>simp at w;have:=Nat.mul_pos M u;omega
    |cons=>rfl
   simp only [Option.bind_some,U,cond_false];unfold AH.st;simp only [Y];rw [show decide (C.H.n0≤C.φ b)=true by simp [V],show decide (o*iI+i.length≤Q.length)=true by simp;omega];rfl
 ·cases k
theorem Cr {a:X→PV} {b:X→Value} (h:∀x,RV C (a x) (b x)) {o:Option X} {r:Option Value} (k:Pc (o.map a)=some r):o.map b=r:=by
 cases o with
 |none=>simpa [Pc]using k
 |some x=>
  have c:=h x;simp only [Option.map_some]at k⊢;revert k;generalize a x=p at c;intro k
  cases p<;>first
   |(simp [Pc]at k;done)
   |skip
  cases c
  simpa [Pc]using k
theorem Eg {v:Value} {y z n:Nat} (h:jj v y=some n) (a:n≤z):jj v z=some n:=by
 unfold jj at h⊢;cases v<;>simp_all;omega
theorem kR {v:Value} {y n:Nat} (h:jj v y=some n):n≤y:=by
 unfold jj at h;cases v<;>simp_all;omega
theorem Gu {n c:Nat} {lo hi:Option Value} {l e m:Nat} (h:bK n n lo hi none=some (l,e,m)) (j:n≤c):bK n c lo hi none=some (l,e,c)∧m=n∧l≤e∧e≤n:=by
 have k:=h;unfold bK at h;obtain ⟨i,g,h⟩:=avr.1 h;obtain ⟨e',h2,h⟩:=avr.1 h;obtain ⟨b,a,h⟩:=avr.1 h;simp only [avh,avo]at h;obtain ⟨rfl,rfl,rfl⟩:=h
 have d:b≤e':=by
  cases lo with
  |none=>simp only [avh]at a;omega
  |some v=>exact kR a
 have f:e'≤n:=by
  cases hi with
  |none=>simp only [avh]at h2;omega
  |some v=>exact kR h2
 refine ⟨?_,by simpa using g.symm,d,f⟩;unfold bK;refine avr.2 ⟨c,rfl,avr.2 ⟨e',?_,avr.2 ⟨b,a,rfl⟩⟩⟩
 cases hi with
 |none=>exact h2
 |some v=>exact Eg h2 (by omega)
theorem Ki {n c:Nat} {lo hi:Option Value} {v:Value} (h:bK n n lo hi (some v)=some (0,0,0)) (f:n≤c):bK n c lo hi (some v)=some (0,0,0):=by
 unfold bK at h;obtain ⟨d,b,h⟩:=avr.1 h;obtain ⟨g,h2,h⟩:=avr.1 h;obtain ⟨e,a,h⟩:=avr.1 h;simp only [avh,avo]at h;obtain ⟨rfl,rfl,rfl⟩:=h;unfold bK;refine avr.2 ⟨0,Eg b (by omega),avr.2 ⟨0,?_,avr.2 ⟨0,a,rfl⟩⟩⟩
 cases hi with
 |none=>exact h2
 |some v=>exact h2
theorem wA {n c:Nat} {lo hi mx:Option Value} {l e m:Nat} (h:bK n c lo hi mx=some (l,e,m)) (g:n≤c):m≤c∧(mx=none→m=c)∧l≤e∧e≤m:=by
 unfold bK at h;obtain ⟨b,f,h⟩:=avr.1 h;obtain ⟨j,h2,h⟩:=avr.1 h;obtain ⟨i,d,h⟩:=avr.1 h;simp only [avh,avo]at h;obtain ⟨rfl,rfl,rfl⟩:=h
 have a:b≤c∧(mx=none→b=c):=by
  cases mx with
  |none=>simp only [avh]at f;omega
  |some v=>exact ⟨kR f,fun h=>by cases h⟩
 refine ⟨a.1,a.2, ?_, ?_⟩
 · cases lo with
   |none=>simp only [avh]at d;omega
   |some v=>exact kR d
 · cases hi with
   |none=>cases mx with
    |none=>simp only [avh]at h2;have:=a.2 rfl;omega
    |some v=>cases h2
   |some v=>cases mx with
    |none=>have:=kR h2;have:=a.2 rfl;omega
    |some w=>exact kR h2
theorem Ai {sz:Nat} {a:Option Addr} {n c:Nat} {rs:List (List Value)} {F:Nat→Prop} {H:AH} (f:Rows H sz (.slice a n c) rs) (g:∀d,a=some d→(d.spot=none∨c=0)∧(n=0∨(F d.block∧H.lS d.block sz=true))) (m:0<n):∃b o,a=some ⟨b,o,none⟩∧rs.length=n∧F b∧H.lS b sz=true∧∀i r,rs[i]?=some r→H.ldn ⟨b,o+i*sz,none⟩ sz=some r:=by
 obtain ⟨u,s,e,q⟩:=f.is;simp only [Value.slice.injEq]at e;obtain ⟨rfl,h,rfl⟩:=e;obtain ⟨b,o,rfl,_⟩:=q 0 _ (avg (by omega));rcases (g _ rfl).2 with p|⟨j,h2⟩
 ·omega
 ·exact ⟨b,o,rfl,h.symm,j,h2,fun i r hi=>by obtain ⟨t,l,e,k⟩:=q i r hi;cases e;exact k⟩
theorem xV {sz:Nat} {a:Option Addr} {c:Nat} (h:∀d,a=some d→d.spot=none∨c=0):RF C.F C.H (.fs sz []) (.slice a 0 c):=
 .fs (rows:=[]) (rs:=[]) ⟨_,_,rfl,by simp⟩ (avI _) (fun d b=>⟨h d b,.inl rfl⟩) .nil
theorem aa9 (S:eK C) {sz:Nat} {p r:PV} {x:Value} {h':PH} {lo hi mx:Option X} {I:X→PV} {J:X→Value} (u:∀x,RV C (I x) (J x)) (D:RV C p x) (k:RO sz C.h p (lo.map I) (hi.map I) (mx.map I)=some (r,h')):
 qI C W ((cw sz C.H x (lo.map J) (hi.map J) (mx.map J)).map fun v=>(v,C.H)) r h':=by
 unfold RO at k;split at k
 case h_2=>cases k
 rename_i K sK Ft Q P e3;rw [Cr u Q,Cr u P,Cr u e3];clear Q P e3 u;split at k
 ·rename_i g b o n c
  split at k
  case h_2=>cases k
  rename_i z cs l e m hh f;split at k
  case isFalse=>cases k
  rename_i G;obtain ⟨rfl,L,rfl,O,h2⟩:=G;have pZ:=uP D hh O;split at k
  ·rename_i sV
   cases k;refine qI.val S D ?_;rcases pZ with⟨_,rfl,d,rfl,j⟩|⟨a,_⟩
   case inr=>omega
   subst sV;obtain ⟨w,b2,b3,b4⟩:=wA f (avk _);obtain ⟨rfl,rfl,rfl⟩:l=0∧e=0∧m=0:=by omega
   simp only [cw,f,nb,show¬ z=0 by omega,decide_false,Bool.not_false,avk,decide_true,Bool.and_self,cond_true]
   cases d with
   |none=>rfl
   |some d=>simp
  rename_i sV;rcases pZ with⟨a,_⟩|⟨_,rfl⟩
  ·omega
  have F:0<cs.length:=by rw [←O];exact Nat.mul_pos (by omega) L
  obtain ⟨vs,hg,cL,oF⟩:=S.cells (t:=0) hh F;have zL:C.H.lS (C.φ b) z=true:=by unfold AH.lS;rw [hg];simp
  split at k
  ·rename_i M
   split at k
   ·rename_i R
    cases k;subst R;refine qI.val S (x:=.slice (some ⟨C.φ b,o*z,some 1⟩) 0 0) (.fs (xV fun _ _=>.inr rfl)) ?_
    have hm:m=c:=by
     unfold bK at f;obtain ⟨m',Y,f⟩:=avr.1 f;obtain ⟨e',y6,f⟩:=avr.1 f;obtain ⟨l',E,f⟩:=avr.1 f;simp only [avh,avo]at f Y;omega
    simp only [cw,f,nb,show¬ z=0 by omega,decide_false,Bool.not_false,h2,decide_true,Bool.and_self,cond_true,if_pos M,Option.isNone_none,true_and];rw [if_pos (by omega)];rfl
   ·rename_i R
    cases k;obtain ⟨A,B⟩:=S.void z W
    have U:l≤e:=by
     unfold bK at f;obtain ⟨m',Y,f⟩:=avr.1 f;obtain ⟨e',y6,f⟩:=avr.1 f;obtain ⟨l',E,f⟩:=avr.1 f;simp only [avh,avo]at f;obtain ⟨rfl,rfl,rfl⟩:=f
     cases K with
     |none=>simp only [avh]at E;omega
     |some v=>exact kR E
    refine ⟨.slice (some ⟨C.φ b,o*z,none⟩) 0 0,_,_,?_,.sl ⟨_,_,rfl⟩ (by simp) ?_ (fun _=>.inl ⟨rfl,rfl,_,rfl,by rintro e ⟨⟩;rfl⟩),A,B⟩
    ·have:Ft.isNone=false:=by cases Ft with
      |none=>exact absurd rfl R
      |some _=>rfl
     simp only [cw,f,nb,show¬ z=0 by omega,decide_false,Bool.not_false,h2,decide_true,Bool.and_self,cond_true,if_pos M,this];simp;omega
    ·intro z9 cs9 e9
     simp
  ·rename_i M
   split at k
   case isFalse=>cases k
   rename_i T;cases k;subst T
   have U:l≤m:=by
    unfold bK at f;obtain ⟨m',Y,f⟩:=avr.1 f;obtain ⟨e',y6,f⟩:=avr.1 f;obtain ⟨l',E,f⟩:=avr.1 f;simp only [avh,avo]at f;obtain ⟨rfl,rfl,rfl⟩:=f
    cases K with
    |none=>simp only [avh]at E;omega
    |some v=>have:=kR E;omega
   refine qI.val S (x:=.slice (some ⟨C.φ b,(o+l)*z,none⟩) (e- l) (m- l)) (D.slT (by omega) ⟨_,_,rfl⟩ (.inr ⟨by omega,rfl⟩)) ?_;simp only [cw,f,nb,show¬ z=0 by omega,decide_false,Bool.not_false,h2,decide_true,Bool.and_self,cond_true,if_neg M,Option.isNone_none,zL,Bool.or_true,Nat.add_mul];rfl
 ·rename_i g rows
  split at k
  case isFalse=>cases k
  rename_i G;obtain ⟨rfl,L⟩:=G
  cases D with|fs q=>
  cases q with| @fs _ _ a c rs hr hl N rF=>
  have hlen:=rF.length;split at k
  ·split at k
   case h_2=>cases k
   rename_i l e m f;split at k
   case isFalse=>cases k
   cases k;obtain ⟨w,rfl,b3,b4⟩:=Gu f hl;have y:e≤c:=by omega
   by_cases F:c=l
   ·have gW:(rows.take e).drop l=[]:=avO (by simp;omega)
    rw [gW]
    have j:∃d,cw g C.H (.slice a rows.length c) K sK none=some (.slice d 0 0):=by
     simp only [cw,w,nb,show¬ g=0 by omega,decide_false,Bool.not_false,y,decide_true,Bool.and_self,cond_true]
     cases a with
     |none=>exact ⟨none,by simp;omega⟩
     |some a=>
      simp only [if_pos F];split
      ·exact ⟨_,rfl⟩
      ·exact ⟨some a,by rw [show e- l=0 by omega]⟩
    obtain ⟨d,j⟩:=j;refine qI.val S (x:=.slice d 0 0) (.fs (xV fun _ _=>.inr rfl)) (by rw [j];rfl)
   ·by_cases hn:rows.length=0
    ·obtain ⟨rfl,rfl⟩:l=0∧e=0:=by omega
     have:(rows.take 0).drop 0=[]:=by simp
     rw [this];refine qI.val S (x:=.slice a 0 c) (.fs (xV fun d j=>(N d j).1)) ?_;simp only [cw,w,nb,show¬ g=0 by omega,decide_false,Bool.not_false,y,decide_true,Bool.and_self,cond_true]
     cases a with
     |none=>simp
     |some a=>
      rcases (N _ rfl).1 with Z|Z
      ·obtain ⟨bb,oo,ss⟩:=a
       simp only at Z;subst Z;simp [if_neg F]
      ·omega
    ·obtain ⟨b,o,rfl,O,h2,V,h4⟩:=Ai hr N (by omega)
     refine qI.val S (x:=.slice (some ⟨b,o+l*g,none⟩) (e- l) (c- l)) ?_ ?_
     ·have Q:((rows.take e).drop l).length=e- l:=by simp;omega
      have P:((rs.take e).drop l).length=((rows.take e).drop l).length:=by simp;omega
      rw [←Q];refine .fs (.fs (rs:=(rs.take e).drop l) ⟨_,_,by rw [P],fun i r hi=>⟨b,o+l*g,rfl,?_⟩⟩ (by omega) ?_ ((rF.take e).drop l))
      ·rw [avU,avP]at hi
       split at hi
       case isFalse=>cases hi
       have:=h4 _ _ hi;rw [Nat.add_mul]at this;rw [←this];congr 2;omega
      ·rintro d ⟨⟩
       exact ⟨.inl rfl,.inr ⟨h2,V⟩⟩
     ·simp only [cw,w,nb,show¬ g=0 by omega,decide_false,Bool.not_false,y,decide_true,Bool.and_self,cond_true,if_neg F,Option.isNone_none,V,Bool.or_true]
      rfl
  ·split at k
   case isFalse=>cases k
   rename_i f;have w:=Ki f hl;split at k
   ·cases k
    have j:∃d,cw g C.H (.slice a 0 c) K sK (some ‹Value›)=some (.slice d 0 0):=by
     simp only [List.length_nil]at w;simp only [cw,w,nb,show¬ g=0 by omega,decide_false,Bool.not_false,avk,decide_true,Bool.and_self,cond_true]
     cases a with
     |none=>exact ⟨none,rfl⟩
     |some a=>exact ⟨some a,by simp⟩
    obtain ⟨d,j⟩:=j;refine qI.val S (x:=.slice d 0 0) (.fs (xV fun _ _=>.inr rfl)) (by simp only [List.length_nil];rw [j];rfl)
   ·rename_i r0 rows
    cases k;obtain ⟨b,o,rfl,O,h2,V,h4⟩:=Ai hr N (by simp);obtain ⟨A,B⟩:=S.void g W;refine ⟨.slice (some ⟨b,o,none⟩) 0 0,_,_,?_,.sl ⟨_,_,rfl⟩ (by simp) ?_ (fun _=>.inl ⟨rfl,rfl,_,rfl,by rintro e ⟨⟩;rfl⟩),A,B⟩
    ·simp only [cw,w,nb,show¬ g=0 by omega,decide_false,Bool.not_false,avk,decide_true,Bool.and_self,cond_true]
     simp
    ·intro z9 cs9 e9
     simp
 ·split at k
  case isFalse=>cases k
  rename_i G;cases k;cases D;refine qI.val S (.v _) ?_;obtain ⟨⟨l,e,m⟩,f⟩:=avS.1 G.2;obtain ⟨w,b2,b3,b4⟩:=wA f (avk _);obtain ⟨rfl,rfl,rfl⟩:l=0∧e=0∧m=0:=by omega
  simp only [cw,f,nb,show¬ sz=0 by omega,decide_false,Bool.not_false,avk,decide_true,Bool.and_self,cond_true];rfl
 ·rename_i s
  split at k
  ·cases k
  ·split at k
   case h_2=>cases k
   rename_i l e m f;split at k
   case isFalse=>cases k
   rename_i L;cases k;subst L;cases D;refine qI.val S (.v _) ?_;simp only [cw,f];rfl
 ·cases k
end P
end Go.Proofs.YtppcmpmnglaleaaGreatDoor.A
